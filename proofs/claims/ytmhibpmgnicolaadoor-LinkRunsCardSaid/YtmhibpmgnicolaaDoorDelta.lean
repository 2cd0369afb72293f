/-
  Equality of deltas: the program's, the reference's.
-/
import Derived.Test.YtmhibpmgnicolaaDoorRGraph
namespace Go.Proofs.YtmhibpmgnicolaaDoor
open Go.RowKit
attribute [local go_sem] Dr.upT

set_option maxRecDepth 100000 in
set_option maxHeartbeats 16000000 in
theorem sameDelta {B : Nat} {w : World} {va vp vm vb vq vn : Value} {d d' : List Int} {p p' : List Nod} {m m' : List Mov} (h1 : LAt eI B w va d) (h2 : PutAt B w vp p) (h3 : LAt eM B w vm m)
    (k1 : LAt eI B w vb d') (k2 : PutAt B w vq p') (k3 : LAt eM B w vn m') (l1 : d.length ≤ 1000000) (l2 : p.length ≤ 1000000) (l2n : ∀ n ∈ p, n.ins.length ≤ 1000000) (l3 : m.length ≤ 1000000) :
    Calls Tryd.prog 60 #[.agg #[va, vp, vm], .agg #[vb, vq, vn]] w fun e w' => e = .returned (.bool (decide (d = d' ∧ p = p' ∧ m = m'))) ∧ Ge w w' := by
  have HD0 := Lib.hid (fun w' (h : Ge w w') => seqI (h1.ge h) (k1.ge h) (Nat.le_trans l1 (by decide)))
  have HM0 := Lib.hid (fun w' (h : Ge w w') => seqM (h3.ge h) (k3.ge h) (Nat.le_trans l3 (by decide)))
  have HP0 := Lib.hid (fun w' (h : Ge w w') => eqFunc (h2.kp (h.kp B)) (k2.kp (h.kp B)) l2 l2n)
  obtain ⟨Aa, ca, rfl⟩ := h1.form
  obtain ⟨Ap, cp, rfl⟩ := h2.form
  obtain ⟨Am, cm, rfl⟩ := h3.form
  obtain ⟨Ab, cb, rfl⟩ := k1.form
  obtain ⟨Aq, cq, rfl⟩ := k2.form
  obtain ⟨An, cn, rfl⟩ := k3.form
  clear h1 h2 h3 k1 k2 k3 l2n
  have XB0 : Bx ((w.alloc (.cells #[.slice Aa d.length ca, .slice Ap p.length cp, .slice Am m.length cm] 42)).alloc (.cells #[.slice Ab d'.length cb, .slice Aq p'.length cq, .slice An m'.length cn] 42)) w.heap.size 42 #[.slice Aa d.length ca, .slice Ap p.length cp, .slice Am m.length cm] := (Bx.new w 42 _ rfl).alloc _
  have XB1 : Bx ((w.alloc (.cells #[.slice Aa d.length ca, .slice Ap p.length cp, .slice Am m.length cm] 42)).alloc (.cells #[.slice Ab d'.length cb, .slice Aq p'.length cq, .slice An m'.length cn] 42)) (w.heap.size + 1) 42 #[.slice Ab d'.length cb, .slice Aq p'.length cq, .slice An m'.length cn] := Bx.new _ 42 _ (by simp)
  have X0 := bx_all XB0
  have X1 := bx_all XB1
  have GW := Lib.hid (((Ge.refl w).alloc (.cells #[.slice Aa d.length ca, .slice Ap p.length cp, .slice Am m.length cm] 42)).alloc (.cells #[.slice Ab d'.length cb, .slice Aq p'.length cq, .slice An m'.length cn] 42))
  clear XB0 XB1
  generalize hD : decide (d = d' ∧ p = p' ∧ m = m') = qq
  have HDEC := Lib.hid hD
  clear hD
  by_cases p0 : d = d'
  rotate_left
  · have RES := Lib.hid (show qq = false from by rw [← HDEC.out]; exact decide_eq_false fun e => p0 (e.1))
    have HD := Lib.hid (fun w' h => by have := HD0.out w' h; rw [decide_eq_false p0] at this; exact this)
    clear p0 
    go_enter Tryd.func60, Tryd.ntmps60
    go_wp2_with fail
    refine (HD.out _ GW.out).mono ?_
    rintro e w1 ⟨rfl, hg1⟩
    have K1 := Lib.hid hg1
    have G1 := Lib.hid (GW.out.trans K1.out)
    have y1 := X0.out _ K1.out
    have z1 := X1.out _ K1.out
    clear hg1
    go_wp2
    go_returns
    exact ⟨by rw [RES.out]; rfl, G1.out⟩
  have P0 := Lib.hid p0
  have HD := Lib.hid (fun w' h => by have := HD0.out w' h; rw [decide_eq_true p0] at this; exact this)
  clear p0
  by_cases p1 : m = m'
  rotate_left
  · have RES := Lib.hid (show qq = false from by rw [← HDEC.out]; exact decide_eq_false fun e => p1 (e.2.2))
    have HM := Lib.hid (fun w' h => by have := HM0.out w' h; rw [decide_eq_false p1] at this; exact this)
    clear p1 
    go_enter Tryd.func60, Tryd.ntmps60
    go_wp2_with fail
    refine (HD.out _ GW.out).mono ?_
    rintro e w1 ⟨rfl, hg1⟩
    have K1 := Lib.hid hg1
    have G1 := Lib.hid (GW.out.trans K1.out)
    have y1 := X0.out _ K1.out
    have z1 := X1.out _ K1.out
    clear hg1
    go_wp2_with fail
    refine (HM.out _ G1.out).mono ?_
    rintro e w2 ⟨rfl, hg2⟩
    have K2 := Lib.hid (K1.out.trans hg2)
    have G2 := Lib.hid (GW.out.trans K2.out)
    have y2 := X0.out _ K2.out
    have z2 := X1.out _ K2.out
    clear hg2
    clear y1 z1
    go_wp2
    go_returns
    exact ⟨by rw [RES.out]; rfl, G2.out⟩
  have P1 := Lib.hid p1
  have HM := Lib.hid (fun w' h => by have := HM0.out w' h; rw [decide_eq_true p1] at this; exact this)
  clear p1
  by_cases p2 : p = p'
  rotate_left
  · have RES := Lib.hid (show qq = false from by rw [← HDEC.out]; exact decide_eq_false fun e => p2 (e.2.1))
    have HP := Lib.hid (fun w' h => by have := HP0.out w' h; rw [decide_eq_false p2] at this; exact this)
    clear p2 
    go_enter Tryd.func60, Tryd.ntmps60
    go_wp2_with fail
    refine (HD.out _ GW.out).mono ?_
    rintro e w1 ⟨rfl, hg1⟩
    have K1 := Lib.hid hg1
    have G1 := Lib.hid (GW.out.trans K1.out)
    have y1 := X0.out _ K1.out
    have z1 := X1.out _ K1.out
    clear hg1
    go_wp2_with fail
    refine (HM.out _ G1.out).mono ?_
    rintro e w2 ⟨rfl, hg2⟩
    have K2 := Lib.hid (K1.out.trans hg2)
    have G2 := Lib.hid (GW.out.trans K2.out)
    have y2 := X0.out _ K2.out
    have z2 := X1.out _ K2.out
    clear hg2
    clear y1 z1
    go_wp2_with fail
    refine (HP.out _ G2.out).mono ?_
    rintro e w3 ⟨rfl, hg3⟩
    have K3 := Lib.hid (K2.out.trans hg3)
    have G3 := Lib.hid (GW.out.trans K3.out)
    have y3 := X0.out _ K3.out
    have z3 := X1.out _ K3.out
    clear hg3
    clear y2 z2
    go_wp2
    go_returns
    exact ⟨by rw [RES.out]; rfl, G3.out⟩
  have P2 := Lib.hid p2
  have HP := Lib.hid (fun w' h => by have := HP0.out w' h; rw [decide_eq_true p2] at this; exact this)
  clear p2
  have RES := Lib.hid (show qq = true from by rw [← HDEC.out]; exact decide_eq_true (by exact ⟨P0.out, P2.out, P1.out⟩))
  go_enter Tryd.func60, Tryd.ntmps60
  go_wp2_with fail
  refine (HD.out _ GW.out).mono ?_
  rintro e w1 ⟨rfl, hg1⟩
  have K1 := Lib.hid hg1
  have G1 := Lib.hid (GW.out.trans K1.out)
  have y1 := X0.out _ K1.out
  have z1 := X1.out _ K1.out
  clear hg1
  go_wp2_with fail
  refine (HM.out _ G1.out).mono ?_
  rintro e w2 ⟨rfl, hg2⟩
  have K2 := Lib.hid (K1.out.trans hg2)
  have G2 := Lib.hid (GW.out.trans K2.out)
  have y2 := X0.out _ K2.out
  have z2 := X1.out _ K2.out
  clear hg2
  clear y1 z1
  go_wp2_with fail
  refine (HP.out _ G2.out).mono ?_
  rintro e w3 ⟨rfl, hg3⟩
  have K3 := Lib.hid (K2.out.trans hg3)
  have G3 := Lib.hid (GW.out.trans K3.out)
  have y3 := X0.out _ K3.out
  have z3 := X1.out _ K3.out
  clear hg3
  clear y2 z2
  go_wp2
  go_returns
  exact ⟨by rw [RES.out]; rfl, G3.out⟩

set_option maxRecDepth 100000 in
set_option maxHeartbeats 16000000 in
theorem rsameDelta {B : Nat} {w : World} {va vp vm vb vq vn : Value} {d d' : List Int} {p p' : List Nod} {m m' : List Mov} (h1 : LAt eI B w va d) (h2 : PutAt B w vp p) (h3 : LAt eM B w vm m)
    (k1 : LAt eI B w vb d') (k2 : PutAt B w vq p') (k3 : LAt eM B w vn m') (l1 : d.length ≤ 1000000) (l2 : p.length ≤ 1000000) (l2n : ∀ n ∈ p, n.ins.length ≤ 1000000) (l3 : m.length ≤ 1000000) :
    Calls Tryd.prog 36 #[.agg #[va, vp, vm], .agg #[vb, vq, vn]] w fun e w' => e = .returned (.bool (decide (d = d' ∧ p = p' ∧ m = m'))) ∧ Ge w w' := by
  have HD0 := Lib.hid (fun w' (h : Ge w w') => reqI (h1.ge h) (k1.ge h) (Nat.le_trans l1 (by decide)))
  have HP0 := Lib.hid (fun w' (h : Ge w w') => rgraph (h2.kp (h.kp B)) (k2.kp (h.kp B)) l2 l2n)
  obtain ⟨Aa, ca, rfl⟩ := h1.form
  obtain ⟨Ap, cp, rfl⟩ := h2.form
  obtain ⟨Am, cm, rfl⟩ := h3.form
  obtain ⟨Ab, cb, rfl⟩ := k1.form
  obtain ⟨Aq, cq, rfl⟩ := k2.form
  obtain ⟨An, cn, rfl⟩ := k3.form
  obtain ⟨Am', cm', e, hlem, hca⟩ := h3
  cases e
  obtain ⟨An', cn', e, hlen', hcb⟩ := k3
  cases e
  have HCA := Lib.hid hca
  have HCB := Lib.hid hcb
  clear h1 h2 k1 k2 l2n hca hcb
  have XB0 : Bx ((w.alloc (.cells #[.slice Aa d.length ca, .slice Ap p.length cp, .slice Am m.length cm] 42)).alloc (.cells #[.slice Ab d'.length cb, .slice Aq p'.length cq, .slice An m'.length cn] 42)) w.heap.size 42 #[.slice Aa d.length ca, .slice Ap p.length cp, .slice Am m.length cm] := (Bx.new w 42 _ rfl).alloc _
  have XB1 : Bx ((w.alloc (.cells #[.slice Aa d.length ca, .slice Ap p.length cp, .slice Am m.length cm] 42)).alloc (.cells #[.slice Ab d'.length cb, .slice Aq p'.length cq, .slice An m'.length cn] 42)) (w.heap.size + 1) 42 #[.slice Ab d'.length cb, .slice Aq p'.length cq, .slice An m'.length cn] := Bx.new _ 42 _ (by simp)
  have X0 := bx_all XB0
  have X1 := bx_all XB1
  have GW := Lib.hid (((Ge.refl w).alloc (.cells #[.slice Aa d.length ca, .slice Ap p.length cp, .slice Am m.length cm] 42)).alloc (.cells #[.slice Ab d'.length cb, .slice Aq p'.length cq, .slice An m'.length cn] 42))
  clear XB0 XB1
  generalize hD : decide (d = d' ∧ p = p' ∧ m = m') = qq
  have HD' := Lib.hid hD
  clear hD
  by_cases p0 : d = d'
  rotate_left
  · have RES := Lib.hid (show qq = false from by rw [← HD'.out]; exact decide_eq_false fun e => p0 e.1)
    have HD := Lib.hid (fun w' h => by have := HD0.out w' h; rw [decide_eq_false p0] at this; exact this)
    clear p0
    go_enter Tryd.func36, Tryd.ntmps36
    go_wp2_with fail
    refine (HD.out _ GW.out).mono ?_
    rintro e w1 ⟨rfl, hg1⟩
    have G1 := Lib.hid (GW.out.trans hg1)
    clear hg1
    go_wp2
    go_returns
    exact ⟨by rw [RES.out]; rfl, G1.out⟩
  have P0 := Lib.hid p0
  have HD := Lib.hid (fun w' h => by have := HD0.out w' h; rw [decide_eq_true p0] at this; exact this)
  clear p0
  by_cases p1 : p = p'
  rotate_left
  · have RES := Lib.hid (show qq = false from by rw [← HD'.out]; exact decide_eq_false fun e => p1 e.2.1)
    have HP := Lib.hid (fun w' h => by have := HP0.out w' h; rw [decide_eq_false p1] at this; exact this)
    clear p1
    go_enter Tryd.func36, Tryd.ntmps36
    go_wp2_with fail
    refine (HD.out _ GW.out).mono ?_
    rintro e w1 ⟨rfl, hg1⟩
    have K1 := Lib.hid hg1
    have y1 := X0.out _ hg1
    have z1 := X1.out _ hg1
    clear hg1
    go_wp2_with fail
    refine (HP.out _ (GW.out.trans K1.out)).mono ?_
    rintro e w2 ⟨rfl, hg2⟩
    have G2 := Lib.hid ((GW.out.trans K1.out).trans hg2)
    clear hg2 y1 z1
    go_wp2
    go_returns
    exact ⟨by rw [RES.out]; rfl, G2.out⟩
  have P1 := Lib.hid p1
  have HP := Lib.hid (fun w' h => by have := HP0.out w' h; rw [decide_eq_true p1] at this; exact this)
  clear p1
  by_cases hlen : m.length = m'.length
  rotate_left
  · have RES := Lib.hid (show qq = false from by rw [← HD'.out]; exact decide_eq_false fun e => hlen (by rw [e.2.2]))
    have hn : ((m.length : Int) != (m'.length : Int)) = true := by simp; omega
    clear hlen
    go_enter Tryd.func36, Tryd.ntmps36
    go_wp2_with fail
    refine (HD.out _ GW.out).mono ?_
    rintro e w1 ⟨rfl, hg1⟩
    have K1 := Lib.hid hg1
    have y1 := X0.out _ hg1
    have z1 := X1.out _ hg1
    clear hg1
    go_wp2_with fail
    refine (HP.out _ (GW.out.trans K1.out)).mono ?_
    rintro e w2 ⟨rfl, hg2⟩
    have G2 := Lib.hid ((GW.out.trans K1.out).trans hg2)
    have y2 := X0.out _ (K1.out.trans hg2)
    have z2 := X1.out _ (K1.out.trans hg2)
    clear hg2 y1 z1
    go_wp2
    go_returns
    exact ⟨by rw [RES.out]; rfl, G2.out⟩
  have hn : ((m.length : Int) != (m'.length : Int)) = false := by rw [hlen]; simp
  have HL := Lib.hid hlen
  have hly : m'.length ≤ m.length := by omega
  have hlx : m.length ≤ m'.length := by omega
  clear hlen
  go_enter Tryd.func36, Tryd.ntmps36
  go_wp2_with fail
  refine (HD.out _ GW.out).mono ?_
  rintro e w1 ⟨rfl, hg1⟩
  have K1 := Lib.hid hg1
  have y1 := X0.out _ hg1
  have z1 := X1.out _ hg1
  clear hg1
  go_wp2_with fail
  refine (HP.out _ (GW.out.trans K1.out)).mono ?_
  rintro e w2 ⟨rfl, hg2⟩
  have K2 := Lib.hid (K1.out.trans hg2)
  have y2 := X0.out _ K2.out
  have z2 := X1.out _ K2.out
  clear hg2 y1 z1
  go_wp2
  clear y2 z2
  go_loopw [5] (fun i wr => ∃ k : Nat, k ≤ m.length ∧ i = .int .i64 (k : Int) ∧ m.take k = m'.take k ∧ Ge w2 wr) (fun i _ => m.length - (intOf i).toNat)
  case atStart => exact ⟨0, by omega, rfl, rfl, Ge.refl _⟩
  case round =>
    obtain ⟨k, hk, rfl, htk, hg2⟩ := hrel
    have HT := Lib.hid htk
    have HG2 := Lib.hid hg2
    have hgw : Ge w wr := GW.out.trans (K2.out.trans hg2)
    have z0 := X0.out _ (K2.out.trans hg2) 2
    have z1 := X1.out _ (K2.out.trans hg2) 2
    simp only [List.getElem?_toArray, List.getElem?_cons_zero, List.getElem?_cons_succ] at z0 z1
    have HGW := Lib.hid hgw
    clear htk hg2
    by_cases hlt : k < m.length
    · obtain ⟨b1, o1, rfl, hb1, hc1⟩ := HCA.out (fun e => absurd (show m.length = 0 from by rw [e]; rfl) (by omega))
      obtain ⟨b2, o2, rfl, hb2, hc2⟩ := HCB.out (fun e => absurd (show m'.length = 0 from by rw [e]; rfl) (by omega))
      obtain ⟨x, hmx⟩ : ∃ x, m[k]? = some x := ⟨_, List.getElem?_eq_getElem hlt⟩
      obtain ⟨y, hmy⟩ : ∃ y, m'[k]? = some y := ⟨_, List.getElem?_eq_getElem (by omega)⟩
      have HMX := Lib.hid hmx
      have HMY := Lib.hid hmy
      obtain ⟨x1f, x1t, x1k, x1a, ⟨x1fk, x1fa, x1fs⟩⟩ := x
      obtain ⟨y1f, y1t, y1k, y1a, ⟨y1fk, y1fa, y1fs⟩⟩ := y
      have hx0 := Lib.hid (fun (w3 : World) (hw : Ge wr w3) => ((hgw.trans hw).kp B |>.cell hb1 _).trans (hc1 k _ hmx 0 _ rfl))
      have hy0 := Lib.hid (fun (w3 : World) (hw : Ge wr w3) => ((hgw.trans hw).kp B |>.cell hb2 _).trans (hc2 k _ hmy 0 _ rfl))
      have hx1 := Lib.hid (fun (w3 : World) (hw : Ge wr w3) => ((hgw.trans hw).kp B |>.cell hb1 _).trans (hc1 k _ hmx 1 _ rfl))
      have hy1 := Lib.hid (fun (w3 : World) (hw : Ge wr w3) => ((hgw.trans hw).kp B |>.cell hb2 _).trans (hc2 k _ hmy 1 _ rfl))
      have hx2 := Lib.hid (fun (w3 : World) (hw : Ge wr w3) => ((hgw.trans hw).kp B |>.cell hb1 _).trans (hc1 k _ hmx 2 _ rfl))
      have hy2 := Lib.hid (fun (w3 : World) (hw : Ge wr w3) => ((hgw.trans hw).kp B |>.cell hb2 _).trans (hc2 k _ hmy 2 _ rfl))
      have hx3 := Lib.hid (fun (w3 : World) (hw : Ge wr w3) => ((hgw.trans hw).kp B |>.cell hb1 _).trans (hc1 k _ hmx 3 _ rfl))
      have hy3 := Lib.hid (fun (w3 : World) (hw : Ge wr w3) => ((hgw.trans hw).kp B |>.cell hb2 _).trans (hc2 k _ hmy 3 _ rfl))
      have hx4 := Lib.hid (fun (w3 : World) (hw : Ge wr w3) => ((hgw.trans hw).kp B |>.cell hb1 _).trans (hc1 k _ hmx 4 _ rfl))
      have hy4 := Lib.hid (fun (w3 : World) (hw : Ge wr w3) => ((hgw.trans hw).kp B |>.cell hb2 _).trans (hc2 k _ hmy 4 _ rfl))
      have hx5 := Lib.hid (fun (w3 : World) (hw : Ge wr w3) => ((hgw.trans hw).kp B |>.cell hb1 _).trans (hc1 k _ hmx 5 _ rfl))
      have hy5 := Lib.hid (fun (w3 : World) (hw : Ge wr w3) => ((hgw.trans hw).kp B |>.cell hb2 _).trans (hc2 k _ hmy 5 _ rfl))
      have hx6 := Lib.hid (fun (w3 : World) (hw : Ge wr w3) => ((hgw.trans hw).kp B |>.cell hb1 _).trans (hc1 k _ hmx 6 _ rfl))
      have hy6 := Lib.hid (fun (w3 : World) (hw : Ge wr w3) => ((hgw.trans hw).kp B |>.cell hb2 _).trans (hc2 k _ hmy 6 _ rfl))
      simp only [eM, Nat.add_zero] at hx0 hy0 hx1 hy1 hx2 hy2 hx3 hy3 hx4 hy4 hx5 hy5 hx6 hy6
      have i1 : (0 : Int) ≤ (k : Int) := by omega
      have i2 : (k : Int) < (m.length : Int) := by omega
      have i3 : (k : Int) < (m'.length : Int) := by omega
      clear hc1 hc2 hmx hmy hgw hb1 hb2
      by_cases hxy : (⟨x1f, x1t, x1k, x1a, ⟨x1fk, x1fa, x1fs⟩⟩ : Mov) = ⟨y1f, y1t, y1k, y1a, ⟨y1fk, y1fa, y1fs⟩⟩
      · have he := neqM (⟨x1f, x1t, x1k, x1a, ⟨x1fk, x1fa, x1fs⟩⟩ : Mov) ⟨y1f, y1t, y1k, y1a, ⟨y1fk, y1fa, y1fs⟩⟩
        rw [decide_eq_true hxy] at he
        simp only [encM, Bool.not_true] at he
        have HXY := Lib.hid hxy
        clear hxy
        go_wp2
        refine Dr.wp_region_T (by kernel_rfl) (by kernel_rfl) ?_
        iterate 11 (apply Dr.wpT_det; · (intro u w3 hw hF; clear hF; have p0 := hx0.out w3 hw; have q0 := hy0.out w3 hw; have p1 := hx1.out w3 hw; have q1 := hy1.out w3 hw; have p2 := hx2.out w3 hw; have q2 := hy2.out w3 hw; have p3 := hx3.out w3 hw; have q3 := hy3.out w3 hw; have p4 := hx4.out w3 hw; have q4 := hy4.out w3 hw; have p5 := hx5.out w3 hw; have q5 := hy5.out w3 hw; have p6 := hx6.out w3 hw; have q6 := hy6.out w3 hw; have s0 := X0.out w3 (K2.out.trans (HG2.out.trans hw)); have s1 := X1.out w3 (K2.out.trans (HG2.out.trans hw)); go_simp; first | exact ⟨Ge.refl _, rfl⟩ | exact Ge.refl _ | rfl))
        intro u w3 hw hF
        clear hF
        have G3 := Lib.hid (HG2.out.trans hw)
        clear hw z0 z1
        simp only [Act.put, List.setIfInBounds_toArray, List.set_cons_zero, List.set_cons_succ]
        go_wp2
        go_roundw
        case rel => exact ⟨k + 1, by omega, by go_num, take_next HT.out HMX.out (by rw [HMY.out, HXY.out]), G3.out⟩
        case measure => simp [intOf]; omega
      · have he := neqM (⟨x1f, x1t, x1k, x1a, ⟨x1fk, x1fa, x1fs⟩⟩ : Mov) ⟨y1f, y1t, y1k, y1a, ⟨y1fk, y1fa, y1fs⟩⟩
        rw [decide_eq_false hxy] at he
        simp only [encM, Bool.not_false] at he
        have RES := Lib.hid (show qq = false from by rw [← HD'.out]; exact decide_eq_false fun e => ne_next hxy HMX.out HMY.out e.2.2)
        clear hxy
        go_wp2
        refine Dr.wp_region_T (by kernel_rfl) (by kernel_rfl) ?_
        iterate 11 (apply Dr.wpT_det; · (intro u w3 hw hF; clear hF; have p0 := hx0.out w3 hw; have q0 := hy0.out w3 hw; have p1 := hx1.out w3 hw; have q1 := hy1.out w3 hw; have p2 := hx2.out w3 hw; have q2 := hy2.out w3 hw; have p3 := hx3.out w3 hw; have q3 := hy3.out w3 hw; have p4 := hx4.out w3 hw; have q4 := hy4.out w3 hw; have p5 := hx5.out w3 hw; have q5 := hy5.out w3 hw; have p6 := hx6.out w3 hw; have q6 := hy6.out w3 hw; have s0 := X0.out w3 (K2.out.trans (HG2.out.trans hw)); have s1 := X1.out w3 (K2.out.trans (HG2.out.trans hw)); go_simp; first | exact ⟨Ge.refl _, rfl⟩ | exact Ge.refl _ | rfl))
        intro u w3 hw hF
        clear hF
        have G3 := Lib.hid (HGW.out.trans hw)
        clear hw z0 z1
        simp only [Act.put, List.setIfInBounds_toArray, List.set_cons_zero, List.set_cons_succ]
        go_wp2
        go_returns
        exact ⟨by rw [RES.out]; rfl, G3.out⟩
    · have hml : k = m.length := by omega
      have RES := Lib.hid (show qq = true from by rw [← HD'.out]; exact decide_eq_true ⟨P0.out, P1.out, by
        have := HT.out
        rw [hml, List.take_length, HL.out, List.take_length] at this
        exact this⟩)
      have hdm : decide ((k : Int) < (m.length : Int)) = false := by simp; omega
      clear hml hgw
      go_wp2
      go_returns
      exact ⟨by rw [RES.out]; rfl, HGW.out⟩
end Go.Proofs.YtmhibpmgnicolaaDoor
