/-
  Equality of lists: the program's, the reference's.
-/
import Derived.Test.YtmhibpmgnicolaaDoorEqs
import Derived.Test.YtmhibpmgnicolaaDoorDraw
namespace Go.Proofs.YtmhibpmgnicolaaDoor
open Go.RowKit
attribute [local go_sem] Dr.upT

theorem take_next {α : Type} {xs ys : List α} {k : Nat} {x : α} (h : xs.take k = ys.take k) (hx : xs[k]? = some x) (hy : ys[k]? = some x) : xs.take (k + 1) = ys.take (k + 1) := by
  obtain ⟨h1, rfl⟩ := List.getElem?_eq_some_iff.1 hx
  obtain ⟨h2, e⟩ := List.getElem?_eq_some_iff.1 hy
  rw [List.take_succ_eq_append_getElem h1, List.take_succ_eq_append_getElem h2, h, e]
theorem ne_next {α : Type} {xs ys : List α} {k : Nat} {x y : α} (hne : x ≠ y) (hx : xs[k]? = some x) (hy : ys[k]? = some y) : xs ≠ ys := fun e => by
  subst e
  rw [hx] at hy
  exact hne (Option.some.inj hy)

set_option maxRecDepth 100000 in
set_option maxHeartbeats 8000000 in
theorem seqR {B : Nat} {w : World} {a b : Value} {xs ys : List (Rc)} (ha : LAt eR B w a xs) (hb : LAt eR B w b ys) (hl : xs.length ≤ 1000000000) :
    Calls Tryd.prog 57 #[a, b] w fun e w' => e = .returned (.bool (decide (xs = ys))) ∧ Ge w w' := by
  obtain ⟨A, ca, rfl, hlea, hca⟩ := ha
  obtain ⟨C, cb, rfl, hleb, hcb⟩ := hb
  have HCA := Lib.hid hca
  have HCB := Lib.hid hcb
  clear hca hcb
  by_cases hlen : xs.length = ys.length
  rotate_left
  · have hn : ((xs.length : Int) != (ys.length : Int)) = true := by simp; omega
    have hd := Lib.hid (show decide (xs = ys) = false from decide_eq_false fun e => hlen (by rw [e]))
    clear hlen
    go_enter Tryd.func57, Tryd.ntmps57
    go_wp2
    go_returns
    exact ⟨by rw [hd.out]; rfl, Ge.refl _⟩
  have hn : ((xs.length : Int) != (ys.length : Int)) = false := by rw [hlen]; simp
  have HL := Lib.hid hlen
  have hly : ys.length ≤ xs.length := by omega
  have hlx : xs.length ≤ ys.length := by omega
  clear hlen
  go_enter Tryd.func57, Tryd.ntmps57
  go_wp2
  go_loopw [13] (fun i wr => ∃ m : Nat, m ≤ xs.length ∧ i = .int .i64 (m : Int) ∧ xs.take m = ys.take m ∧ Ge w wr) (fun i _ => xs.length - (intOf i).toNat)
  case atStart => exact ⟨0, by omega, rfl, rfl, Ge.refl _⟩
  case round =>
    obtain ⟨m, hm, rfl, htk, hgw⟩ := hrel
    have HT := Lib.hid htk
    have HG := Lib.hid hgw
    clear htk
    by_cases hlt : m < xs.length
    · obtain ⟨b1, o1, rfl, hb1, hc1⟩ := HCA.out (by intro e; rw [e] at hlt; simp at hlt)
      obtain ⟨b2, o2, rfl, hb2, hc2⟩ := HCB.out (fun e => absurd (show ys.length = 0 from by rw [e]; rfl) (by omega))
      obtain ⟨x, hmx⟩ : ∃ x, xs[m]? = some x := ⟨_, List.getElem?_eq_getElem hlt⟩
      obtain ⟨y, hmy⟩ : ∃ y, ys[m]? = some y := ⟨_, List.getElem?_eq_getElem (by omega)⟩
      have HMX := Lib.hid hmx
      have HMY := Lib.hid hmy
      obtain ⟨x1n, x1s⟩ := x
      obtain ⟨y1n, y1s⟩ := y
      have hx0 := Lib.hid (fun (w3 : World) (hw : Ge wr w3) => ((hgw.trans hw).kp B |>.cell hb1 _).trans (hc1 m _ hmx 0 _ rfl))
      have hy0 := Lib.hid (fun (w3 : World) (hw : Ge wr w3) => ((hgw.trans hw).kp B |>.cell hb2 _).trans (hc2 m _ hmy 0 _ rfl))
      have hx1 := Lib.hid (fun (w3 : World) (hw : Ge wr w3) => ((hgw.trans hw).kp B |>.cell hb1 _).trans (hc1 m _ hmx 1 _ rfl))
      have hy1 := Lib.hid (fun (w3 : World) (hw : Ge wr w3) => ((hgw.trans hw).kp B |>.cell hb2 _).trans (hc2 m _ hmy 1 _ rfl))
      simp only [eR, Nat.add_zero] at hx0 hy0 hx1 hy1
      have i1 : (0 : Int) ≤ (m : Int) := by omega
      have i2 : (m : Int) < (xs.length : Int) := by omega
      have i3 : (m : Int) < (ys.length : Int) := by omega
      clear hc1 hc2 hmx hmy hgw hb1 hb2
      by_cases hxy : (⟨x1n, x1s⟩ : Rc) = ⟨y1n, y1s⟩
      · have he := neqR (⟨x1n, x1s⟩ : Rc) (⟨y1n, y1s⟩ : Rc)
        rw [show decide ((⟨x1n, x1s⟩ : Rc) = ⟨y1n, y1s⟩) = true from decide_eq_true hxy] at he
        simp only [encR, Bool.not_true] at he
        have HXY := Lib.hid hxy
        clear hxy
        go_wp2
        refine Dr.wp_region_T (by kernel_rfl) (by kernel_rfl) ?_
        iterate 9 (apply Dr.wpT_det; · (intro u w3 hw hF; clear hF; have p0 := hx0.out w3 hw; have q0 := hy0.out w3 hw; have p1 := hx1.out w3 hw; have q1 := hy1.out w3 hw; go_simp; first | exact ⟨Ge.refl _, rfl⟩ | exact Ge.refl _ | rfl))
        intro u w3 hw hF
        clear hF
        have G3 := Lib.hid (HG.out.trans hw)
        clear hw
        simp only [Act.put, List.setIfInBounds_toArray, List.set_cons_zero, List.set_cons_succ]
        go_wp2
        go_roundw
        case rel => exact ⟨m + 1, by omega, by go_num, take_next HT.out HMX.out (by rw [HMY.out, HXY.out]), G3.out⟩
        case measure => simp [intOf]; omega
      · have he := neqR (⟨x1n, x1s⟩ : Rc) (⟨y1n, y1s⟩ : Rc)
        rw [show decide ((⟨x1n, x1s⟩ : Rc) = ⟨y1n, y1s⟩) = false from decide_eq_false hxy] at he
        simp only [encR, Bool.not_false] at he
        have HXY := Lib.hid hxy
        clear hxy
        go_wp2
        refine Dr.wp_region_T (by kernel_rfl) (by kernel_rfl) ?_
        iterate 9 (apply Dr.wpT_det; · (intro u w3 hw hF; clear hF; have p0 := hx0.out w3 hw; have q0 := hy0.out w3 hw; have p1 := hx1.out w3 hw; have q1 := hy1.out w3 hw; go_simp; first | exact ⟨Ge.refl _, rfl⟩ | exact Ge.refl _ | rfl))
        intro u w3 hw hF
        clear hF
        have G3 := Lib.hid (HG.out.trans hw)
        have hd := Lib.hid (show decide (xs = ys) = false from decide_eq_false (ne_next HXY.out HMX.out HMY.out))
        clear hw
        simp only [Act.put, List.setIfInBounds_toArray, List.set_cons_zero, List.set_cons_succ]
        go_wp2
        go_returns
        exact ⟨by rw [hd.out]; rfl, G3.out⟩
    · have hml : m = xs.length := by omega
      have hd := Lib.hid (show decide (xs = ys) = true from decide_eq_true (by
        have := HT.out
        rw [hml, List.take_length, HL.out, List.take_length] at this
        exact this))
      have hdm : decide ((m : Int) < (xs.length : Int)) = false := by simp; omega
      clear hml hgw
      go_wp2
      go_returns
      exact ⟨by rw [hd.out]; rfl, HG.out⟩

set_option maxRecDepth 100000 in
set_option maxHeartbeats 8000000 in
theorem seqC {B : Nat} {w : World} {a b : Value} {xs ys : List (Chg)} (ha : LAt eC B w a xs) (hb : LAt eC B w b ys) (hl : xs.length ≤ 1000000000) :
    Calls Tryd.prog 58 #[a, b] w fun e w' => e = .returned (.bool (decide (xs = ys))) ∧ Ge w w' := by
  obtain ⟨A, ca, rfl, hlea, hca⟩ := ha
  obtain ⟨C, cb, rfl, hleb, hcb⟩ := hb
  have HCA := Lib.hid hca
  have HCB := Lib.hid hcb
  clear hca hcb
  by_cases hlen : xs.length = ys.length
  rotate_left
  · have hn : ((xs.length : Int) != (ys.length : Int)) = true := by simp; omega
    have hd := Lib.hid (show decide (xs = ys) = false from decide_eq_false fun e => hlen (by rw [e]))
    clear hlen
    go_enter Tryd.func58, Tryd.ntmps58
    go_wp2
    go_returns
    exact ⟨by rw [hd.out]; rfl, Ge.refl _⟩
  have hn : ((xs.length : Int) != (ys.length : Int)) = false := by rw [hlen]; simp
  have HL := Lib.hid hlen
  have hly : ys.length ≤ xs.length := by omega
  have hlx : xs.length ≤ ys.length := by omega
  clear hlen
  go_enter Tryd.func58, Tryd.ntmps58
  go_wp2
  go_loopw [13] (fun i wr => ∃ m : Nat, m ≤ xs.length ∧ i = .int .i64 (m : Int) ∧ xs.take m = ys.take m ∧ Ge w wr) (fun i _ => xs.length - (intOf i).toNat)
  case atStart => exact ⟨0, by omega, rfl, rfl, Ge.refl _⟩
  case round =>
    obtain ⟨m, hm, rfl, htk, hgw⟩ := hrel
    have HT := Lib.hid htk
    have HG := Lib.hid hgw
    clear htk
    by_cases hlt : m < xs.length
    · obtain ⟨b1, o1, rfl, hb1, hc1⟩ := HCA.out (by intro e; rw [e] at hlt; simp at hlt)
      obtain ⟨b2, o2, rfl, hb2, hc2⟩ := HCB.out (fun e => absurd (show ys.length = 0 from by rw [e]; rfl) (by omega))
      obtain ⟨x, hmx⟩ : ∃ x, xs[m]? = some x := ⟨_, List.getElem?_eq_getElem hlt⟩
      obtain ⟨y, hmy⟩ : ∃ y, ys[m]? = some y := ⟨_, List.getElem?_eq_getElem (by omega)⟩
      have HMX := Lib.hid hmx
      have HMY := Lib.hid hmy
      obtain ⟨x1n, x1p, ⟨x1e, x1d, x1l0, x1l1, x1l2, x1l3⟩, x1c⟩ := x
      obtain ⟨y1n, y1p, ⟨y1e, y1d, y1l0, y1l1, y1l2, y1l3⟩, y1c⟩ := y
      have hx0 := Lib.hid (fun (w3 : World) (hw : Ge wr w3) => ((hgw.trans hw).kp B |>.cell hb1 _).trans (hc1 m _ hmx 0 _ rfl))
      have hy0 := Lib.hid (fun (w3 : World) (hw : Ge wr w3) => ((hgw.trans hw).kp B |>.cell hb2 _).trans (hc2 m _ hmy 0 _ rfl))
      have hx1 := Lib.hid (fun (w3 : World) (hw : Ge wr w3) => ((hgw.trans hw).kp B |>.cell hb1 _).trans (hc1 m _ hmx 1 _ rfl))
      have hy1 := Lib.hid (fun (w3 : World) (hw : Ge wr w3) => ((hgw.trans hw).kp B |>.cell hb2 _).trans (hc2 m _ hmy 1 _ rfl))
      have hx2 := Lib.hid (fun (w3 : World) (hw : Ge wr w3) => ((hgw.trans hw).kp B |>.cell hb1 _).trans (hc1 m _ hmx 2 _ rfl))
      have hy2 := Lib.hid (fun (w3 : World) (hw : Ge wr w3) => ((hgw.trans hw).kp B |>.cell hb2 _).trans (hc2 m _ hmy 2 _ rfl))
      have hx3 := Lib.hid (fun (w3 : World) (hw : Ge wr w3) => ((hgw.trans hw).kp B |>.cell hb1 _).trans (hc1 m _ hmx 3 _ rfl))
      have hy3 := Lib.hid (fun (w3 : World) (hw : Ge wr w3) => ((hgw.trans hw).kp B |>.cell hb2 _).trans (hc2 m _ hmy 3 _ rfl))
      have hx4 := Lib.hid (fun (w3 : World) (hw : Ge wr w3) => ((hgw.trans hw).kp B |>.cell hb1 _).trans (hc1 m _ hmx 4 _ rfl))
      have hy4 := Lib.hid (fun (w3 : World) (hw : Ge wr w3) => ((hgw.trans hw).kp B |>.cell hb2 _).trans (hc2 m _ hmy 4 _ rfl))
      have hx5 := Lib.hid (fun (w3 : World) (hw : Ge wr w3) => ((hgw.trans hw).kp B |>.cell hb1 _).trans (hc1 m _ hmx 5 _ rfl))
      have hy5 := Lib.hid (fun (w3 : World) (hw : Ge wr w3) => ((hgw.trans hw).kp B |>.cell hb2 _).trans (hc2 m _ hmy 5 _ rfl))
      have hx6 := Lib.hid (fun (w3 : World) (hw : Ge wr w3) => ((hgw.trans hw).kp B |>.cell hb1 _).trans (hc1 m _ hmx 6 _ rfl))
      have hy6 := Lib.hid (fun (w3 : World) (hw : Ge wr w3) => ((hgw.trans hw).kp B |>.cell hb2 _).trans (hc2 m _ hmy 6 _ rfl))
      have hx7 := Lib.hid (fun (w3 : World) (hw : Ge wr w3) => ((hgw.trans hw).kp B |>.cell hb1 _).trans (hc1 m _ hmx 7 _ rfl))
      have hy7 := Lib.hid (fun (w3 : World) (hw : Ge wr w3) => ((hgw.trans hw).kp B |>.cell hb2 _).trans (hc2 m _ hmy 7 _ rfl))
      have hx8 := Lib.hid (fun (w3 : World) (hw : Ge wr w3) => ((hgw.trans hw).kp B |>.cell hb1 _).trans (hc1 m _ hmx 8 _ rfl))
      have hy8 := Lib.hid (fun (w3 : World) (hw : Ge wr w3) => ((hgw.trans hw).kp B |>.cell hb2 _).trans (hc2 m _ hmy 8 _ rfl))
      simp only [eC, Nat.add_zero] at hx0 hy0 hx1 hy1 hx2 hy2 hx3 hy3 hx4 hy4 hx5 hy5 hx6 hy6 hx7 hy7 hx8 hy8
      have i1 : (0 : Int) ≤ (m : Int) := by omega
      have i2 : (m : Int) < (xs.length : Int) := by omega
      have i3 : (m : Int) < (ys.length : Int) := by omega
      clear hc1 hc2 hmx hmy hgw hb1 hb2
      by_cases hxy : (⟨x1n, x1p, ⟨x1e, x1d, x1l0, x1l1, x1l2, x1l3⟩, x1c⟩ : Chg) = ⟨y1n, y1p, ⟨y1e, y1d, y1l0, y1l1, y1l2, y1l3⟩, y1c⟩
      · have he := neqC (⟨x1n, x1p, ⟨x1e, x1d, x1l0, x1l1, x1l2, x1l3⟩, x1c⟩ : Chg) (⟨y1n, y1p, ⟨y1e, y1d, y1l0, y1l1, y1l2, y1l3⟩, y1c⟩ : Chg)
        rw [show decide ((⟨x1n, x1p, ⟨x1e, x1d, x1l0, x1l1, x1l2, x1l3⟩, x1c⟩ : Chg) = ⟨y1n, y1p, ⟨y1e, y1d, y1l0, y1l1, y1l2, y1l3⟩, y1c⟩) = true from decide_eq_true hxy] at he
        simp only [encC, Bool.not_true] at he
        have HXY := Lib.hid hxy
        clear hxy
        go_wp2
        refine Dr.wp_region_T (by kernel_rfl) (by kernel_rfl) ?_
        iterate 9 (apply Dr.wpT_det; · (intro u w3 hw hF; clear hF; have p0 := hx0.out w3 hw; have q0 := hy0.out w3 hw; have p1 := hx1.out w3 hw; have q1 := hy1.out w3 hw; have p2 := hx2.out w3 hw; have q2 := hy2.out w3 hw; have p3 := hx3.out w3 hw; have q3 := hy3.out w3 hw; have p4 := hx4.out w3 hw; have q4 := hy4.out w3 hw; have p5 := hx5.out w3 hw; have q5 := hy5.out w3 hw; have p6 := hx6.out w3 hw; have q6 := hy6.out w3 hw; have p7 := hx7.out w3 hw; have q7 := hy7.out w3 hw; have p8 := hx8.out w3 hw; have q8 := hy8.out w3 hw; go_simp; first | exact ⟨Ge.refl _, rfl⟩ | exact Ge.refl _ | rfl))
        intro u w3 hw hF
        clear hF
        have G3 := Lib.hid (HG.out.trans hw)
        clear hw
        simp only [Act.put, List.setIfInBounds_toArray, List.set_cons_zero, List.set_cons_succ]
        go_wp2
        go_roundw
        case rel => exact ⟨m + 1, by omega, by go_num, take_next HT.out HMX.out (by rw [HMY.out, HXY.out]), G3.out⟩
        case measure => simp [intOf]; omega
      · have he := neqC (⟨x1n, x1p, ⟨x1e, x1d, x1l0, x1l1, x1l2, x1l3⟩, x1c⟩ : Chg) (⟨y1n, y1p, ⟨y1e, y1d, y1l0, y1l1, y1l2, y1l3⟩, y1c⟩ : Chg)
        rw [show decide ((⟨x1n, x1p, ⟨x1e, x1d, x1l0, x1l1, x1l2, x1l3⟩, x1c⟩ : Chg) = ⟨y1n, y1p, ⟨y1e, y1d, y1l0, y1l1, y1l2, y1l3⟩, y1c⟩) = false from decide_eq_false hxy] at he
        simp only [encC, Bool.not_false] at he
        have HXY := Lib.hid hxy
        clear hxy
        go_wp2
        refine Dr.wp_region_T (by kernel_rfl) (by kernel_rfl) ?_
        iterate 9 (apply Dr.wpT_det; · (intro u w3 hw hF; clear hF; have p0 := hx0.out w3 hw; have q0 := hy0.out w3 hw; have p1 := hx1.out w3 hw; have q1 := hy1.out w3 hw; have p2 := hx2.out w3 hw; have q2 := hy2.out w3 hw; have p3 := hx3.out w3 hw; have q3 := hy3.out w3 hw; have p4 := hx4.out w3 hw; have q4 := hy4.out w3 hw; have p5 := hx5.out w3 hw; have q5 := hy5.out w3 hw; have p6 := hx6.out w3 hw; have q6 := hy6.out w3 hw; have p7 := hx7.out w3 hw; have q7 := hy7.out w3 hw; have p8 := hx8.out w3 hw; have q8 := hy8.out w3 hw; go_simp; first | exact ⟨Ge.refl _, rfl⟩ | exact Ge.refl _ | rfl))
        intro u w3 hw hF
        clear hF
        have G3 := Lib.hid (HG.out.trans hw)
        have hd := Lib.hid (show decide (xs = ys) = false from decide_eq_false (ne_next HXY.out HMX.out HMY.out))
        clear hw
        simp only [Act.put, List.setIfInBounds_toArray, List.set_cons_zero, List.set_cons_succ]
        go_wp2
        go_returns
        exact ⟨by rw [hd.out]; rfl, G3.out⟩
    · have hml : m = xs.length := by omega
      have hd := Lib.hid (show decide (xs = ys) = true from decide_eq_true (by
        have := HT.out
        rw [hml, List.take_length, HL.out, List.take_length] at this
        exact this))
      have hdm : decide ((m : Int) < (xs.length : Int)) = false := by simp; omega
      clear hml hgw
      go_wp2
      go_returns
      exact ⟨by rw [hd.out]; rfl, HG.out⟩

set_option maxRecDepth 100000 in
set_option maxHeartbeats 8000000 in
theorem seqE {B : Nat} {w : World} {a b : Value} {xs ys : List (Ent)} (ha : LAt eE B w a xs) (hb : LAt eE B w b ys) (hl : xs.length ≤ 1000000000) :
    Calls Tryd.prog 59 #[a, b] w fun e w' => e = .returned (.bool (decide (xs = ys))) ∧ Ge w w' := by
  obtain ⟨A, ca, rfl, hlea, hca⟩ := ha
  obtain ⟨C, cb, rfl, hleb, hcb⟩ := hb
  have HCA := Lib.hid hca
  have HCB := Lib.hid hcb
  clear hca hcb
  by_cases hlen : xs.length = ys.length
  rotate_left
  · have hn : ((xs.length : Int) != (ys.length : Int)) = true := by simp; omega
    have hd := Lib.hid (show decide (xs = ys) = false from decide_eq_false fun e => hlen (by rw [e]))
    clear hlen
    go_enter Tryd.func59, Tryd.ntmps59
    go_wp2
    go_returns
    exact ⟨by rw [hd.out]; rfl, Ge.refl _⟩
  have hn : ((xs.length : Int) != (ys.length : Int)) = false := by rw [hlen]; simp
  have HL := Lib.hid hlen
  have hly : ys.length ≤ xs.length := by omega
  have hlx : xs.length ≤ ys.length := by omega
  clear hlen
  go_enter Tryd.func59, Tryd.ntmps59
  go_wp2
  go_loopw [13] (fun i wr => ∃ m : Nat, m ≤ xs.length ∧ i = .int .i64 (m : Int) ∧ xs.take m = ys.take m ∧ Ge w wr) (fun i _ => xs.length - (intOf i).toNat)
  case atStart => exact ⟨0, by omega, rfl, rfl, Ge.refl _⟩
  case round =>
    obtain ⟨m, hm, rfl, htk, hgw⟩ := hrel
    have HT := Lib.hid htk
    have HG := Lib.hid hgw
    clear htk
    by_cases hlt : m < xs.length
    · obtain ⟨b1, o1, rfl, hb1, hc1⟩ := HCA.out (by intro e; rw [e] at hlt; simp at hlt)
      obtain ⟨b2, o2, rfl, hb2, hc2⟩ := HCB.out (fun e => absurd (show ys.length = 0 from by rw [e]; rfl) (by omega))
      obtain ⟨x, hmx⟩ : ∃ x, xs[m]? = some x := ⟨_, List.getElem?_eq_getElem hlt⟩
      obtain ⟨y, hmy⟩ : ∃ y, ys[m]? = some y := ⟨_, List.getElem?_eq_getElem (by omega)⟩
      have HMX := Lib.hid hmx
      have HMY := Lib.hid hmy
      obtain ⟨x1o, x1k, x1s, x1n⟩ := x
      obtain ⟨y1o, y1k, y1s, y1n⟩ := y
      have hx0 := Lib.hid (fun (w3 : World) (hw : Ge wr w3) => ((hgw.trans hw).kp B |>.cell hb1 _).trans (hc1 m _ hmx 0 _ rfl))
      have hy0 := Lib.hid (fun (w3 : World) (hw : Ge wr w3) => ((hgw.trans hw).kp B |>.cell hb2 _).trans (hc2 m _ hmy 0 _ rfl))
      have hx1 := Lib.hid (fun (w3 : World) (hw : Ge wr w3) => ((hgw.trans hw).kp B |>.cell hb1 _).trans (hc1 m _ hmx 1 _ rfl))
      have hy1 := Lib.hid (fun (w3 : World) (hw : Ge wr w3) => ((hgw.trans hw).kp B |>.cell hb2 _).trans (hc2 m _ hmy 1 _ rfl))
      have hx2 := Lib.hid (fun (w3 : World) (hw : Ge wr w3) => ((hgw.trans hw).kp B |>.cell hb1 _).trans (hc1 m _ hmx 2 _ rfl))
      have hy2 := Lib.hid (fun (w3 : World) (hw : Ge wr w3) => ((hgw.trans hw).kp B |>.cell hb2 _).trans (hc2 m _ hmy 2 _ rfl))
      have hx3 := Lib.hid (fun (w3 : World) (hw : Ge wr w3) => ((hgw.trans hw).kp B |>.cell hb1 _).trans (hc1 m _ hmx 3 _ rfl))
      have hy3 := Lib.hid (fun (w3 : World) (hw : Ge wr w3) => ((hgw.trans hw).kp B |>.cell hb2 _).trans (hc2 m _ hmy 3 _ rfl))
      simp only [eE, Nat.add_zero] at hx0 hy0 hx1 hy1 hx2 hy2 hx3 hy3
      have i1 : (0 : Int) ≤ (m : Int) := by omega
      have i2 : (m : Int) < (xs.length : Int) := by omega
      have i3 : (m : Int) < (ys.length : Int) := by omega
      clear hc1 hc2 hmx hmy hgw hb1 hb2
      by_cases hxy : (⟨x1o, x1k, x1s, x1n⟩ : Ent) = ⟨y1o, y1k, y1s, y1n⟩
      · have he := neqE (⟨x1o, x1k, x1s, x1n⟩ : Ent) (⟨y1o, y1k, y1s, y1n⟩ : Ent)
        rw [show decide ((⟨x1o, x1k, x1s, x1n⟩ : Ent) = ⟨y1o, y1k, y1s, y1n⟩) = true from decide_eq_true hxy] at he
        simp only [encE, Bool.not_true] at he
        have HXY := Lib.hid hxy
        clear hxy
        go_wp2
        refine Dr.wp_region_T (by kernel_rfl) (by kernel_rfl) ?_
        iterate 9 (apply Dr.wpT_det; · (intro u w3 hw hF; clear hF; have p0 := hx0.out w3 hw; have q0 := hy0.out w3 hw; have p1 := hx1.out w3 hw; have q1 := hy1.out w3 hw; have p2 := hx2.out w3 hw; have q2 := hy2.out w3 hw; have p3 := hx3.out w3 hw; have q3 := hy3.out w3 hw; go_simp; first | exact ⟨Ge.refl _, rfl⟩ | exact Ge.refl _ | rfl))
        intro u w3 hw hF
        clear hF
        have G3 := Lib.hid (HG.out.trans hw)
        clear hw
        simp only [Act.put, List.setIfInBounds_toArray, List.set_cons_zero, List.set_cons_succ]
        go_wp2
        go_roundw
        case rel => exact ⟨m + 1, by omega, by go_num, take_next HT.out HMX.out (by rw [HMY.out, HXY.out]), G3.out⟩
        case measure => simp [intOf]; omega
      · have he := neqE (⟨x1o, x1k, x1s, x1n⟩ : Ent) (⟨y1o, y1k, y1s, y1n⟩ : Ent)
        rw [show decide ((⟨x1o, x1k, x1s, x1n⟩ : Ent) = ⟨y1o, y1k, y1s, y1n⟩) = false from decide_eq_false hxy] at he
        simp only [encE, Bool.not_false] at he
        have HXY := Lib.hid hxy
        clear hxy
        go_wp2
        refine Dr.wp_region_T (by kernel_rfl) (by kernel_rfl) ?_
        iterate 9 (apply Dr.wpT_det; · (intro u w3 hw hF; clear hF; have p0 := hx0.out w3 hw; have q0 := hy0.out w3 hw; have p1 := hx1.out w3 hw; have q1 := hy1.out w3 hw; have p2 := hx2.out w3 hw; have q2 := hy2.out w3 hw; have p3 := hx3.out w3 hw; have q3 := hy3.out w3 hw; go_simp; first | exact ⟨Ge.refl _, rfl⟩ | exact Ge.refl _ | rfl))
        intro u w3 hw hF
        clear hF
        have G3 := Lib.hid (HG.out.trans hw)
        have hd := Lib.hid (show decide (xs = ys) = false from decide_eq_false (ne_next HXY.out HMX.out HMY.out))
        clear hw
        simp only [Act.put, List.setIfInBounds_toArray, List.set_cons_zero, List.set_cons_succ]
        go_wp2
        go_returns
        exact ⟨by rw [hd.out]; rfl, G3.out⟩
    · have hml : m = xs.length := by omega
      have hd := Lib.hid (show decide (xs = ys) = true from decide_eq_true (by
        have := HT.out
        rw [hml, List.take_length, HL.out, List.take_length] at this
        exact this))
      have hdm : decide ((m : Int) < (xs.length : Int)) = false := by simp; omega
      clear hml hgw
      go_wp2
      go_returns
      exact ⟨by rw [hd.out]; rfl, HG.out⟩

set_option maxRecDepth 100000 in
set_option maxHeartbeats 8000000 in
theorem seqI {B : Nat} {w : World} {a b : Value} {xs ys : List (Int)} (ha : LAt eI B w a xs) (hb : LAt eI B w b ys) (hl : xs.length ≤ 1000000000) :
    Calls Tryd.prog 68 #[a, b] w fun e w' => e = .returned (.bool (decide (xs = ys))) ∧ Ge w w' := by
  obtain ⟨A, ca, rfl, hlea, hca⟩ := ha
  obtain ⟨C, cb, rfl, hleb, hcb⟩ := hb
  have HCA := Lib.hid hca
  have HCB := Lib.hid hcb
  clear hca hcb
  by_cases hlen : xs.length = ys.length
  rotate_left
  · have hn : ((xs.length : Int) != (ys.length : Int)) = true := by simp; omega
    have hd := Lib.hid (show decide (xs = ys) = false from decide_eq_false fun e => hlen (by rw [e]))
    clear hlen
    go_enter Tryd.func68, Tryd.ntmps68
    go_wp2
    go_returns
    exact ⟨by rw [hd.out]; rfl, Ge.refl _⟩
  have hn : ((xs.length : Int) != (ys.length : Int)) = false := by rw [hlen]; simp
  have HL := Lib.hid hlen
  have hly : ys.length ≤ xs.length := by omega
  have hlx : xs.length ≤ ys.length := by omega
  clear hlen
  go_enter Tryd.func68, Tryd.ntmps68
  go_wp2
  go_loopw [13] (fun i wr => ∃ m : Nat, m ≤ xs.length ∧ i = .int .i64 (m : Int) ∧ xs.take m = ys.take m ∧ Ge w wr) (fun i _ => xs.length - (intOf i).toNat)
  case atStart => exact ⟨0, by omega, rfl, rfl, Ge.refl _⟩
  case round =>
    obtain ⟨m, hm, rfl, htk, hgw⟩ := hrel
    have HT := Lib.hid htk
    have HG := Lib.hid hgw
    clear htk
    by_cases hlt : m < xs.length
    · obtain ⟨b1, o1, rfl, hb1, hc1⟩ := HCA.out (by intro e; rw [e] at hlt; simp at hlt)
      obtain ⟨b2, o2, rfl, hb2, hc2⟩ := HCB.out (fun e => absurd (show ys.length = 0 from by rw [e]; rfl) (by omega))
      obtain ⟨x1, hmx⟩ : ∃ x, xs[m]? = some x := ⟨_, List.getElem?_eq_getElem hlt⟩
      obtain ⟨y1, hmy⟩ : ∃ y, ys[m]? = some y := ⟨_, List.getElem?_eq_getElem (by omega)⟩
      have HMX := Lib.hid hmx
      have HMY := Lib.hid hmy
      have hx0 := Lib.hid (fun (w3 : World) (hw : Ge wr w3) => ((hgw.trans hw).kp B |>.cell hb1 _).trans (hc1 m _ hmx 0 _ rfl))
      have hy0 := Lib.hid (fun (w3 : World) (hw : Ge wr w3) => ((hgw.trans hw).kp B |>.cell hb2 _).trans (hc2 m _ hmy 0 _ rfl))
      simp only [eI, Nat.mul_one, Nat.add_zero] at hx0 hy0
      have i1 : (0 : Int) ≤ (m : Int) := by omega
      have i2 : (m : Int) < (xs.length : Int) := by omega
      have i3 : (m : Int) < (ys.length : Int) := by omega
      clear hc1 hc2 hmx hmy hgw hb1 hb2
      by_cases hxy : (x1 : Int) = y1
      · have he : (x1 != y1) = false := by rw [hxy]; simp
        have HXY := Lib.hid hxy
        clear hxy
        go_wp2
        refine Dr.wp_region_T (by kernel_rfl) (by kernel_rfl) ?_
        iterate 9 (apply Dr.wpT_det; · (intro u w3 hw hF; clear hF; have p0 := hx0.out w3 hw; have q0 := hy0.out w3 hw; go_simp; first | exact ⟨Ge.refl _, rfl⟩ | exact Ge.refl _ | rfl))
        intro u w3 hw hF
        clear hF
        have G3 := Lib.hid (HG.out.trans hw)
        clear hw
        simp only [Act.put, List.setIfInBounds_toArray, List.set_cons_zero, List.set_cons_succ]
        go_wp2
        go_roundw
        case rel => exact ⟨m + 1, by omega, by go_num, take_next HT.out HMX.out (by rw [HMY.out, HXY.out]), G3.out⟩
        case measure => simp [intOf]; omega
      · have he : (x1 != y1) = true := by simpa using hxy
        have HXY := Lib.hid hxy
        clear hxy
        go_wp2
        refine Dr.wp_region_T (by kernel_rfl) (by kernel_rfl) ?_
        iterate 9 (apply Dr.wpT_det; · (intro u w3 hw hF; clear hF; have p0 := hx0.out w3 hw; have q0 := hy0.out w3 hw; go_simp; first | exact ⟨Ge.refl _, rfl⟩ | exact Ge.refl _ | rfl))
        intro u w3 hw hF
        clear hF
        have G3 := Lib.hid (HG.out.trans hw)
        have hd := Lib.hid (show decide (xs = ys) = false from decide_eq_false (ne_next HXY.out HMX.out HMY.out))
        clear hw
        simp only [Act.put, List.setIfInBounds_toArray, List.set_cons_zero, List.set_cons_succ]
        go_wp2
        go_returns
        exact ⟨by rw [hd.out]; rfl, G3.out⟩
    · have hml : m = xs.length := by omega
      have hd := Lib.hid (show decide (xs = ys) = true from decide_eq_true (by
        have := HT.out
        rw [hml, List.take_length, HL.out, List.take_length] at this
        exact this))
      have hdm : decide ((m : Int) < (xs.length : Int)) = false := by simp; omega
      clear hml hgw
      go_wp2
      go_returns
      exact ⟨by rw [hd.out]; rfl, HG.out⟩

set_option maxRecDepth 100000 in
set_option maxHeartbeats 8000000 in
theorem seqM {B : Nat} {w : World} {a b : Value} {xs ys : List (Mov)} (ha : LAt eM B w a xs) (hb : LAt eM B w b ys) (hl : xs.length ≤ 1000000000) :
    Calls Tryd.prog 69 #[a, b] w fun e w' => e = .returned (.bool (decide (xs = ys))) ∧ Ge w w' := by
  obtain ⟨A, ca, rfl, hlea, hca⟩ := ha
  obtain ⟨C, cb, rfl, hleb, hcb⟩ := hb
  have HCA := Lib.hid hca
  have HCB := Lib.hid hcb
  clear hca hcb
  by_cases hlen : xs.length = ys.length
  rotate_left
  · have hn : ((xs.length : Int) != (ys.length : Int)) = true := by simp; omega
    have hd := Lib.hid (show decide (xs = ys) = false from decide_eq_false fun e => hlen (by rw [e]))
    clear hlen
    go_enter Tryd.func69, Tryd.ntmps69
    go_wp2
    go_returns
    exact ⟨by rw [hd.out]; rfl, Ge.refl _⟩
  have hn : ((xs.length : Int) != (ys.length : Int)) = false := by rw [hlen]; simp
  have HL := Lib.hid hlen
  have hly : ys.length ≤ xs.length := by omega
  have hlx : xs.length ≤ ys.length := by omega
  clear hlen
  go_enter Tryd.func69, Tryd.ntmps69
  go_wp2
  go_loopw [13] (fun i wr => ∃ m : Nat, m ≤ xs.length ∧ i = .int .i64 (m : Int) ∧ xs.take m = ys.take m ∧ Ge w wr) (fun i _ => xs.length - (intOf i).toNat)
  case atStart => exact ⟨0, by omega, rfl, rfl, Ge.refl _⟩
  case round =>
    obtain ⟨m, hm, rfl, htk, hgw⟩ := hrel
    have HT := Lib.hid htk
    have HG := Lib.hid hgw
    clear htk
    by_cases hlt : m < xs.length
    · obtain ⟨b1, o1, rfl, hb1, hc1⟩ := HCA.out (by intro e; rw [e] at hlt; simp at hlt)
      obtain ⟨b2, o2, rfl, hb2, hc2⟩ := HCB.out (fun e => absurd (show ys.length = 0 from by rw [e]; rfl) (by omega))
      obtain ⟨x, hmx⟩ : ∃ x, xs[m]? = some x := ⟨_, List.getElem?_eq_getElem hlt⟩
      obtain ⟨y, hmy⟩ : ∃ y, ys[m]? = some y := ⟨_, List.getElem?_eq_getElem (by omega)⟩
      have HMX := Lib.hid hmx
      have HMY := Lib.hid hmy
      obtain ⟨x1f, x1t, x1k, x1a, ⟨x1fk, x1fa, x1fs⟩⟩ := x
      obtain ⟨y1f, y1t, y1k, y1a, ⟨y1fk, y1fa, y1fs⟩⟩ := y
      have hx0 := Lib.hid (fun (w3 : World) (hw : Ge wr w3) => ((hgw.trans hw).kp B |>.cell hb1 _).trans (hc1 m _ hmx 0 _ rfl))
      have hy0 := Lib.hid (fun (w3 : World) (hw : Ge wr w3) => ((hgw.trans hw).kp B |>.cell hb2 _).trans (hc2 m _ hmy 0 _ rfl))
      have hx1 := Lib.hid (fun (w3 : World) (hw : Ge wr w3) => ((hgw.trans hw).kp B |>.cell hb1 _).trans (hc1 m _ hmx 1 _ rfl))
      have hy1 := Lib.hid (fun (w3 : World) (hw : Ge wr w3) => ((hgw.trans hw).kp B |>.cell hb2 _).trans (hc2 m _ hmy 1 _ rfl))
      have hx2 := Lib.hid (fun (w3 : World) (hw : Ge wr w3) => ((hgw.trans hw).kp B |>.cell hb1 _).trans (hc1 m _ hmx 2 _ rfl))
      have hy2 := Lib.hid (fun (w3 : World) (hw : Ge wr w3) => ((hgw.trans hw).kp B |>.cell hb2 _).trans (hc2 m _ hmy 2 _ rfl))
      have hx3 := Lib.hid (fun (w3 : World) (hw : Ge wr w3) => ((hgw.trans hw).kp B |>.cell hb1 _).trans (hc1 m _ hmx 3 _ rfl))
      have hy3 := Lib.hid (fun (w3 : World) (hw : Ge wr w3) => ((hgw.trans hw).kp B |>.cell hb2 _).trans (hc2 m _ hmy 3 _ rfl))
      have hx4 := Lib.hid (fun (w3 : World) (hw : Ge wr w3) => ((hgw.trans hw).kp B |>.cell hb1 _).trans (hc1 m _ hmx 4 _ rfl))
      have hy4 := Lib.hid (fun (w3 : World) (hw : Ge wr w3) => ((hgw.trans hw).kp B |>.cell hb2 _).trans (hc2 m _ hmy 4 _ rfl))
      have hx5 := Lib.hid (fun (w3 : World) (hw : Ge wr w3) => ((hgw.trans hw).kp B |>.cell hb1 _).trans (hc1 m _ hmx 5 _ rfl))
      have hy5 := Lib.hid (fun (w3 : World) (hw : Ge wr w3) => ((hgw.trans hw).kp B |>.cell hb2 _).trans (hc2 m _ hmy 5 _ rfl))
      have hx6 := Lib.hid (fun (w3 : World) (hw : Ge wr w3) => ((hgw.trans hw).kp B |>.cell hb1 _).trans (hc1 m _ hmx 6 _ rfl))
      have hy6 := Lib.hid (fun (w3 : World) (hw : Ge wr w3) => ((hgw.trans hw).kp B |>.cell hb2 _).trans (hc2 m _ hmy 6 _ rfl))
      simp only [eM, Nat.add_zero] at hx0 hy0 hx1 hy1 hx2 hy2 hx3 hy3 hx4 hy4 hx5 hy5 hx6 hy6
      have i1 : (0 : Int) ≤ (m : Int) := by omega
      have i2 : (m : Int) < (xs.length : Int) := by omega
      have i3 : (m : Int) < (ys.length : Int) := by omega
      clear hc1 hc2 hmx hmy hgw hb1 hb2
      by_cases hxy : (⟨x1f, x1t, x1k, x1a, ⟨x1fk, x1fa, x1fs⟩⟩ : Mov) = ⟨y1f, y1t, y1k, y1a, ⟨y1fk, y1fa, y1fs⟩⟩
      · have he := neqM (⟨x1f, x1t, x1k, x1a, ⟨x1fk, x1fa, x1fs⟩⟩ : Mov) (⟨y1f, y1t, y1k, y1a, ⟨y1fk, y1fa, y1fs⟩⟩ : Mov)
        rw [show decide ((⟨x1f, x1t, x1k, x1a, ⟨x1fk, x1fa, x1fs⟩⟩ : Mov) = ⟨y1f, y1t, y1k, y1a, ⟨y1fk, y1fa, y1fs⟩⟩) = true from decide_eq_true hxy] at he
        simp only [encM, Bool.not_true] at he
        have HXY := Lib.hid hxy
        clear hxy
        go_wp2
        refine Dr.wp_region_T (by kernel_rfl) (by kernel_rfl) ?_
        iterate 9 (apply Dr.wpT_det; · (intro u w3 hw hF; clear hF; have p0 := hx0.out w3 hw; have q0 := hy0.out w3 hw; have p1 := hx1.out w3 hw; have q1 := hy1.out w3 hw; have p2 := hx2.out w3 hw; have q2 := hy2.out w3 hw; have p3 := hx3.out w3 hw; have q3 := hy3.out w3 hw; have p4 := hx4.out w3 hw; have q4 := hy4.out w3 hw; have p5 := hx5.out w3 hw; have q5 := hy5.out w3 hw; have p6 := hx6.out w3 hw; have q6 := hy6.out w3 hw; go_simp; first | exact ⟨Ge.refl _, rfl⟩ | exact Ge.refl _ | rfl))
        intro u w3 hw hF
        clear hF
        have G3 := Lib.hid (HG.out.trans hw)
        clear hw
        simp only [Act.put, List.setIfInBounds_toArray, List.set_cons_zero, List.set_cons_succ]
        go_wp2
        go_roundw
        case rel => exact ⟨m + 1, by omega, by go_num, take_next HT.out HMX.out (by rw [HMY.out, HXY.out]), G3.out⟩
        case measure => simp [intOf]; omega
      · have he := neqM (⟨x1f, x1t, x1k, x1a, ⟨x1fk, x1fa, x1fs⟩⟩ : Mov) (⟨y1f, y1t, y1k, y1a, ⟨y1fk, y1fa, y1fs⟩⟩ : Mov)
        rw [show decide ((⟨x1f, x1t, x1k, x1a, ⟨x1fk, x1fa, x1fs⟩⟩ : Mov) = ⟨y1f, y1t, y1k, y1a, ⟨y1fk, y1fa, y1fs⟩⟩) = false from decide_eq_false hxy] at he
        simp only [encM, Bool.not_false] at he
        have HXY := Lib.hid hxy
        clear hxy
        go_wp2
        refine Dr.wp_region_T (by kernel_rfl) (by kernel_rfl) ?_
        iterate 9 (apply Dr.wpT_det; · (intro u w3 hw hF; clear hF; have p0 := hx0.out w3 hw; have q0 := hy0.out w3 hw; have p1 := hx1.out w3 hw; have q1 := hy1.out w3 hw; have p2 := hx2.out w3 hw; have q2 := hy2.out w3 hw; have p3 := hx3.out w3 hw; have q3 := hy3.out w3 hw; have p4 := hx4.out w3 hw; have q4 := hy4.out w3 hw; have p5 := hx5.out w3 hw; have q5 := hy5.out w3 hw; have p6 := hx6.out w3 hw; have q6 := hy6.out w3 hw; go_simp; first | exact ⟨Ge.refl _, rfl⟩ | exact Ge.refl _ | rfl))
        intro u w3 hw hF
        clear hF
        have G3 := Lib.hid (HG.out.trans hw)
        have hd := Lib.hid (show decide (xs = ys) = false from decide_eq_false (ne_next HXY.out HMX.out HMY.out))
        clear hw
        simp only [Act.put, List.setIfInBounds_toArray, List.set_cons_zero, List.set_cons_succ]
        go_wp2
        go_returns
        exact ⟨by rw [hd.out]; rfl, G3.out⟩
    · have hml : m = xs.length := by omega
      have hd := Lib.hid (show decide (xs = ys) = true from decide_eq_true (by
        have := HT.out
        rw [hml, List.take_length, HL.out, List.take_length] at this
        exact this))
      have hdm : decide ((m : Int) < (xs.length : Int)) = false := by simp; omega
      clear hml hgw
      go_wp2
      go_returns
      exact ⟨by rw [hd.out]; rfl, HG.out⟩

set_option maxRecDepth 100000 in
set_option maxHeartbeats 8000000 in
theorem reqR {B : Nat} {w : World} {a b : Value} {xs ys : List (Rc)} (ha : LAt eR B w a xs) (hb : LAt eR B w b ys) (hl : xs.length ≤ 1000000000) :
    Calls Tryd.prog 34 #[a, b] w fun e w' => e = .returned (.bool (decide (xs = ys))) ∧ Ge w w' := by
  obtain ⟨A, ca, rfl, hlea, hca⟩ := ha
  obtain ⟨C, cb, rfl, hleb, hcb⟩ := hb
  have HCA := Lib.hid hca
  have HCB := Lib.hid hcb
  clear hca hcb
  by_cases hlen : xs.length = ys.length
  rotate_left
  · have hn : ((xs.length : Int) != (ys.length : Int)) = true := by simp; omega
    have hd := Lib.hid (show decide (xs = ys) = false from decide_eq_false fun e => hlen (by rw [e]))
    clear hlen
    go_enter Tryd.func34, Tryd.ntmps34
    go_wp2
    go_returns
    exact ⟨by rw [hd.out]; rfl, Ge.refl _⟩
  have hn : ((xs.length : Int) != (ys.length : Int)) = false := by rw [hlen]; simp
  have HL := Lib.hid hlen
  have hly : ys.length ≤ xs.length := by omega
  have hlx : xs.length ≤ ys.length := by omega
  clear hlen
  go_enter Tryd.func34, Tryd.ntmps34
  go_wp2
  go_loopw [5] (fun i wr => ∃ m : Nat, m ≤ xs.length ∧ i = .int .i64 (m : Int) ∧ xs.take m = ys.take m ∧ Ge w wr) (fun i _ => xs.length - (intOf i).toNat)
  case atStart => exact ⟨0, by omega, rfl, rfl, Ge.refl _⟩
  case round =>
    obtain ⟨m, hm, rfl, htk, hgw⟩ := hrel
    have HT := Lib.hid htk
    have HG := Lib.hid hgw
    clear htk
    by_cases hlt : m < xs.length
    · obtain ⟨b1, o1, rfl, hb1, hc1⟩ := HCA.out (by intro e; rw [e] at hlt; simp at hlt)
      obtain ⟨b2, o2, rfl, hb2, hc2⟩ := HCB.out (fun e => absurd (show ys.length = 0 from by rw [e]; rfl) (by omega))
      obtain ⟨x, hmx⟩ : ∃ x, xs[m]? = some x := ⟨_, List.getElem?_eq_getElem hlt⟩
      obtain ⟨y, hmy⟩ : ∃ y, ys[m]? = some y := ⟨_, List.getElem?_eq_getElem (by omega)⟩
      have HMX := Lib.hid hmx
      have HMY := Lib.hid hmy
      obtain ⟨x1n, x1s⟩ := x
      obtain ⟨y1n, y1s⟩ := y
      have hx0 := Lib.hid (fun (w3 : World) (hw : Ge wr w3) => ((hgw.trans hw).kp B |>.cell hb1 _).trans (hc1 m _ hmx 0 _ rfl))
      have hy0 := Lib.hid (fun (w3 : World) (hw : Ge wr w3) => ((hgw.trans hw).kp B |>.cell hb2 _).trans (hc2 m _ hmy 0 _ rfl))
      have hx1 := Lib.hid (fun (w3 : World) (hw : Ge wr w3) => ((hgw.trans hw).kp B |>.cell hb1 _).trans (hc1 m _ hmx 1 _ rfl))
      have hy1 := Lib.hid (fun (w3 : World) (hw : Ge wr w3) => ((hgw.trans hw).kp B |>.cell hb2 _).trans (hc2 m _ hmy 1 _ rfl))
      simp only [eR, Nat.add_zero] at hx0 hy0 hx1 hy1
      have i1 : (0 : Int) ≤ (m : Int) := by omega
      have i2 : (m : Int) < (xs.length : Int) := by omega
      have i3 : (m : Int) < (ys.length : Int) := by omega
      clear hc1 hc2 hmx hmy hgw hb1 hb2
      by_cases hxy : (⟨x1n, x1s⟩ : Rc) = ⟨y1n, y1s⟩
      · have he := neqR (⟨x1n, x1s⟩ : Rc) (⟨y1n, y1s⟩ : Rc)
        rw [show decide ((⟨x1n, x1s⟩ : Rc) = ⟨y1n, y1s⟩) = true from decide_eq_true hxy] at he
        simp only [encR, Bool.not_true] at he
        have HXY := Lib.hid hxy
        clear hxy
        go_wp2
        refine Dr.wp_region_T (by kernel_rfl) (by kernel_rfl) ?_
        iterate 9 (apply Dr.wpT_det; · (intro u w3 hw hF; clear hF; have p0 := hx0.out w3 hw; have q0 := hy0.out w3 hw; have p1 := hx1.out w3 hw; have q1 := hy1.out w3 hw; go_simp; first | exact ⟨Ge.refl _, rfl⟩ | exact Ge.refl _ | rfl))
        intro u w3 hw hF
        clear hF
        have G3 := Lib.hid (HG.out.trans hw)
        clear hw
        simp only [Act.put, List.setIfInBounds_toArray, List.set_cons_zero, List.set_cons_succ]
        go_wp2
        go_roundw
        case rel => exact ⟨m + 1, by omega, by go_num, take_next HT.out HMX.out (by rw [HMY.out, HXY.out]), G3.out⟩
        case measure => simp [intOf]; omega
      · have he := neqR (⟨x1n, x1s⟩ : Rc) (⟨y1n, y1s⟩ : Rc)
        rw [show decide ((⟨x1n, x1s⟩ : Rc) = ⟨y1n, y1s⟩) = false from decide_eq_false hxy] at he
        simp only [encR, Bool.not_false] at he
        have HXY := Lib.hid hxy
        clear hxy
        go_wp2
        refine Dr.wp_region_T (by kernel_rfl) (by kernel_rfl) ?_
        iterate 9 (apply Dr.wpT_det; · (intro u w3 hw hF; clear hF; have p0 := hx0.out w3 hw; have q0 := hy0.out w3 hw; have p1 := hx1.out w3 hw; have q1 := hy1.out w3 hw; go_simp; first | exact ⟨Ge.refl _, rfl⟩ | exact Ge.refl _ | rfl))
        intro u w3 hw hF
        clear hF
        have G3 := Lib.hid (HG.out.trans hw)
        have hd := Lib.hid (show decide (xs = ys) = false from decide_eq_false (ne_next HXY.out HMX.out HMY.out))
        clear hw
        simp only [Act.put, List.setIfInBounds_toArray, List.set_cons_zero, List.set_cons_succ]
        go_wp2
        go_returns
        exact ⟨by rw [hd.out]; rfl, G3.out⟩
    · have hml : m = xs.length := by omega
      have hd := Lib.hid (show decide (xs = ys) = true from decide_eq_true (by
        have := HT.out
        rw [hml, List.take_length, HL.out, List.take_length] at this
        exact this))
      have hdm : decide ((m : Int) < (xs.length : Int)) = false := by simp; omega
      clear hml hgw
      go_wp2
      go_returns
      exact ⟨by rw [hd.out]; rfl, HG.out⟩

set_option maxRecDepth 100000 in
set_option maxHeartbeats 8000000 in
theorem reqC {B : Nat} {w : World} {a b : Value} {xs ys : List (Chg)} (ha : LAt eC B w a xs) (hb : LAt eC B w b ys) (hl : xs.length ≤ 1000000000) :
    Calls Tryd.prog 35 #[a, b] w fun e w' => e = .returned (.bool (decide (xs = ys))) ∧ Ge w w' := by
  obtain ⟨A, ca, rfl, hlea, hca⟩ := ha
  obtain ⟨C, cb, rfl, hleb, hcb⟩ := hb
  have HCA := Lib.hid hca
  have HCB := Lib.hid hcb
  clear hca hcb
  by_cases hlen : xs.length = ys.length
  rotate_left
  · have hn : ((xs.length : Int) != (ys.length : Int)) = true := by simp; omega
    have hd := Lib.hid (show decide (xs = ys) = false from decide_eq_false fun e => hlen (by rw [e]))
    clear hlen
    go_enter Tryd.func35, Tryd.ntmps35
    go_wp2
    go_returns
    exact ⟨by rw [hd.out]; rfl, Ge.refl _⟩
  have hn : ((xs.length : Int) != (ys.length : Int)) = false := by rw [hlen]; simp
  have HL := Lib.hid hlen
  have hly : ys.length ≤ xs.length := by omega
  have hlx : xs.length ≤ ys.length := by omega
  clear hlen
  go_enter Tryd.func35, Tryd.ntmps35
  go_wp2
  go_loopw [5] (fun i wr => ∃ m : Nat, m ≤ xs.length ∧ i = .int .i64 (m : Int) ∧ xs.take m = ys.take m ∧ Ge w wr) (fun i _ => xs.length - (intOf i).toNat)
  case atStart => exact ⟨0, by omega, rfl, rfl, Ge.refl _⟩
  case round =>
    obtain ⟨m, hm, rfl, htk, hgw⟩ := hrel
    have HT := Lib.hid htk
    have HG := Lib.hid hgw
    clear htk
    by_cases hlt : m < xs.length
    · obtain ⟨b1, o1, rfl, hb1, hc1⟩ := HCA.out (by intro e; rw [e] at hlt; simp at hlt)
      obtain ⟨b2, o2, rfl, hb2, hc2⟩ := HCB.out (fun e => absurd (show ys.length = 0 from by rw [e]; rfl) (by omega))
      obtain ⟨x, hmx⟩ : ∃ x, xs[m]? = some x := ⟨_, List.getElem?_eq_getElem hlt⟩
      obtain ⟨y, hmy⟩ : ∃ y, ys[m]? = some y := ⟨_, List.getElem?_eq_getElem (by omega)⟩
      have HMX := Lib.hid hmx
      have HMY := Lib.hid hmy
      obtain ⟨x1n, x1p, ⟨x1e, x1d, x1l0, x1l1, x1l2, x1l3⟩, x1c⟩ := x
      obtain ⟨y1n, y1p, ⟨y1e, y1d, y1l0, y1l1, y1l2, y1l3⟩, y1c⟩ := y
      have hx0 := Lib.hid (fun (w3 : World) (hw : Ge wr w3) => ((hgw.trans hw).kp B |>.cell hb1 _).trans (hc1 m _ hmx 0 _ rfl))
      have hy0 := Lib.hid (fun (w3 : World) (hw : Ge wr w3) => ((hgw.trans hw).kp B |>.cell hb2 _).trans (hc2 m _ hmy 0 _ rfl))
      have hx1 := Lib.hid (fun (w3 : World) (hw : Ge wr w3) => ((hgw.trans hw).kp B |>.cell hb1 _).trans (hc1 m _ hmx 1 _ rfl))
      have hy1 := Lib.hid (fun (w3 : World) (hw : Ge wr w3) => ((hgw.trans hw).kp B |>.cell hb2 _).trans (hc2 m _ hmy 1 _ rfl))
      have hx2 := Lib.hid (fun (w3 : World) (hw : Ge wr w3) => ((hgw.trans hw).kp B |>.cell hb1 _).trans (hc1 m _ hmx 2 _ rfl))
      have hy2 := Lib.hid (fun (w3 : World) (hw : Ge wr w3) => ((hgw.trans hw).kp B |>.cell hb2 _).trans (hc2 m _ hmy 2 _ rfl))
      have hx3 := Lib.hid (fun (w3 : World) (hw : Ge wr w3) => ((hgw.trans hw).kp B |>.cell hb1 _).trans (hc1 m _ hmx 3 _ rfl))
      have hy3 := Lib.hid (fun (w3 : World) (hw : Ge wr w3) => ((hgw.trans hw).kp B |>.cell hb2 _).trans (hc2 m _ hmy 3 _ rfl))
      have hx4 := Lib.hid (fun (w3 : World) (hw : Ge wr w3) => ((hgw.trans hw).kp B |>.cell hb1 _).trans (hc1 m _ hmx 4 _ rfl))
      have hy4 := Lib.hid (fun (w3 : World) (hw : Ge wr w3) => ((hgw.trans hw).kp B |>.cell hb2 _).trans (hc2 m _ hmy 4 _ rfl))
      have hx5 := Lib.hid (fun (w3 : World) (hw : Ge wr w3) => ((hgw.trans hw).kp B |>.cell hb1 _).trans (hc1 m _ hmx 5 _ rfl))
      have hy5 := Lib.hid (fun (w3 : World) (hw : Ge wr w3) => ((hgw.trans hw).kp B |>.cell hb2 _).trans (hc2 m _ hmy 5 _ rfl))
      have hx6 := Lib.hid (fun (w3 : World) (hw : Ge wr w3) => ((hgw.trans hw).kp B |>.cell hb1 _).trans (hc1 m _ hmx 6 _ rfl))
      have hy6 := Lib.hid (fun (w3 : World) (hw : Ge wr w3) => ((hgw.trans hw).kp B |>.cell hb2 _).trans (hc2 m _ hmy 6 _ rfl))
      have hx7 := Lib.hid (fun (w3 : World) (hw : Ge wr w3) => ((hgw.trans hw).kp B |>.cell hb1 _).trans (hc1 m _ hmx 7 _ rfl))
      have hy7 := Lib.hid (fun (w3 : World) (hw : Ge wr w3) => ((hgw.trans hw).kp B |>.cell hb2 _).trans (hc2 m _ hmy 7 _ rfl))
      have hx8 := Lib.hid (fun (w3 : World) (hw : Ge wr w3) => ((hgw.trans hw).kp B |>.cell hb1 _).trans (hc1 m _ hmx 8 _ rfl))
      have hy8 := Lib.hid (fun (w3 : World) (hw : Ge wr w3) => ((hgw.trans hw).kp B |>.cell hb2 _).trans (hc2 m _ hmy 8 _ rfl))
      simp only [eC, Nat.add_zero] at hx0 hy0 hx1 hy1 hx2 hy2 hx3 hy3 hx4 hy4 hx5 hy5 hx6 hy6 hx7 hy7 hx8 hy8
      have i1 : (0 : Int) ≤ (m : Int) := by omega
      have i2 : (m : Int) < (xs.length : Int) := by omega
      have i3 : (m : Int) < (ys.length : Int) := by omega
      clear hc1 hc2 hmx hmy hgw hb1 hb2
      by_cases hxy : (⟨x1n, x1p, ⟨x1e, x1d, x1l0, x1l1, x1l2, x1l3⟩, x1c⟩ : Chg) = ⟨y1n, y1p, ⟨y1e, y1d, y1l0, y1l1, y1l2, y1l3⟩, y1c⟩
      · have he := neqC (⟨x1n, x1p, ⟨x1e, x1d, x1l0, x1l1, x1l2, x1l3⟩, x1c⟩ : Chg) (⟨y1n, y1p, ⟨y1e, y1d, y1l0, y1l1, y1l2, y1l3⟩, y1c⟩ : Chg)
        rw [show decide ((⟨x1n, x1p, ⟨x1e, x1d, x1l0, x1l1, x1l2, x1l3⟩, x1c⟩ : Chg) = ⟨y1n, y1p, ⟨y1e, y1d, y1l0, y1l1, y1l2, y1l3⟩, y1c⟩) = true from decide_eq_true hxy] at he
        simp only [encC, Bool.not_true] at he
        have HXY := Lib.hid hxy
        clear hxy
        go_wp2
        refine Dr.wp_region_T (by kernel_rfl) (by kernel_rfl) ?_
        iterate 9 (apply Dr.wpT_det; · (intro u w3 hw hF; clear hF; have p0 := hx0.out w3 hw; have q0 := hy0.out w3 hw; have p1 := hx1.out w3 hw; have q1 := hy1.out w3 hw; have p2 := hx2.out w3 hw; have q2 := hy2.out w3 hw; have p3 := hx3.out w3 hw; have q3 := hy3.out w3 hw; have p4 := hx4.out w3 hw; have q4 := hy4.out w3 hw; have p5 := hx5.out w3 hw; have q5 := hy5.out w3 hw; have p6 := hx6.out w3 hw; have q6 := hy6.out w3 hw; have p7 := hx7.out w3 hw; have q7 := hy7.out w3 hw; have p8 := hx8.out w3 hw; have q8 := hy8.out w3 hw; go_simp; first | exact ⟨Ge.refl _, rfl⟩ | exact Ge.refl _ | rfl))
        intro u w3 hw hF
        clear hF
        have G3 := Lib.hid (HG.out.trans hw)
        clear hw
        simp only [Act.put, List.setIfInBounds_toArray, List.set_cons_zero, List.set_cons_succ]
        go_wp2
        go_roundw
        case rel => exact ⟨m + 1, by omega, by go_num, take_next HT.out HMX.out (by rw [HMY.out, HXY.out]), G3.out⟩
        case measure => simp [intOf]; omega
      · have he := neqC (⟨x1n, x1p, ⟨x1e, x1d, x1l0, x1l1, x1l2, x1l3⟩, x1c⟩ : Chg) (⟨y1n, y1p, ⟨y1e, y1d, y1l0, y1l1, y1l2, y1l3⟩, y1c⟩ : Chg)
        rw [show decide ((⟨x1n, x1p, ⟨x1e, x1d, x1l0, x1l1, x1l2, x1l3⟩, x1c⟩ : Chg) = ⟨y1n, y1p, ⟨y1e, y1d, y1l0, y1l1, y1l2, y1l3⟩, y1c⟩) = false from decide_eq_false hxy] at he
        simp only [encC, Bool.not_false] at he
        have HXY := Lib.hid hxy
        clear hxy
        go_wp2
        refine Dr.wp_region_T (by kernel_rfl) (by kernel_rfl) ?_
        iterate 9 (apply Dr.wpT_det; · (intro u w3 hw hF; clear hF; have p0 := hx0.out w3 hw; have q0 := hy0.out w3 hw; have p1 := hx1.out w3 hw; have q1 := hy1.out w3 hw; have p2 := hx2.out w3 hw; have q2 := hy2.out w3 hw; have p3 := hx3.out w3 hw; have q3 := hy3.out w3 hw; have p4 := hx4.out w3 hw; have q4 := hy4.out w3 hw; have p5 := hx5.out w3 hw; have q5 := hy5.out w3 hw; have p6 := hx6.out w3 hw; have q6 := hy6.out w3 hw; have p7 := hx7.out w3 hw; have q7 := hy7.out w3 hw; have p8 := hx8.out w3 hw; have q8 := hy8.out w3 hw; go_simp; first | exact ⟨Ge.refl _, rfl⟩ | exact Ge.refl _ | rfl))
        intro u w3 hw hF
        clear hF
        have G3 := Lib.hid (HG.out.trans hw)
        have hd := Lib.hid (show decide (xs = ys) = false from decide_eq_false (ne_next HXY.out HMX.out HMY.out))
        clear hw
        simp only [Act.put, List.setIfInBounds_toArray, List.set_cons_zero, List.set_cons_succ]
        go_wp2
        go_returns
        exact ⟨by rw [hd.out]; rfl, G3.out⟩
    · have hml : m = xs.length := by omega
      have hd := Lib.hid (show decide (xs = ys) = true from decide_eq_true (by
        have := HT.out
        rw [hml, List.take_length, HL.out, List.take_length] at this
        exact this))
      have hdm : decide ((m : Int) < (xs.length : Int)) = false := by simp; omega
      clear hml hgw
      go_wp2
      go_returns
      exact ⟨by rw [hd.out]; rfl, HG.out⟩

set_option maxRecDepth 100000 in
set_option maxHeartbeats 8000000 in
theorem reqE {B : Nat} {w : World} {a b : Value} {xs ys : List (Ent)} (ha : LAt eE B w a xs) (hb : LAt eE B w b ys) (hl : xs.length ≤ 1000000000) :
    Calls Tryd.prog 37 #[a, b] w fun e w' => e = .returned (.bool (decide (xs = ys))) ∧ Ge w w' := by
  obtain ⟨A, ca, rfl, hlea, hca⟩ := ha
  obtain ⟨C, cb, rfl, hleb, hcb⟩ := hb
  have HCA := Lib.hid hca
  have HCB := Lib.hid hcb
  clear hca hcb
  by_cases hlen : xs.length = ys.length
  rotate_left
  · have hn : ((xs.length : Int) != (ys.length : Int)) = true := by simp; omega
    have hd := Lib.hid (show decide (xs = ys) = false from decide_eq_false fun e => hlen (by rw [e]))
    clear hlen
    go_enter Tryd.func37, Tryd.ntmps37
    go_wp2
    go_returns
    exact ⟨by rw [hd.out]; rfl, Ge.refl _⟩
  have hn : ((xs.length : Int) != (ys.length : Int)) = false := by rw [hlen]; simp
  have HL := Lib.hid hlen
  have hly : ys.length ≤ xs.length := by omega
  have hlx : xs.length ≤ ys.length := by omega
  clear hlen
  go_enter Tryd.func37, Tryd.ntmps37
  go_wp2
  go_loopw [5] (fun i wr => ∃ m : Nat, m ≤ xs.length ∧ i = .int .i64 (m : Int) ∧ xs.take m = ys.take m ∧ Ge w wr) (fun i _ => xs.length - (intOf i).toNat)
  case atStart => exact ⟨0, by omega, rfl, rfl, Ge.refl _⟩
  case round =>
    obtain ⟨m, hm, rfl, htk, hgw⟩ := hrel
    have HT := Lib.hid htk
    have HG := Lib.hid hgw
    clear htk
    by_cases hlt : m < xs.length
    · obtain ⟨b1, o1, rfl, hb1, hc1⟩ := HCA.out (by intro e; rw [e] at hlt; simp at hlt)
      obtain ⟨b2, o2, rfl, hb2, hc2⟩ := HCB.out (fun e => absurd (show ys.length = 0 from by rw [e]; rfl) (by omega))
      obtain ⟨x, hmx⟩ : ∃ x, xs[m]? = some x := ⟨_, List.getElem?_eq_getElem hlt⟩
      obtain ⟨y, hmy⟩ : ∃ y, ys[m]? = some y := ⟨_, List.getElem?_eq_getElem (by omega)⟩
      have HMX := Lib.hid hmx
      have HMY := Lib.hid hmy
      obtain ⟨x1o, x1k, x1s, x1n⟩ := x
      obtain ⟨y1o, y1k, y1s, y1n⟩ := y
      have hx0 := Lib.hid (fun (w3 : World) (hw : Ge wr w3) => ((hgw.trans hw).kp B |>.cell hb1 _).trans (hc1 m _ hmx 0 _ rfl))
      have hy0 := Lib.hid (fun (w3 : World) (hw : Ge wr w3) => ((hgw.trans hw).kp B |>.cell hb2 _).trans (hc2 m _ hmy 0 _ rfl))
      have hx1 := Lib.hid (fun (w3 : World) (hw : Ge wr w3) => ((hgw.trans hw).kp B |>.cell hb1 _).trans (hc1 m _ hmx 1 _ rfl))
      have hy1 := Lib.hid (fun (w3 : World) (hw : Ge wr w3) => ((hgw.trans hw).kp B |>.cell hb2 _).trans (hc2 m _ hmy 1 _ rfl))
      have hx2 := Lib.hid (fun (w3 : World) (hw : Ge wr w3) => ((hgw.trans hw).kp B |>.cell hb1 _).trans (hc1 m _ hmx 2 _ rfl))
      have hy2 := Lib.hid (fun (w3 : World) (hw : Ge wr w3) => ((hgw.trans hw).kp B |>.cell hb2 _).trans (hc2 m _ hmy 2 _ rfl))
      have hx3 := Lib.hid (fun (w3 : World) (hw : Ge wr w3) => ((hgw.trans hw).kp B |>.cell hb1 _).trans (hc1 m _ hmx 3 _ rfl))
      have hy3 := Lib.hid (fun (w3 : World) (hw : Ge wr w3) => ((hgw.trans hw).kp B |>.cell hb2 _).trans (hc2 m _ hmy 3 _ rfl))
      simp only [eE, Nat.add_zero] at hx0 hy0 hx1 hy1 hx2 hy2 hx3 hy3
      have i1 : (0 : Int) ≤ (m : Int) := by omega
      have i2 : (m : Int) < (xs.length : Int) := by omega
      have i3 : (m : Int) < (ys.length : Int) := by omega
      clear hc1 hc2 hmx hmy hgw hb1 hb2
      by_cases hxy : (⟨x1o, x1k, x1s, x1n⟩ : Ent) = ⟨y1o, y1k, y1s, y1n⟩
      · have he := neqE (⟨x1o, x1k, x1s, x1n⟩ : Ent) (⟨y1o, y1k, y1s, y1n⟩ : Ent)
        rw [show decide ((⟨x1o, x1k, x1s, x1n⟩ : Ent) = ⟨y1o, y1k, y1s, y1n⟩) = true from decide_eq_true hxy] at he
        simp only [encE, Bool.not_true] at he
        have HXY := Lib.hid hxy
        clear hxy
        go_wp2
        refine Dr.wp_region_T (by kernel_rfl) (by kernel_rfl) ?_
        iterate 9 (apply Dr.wpT_det; · (intro u w3 hw hF; clear hF; have p0 := hx0.out w3 hw; have q0 := hy0.out w3 hw; have p1 := hx1.out w3 hw; have q1 := hy1.out w3 hw; have p2 := hx2.out w3 hw; have q2 := hy2.out w3 hw; have p3 := hx3.out w3 hw; have q3 := hy3.out w3 hw; go_simp; first | exact ⟨Ge.refl _, rfl⟩ | exact Ge.refl _ | rfl))
        intro u w3 hw hF
        clear hF
        have G3 := Lib.hid (HG.out.trans hw)
        clear hw
        simp only [Act.put, List.setIfInBounds_toArray, List.set_cons_zero, List.set_cons_succ]
        go_wp2
        go_roundw
        case rel => exact ⟨m + 1, by omega, by go_num, take_next HT.out HMX.out (by rw [HMY.out, HXY.out]), G3.out⟩
        case measure => simp [intOf]; omega
      · have he := neqE (⟨x1o, x1k, x1s, x1n⟩ : Ent) (⟨y1o, y1k, y1s, y1n⟩ : Ent)
        rw [show decide ((⟨x1o, x1k, x1s, x1n⟩ : Ent) = ⟨y1o, y1k, y1s, y1n⟩) = false from decide_eq_false hxy] at he
        simp only [encE, Bool.not_false] at he
        have HXY := Lib.hid hxy
        clear hxy
        go_wp2
        refine Dr.wp_region_T (by kernel_rfl) (by kernel_rfl) ?_
        iterate 9 (apply Dr.wpT_det; · (intro u w3 hw hF; clear hF; have p0 := hx0.out w3 hw; have q0 := hy0.out w3 hw; have p1 := hx1.out w3 hw; have q1 := hy1.out w3 hw; have p2 := hx2.out w3 hw; have q2 := hy2.out w3 hw; have p3 := hx3.out w3 hw; have q3 := hy3.out w3 hw; go_simp; first | exact ⟨Ge.refl _, rfl⟩ | exact Ge.refl _ | rfl))
        intro u w3 hw hF
        clear hF
        have G3 := Lib.hid (HG.out.trans hw)
        have hd := Lib.hid (show decide (xs = ys) = false from decide_eq_false (ne_next HXY.out HMX.out HMY.out))
        clear hw
        simp only [Act.put, List.setIfInBounds_toArray, List.set_cons_zero, List.set_cons_succ]
        go_wp2
        go_returns
        exact ⟨by rw [hd.out]; rfl, G3.out⟩
    · have hml : m = xs.length := by omega
      have hd := Lib.hid (show decide (xs = ys) = true from decide_eq_true (by
        have := HT.out
        rw [hml, List.take_length, HL.out, List.take_length] at this
        exact this))
      have hdm : decide ((m : Int) < (xs.length : Int)) = false := by simp; omega
      clear hml hgw
      go_wp2
      go_returns
      exact ⟨by rw [hd.out]; rfl, HG.out⟩

set_option maxRecDepth 100000 in
set_option maxHeartbeats 8000000 in
theorem reqI {B : Nat} {w : World} {a b : Value} {xs ys : List (Int)} (ha : LAt eI B w a xs) (hb : LAt eI B w b ys) (hl : xs.length ≤ 1000000000) :
    Calls Tryd.prog 61 #[a, b] w fun e w' => e = .returned (.bool (decide (xs = ys))) ∧ Ge w w' := by
  obtain ⟨A, ca, rfl, hlea, hca⟩ := ha
  obtain ⟨C, cb, rfl, hleb, hcb⟩ := hb
  have HCA := Lib.hid hca
  have HCB := Lib.hid hcb
  clear hca hcb
  by_cases hlen : xs.length = ys.length
  rotate_left
  · have hn : ((xs.length : Int) != (ys.length : Int)) = true := by simp; omega
    have hd := Lib.hid (show decide (xs = ys) = false from decide_eq_false fun e => hlen (by rw [e]))
    clear hlen
    go_enter Tryd.func61, Tryd.ntmps61
    go_wp2
    go_returns
    exact ⟨by rw [hd.out]; rfl, Ge.refl _⟩
  have hn : ((xs.length : Int) != (ys.length : Int)) = false := by rw [hlen]; simp
  have HL := Lib.hid hlen
  have hly : ys.length ≤ xs.length := by omega
  have hlx : xs.length ≤ ys.length := by omega
  clear hlen
  go_enter Tryd.func61, Tryd.ntmps61
  go_wp2
  go_loopw [5] (fun i wr => ∃ m : Nat, m ≤ xs.length ∧ i = .int .i64 (m : Int) ∧ xs.take m = ys.take m ∧ Ge w wr) (fun i _ => xs.length - (intOf i).toNat)
  case atStart => exact ⟨0, by omega, rfl, rfl, Ge.refl _⟩
  case round =>
    obtain ⟨m, hm, rfl, htk, hgw⟩ := hrel
    have HT := Lib.hid htk
    have HG := Lib.hid hgw
    clear htk
    by_cases hlt : m < xs.length
    · obtain ⟨b1, o1, rfl, hb1, hc1⟩ := HCA.out (by intro e; rw [e] at hlt; simp at hlt)
      obtain ⟨b2, o2, rfl, hb2, hc2⟩ := HCB.out (fun e => absurd (show ys.length = 0 from by rw [e]; rfl) (by omega))
      obtain ⟨x1, hmx⟩ : ∃ x, xs[m]? = some x := ⟨_, List.getElem?_eq_getElem hlt⟩
      obtain ⟨y1, hmy⟩ : ∃ y, ys[m]? = some y := ⟨_, List.getElem?_eq_getElem (by omega)⟩
      have HMX := Lib.hid hmx
      have HMY := Lib.hid hmy
      have hx0 := Lib.hid (fun (w3 : World) (hw : Ge wr w3) => ((hgw.trans hw).kp B |>.cell hb1 _).trans (hc1 m _ hmx 0 _ rfl))
      have hy0 := Lib.hid (fun (w3 : World) (hw : Ge wr w3) => ((hgw.trans hw).kp B |>.cell hb2 _).trans (hc2 m _ hmy 0 _ rfl))
      simp only [eI, Nat.mul_one, Nat.add_zero] at hx0 hy0
      have i1 : (0 : Int) ≤ (m : Int) := by omega
      have i2 : (m : Int) < (xs.length : Int) := by omega
      have i3 : (m : Int) < (ys.length : Int) := by omega
      clear hc1 hc2 hmx hmy hgw hb1 hb2
      by_cases hxy : (x1 : Int) = y1
      · have he : (x1 != y1) = false := by rw [hxy]; simp
        have HXY := Lib.hid hxy
        clear hxy
        go_wp2
        refine Dr.wp_region_T (by kernel_rfl) (by kernel_rfl) ?_
        iterate 9 (apply Dr.wpT_det; · (intro u w3 hw hF; clear hF; have p0 := hx0.out w3 hw; have q0 := hy0.out w3 hw; go_simp; first | exact ⟨Ge.refl _, rfl⟩ | exact Ge.refl _ | rfl))
        intro u w3 hw hF
        clear hF
        have G3 := Lib.hid (HG.out.trans hw)
        clear hw
        simp only [Act.put, List.setIfInBounds_toArray, List.set_cons_zero, List.set_cons_succ]
        go_wp2
        go_roundw
        case rel => exact ⟨m + 1, by omega, by go_num, take_next HT.out HMX.out (by rw [HMY.out, HXY.out]), G3.out⟩
        case measure => simp [intOf]; omega
      · have he : (x1 != y1) = true := by simpa using hxy
        have HXY := Lib.hid hxy
        clear hxy
        go_wp2
        refine Dr.wp_region_T (by kernel_rfl) (by kernel_rfl) ?_
        iterate 9 (apply Dr.wpT_det; · (intro u w3 hw hF; clear hF; have p0 := hx0.out w3 hw; have q0 := hy0.out w3 hw; go_simp; first | exact ⟨Ge.refl _, rfl⟩ | exact Ge.refl _ | rfl))
        intro u w3 hw hF
        clear hF
        have G3 := Lib.hid (HG.out.trans hw)
        have hd := Lib.hid (show decide (xs = ys) = false from decide_eq_false (ne_next HXY.out HMX.out HMY.out))
        clear hw
        simp only [Act.put, List.setIfInBounds_toArray, List.set_cons_zero, List.set_cons_succ]
        go_wp2
        go_returns
        exact ⟨by rw [hd.out]; rfl, G3.out⟩
    · have hml : m = xs.length := by omega
      have hd := Lib.hid (show decide (xs = ys) = true from decide_eq_true (by
        have := HT.out
        rw [hml, List.take_length, HL.out, List.take_length] at this
        exact this))
      have hdm : decide ((m : Int) < (xs.length : Int)) = false := by simp; omega
      clear hml hgw
      go_wp2
      go_returns
      exact ⟨by rw [hd.out]; rfl, HG.out⟩
end Go.Proofs.YtmhibpmgnicolaaDoor
