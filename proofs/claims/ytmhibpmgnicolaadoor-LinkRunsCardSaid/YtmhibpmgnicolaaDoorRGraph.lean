/-
  The reference's equality of graphs (of lists of nodes).
-/
import Derived.Test.YtmhibpmgnicolaaDoorEqFunc
import Derived.Deep.RegionHeld3
namespace Go.Proofs.YtmhibpmgnicolaaDoor
open Go.RowKit
attribute [local go_sem] Dr.upT

/-- a node's plain fields -/
structure Flds (a : Nod) (i k : Int) (f : Fnv) (n : ByteArray) (c d : Int) : Prop where
  id : i = a.id
  kind : k = a.kind
  fn : f = a.fn
  name : n = a.name
  cap : c = a.cap
  d : d = a.d
theorem Flds.same {a b : Nod} {i k : Int} {f : Fnv} {n : ByteArray} {c d i' k' : Int} {f' : Fnv} {n' : ByteArray} {c' d' : Int} (h : Flds a i k f n c d) (h' : Flds b i' k' f' n' c' d') (e1 : i = i') (e2 : k = k') (e3 : f = f') (e4 : n = n') (e5 : c = c') (e6 : d = d') (e7 : a.ins = b.ins) : a = b := by
  obtain ⟨h1, h2, h3, h4, h5, h6⟩ := h
  obtain ⟨k1, k2, k3, k4, k5, k6⟩ := h'
  cases a
  cases b
  simp_all

set_option maxRecDepth 100000 in
set_option maxHeartbeats 16000000 in
theorem rgraph {B : Nat} {w : World} {va vb : Value} {ns ms : List Nod} (ha : PutAt B w va ns) (hb : PutAt B w vb ms) (hl : ns.length ≤ 1000000) (hn : ∀ n ∈ ns, n.ins.length ≤ 1000000) :
    Calls Tryd.prog 62 #[.agg #[va], .agg #[vb]] w fun e w' => e = .returned (.bool (decide (ns = ms))) ∧ Ge w w' := by
  obtain ⟨ra, hra, hal, hna⟩ := ha
  obtain ⟨rb, hrb, hbl, hnb⟩ := hb
  obtain ⟨A, ca, rfl, hlea, hca⟩ := hra
  obtain ⟨C, cb, rfl, hleb, hcb⟩ := hrb
  have HCA := Lib.hid hca
  have HCB := Lib.hid hcb
  have HNA := Lib.hid hna
  have HNB := Lib.hid hnb
  have HN := Lib.hid hn
  have HAL := Lib.hid hal
  have HBL := Lib.hid hbl
  have hra : ra.length ≤ 1000000 := by omega
  clear hca hcb hna hnb hn hl
  by_cases hlen : ra.length = rb.length
  rotate_left
  · have hn : ((ra.length : Int) != (rb.length : Int)) = true := by simp; omega
    have hd := Lib.hid (show decide (ns = ms) = false from decide_eq_false fun e => hlen (by rw [hal, hbl, e]))
    clear hlen hal hbl
    generalize decide (ns = ms) = qq at *
    go_enter Tryd.func62, Tryd.ntmps62
    go_wp2
    go_returns
    exact ⟨by rw [hd.out]; rfl, ((Ge.refl _).alloc _).alloc _⟩
  have hn : ((ra.length : Int) != (rb.length : Int)) = false := by rw [hlen]; simp
  have HL := Lib.hid hlen
  have hly : rb.length ≤ ra.length := by omega
  have hlx : ra.length ≤ rb.length := by omega
  clear hlen hal hbl
  have XB0 : Bx ((w.alloc (.cells #[.slice A ra.length ca] 117)).alloc (.cells #[.slice C rb.length cb] 117)) w.heap.size 117 #[.slice A ra.length ca] := (Bx.new w 117 _ rfl).alloc _
  have XB1 : Bx ((w.alloc (.cells #[.slice A ra.length ca] 117)).alloc (.cells #[.slice C rb.length cb] 117)) (w.heap.size + 1) 117 #[.slice C rb.length cb] := Bx.new _ 117 _ (by simp)
  have X0 := bx_all XB0
  have X1 := bx_all XB1
  have GW := Lib.hid (((Ge.refl w).alloc (.cells #[.slice A ra.length ca] 117)).alloc (.cells #[.slice C rb.length cb] 117))
  clear XB0 XB1
  obtain ⟨w2, hw2⟩ : ∃ x, x = (w.alloc (.cells #[.slice A ra.length ca] 117)).alloc (.cells #[.slice C rb.length cb] 117) := ⟨_, rfl⟩
  rw [← hw2] at X0 X1 GW
  go_enter Tryd.func62, Tryd.ntmps62
  go_wp2
  rw [← hw2]
  clear hw2
  go_loopw [5] (fun i wr => ∃ m : Nat, m ≤ ra.length ∧ i = .int .i64 (m : Int) ∧ ns.take m = ms.take m ∧ Ge w2 wr) (fun i _ => ra.length - (intOf i).toNat)
  case atStart => exact ⟨0, by omega, rfl, rfl, Ge.refl _⟩
  case round =>
    obtain ⟨m, hm, rfl, htk, hg2⟩ := hrel
    have hgw : Ge w wr := GW.out.trans hg2
    have z0 := X0.out _ hg2 0
    have z1 := X1.out _ hg2 0
    simp only [List.getElem?_toArray, List.getElem?_cons_zero] at z0 z1
    have HG2 := Lib.hid hg2
    have HT := Lib.hid htk
    have HG := Lib.hid hgw
    clear htk hg2
    by_cases hlt : m < ra.length
    · obtain ⟨b1, o1, rfl, hb1, hc1⟩ := HCA.out (fun e => absurd (show ra.length = 0 from by rw [e]; rfl) (by omega))
      obtain ⟨b2, o2, rfl, hb2, hc2⟩ := HCB.out (fun e => absurd (show rb.length = 0 from by rw [e]; rfl) (by omega))
      obtain ⟨x, hmx⟩ : ∃ x, ra[m]? = some x := ⟨_, List.getElem?_eq_getElem hlt⟩
      obtain ⟨y, hmy⟩ : ∃ y, rb[m]? = some y := ⟨_, List.getElem?_eq_getElem (by omega)⟩
      obtain ⟨a, hma⟩ : ∃ x, ns[m]? = some x := ⟨_, List.getElem?_eq_getElem (by have := HAL.out; omega)⟩
      obtain ⟨b, hmb⟩ : ∃ y, ms[m]? = some y := ⟨_, List.getElem?_eq_getElem (by have := HBL.out; omega)⟩
      have hxa := HNA.out m x a hmx hma
      have hyb := HNB.out m y b hmy hmb
      have HMX := Lib.hid hma
      have HMY := Lib.hid hmb
      obtain ⟨xi, xk, xl, ⟨xfk, xfa, xfs⟩, xn, xc, xd⟩ := x
      obtain ⟨yi, yk, yl, ⟨yfk, yfa, yfs⟩, yn, yc, yd⟩ := y
      have hx := fun i u (h : (eN.enc ⟨xi, xk, xl, ⟨xfk, xfa, xfs⟩, xn, xc, xd⟩)[i]? = some u) => ((hgw.kp B).cell hb1 _).trans (hc1 m _ hmx i u h)
      have hy := fun i u (h : (eN.enc ⟨yi, yk, yl, ⟨yfk, yfa, yfs⟩, yn, yc, yd⟩)[i]? = some u) => ((hgw.kp B).cell hb2 _).trans (hc2 m _ hmy i u h)
      have x0 := hx 0 _ rfl
      have x1 := hx 1 _ rfl
      have x2 := hx 2 _ rfl
      have x3 := hx 3 _ rfl
      have x4 := hx 4 _ rfl
      have x5 := hx 5 _ rfl
      have x6 := hx 6 _ rfl
      have x7 := hx 7 _ rfl
      have x8 := hx 8 _ rfl
      have y0 := hy 0 _ rfl
      have y1 := hy 1 _ rfl
      have y2 := hy 2 _ rfl
      have y3 := hy 3 _ rfl
      have y4 := hy 4 _ rfl
      have y5 := hy 5 _ rfl
      have y6 := hy 6 _ rfl
      have y7 := hy 7 _ rfl
      have y8 := hy 8 _ rfl
      simp only [eN, Nat.add_zero] at x0 x1 x2 x3 x4 x5 x6 x7 x8 y0 y1 y2 y3 y4 y5 y6 y7 y8
      have l1 : b1 < wr.heap.size := Nat.lt_of_lt_of_le hb1.1 hgw.size
      have l2 : b2 < wr.heap.size := Nat.lt_of_lt_of_le hb2.1 hgw.size
      have i1 : (0 : Int) ≤ (m : Int) := by omega
      have i2 : (m : Int) < (ra.length : Int) := by omega
      have i3 : (m : Int) < (rb.length : Int) := by omega
      obtain ⟨ql, hql⟩ := hxa.2.2.2.2.2.2.form
      obtain ⟨qm, hqm⟩ := hyb.2.2.2.2.2.2.form
      obtain ⟨cl, hql⟩ := hql
      obtain ⟨cm, hqm⟩ := hqm
      dsimp only at hql hqm
      subst hql hqm
      have FX := Lib.hid (show Flds a xi xk ⟨xfk, xfa, xfs⟩ xn xc xd from ⟨hxa.1, hxa.2.1, hxa.2.2.1, hxa.2.2.2.1, hxa.2.2.2.2.1, hxa.2.2.2.2.2.1⟩)
      have FY := Lib.hid (show Flds b yi yk ⟨yfk, yfa, yfs⟩ yn yc yd from ⟨hyb.1, hyb.2.1, hyb.2.2.1, hyb.2.2.2.1, hyb.2.2.2.2.1, hyb.2.2.2.2.2.1⟩)
      have HLA := Lib.hid hxa.2.2.2.2.2.2
      have HLB := Lib.hid hyb.2.2.2.2.2.2
      dsimp only at HLA HLB
      clear hc1 hc2 hmx hmy hma hmb hgw hb1 hb2 hx hy hxa hyb
      go_wp2
      go_region_held3 (fun w' => w'.cell? ⟨w.heap.size, 0, none⟩ = some (.slice (some ⟨b1, o1, none⟩) ra.length ca) ∧ w'.cell? ⟨w.heap.size + 1, 0, none⟩ = some (.slice (some ⟨b2, o2, none⟩) rb.length cb) ∧
        w'.cell? ⟨b1, o1 + m * 9, none⟩ = some (.int .i64 xi) ∧ w'.cell? ⟨b1, o1 + m * 9 + 1, none⟩ = some (.int .i64 xk) ∧ w'.cell? ⟨b1, o1 + m * 9 + 2, none⟩ = some (.slice ql a.ins.length cl) ∧ w'.cell? ⟨b1, o1 + m * 9 + 3, none⟩ = some (.int .i64 xfk) ∧ w'.cell? ⟨b1, o1 + m * 9 + 4, none⟩ = some (.int .i64 xfa) ∧ w'.cell? ⟨b1, o1 + m * 9 + 5, none⟩ = some (.string xfs) ∧ w'.cell? ⟨b1, o1 + m * 9 + 6, none⟩ = some (.string xn) ∧ w'.cell? ⟨b1, o1 + m * 9 + 7, none⟩ = some (.int .i64 xc) ∧ w'.cell? ⟨b1, o1 + m * 9 + 8, none⟩ = some (.int .i64 xd) ∧
        w'.cell? ⟨b2, o2 + m * 9, none⟩ = some (.int .i64 yi) ∧ w'.cell? ⟨b2, o2 + m * 9 + 1, none⟩ = some (.int .i64 yk) ∧ w'.cell? ⟨b2, o2 + m * 9 + 2, none⟩ = some (.slice qm b.ins.length cm) ∧ w'.cell? ⟨b2, o2 + m * 9 + 3, none⟩ = some (.int .i64 yfk) ∧ w'.cell? ⟨b2, o2 + m * 9 + 4, none⟩ = some (.int .i64 yfa) ∧ w'.cell? ⟨b2, o2 + m * 9 + 5, none⟩ = some (.string yfs) ∧ w'.cell? ⟨b2, o2 + m * 9 + 6, none⟩ = some (.string yn) ∧ w'.cell? ⟨b2, o2 + m * 9 + 7, none⟩ = some (.int .i64 yc) ∧ w'.cell? ⟨b2, o2 + m * 9 + 8, none⟩ = some (.int .i64 yd)) (go_keep) (fail)
      have Y60 := Lib.hid (show Bx ((wr.alloc (.cells #[.int .i64 xi, .int .i64 xk, .slice ql a.ins.length cl, .int .i64 xfk, .int .i64 xfa, .string xfs, .string xn, .int .i64 xc, .int .i64 xd] 84)).alloc (.cells #[.int .i64 yi, .int .i64 yk, .slice qm b.ins.length cm, .int .i64 yfk, .int .i64 yfa, .string yfs, .string yn, .int .i64 yc, .int .i64 yd] 84)).drew wr.heap.size 84 #[.int .i64 xi, .int .i64 xk, .slice ql a.ins.length cl, .int .i64 xfk, .int .i64 xfa, .string xfs, .string xn, .int .i64 xc, .int .i64 xd] from ((Bx.new wr 84 _ rfl).alloc _).drew)
      have Y70 := Lib.hid (show Bx ((wr.alloc (.cells #[.int .i64 xi, .int .i64 xk, .slice ql a.ins.length cl, .int .i64 xfk, .int .i64 xfa, .string xfs, .string xn, .int .i64 xc, .int .i64 xd] 84)).alloc (.cells #[.int .i64 yi, .int .i64 yk, .slice qm b.ins.length cm, .int .i64 yfk, .int .i64 yfa, .string yfs, .string yn, .int .i64 yc, .int .i64 yd] 84)).drew (wr.heap.size + 1) 84 #[.int .i64 yi, .int .i64 yk, .slice qm b.ins.length cm, .int .i64 yfk, .int .i64 yfa, .string yfs, .string yn, .int .i64 yc, .int .i64 yd] from (Bx.new _ 84 _ (by simp)).drew)
      have GZ0 := Lib.hid (show Ge wr ((wr.alloc (.cells #[.int .i64 xi, .int .i64 xk, .slice ql a.ins.length cl, .int .i64 xfk, .int .i64 xfa, .string xfs, .string xn, .int .i64 xc, .int .i64 xd] 84)).alloc (.cells #[.int .i64 yi, .int .i64 yk, .slice qm b.ins.length cm, .int .i64 yfk, .int .i64 yfa, .string yfs, .string yn, .int .i64 yc, .int .i64 yd] 84)).drew from (((Ge.refl wr).alloc _).alloc _).drew)
      obtain ⟨wZ, hwZ⟩ : ∃ x, x = ((wr.alloc (.cells #[.int .i64 xi, .int .i64 xk, .slice ql a.ins.length cl, .int .i64 xfk, .int .i64 xfa, .string xfs, .string xn, .int .i64 xc, .int .i64 xd] 84)).alloc (.cells #[.int .i64 yi, .int .i64 yk, .slice qm b.ins.length cm, .int .i64 yfk, .int .i64 yfa, .string yfs, .string yn, .int .i64 yc, .int .i64 yd] 84)).drew := ⟨_, rfl⟩
      rw [← hwZ] at Y60 Y70 GZ0 ⊢
      clear hwZ
      obtain ⟨P7, hP7⟩ : ∃ p, p = wr.heap.size + 1 := ⟨_, rfl⟩
      rw [← hP7] at Y70 ⊢
      clear hP7
      obtain ⟨P6, hP6⟩ : ∃ p, p = wr.heap.size := ⟨_, rfl⟩
      rw [← hP6] at Y60 ⊢
      clear hP6
      rotate_left
      have Y70 := Lib.hid (show Bx ((wr.alloc (.cells #[.int .i64 yi, .int .i64 yk, .slice qm b.ins.length cm, .int .i64 yfk, .int .i64 yfa, .string yfs, .string yn, .int .i64 yc, .int .i64 yd] 84)).alloc (.cells #[.int .i64 xi, .int .i64 xk, .slice ql a.ins.length cl, .int .i64 xfk, .int .i64 xfa, .string xfs, .string xn, .int .i64 xc, .int .i64 xd] 84)).drew wr.heap.size 84 #[.int .i64 yi, .int .i64 yk, .slice qm b.ins.length cm, .int .i64 yfk, .int .i64 yfa, .string yfs, .string yn, .int .i64 yc, .int .i64 yd] from ((Bx.new wr 84 _ rfl).alloc _).drew)
      have Y60 := Lib.hid (show Bx ((wr.alloc (.cells #[.int .i64 yi, .int .i64 yk, .slice qm b.ins.length cm, .int .i64 yfk, .int .i64 yfa, .string yfs, .string yn, .int .i64 yc, .int .i64 yd] 84)).alloc (.cells #[.int .i64 xi, .int .i64 xk, .slice ql a.ins.length cl, .int .i64 xfk, .int .i64 xfa, .string xfs, .string xn, .int .i64 xc, .int .i64 xd] 84)).drew (wr.heap.size + 1) 84 #[.int .i64 xi, .int .i64 xk, .slice ql a.ins.length cl, .int .i64 xfk, .int .i64 xfa, .string xfs, .string xn, .int .i64 xc, .int .i64 xd] from (Bx.new _ 84 _ (by simp)).drew)
      have GZ0 := Lib.hid (show Ge wr ((wr.alloc (.cells #[.int .i64 yi, .int .i64 yk, .slice qm b.ins.length cm, .int .i64 yfk, .int .i64 yfa, .string yfs, .string yn, .int .i64 yc, .int .i64 yd] 84)).alloc (.cells #[.int .i64 xi, .int .i64 xk, .slice ql a.ins.length cl, .int .i64 xfk, .int .i64 xfa, .string xfs, .string xn, .int .i64 xc, .int .i64 xd] 84)).drew from (((Ge.refl wr).alloc _).alloc _).drew)
      obtain ⟨wZ, hwZ⟩ : ∃ x, x = ((wr.alloc (.cells #[.int .i64 yi, .int .i64 yk, .slice qm b.ins.length cm, .int .i64 yfk, .int .i64 yfa, .string yfs, .string yn, .int .i64 yc, .int .i64 yd] 84)).alloc (.cells #[.int .i64 xi, .int .i64 xk, .slice ql a.ins.length cl, .int .i64 xfk, .int .i64 xfa, .string xfs, .string xn, .int .i64 xc, .int .i64 xd] 84)).drew := ⟨_, rfl⟩
      rw [← hwZ] at Y60 Y70 GZ0 ⊢
      clear hwZ
      obtain ⟨P6, hP6⟩ : ∃ p, p = wr.heap.size + 1 := ⟨_, rfl⟩
      rw [← hP6] at Y60 ⊢
      clear hP6
      obtain ⟨P7, hP7⟩ : ∃ p, p = wr.heap.size := ⟨_, rfl⟩
      rw [← hP7] at Y70 ⊢
      clear hP7
      all_goals
        clear x0 x1 x2 x3 x4 x5 x6 x7 x8 y0 y1 y2 y3 y4 y5 y6 y7 y8 z0 z1
        have hil : a.ins.length ≤ 1000000 := HN.out a (List.mem_of_getElem? HMX.out)
        have Y6 := bx_all Y60.out
        have Y7 := bx_all Y70.out
        have d6 := Y6.out _ (Ge.refl _)
        have d7 := Y7.out _ (Ge.refl _)
        obtain ⟨wo, hwo⟩ : ∃ x, x = wr := ⟨_, rfl⟩
        rw [← hwo] at *
        clear Y60 Y70
        by_cases p0 : xi = yi
        rotate_left
        · have hd := Lib.hid (show decide (ns = ms) = false from decide_eq_false (ne_next (fun e => p0 (by rw [FX.out.id, FY.out.id, e])) HMX.out HMY.out))
          have t0 : (xi != yi) = true := by simpa using p0
          clear p0
          go_wp2
          go_returns
          exact ⟨by rw [hd.out]; rfl, (GW.out.trans HG2.out).trans GZ0.out⟩
        have P0' := Lib.hid p0
        have t0 : (xi != yi) = false := by simp [p0]
        clear p0
        by_cases p1 : xk = yk
        rotate_left
        · have hd := Lib.hid (show decide (ns = ms) = false from decide_eq_false (ne_next (fun e => p1 (by rw [FX.out.kind, FY.out.kind, e])) HMX.out HMY.out))
          have t1 : (xk != yk) = true := by simpa using p1
          clear p1
          go_wp2
          go_returns
          exact ⟨by rw [hd.out]; rfl, (GW.out.trans HG2.out).trans GZ0.out⟩
        have P1' := Lib.hid p1
        have t1 : (xk != yk) = false := by simp [p1]
        clear p1
        by_cases p2 : (⟨xfk, xfa, xfs⟩ : Fnv) = ⟨yfk, yfa, yfs⟩
        rotate_left
        · have hd := Lib.hid (show decide (ns = ms) = false from decide_eq_false (ne_next (fun e => p2 (by rw [FX.out.fn, FY.out.fn, e])) HMX.out HMY.out))
          have hf := neqF ⟨xfk, xfa, xfs⟩ ⟨yfk, yfa, yfs⟩
          rw [decide_eq_false p2] at hf
          simp only [encF, Bool.not_false] at hf
          clear p2
          go_wp2
          go_returns
          exact ⟨by rw [hd.out]; rfl, (GW.out.trans HG2.out).trans GZ0.out⟩
        have P2' := Lib.hid p2
        have hf := neqF ⟨xfk, xfa, xfs⟩ ⟨yfk, yfa, yfs⟩
        rw [decide_eq_true p2] at hf
        simp only [encF, Bool.not_true] at hf
        clear p2
        by_cases p3 : xn = yn
        rotate_left
        · have hd := Lib.hid (show decide (ns = ms) = false from decide_eq_false (ne_next (fun e => p3 (by rw [FX.out.name, FY.out.name, e])) HMX.out HMY.out))
          have t3 : (xn.toList == yn.toList) = false := by simpa [str_eq] using p3
          clear p3
          go_wp2
          go_returns
          exact ⟨by rw [hd.out]; rfl, (GW.out.trans HG2.out).trans GZ0.out⟩
        have P3' := Lib.hid p3
        have t3 : (xn.toList == yn.toList) = true := by simp [p3]
        clear p3
        by_cases p4 : xc = yc
        rotate_left
        · have hd := Lib.hid (show decide (ns = ms) = false from decide_eq_false (ne_next (fun e => p4 (by rw [FX.out.cap, FY.out.cap, e])) HMX.out HMY.out))
          have t4 : (xc != yc) = true := by simpa using p4
          clear p4
          go_wp2
          go_returns
          exact ⟨by rw [hd.out]; rfl, (GW.out.trans HG2.out).trans GZ0.out⟩
        have P4' := Lib.hid p4
        have t4 : (xc != yc) = false := by simp [p4]
        clear p4
        by_cases p5 : xd = yd
        rotate_left
        · have hd := Lib.hid (show decide (ns = ms) = false from decide_eq_false (ne_next (fun e => p5 (by rw [FX.out.d, FY.out.d, e])) HMX.out HMY.out))
          have t5 : (xd != yd) = true := by simpa using p5
          clear p5
          go_wp2
          go_returns
          exact ⟨by rw [hd.out]; rfl, (GW.out.trans HG2.out).trans GZ0.out⟩
        have P5' := Lib.hid p5
        have t5 : (xd != yd) = false := by simp [p5]
        clear p5
        by_cases p6 : a.ins.length = b.ins.length
        rotate_left
        · have hd := Lib.hid (show decide (ns = ms) = false from decide_eq_false (ne_next (fun e => p6 (by rw [e])) HMX.out HMY.out))
          have t6 : ((a.ins.length : Int) != (b.ins.length : Int)) = true := by simp; omega
          clear p6
          go_wp2
          go_returns
          exact ⟨by rw [hd.out]; rfl, (GW.out.trans HG2.out).trans GZ0.out⟩
        have P6' := Lib.hid p6
        have t6 : ((a.ins.length : Int) != (b.ins.length : Int)) = false := by rw [p6]; simp
        have p7 : b.ins.length ≤ a.ins.length := by omega
        have p8 : a.ins.length ≤ b.ins.length := by omega
        clear p6
        go_wp2
        go_loopw [8] (fun j wr => ∃ q : Nat, q ≤ a.ins.length ∧ j = .int .i64 (q : Int) ∧ a.ins.take q = b.ins.take q ∧ Ge wZ wr) (fun j _ => a.ins.length - (intOf j).toNat)
        case atStart => exact ⟨0, by omega, rfl, rfl, Ge.refl _⟩
        case round =>
          obtain ⟨q, hq, rfl, htq, hgq⟩ := hrel
          have HTQ := Lib.hid htq
          have HGQ := Lib.hid hgq
          have HGW := Lib.hid ((GW.out.trans HG2.out).trans (GZ0.out.trans hgq))
          have e6 := Y6.out _ hgq 2
          have e7 := Y7.out _ hgq 2
          simp only [List.getElem?_toArray, List.getElem?_cons_zero, List.getElem?_cons_succ] at e6 e7
          clear htq d6 d7 hgq
          by_cases hlq : q < a.ins.length
          · obtain ⟨Aa, ca1, e1, _, k1⟩ := HLA.out
            cases e1
            obtain ⟨b3, o3, rfl, hb3, hc3⟩ := k1 (fun e => absurd (show a.ins.length = 0 from by rw [e]; rfl) (by omega))
            obtain ⟨Ab, cb1, e2, _, k2⟩ := HLB.out
            cases e2
            obtain ⟨b4, o4, rfl, hb4, hc4⟩ := k2 (fun e => absurd (show b.ins.length = 0 from by rw [e]; rfl) (by omega))
            obtain ⟨x, hmx⟩ : ∃ x, a.ins[q]? = some x := ⟨_, List.getElem?_eq_getElem hlq⟩
            obtain ⟨y, hmy⟩ : ∃ y, b.ins[q]? = some y := ⟨_, List.getElem?_eq_getElem (by omega)⟩
            have HQX := Lib.hid hmx
            have HQY := Lib.hid hmy
            have hx0 := Lib.hid (fun (w3 : World) (hw : Ge wr w3) => (((HGW.out.trans hw).kp B).cell hb3 _).trans (hc3 q _ hmx 0 _ rfl))
            have hy0 := Lib.hid (fun (w3 : World) (hw : Ge wr w3) => (((HGW.out.trans hw).kp B).cell hb4 _).trans (hc4 q _ hmy 0 _ rfl))
            simp only [eI, Nat.mul_one, Nat.add_zero] at hx0 hy0
            have i4 : (0 : Int) ≤ (q : Int) := by omega
            have i5 : (q : Int) < (a.ins.length : Int) := by omega
            have i6 : (q : Int) < (b.ins.length : Int) := by omega
            clear hc3 hc4 hmx hmy hb3 hb4 k1 k2
            by_cases hxy : x = y
            · have he : (x != y) = false := by rw [hxy]; simp
              have HXY := Lib.hid hxy
              clear hxy
              go_wp2
              refine Dr.wp_region_T (by kernel_rfl) (by kernel_rfl) ?_
              iterate 11 (apply Dr.wpT_det; · (intro u w3 hw hF; clear hF; have s0 := hx0.out w3 hw; have s1 := hy0.out w3 hw; have s2 := Y6.out w3 (HGQ.out.trans hw); have s3 := Y7.out w3 (HGQ.out.trans hw); go_simp; first | exact ⟨Ge.refl _, rfl⟩ | exact Ge.refl _ | rfl))
              intro u w3 hw hF
              clear hF
              have G3 := Lib.hid (HGQ.out.trans hw)
              clear hw
              simp only [Act.put, List.setIfInBounds_toArray, List.set_cons_zero, List.set_cons_succ]
              go_wp2
              go_roundw
              case rel => exact ⟨q + 1, by omega, by go_num, take_next HTQ.out HQX.out (by rw [HQY.out, HXY.out]), G3.out⟩
              case measure => simp [intOf]; omega
            · have he : (x != y) = true := by simpa using hxy
              have HXY := Lib.hid hxy
              clear hxy
              go_wp2
              refine Dr.wp_region_T (by kernel_rfl) (by kernel_rfl) ?_
              iterate 11 (apply Dr.wpT_det; · (intro u w3 hw hF; clear hF; have s0 := hx0.out w3 hw; have s1 := hy0.out w3 hw; have s2 := Y6.out w3 (HGQ.out.trans hw); have s3 := Y7.out w3 (HGQ.out.trans hw); go_simp; first | exact ⟨Ge.refl _, rfl⟩ | exact Ge.refl _ | rfl))
              intro u w3 hw hF
              clear hF
              have G3 := Lib.hid (HGW.out.trans hw)
              have hd := Lib.hid (show decide (ns = ms) = false from decide_eq_false (ne_next (fun e => (ne_next HXY.out HQX.out HQY.out) (by rw [e])) HMX.out HMY.out))
              clear hw
              simp only [Act.put, List.setIfInBounds_toArray, List.set_cons_zero, List.set_cons_succ]
              go_wp2
              go_returns
              exact ⟨by rw [hd.out]; rfl, G3.out⟩
          · have hql : q = a.ins.length := by omega
            have hdq : decide ((q : Int) < (a.ins.length : Int)) = false := by simp; omega
            have hab := Lib.hid (show a = b from FX.out.same FY.out P0'.out P1'.out P2'.out P3'.out P4'.out P5'.out (by
              have := HTQ.out
              rw [hql, List.take_length, P6'.out, List.take_length] at this
              exact this))
            clear hql
            go_wp2
            go_roundw
            case rel => exact ⟨m + 1, by omega, by go_num, take_next HT.out HMX.out (by rw [HMY.out, hab.out]), (HG2.out.trans GZ0.out).trans HGQ.out⟩
            case measure => simp [intOf]; omega
    · have hml : m = ra.length := by omega
      have hd := Lib.hid (show decide (ns = ms) = true from decide_eq_true (by
        have := HT.out
        rw [hml, HAL.out, List.take_length, ← HAL.out, HL.out, HBL.out, List.take_length] at this
        exact this))
      have hdm : decide ((m : Int) < (ra.length : Int)) = false := by simp; omega
      clear hml hgw
      go_wp2
      go_returns
      exact ⟨by rw [hd.out]; rfl, HG.out⟩
end Go.Proofs.YtmhibpmgnicolaaDoor
