/-
  slices.EqualFunc at nodes, by sameNode; sameDelta.
-/
import Derived.Test.YtmhibpmgnicolaaDoorSames
namespace Go.Proofs.YtmhibpmgnicolaaDoor
open Go.RowKit
attribute [local go_sem] Dr.upT

set_option maxRecDepth 100000 in
set_option maxHeartbeats 8000000 in
theorem eqFunc {B : Nat} {w : World} {va vb : Value} {ns ms : List Nod} (ha : PutAt B w va ns) (hb : PutAt B w vb ms) (hl : ns.length ≤ 1000000) (hn : ∀ n ∈ ns, n.ins.length ≤ 1000000) :
    Calls Tryd.prog 70 #[va, vb, .func (.func 71) #[] #[]] w fun e w' => e = .returned (.bool (decide (ns = ms))) ∧ Ge w w' := by
  obtain ⟨ra, hra, hal, hna⟩ := ha
  obtain ⟨rb, hrb, hbl, hnb⟩ := hb
  obtain ⟨A, ca, rfl, hlea, hca⟩ := hra
  obtain ⟨C, cb, rfl, hleb, hcb⟩ := hrb
  have HCA := Lib.hid hca
  have HCB := Lib.hid hcb
  have HNA := Lib.hid hna
  have HNB := Lib.hid hnb
  have HN := Lib.hid hn
  have HAL := Lib.hid hal
  have HBL := Lib.hid hbl
  have hra : ra.length ≤ 1000000 := by omega
  clear hca hcb hna hnb hn hl
  by_cases hlen : ra.length = rb.length
  rotate_left
  · have hn : ((ra.length : Int) != (rb.length : Int)) = true := by simp; omega
    have hd := Lib.hid (show decide (ns = ms) = false from decide_eq_false fun e => hlen (by rw [hal, hbl, e]))
    clear hlen hal hbl
    generalize decide (ns = ms) = qq at *
    go_enter Tryd.func70, Tryd.ntmps70
    go_wp2
    go_returns
    exact ⟨by rw [hd.out]; rfl, Ge.refl _⟩
  have hn : ((ra.length : Int) != (rb.length : Int)) = false := by rw [hlen]; simp
  have HL := Lib.hid hlen
  have hly : rb.length ≤ ra.length := by omega
  have hlx : ra.length ≤ rb.length := by omega
  clear hlen hal hbl
  go_enter Tryd.func70, Tryd.ntmps70
  go_wp2
  go_loopw [17] (fun i wr => ∃ m : Nat, m ≤ ra.length ∧ i = .int .i64 (m : Int) ∧ ns.take m = ms.take m ∧ Ge w wr) (fun i _ => ra.length - (intOf i).toNat)
  case atStart => exact ⟨0, by omega, rfl, rfl, Ge.refl _⟩
  case round =>
    obtain ⟨m, hm, rfl, htk, hgw⟩ := hrel
    have HT := Lib.hid htk
    have HG := Lib.hid hgw
    clear htk
    by_cases hlt : m < ra.length
    · obtain ⟨b1, o1, rfl, hb1, hc1⟩ := HCA.out (fun e => absurd (show ra.length = 0 from by rw [e]; rfl) (by omega))
      obtain ⟨b2, o2, rfl, hb2, hc2⟩ := HCB.out (fun e => absurd (show rb.length = 0 from by rw [e]; rfl) (by omega))
      obtain ⟨x, hmx⟩ : ∃ x, ra[m]? = some x := ⟨_, List.getElem?_eq_getElem hlt⟩
      obtain ⟨y, hmy⟩ : ∃ y, rb[m]? = some y := ⟨_, List.getElem?_eq_getElem (by omega)⟩
      obtain ⟨a, hma⟩ : ∃ x, ns[m]? = some x := ⟨_, List.getElem?_eq_getElem (by have := HAL.out; omega)⟩
      obtain ⟨b, hmb⟩ : ∃ y, ms[m]? = some y := ⟨_, List.getElem?_eq_getElem (by have := HBL.out; omega)⟩
      have hxa := HNA.out m x a hmx hma
      have hyb := HNB.out m y b hmy hmb
      have HMX := Lib.hid hma
      have HMY := Lib.hid hmb
      have HSN := Lib.hid (fun w' (h : Ge w w') => sameNode (hxa.kp (h.kp B)) (hyb.kp (h.kp B)) (HN.out a (List.mem_of_getElem? hma)))
      obtain ⟨xi, xk, xl, ⟨xfk, xfa, xfs⟩, xn, xc, xd⟩ := x
      obtain ⟨yi, yk, yl, ⟨yfk, yfa, yfs⟩, yn, yc, yd⟩ := y
      have hx := fun i u (h : (eN.enc ⟨xi, xk, xl, ⟨xfk, xfa, xfs⟩, xn, xc, xd⟩)[i]? = some u) => ((hgw.kp B).cell hb1 _).trans (hc1 m _ hmx i u h)
      have hy := fun i u (h : (eN.enc ⟨yi, yk, yl, ⟨yfk, yfa, yfs⟩, yn, yc, yd⟩)[i]? = some u) => ((hgw.kp B).cell hb2 _).trans (hc2 m _ hmy i u h)
      have x0 := hx 0 _ rfl
      have x1 := hx 1 _ rfl
      have x2 := hx 2 _ rfl
      have x3 := hx 3 _ rfl
      have x4 := hx 4 _ rfl
      have x5 := hx 5 _ rfl
      have x6 := hx 6 _ rfl
      have x7 := hx 7 _ rfl
      have x8 := hx 8 _ rfl
      have y0 := hy 0 _ rfl
      have y1 := hy 1 _ rfl
      have y2 := hy 2 _ rfl
      have y3 := hy 3 _ rfl
      have y4 := hy 4 _ rfl
      have y5 := hy 5 _ rfl
      have y6 := hy 6 _ rfl
      have y7 := hy 7 _ rfl
      have y8 := hy 8 _ rfl
      simp only [eN, Nat.add_zero] at x0 x1 x2 x3 x4 x5 x6 x7 x8 y0 y1 y2 y3 y4 y5 y6 y7 y8
      simp only [encN] at HSN
      have l1 : b1 < wr.heap.size := Nat.lt_of_lt_of_le hb1.1 hgw.size
      have l2 : b2 < wr.heap.size := Nat.lt_of_lt_of_le hb2.1 hgw.size
      have i1 : (0 : Int) ≤ (m : Int) := by omega
      have i2 : (m : Int) < (ra.length : Int) := by omega
      have i3 : (m : Int) < (rb.length : Int) := by omega
      obtain ⟨wY, hwY⟩ : ∃ x, x = (wr.alloc (.cells #[.int .i64 xi, .int .i64 xk, xl, .int .i64 xfk, .int .i64 xfa, .string xfs, .string xn, .int .i64 xc, .int .i64 xd] 84)).alloc (.cells #[.int .i64 yi, .int .i64 yk, yl, .int .i64 yfk, .int .i64 yfa, .string yfs, .string yn, .int .i64 yc, .int .i64 yd] 84) := ⟨_, rfl⟩
      have GY := Lib.hid (show Ge w wY by rw [hwY]; exact (hgw.alloc _).alloc _)
      have HWY := Lib.hid hwY
      obtain ⟨ql, hql⟩ := hxa.2.2.2.2.2.2.form
      obtain ⟨qm, hqm⟩ := hyb.2.2.2.2.2.2.form
      obtain ⟨cl, hql⟩ := hql
      obtain ⟨cm, hqm⟩ := hqm
      dsimp only at hql hqm
      subst hql hqm
      clear hc1 hc2 hmx hmy hma hmb hgw hb1 hb2 hx hy hwY hxa hyb
      rcases hab : decide (a = b) with _ | _
      all_goals
        have hab' := Lib.hid hab
        rw [hab] at HSN
        clear hab
        go_wp2_with fail
        rw [← HWY.out]
        refine (HSN.out _ GY.out).mono ?_
        rintro e w3 ⟨rfl, hg3⟩
        have G3 := Lib.hid (GY.out.trans hg3)
        clear hg3 x0 x1 x2 x3 x4 x5 x6 x7 x8 y0 y1 y2 y3 y4 y5 y6 y7 y8
      · have hd := Lib.hid (show decide (ns = ms) = false from decide_eq_false (ne_next (of_decide_eq_false hab'.out) HMX.out HMY.out))
        go_wp2
        go_returns
        exact ⟨by rw [hd.out]; rfl, G3.out⟩
      · go_wp2
        go_roundw
        case rel => exact ⟨m + 1, by omega, by go_num, take_next HT.out HMX.out (by rw [HMY.out, of_decide_eq_true hab'.out]), G3.out⟩
        case measure => simp [intOf]; omega
    · have hml : m = ra.length := by omega
      have hd := Lib.hid (show decide (ns = ms) = true from decide_eq_true (by
        have := HT.out
        rw [hml, HAL.out, List.take_length, ← HAL.out, HL.out, HBL.out, List.take_length] at this
        exact this))
      have hdm : decide ((m : Int) < (ra.length : Int)) = false := by simp; omega
      clear hml hgw
      go_wp2
      go_returns
      exact ⟨by rw [hd.out]; rfl, HG.out⟩
end Go.Proofs.YtmhibpmgnicolaaDoor
