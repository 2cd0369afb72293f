/-
  Compare: a whole order.
-/
import Derived.Test.YtedccllpbajbfaaCmp
import Derived.Test.YtedccllpbajbfaaDraw
import Derived.Test.YtedccllpbajbfaaEq
namespace Go.Proofs.Ytedccllpbajbfaa
open Go.RowKit

def cmpH (a b : Tm) : Int := orI (sgn a.e b.e) (sgn a.d b.d)
def cmpT (a b : Tm) : Int := orI (orI (orI (orI (cmpH a b) (sgn a.l0 b.l0)) (sgn a.l1 b.l1)) (sgn a.l2 b.l2)) (sgn a.l3 b.l3)

attribute [local go_sem] Dr.upT

theorem arr_eqn (n : Nat) (x0 x1 x2 x3 y0 y1 y2 y3 : Int) (w : World) : (Op.equalIn (n + 1 + 1) 22 (.agg #[.int .i64 x0, .int .i64 x1, .int .i64 x2, .int .i64 x3]) (.agg #[.int .i64 y0, .int .i64 y1, .int .i64 y2, .int .i64 y3])).run Try.prog w =
    .ok (x0 == y0 && x1 == y1 && x2 == y2 && x3 == y3) w := by
  have u2 := Try.underlying2
  have hC : Try.prog.cellsOf 2 = 1 := by kernel_rfl
  obtain ⟨i2, hi2⟩ : ∃ i, Try.prog.info? 2 = some i := ⟨_, rfl⟩
  rw [run_equalIn_array w (n + 1) _ _ Try.underlying22 hi2, hC]
  have p0 : ∀ (c0 c1 c2 c3 : Int) (w : World), (part 2 #[.int .i64 c0, .int .i64 c1, .int .i64 c2, .int .i64 c3] 0).run Try.prog w = .ok (.int .i64 c0) w := fun _ _ _ _ _ => by simp [part, isAgg, run_underlying u2]
  have p1 : ∀ (c0 c1 c2 c3 : Int) (w : World), (part 2 #[.int .i64 c0, .int .i64 c1, .int .i64 c2, .int .i64 c3] 1).run Try.prog w = .ok (.int .i64 c1) w := fun _ _ _ _ _ => by simp [part, isAgg, run_underlying u2]
  have p2 : ∀ (c0 c1 c2 c3 : Int) (w : World), (part 2 #[.int .i64 c0, .int .i64 c1, .int .i64 c2, .int .i64 c3] 2).run Try.prog w = .ok (.int .i64 c2) w := fun _ _ _ _ _ => by simp [part, isAgg, run_underlying u2]
  have p3 : ∀ (c0 c1 c2 c3 : Int) (w : World), (part 2 #[.int .i64 c0, .int .i64 c1, .int .i64 c2, .int .i64 c3] 3).run Try.prog w = .ok (.int .i64 c3) w := fun _ _ _ _ _ => by simp [part, isAgg, run_underlying u2]
  have he := fun a b w => run_equalIn_int (P := Try.prog) w n 2 .i64 .i64 a b u2
  rw [show List.range 4 = [0, 1, 2, 3] from rfl]
  simp only [Op.eqItems, Sem.run_bind, Nat.mul_one, p0, Result.andThen_ok, he]
  by_cases h0 : x0 = y0
  · by_cases h1 : x1 = y1
    · by_cases h2 : x2 = y2
      · by_cases h3 : x3 = y3
        · simp [h0, h1, h2, h3, p1, p2, p3, he]
        · simp [h0, h1, h2, h3, p1, p2, p3, he]
      · simp [h0, h1, h2, p1, p2, he]
    · simp [h0, h1, p1, he]
  · simp [h0]
theorem eql_arr (x0 x1 x2 x3 y0 y1 y2 y3 : Int) (w : World) : (binOp .eql 22 (.agg #[.int .i64 x0, .int .i64 x1, .int .i64 x2, .int .i64 x3]) (.agg #[.int .i64 y0, .int .i64 y1, .int .i64 y2, .int .i64 y3])).run Try.prog w =
    .ok (.bool (x0 == y0 && x1 == y1 && x2 == y2 && x3 == y3)) w := by
  rw [run_eql_struct, show (10000 : Nat) = 9998 + 1 + 1 from rfl, arr_eqn]
  rfl

theorem sgn_self (x : Int) : sgn x x = 0 := by simp [sgn]
theorem orI_zero (x : Int) : orI x 0 = x := by unfold orI; split <;> omega

set_option maxHeartbeats 1000000 in
theorem compare_any (a b : Tm) (w : World) :
    Calls Try.prog 36 #[.agg #[.int .i64 a.e, .int .i64 a.d, .int .i64 a.l0, .int .i64 a.l1, .int .i64 a.l2, .int .i64 a.l3], .agg #[.int .i64 b.e, .int .i64 b.d, .int .i64 b.l0, .int .i64 b.l1, .int .i64 b.l2, .int .i64 b.l3]] w fun e w' =>
      e = .returned (.int .i64 (cmpT a b)) ∧ Below w.heap.size w w' := by
  have q : ∃ t, t = (a.l0 == b.l0 && a.l1 == b.l1 && a.l2 == b.l2 && a.l3 == b.l3) := ⟨_, rfl⟩
  obtain ⟨t, ht⟩ := q
  have q := eql_arr a.l0 a.l1 a.l2 a.l3 b.l0 b.l1 b.l2 b.l3
  rw [← ht] at q
  have HT := Lib.hid ht
  clear ht
  have XA : Hid (Bx ((w.alloc (.cells #[.int .i64 a.e, .int .i64 a.d, .int .i64 a.l0, .int .i64 a.l1, .int .i64 a.l2, .int .i64 a.l3] 24)).alloc (.cells #[.int .i64 b.e, .int .i64 b.d, .int .i64 b.l0, .int .i64 b.l1, .int .i64 b.l2, .int .i64 b.l3] 24)) w.heap.size 24 #[.int .i64 a.e, .int .i64 a.d, .int .i64 a.l0, .int .i64 a.l1, .int .i64 a.l2, .int .i64 a.l3]) := Lib.hid ((Bx.new _ _ _ rfl).alloc _)
  have XB : Hid (Bx ((w.alloc (.cells #[.int .i64 a.e, .int .i64 a.d, .int .i64 a.l0, .int .i64 a.l1, .int .i64 a.l2, .int .i64 a.l3] 24)).alloc (.cells #[.int .i64 b.e, .int .i64 b.d, .int .i64 b.l0, .int .i64 b.l1, .int .i64 b.l2, .int .i64 b.l3] 24)) (w.heap.size + 1) 24 #[.int .i64 b.e, .int .i64 b.d, .int .i64 b.l0, .int .i64 b.l1, .int .i64 b.l2, .int .i64 b.l3]) := Lib.hid (Bx.new _ _ _ (by simp))
  go_enter Try.func36, Try.ntmps36
  go_wp2_with fail
  refine Dr.wp_region_T (by kernel_rfl) (by kernel_rfl) ?_
  apply Dr.wpT_det
  · intro u w1 hw hF
    clear hF
    have cA := (XA.out.ge hw).cell
    have cB := (XB.out.ge hw).cell
    have lA := (XA.out.ge hw).lt
    have lB := (XB.out.ge hw).lt
    go_simp
    exact ⟨Ge.refl _, rfl⟩
  apply Dr.wpT_det
  · intro u w1 hw hF
    clear hF
    have cA := (XA.out.ge hw).cell
    have cB := (XB.out.ge hw).cell
    have lA := (XA.out.ge hw).lt
    have lB := (XB.out.ge hw).lt
    go_simp
    exact ⟨Ge.refl _, rfl⟩
  apply Dr.wpT_det
  · intro u w1 hw hF
    clear hF
    have cA := (XA.out.ge hw).cell
    have cB := (XB.out.ge hw).cell
    have lA := (XA.out.ge hw).lt
    have lB := (XB.out.ge hw).lt
    go_simp
    exact ⟨Ge.refl _, rfl⟩
  apply Dr.wpT_det
  · intro u w1 hw hF
    clear hF
    have cA := (XA.out.ge hw).cell
    have cB := (XB.out.ge hw).cell
    have lA := (XA.out.ge hw).lt
    have lB := (XB.out.ge hw).lt
    go_simp
    exact ⟨Ge.refl _, rfl⟩
  apply Dr.wpT_det
  · intro u w1 hw hF
    go_simp
    refine (cmp64 _ _ _).mono ?_
    rintro e w2 ⟨rfl, rfl⟩
    exact ⟨rfl, Ge.refl _⟩
  apply Dr.wpT_det
  · intro u w1 hw hF
    clear hF
    have cA := (XA.out.ge hw).cell
    have cB := (XB.out.ge hw).cell
    have lA := (XA.out.ge hw).lt
    have lB := (XB.out.ge hw).lt
    go_simp
    exact ⟨Ge.refl _, rfl⟩
  apply Dr.wpT_det
  · intro u w1 hw hF
    clear hF
    have cA := (XA.out.ge hw).cell
    have cB := (XB.out.ge hw).cell
    have lA := (XA.out.ge hw).lt
    have lB := (XB.out.ge hw).lt
    go_simp
    exact ⟨Ge.refl _, rfl⟩
  apply Dr.wpT_det
  · intro u w1 hw hF
    clear hF
    have cA := (XA.out.ge hw).cell
    have cB := (XB.out.ge hw).cell
    have lA := (XA.out.ge hw).lt
    have lB := (XB.out.ge hw).lt
    go_simp
    exact ⟨Ge.refl _, rfl⟩
  apply Dr.wpT_det
  · intro u w1 hw hF
    clear hF
    have cA := (XA.out.ge hw).cell
    have cB := (XB.out.ge hw).cell
    have lA := (XA.out.ge hw).lt
    have lB := (XB.out.ge hw).lt
    go_simp
    exact ⟨Ge.refl _, rfl⟩
  apply Dr.wpT_det
  · intro u w1 hw hF
    go_simp
    refine (cmpInt _ _ _).mono ?_
    rintro e w2 ⟨rfl, rfl⟩
    exact ⟨rfl, Ge.refl _⟩
  apply Dr.wpT_non (fun v w => ∃ g, v = .slice (some ⟨g, 0, none⟩) 2 2 ∧ Bx w g 3 #[.int .i64 (sgn a.e b.e), .int .i64 (sgn a.d b.d)])
  · rintro v w1 w2 hg ⟨g, rfl, hx⟩
    exact ⟨g, rfl, hx.ge hg⟩
  · intro u w1 hw hF
    go_simp
    exact ⟨(Ge.refl _).alloc _, Bx.new _ _ _ rfl⟩
  apply Dr.wpT_det
  · intro u w1 hw hF
    have h10 := hF 10 (by kernel_rfl)
    clear hF
    rw [if_pos rfl] at h10
    obtain ⟨g, hu, hx⟩ := h10
    simp only [Nat.reduceAdd, Nat.zero_add] at hu
    go_simp
    refine (or2 _ _ g _ (by rw [hx.cell]; rfl) (by rw [hx.cell]; rfl)).mono ?_
    rintro e w2 ⟨rfl, rfl⟩
    exact ⟨rfl, Ge.refl _⟩
  apply Dr.wpT_det
  · intro u w1 hw hF
    clear hF
    go_simp
    exact ⟨Ge.refl _, rfl⟩
  intro u w1 hw hF
  clear hF
  have cA := (XA.out.ge hw).cell
  have cB := (XB.out.ge hw).cell
  have lA := (XA.out.ge hw).lt
  have lB := (XB.out.ge hw).lt
  have gw := Lib.hid hw
  clear hw XA XB
  have i0 : ∀ w, (Instr.index 22 (.agg #[.int .i64 a.l0, .int .i64 a.l1, .int .i64 a.l2, .int .i64 a.l3]) (.int .i64 0)).run Try.prog w = .ok (.int .i64 a.l0) w := fun _ => by kernel_rfl
  have i1 : ∀ w, (Instr.index 22 (.agg #[.int .i64 a.l0, .int .i64 a.l1, .int .i64 a.l2, .int .i64 a.l3]) (.int .i64 1)).run Try.prog w = .ok (.int .i64 a.l1) w := fun _ => by kernel_rfl
  have i2 : ∀ w, (Instr.index 22 (.agg #[.int .i64 a.l0, .int .i64 a.l1, .int .i64 a.l2, .int .i64 a.l3]) (.int .i64 2)).run Try.prog w = .ok (.int .i64 a.l2) w := fun _ => by kernel_rfl
  have i3 : ∀ w, (Instr.index 22 (.agg #[.int .i64 a.l0, .int .i64 a.l1, .int .i64 a.l2, .int .i64 a.l3]) (.int .i64 3)).run Try.prog w = .ok (.int .i64 a.l3) w := fun _ => by kernel_rfl
  cases t with
  | true =>
    go_wp2
    go_returns
    have := HT.out
    simp only [Bool.and_eq_true, beq_iff_eq, eq_comm (a := true)] at this
    obtain ⟨⟨⟨h0, h1⟩, h2⟩, h3⟩ := this
    refine ⟨ret_int ?_, ((((Ge.refl w).alloc _).alloc _).trans gw.out)⟩
    simp only [cmpT, h0, h1, h2, h3, sgn_self, orI_zero]
    rfl
  | false =>
  go_wp2_with fail
  refine wp_loop_rounds 5 ?_
  rw [rounds_succ]
  go_wp2_with fail
  refine (cmp64 _ _ _).mono ?_
  rintro e w2 ⟨rfl, rfl⟩
  go_wp2_with fail
  refine (or2 (orI (sgn a.e b.e) (sgn a.d b.d)) (sgn a.l0 b.l0) _ _ (by simp [go_sem]) (by simp [go_sem])).mono ?_
  rintro e w2 ⟨rfl, rfl⟩
  go_wp2_with fail
  rw [rounds_succ]
  go_wp2_with fail
  refine (cmp64 _ _ _).mono ?_
  rintro e w2 ⟨rfl, rfl⟩
  go_wp2_with fail
  refine (or2 (orI (orI (sgn a.e b.e) (sgn a.d b.d)) (sgn a.l0 b.l0)) (sgn a.l1 b.l1) _ _ (by simp [go_sem]) (by simp [go_sem])).mono ?_
  rintro e w2 ⟨rfl, rfl⟩
  go_wp2_with fail
  rw [rounds_succ]
  go_wp2_with fail
  refine (cmp64 _ _ _).mono ?_
  rintro e w2 ⟨rfl, rfl⟩
  go_wp2_with fail
  refine (or2 (orI (orI (orI (sgn a.e b.e) (sgn a.d b.d)) (sgn a.l0 b.l0)) (sgn a.l1 b.l1)) (sgn a.l2 b.l2) _ _ (by simp [go_sem]) (by simp [go_sem])).mono ?_
  rintro e w2 ⟨rfl, rfl⟩
  go_wp2_with fail
  rw [rounds_succ]
  go_wp2_with fail
  refine (cmp64 _ _ _).mono ?_
  rintro e w2 ⟨rfl, rfl⟩
  go_wp2_with fail
  refine (or2 (orI (orI (orI (orI (sgn a.e b.e) (sgn a.d b.d)) (sgn a.l0 b.l0)) (sgn a.l1 b.l1)) (sgn a.l2 b.l2)) (sgn a.l3 b.l3) _ _ (by simp [go_sem]) (by simp [go_sem])).mono ?_
  rintro e w2 ⟨rfl, rfl⟩
  go_wp2_with fail
  rw [rounds_succ]
  go_wp2
  go_returns
  refine ⟨rfl, ((((Ge.refl w).alloc _).alloc _).trans (gw.out.trans ?_))⟩
  go_grown
end Go.Proofs.Ytedccllpbajbfaa
