/-
  TstampOrders: the walk.
-/
import Derived.Test.YtedccllpbajbfaaRLeq
import Derived.Test.YtedccllpbajbfaaLive
namespace Go.Proofs.Ytedccllpbajbfaa
open Go.RowKit
attribute [local go_sem] Dr.upT

set_option maxHeartbeats 4000000 in
theorem orders_any (a b : Tm) (w : World) : Calls Try.prog 8 #[.agg #[.int .i64 a.e, .int .i64 a.d, .int .i64 a.l0, .int .i64 a.l1, .int .i64 a.l2, .int .i64 a.l3], .agg #[.int .i64 b.e, .int .i64 b.d, .int .i64 b.l0, .int .i64 b.l1, .int .i64 b.l2, .int .i64 b.l3]] w fun e w' => e = .returned (.bool true) ∧ Below w.heap.size w w' := by
  go_enter Try.func8, Try.ntmps8
  go_wp2_with fail
  refine (live_any _).mono ?_
  rintro e w1 ⟨rfl, hb1⟩
  have X0 : Bx w1 (w.heap.size) 24 #[.int .i64 a.e, .int .i64 a.d, .int .i64 a.l0, .int .i64 a.l1, .int .i64 a.l2, .int .i64 a.l3] := ((Bx.new _ _ _ (by simp)).alloc _).ge hb1
  have X1 : Bx w1 (w.heap.size + 1) 24 #[.int .i64 b.e, .int .i64 b.d, .int .i64 b.l0, .int .i64 b.l1, .int .i64 b.l2, .int .i64 b.l3] := ((Bx.new _ _ _ (by simp))).ge hb1
  have c0 := X0.cell
  have l0 := X0.lt
  have c1 := X1.cell
  have l1 := X1.lt
  have g1 := Lib.hid hb1
  clear hb1
  clear c0 c1 l0 l1
  go_wp2_with fail
  refine Dr.wp_region_T (by kernel_rfl) (by kernel_rfl) ?_
  apply Dr.wpT_det
  · intro u w2 hw hF
    clear hF
    have c0 := (X0.ge hw).cell
    have l0 := (X0.ge hw).lt
    have c1 := (X1.ge hw).cell
    have l1 := (X1.ge hw).lt
    go_simp
    first | exact ⟨Ge.refl _, rfl⟩ | exact Ge.refl _
  refine Dr.wpT_det (.int .i64 (chkE a)) ?_ ?_
  · intro u w2 hw hF
    clear hF
    go_simp
    refine (check_any a _).mono ?_
    rintro e w3 ⟨rfl, rfl⟩
    exact ⟨rfl, (Ge.refl _).alloc _⟩
  apply Dr.wpT_det
  · intro u w2 hw hF
    clear hF
    have c0 := (X0.ge hw).cell
    have l0 := (X0.ge hw).lt
    have c1 := (X1.ge hw).cell
    have l1 := (X1.ge hw).lt
    go_simp
    first | exact ⟨Ge.refl _, rfl⟩ | exact Ge.refl _
  refine Dr.wpT_det (.int .i64 (chkE a)) ?_ ?_
  · intro u w2 hw hF
    clear hF
    go_simp
    refine (rcheck_any a _).mono ?_
    rintro e w3 ⟨rfl, rfl⟩
    exact ⟨rfl, (Ge.refl _).alloc _⟩
  refine Dr.wpT_det (.bool true) ?_ ?_
  · intro u w2 hw hF
    clear hF
    have c0 := (X0.ge hw).cell
    have l0 := (X0.ge hw).lt
    have c1 := (X1.ge hw).cell
    have l1 := (X1.ge hw).lt
    go_simp
    first | exact ⟨Ge.refl _, rfl⟩ | exact Ge.refl _
  refine Dr.wpT_det (.bool true) ?_ ?_
  · intro u w2 hw hF
    clear hF
    have c0 := (X0.ge hw).cell
    have l0 := (X0.ge hw).lt
    have c1 := (X1.ge hw).cell
    have l1 := (X1.ge hw).lt
    go_simp
    first | exact ⟨Ge.refl _, rfl⟩ | exact Ge.refl _
  apply Dr.wpT_det
  · intro u w2 hw hF
    clear hF
    have c0 := (X0.ge hw).cell
    have l0 := (X0.ge hw).lt
    have c1 := (X1.ge hw).cell
    have l1 := (X1.ge hw).lt
    go_simp
    first | exact ⟨Ge.refl _, rfl⟩ | exact Ge.refl _
  apply Dr.wpT_det
  · intro u w2 hw hF
    clear hF
    have c0 := (X0.ge hw).cell
    have l0 := (X0.ge hw).lt
    have c1 := (X1.ge hw).cell
    have l1 := (X1.ge hw).lt
    go_simp
    first | exact ⟨Ge.refl _, rfl⟩ | exact Ge.refl _
  refine Dr.wpT_det (.bool (leqB a b)) ?_ ?_
  · intro u w2 hw hF
    clear hF
    go_simp
    refine (leq_any a b _).mono ?_
    rintro e w3 ⟨rfl, hg⟩
    exact ⟨rfl, hg⟩
  apply Dr.wpT_det
  · intro u w2 hw hF
    clear hF
    have c0 := (X0.ge hw).cell
    have l0 := (X0.ge hw).lt
    have c1 := (X1.ge hw).cell
    have l1 := (X1.ge hw).lt
    go_simp
    first | exact ⟨Ge.refl _, rfl⟩ | exact Ge.refl _
  apply Dr.wpT_det
  · intro u w2 hw hF
    clear hF
    have c0 := (X0.ge hw).cell
    have l0 := (X0.ge hw).lt
    have c1 := (X1.ge hw).cell
    have l1 := (X1.ge hw).lt
    go_simp
    first | exact ⟨Ge.refl _, rfl⟩ | exact Ge.refl _
  refine Dr.wpT_det (.bool (leqB a b)) ?_ ?_
  · intro u w2 hw hF
    clear hF
    go_simp
    refine (rleq_any a b _).mono ?_
    rintro e w3 ⟨rfl, hg⟩
    exact ⟨rfl, hg⟩
  refine Dr.wpT_det (.bool true) ?_ ?_
  · intro u w2 hw hF
    clear hF
    have c0 := (X0.ge hw).cell
    have l0 := (X0.ge hw).lt
    have c1 := (X1.ge hw).cell
    have l1 := (X1.ge hw).lt
    go_simp
    first | exact ⟨Ge.refl _, rfl⟩ | exact Ge.refl _
  refine Dr.wpT_det (.bool true) ?_ ?_
  · intro u w2 hw hF
    clear hF
    have c0 := (X0.ge hw).cell
    have l0 := (X0.ge hw).lt
    have c1 := (X1.ge hw).cell
    have l1 := (X1.ge hw).lt
    go_simp
    first | exact ⟨Ge.refl _, rfl⟩ | exact Ge.refl _
  refine Dr.wpT_det (.bool true) ?_ ?_
  · intro u w2 hw hF
    clear hF
    have c0 := (X0.ge hw).cell
    have l0 := (X0.ge hw).lt
    have c1 := (X1.ge hw).cell
    have l1 := (X1.ge hw).lt
    go_simp
    first | exact ⟨Ge.refl _, rfl⟩ | exact Ge.refl _
  apply Dr.wpT_det
  · intro u w2 hw hF
    clear hF
    have c0 := (X0.ge hw).cell
    have l0 := (X0.ge hw).lt
    have c1 := (X1.ge hw).cell
    have l1 := (X1.ge hw).lt
    go_simp
    first | exact ⟨Ge.refl _, rfl⟩ | exact Ge.refl _
  apply Dr.wpT_det
  · intro u w2 hw hF
    clear hF
    have c0 := (X0.ge hw).cell
    have l0 := (X0.ge hw).lt
    have c1 := (X1.ge hw).cell
    have l1 := (X1.ge hw).lt
    go_simp
    first | exact ⟨Ge.refl _, rfl⟩ | exact Ge.refl _
  refine Dr.wpT_det (.int .i64 (cmpT a b)) ?_ ?_
  · intro u w2 hw hF
    clear hF
    go_simp
    refine (compare_any a b _).mono ?_
    rintro e w3 ⟨rfl, hg⟩
    exact ⟨rfl, hg⟩
  apply Dr.wpT_det
  · intro u w2 hw hF
    clear hF
    have c0 := (X0.ge hw).cell
    have l0 := (X0.ge hw).lt
    have c1 := (X1.ge hw).cell
    have l1 := (X1.ge hw).lt
    go_simp
    first | exact ⟨Ge.refl _, rfl⟩ | exact Ge.refl _
  apply Dr.wpT_det
  · intro u w2 hw hF
    clear hF
    have c0 := (X0.ge hw).cell
    have l0 := (X0.ge hw).lt
    have c1 := (X1.ge hw).cell
    have l1 := (X1.ge hw).lt
    go_simp
    first | exact ⟨Ge.refl _, rfl⟩ | exact Ge.refl _
  refine Dr.wpT_det (.int .i64 (cmpT a b)) ?_ ?_
  · intro u w2 hw hF
    clear hF
    go_simp
    refine (rcompare_any a b _).mono ?_
    rintro e w3 ⟨rfl, hg⟩
    exact ⟨rfl, hg⟩
  refine Dr.wpT_det (.bool true) ?_ ?_
  · intro u w2 hw hF
    clear hF
    have c0 := (X0.ge hw).cell
    have l0 := (X0.ge hw).lt
    have c1 := (X1.ge hw).cell
    have l1 := (X1.ge hw).lt
    go_simp
    first | exact ⟨Ge.refl _, rfl⟩ | exact Ge.refl _
  refine Dr.wpT_det (.bool true) ?_ ?_
  · intro u w2 hw hF
    clear hF
    have c0 := (X0.ge hw).cell
    have l0 := (X0.ge hw).lt
    have c1 := (X1.ge hw).cell
    have l1 := (X1.ge hw).lt
    go_simp
    first | exact ⟨Ge.refl _, rfl⟩ | exact Ge.refl _
  apply Dr.wpT_det
  · intro u w2 hw hF
    clear hF
    have c0 := (X0.ge hw).cell
    have l0 := (X0.ge hw).lt
    have c1 := (X1.ge hw).cell
    have l1 := (X1.ge hw).lt
    go_simp
    first | exact ⟨Ge.refl _, rfl⟩ | exact Ge.refl _
  intro u w2 hw hF
  clear hF
  go_wp2
  simp only [Act.put, List.setIfInBounds_toArray, List.set_cons_zero, List.set_cons_succ]
  go_returns
  exact ⟨rfl, ((((Ge.refl w).alloc _).alloc _).trans g1.out).trans hw⟩
end Go.Proofs.Ytedccllpbajbfaa
