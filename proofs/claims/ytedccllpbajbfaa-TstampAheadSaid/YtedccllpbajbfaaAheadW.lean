/-
  TstampAhead: the walk.
-/
import Derived.Test.YtedccllpbajbfaaPlainE
import Derived.Test.YtedccllpbajbfaaLeq
import Derived.Test.YtedccllpbajbfaaLive
namespace Go.Proofs.Ytedccllpbajbfaa
open Go.RowKit
attribute [local go_sem] Dr.upT

theorem eqB_of_cmp {a b : Tm} {x : Int} (h : cmpT a b = x) : eqB a b = (x == 0) := by
  rw [Bool.eq_iff_iff, eqB_iff, beq_iff_eq, ← h, cmpT_zero]

set_option maxHeartbeats 8000000 in
theorem ahead_any (a b c : Tm) (w : World) : Calls Try.prog 9 #[.agg #[.int .i64 a.e, .int .i64 a.d, .int .i64 a.l0, .int .i64 a.l1, .int .i64 a.l2, .int .i64 a.l3], .agg #[.int .i64 b.e, .int .i64 b.d, .int .i64 b.l0, .int .i64 b.l1, .int .i64 b.l2, .int .i64 b.l3], .agg #[.int .i64 c.e, .int .i64 c.d, .int .i64 c.l0, .int .i64 c.l1, .int .i64 c.l2, .int .i64 c.l3]] w fun e w' => e = .returned (.bool true) ∧ Below w.heap.size w w' := by
  have hT := tri_cmpT a b c
  have hB := cmpT_bound a b
  have hB' := cmpT_bound b c
  have hB2 := cmpT_bound a c
  obtain ⟨x, hx⟩ : ∃ x, cmpT a b = x := ⟨_, rfl⟩
  obtain ⟨y, hy⟩ : ∃ y, cmpT b c = y := ⟨_, rfl⟩
  obtain ⟨z, hz⟩ : ∃ z, cmpT a c = z := ⟨_, rfl⟩
  rw [hx, hy, hz] at hT
  rw [hx] at hB
  rw [hy] at hB'
  rw [hz] at hB2
  have hL : leqB a b = true → x ≤ 0 := fun h => hx ▸ cmpT_le h
  have KT := Lib.hid hT
  have KB := Lib.hid hB
  have KB' := Lib.hid hB'
  have KB2 := Lib.hid hB2
  have KL := Lib.hid hL
  have CX := Lib.hid (fun w => by have := compare_any a b w; rwa [hx] at this)
  have CY := Lib.hid (fun w => by have := compare_any b c w; rwa [hy] at this)
  have CZ := Lib.hid (fun w => by have := compare_any a c w; rwa [hz] at this)
  have CN := Lib.hid (fun w => by have := compare_any b a w; rwa [cmpT_anti, hx] at this)
  have q := fun w => eql_tm a b w
  rw [eqB_of_cmp hx] at q
  have QQ := Lib.hid q
  clear hT hB hB' hB2 hL hx hy hz q
  go_enter Try.func9, Try.ntmps9
  go_wp2_with fail
  refine (live_any _).mono ?_
  rintro e w1 ⟨rfl, hb1⟩
  have X0 : Bx w1 (w.heap.size) 24 #[.int .i64 a.e, .int .i64 a.d, .int .i64 a.l0, .int .i64 a.l1, .int .i64 a.l2, .int .i64 a.l3] := (((Bx.new _ _ _ (by simp)).alloc _).alloc _).ge hb1
  have X1 : Bx w1 (w.heap.size + 1) 24 #[.int .i64 b.e, .int .i64 b.d, .int .i64 b.l0, .int .i64 b.l1, .int .i64 b.l2, .int .i64 b.l3] := ((Bx.new _ _ _ (by simp)).alloc _).ge hb1
  have X2 : Bx w1 (w.heap.size + 1 + 1) 24 #[.int .i64 c.e, .int .i64 c.d, .int .i64 c.l0, .int .i64 c.l1, .int .i64 c.l2, .int .i64 c.l3] := (Bx.new _ _ _ (by simp)).ge hb1
  have c0 := X0.cell
  have l0 := X0.lt
  have c1 := X1.cell
  have l1 := X1.lt
  have c2 := X2.cell
  have l2 := X2.lt
  have g1 := Lib.hid hb1
  clear hb1
  clear c0 c1 c2 l0 l1 l2
  go_wp2_with fail
  refine Dr.wp_region_T (by kernel_rfl) (by kernel_rfl) ?_
  apply Dr.wpT_det
  · intro u w2 hw hF
    clear hF
    have c0 := (X0.ge hw).cell
    have l0 := (X0.ge hw).lt
    have c1 := (X1.ge hw).cell
    have l1 := (X1.ge hw).lt
    have c2 := (X2.ge hw).cell
    have l2 := (X2.ge hw).lt
    go_simp
    first | exact ⟨Ge.refl _, rfl⟩ | exact Ge.refl _
  apply Dr.wpT_det
  · intro u w2 hw hF
    clear hF
    have c0 := (X0.ge hw).cell
    have l0 := (X0.ge hw).lt
    have c1 := (X1.ge hw).cell
    have l1 := (X1.ge hw).lt
    have c2 := (X2.ge hw).cell
    have l2 := (X2.ge hw).lt
    go_simp
    first | exact ⟨Ge.refl _, rfl⟩ | exact Ge.refl _
  refine Dr.wpT_det (.int .i64 x) ?_ ?_
  · intro u w2 hw hF
    clear hF
    go_simp
    refine (CX.out _).mono ?_
    rintro e w3 ⟨rfl, hg⟩
    exact ⟨rfl, hg⟩
  apply Dr.wpT_det
  · intro u w2 hw hF
    clear hF
    have c0 := (X0.ge hw).cell
    have l0 := (X0.ge hw).lt
    have c1 := (X1.ge hw).cell
    have l1 := (X1.ge hw).lt
    have c2 := (X2.ge hw).cell
    have l2 := (X2.ge hw).lt
    go_simp
    first | exact ⟨Ge.refl _, rfl⟩ | exact Ge.refl _
  apply Dr.wpT_det
  · intro u w2 hw hF
    clear hF
    have c0 := (X0.ge hw).cell
    have l0 := (X0.ge hw).lt
    have c1 := (X1.ge hw).cell
    have l1 := (X1.ge hw).lt
    have c2 := (X2.ge hw).cell
    have l2 := (X2.ge hw).lt
    go_simp
    first | exact ⟨Ge.refl _, rfl⟩ | exact Ge.refl _
  refine Dr.wpT_det (.int .i64 y) ?_ ?_
  · intro u w2 hw hF
    clear hF
    go_simp
    refine (CY.out _).mono ?_
    rintro e w3 ⟨rfl, hg⟩
    exact ⟨rfl, hg⟩
  apply Dr.wpT_det
  · intro u w2 hw hF
    clear hF
    have c0 := (X0.ge hw).cell
    have l0 := (X0.ge hw).lt
    have c1 := (X1.ge hw).cell
    have l1 := (X1.ge hw).lt
    have c2 := (X2.ge hw).cell
    have l2 := (X2.ge hw).lt
    go_simp
    first | exact ⟨Ge.refl _, rfl⟩ | exact Ge.refl _
  apply Dr.wpT_det
  · intro u w2 hw hF
    clear hF
    have c0 := (X0.ge hw).cell
    have l0 := (X0.ge hw).lt
    have c1 := (X1.ge hw).cell
    have l1 := (X1.ge hw).lt
    have c2 := (X2.ge hw).cell
    have l2 := (X2.ge hw).lt
    go_simp
    first | exact ⟨Ge.refl _, rfl⟩ | exact Ge.refl _
  refine Dr.wpT_det (.int .i64 z) ?_ ?_
  · intro u w2 hw hF
    clear hF
    go_simp
    refine (CZ.out _).mono ?_
    rintro e w3 ⟨rfl, hg⟩
    exact ⟨rfl, hg⟩
  apply Dr.wpT_det
  · intro u w2 hw hF
    clear hF
    have c0 := (X0.ge hw).cell
    have l0 := (X0.ge hw).lt
    have c1 := (X1.ge hw).cell
    have l1 := (X1.ge hw).lt
    have c2 := (X2.ge hw).cell
    have l2 := (X2.ge hw).lt
    go_simp
    first | exact ⟨Ge.refl _, rfl⟩ | exact Ge.refl _
  apply Dr.wpT_det
  · intro u w2 hw hF
    clear hF
    have c0 := (X0.ge hw).cell
    have l0 := (X0.ge hw).lt
    have c1 := (X1.ge hw).cell
    have l1 := (X1.ge hw).lt
    have c2 := (X2.ge hw).cell
    have l2 := (X2.ge hw).lt
    go_simp
    first | exact ⟨Ge.refl _, rfl⟩ | exact Ge.refl _
  apply Dr.wpT_det
  · intro u w2 hw hF
    clear hF
    have c0 := (X0.ge hw).cell
    have l0 := (X0.ge hw).lt
    have c1 := (X1.ge hw).cell
    have l1 := (X1.ge hw).lt
    have c2 := (X2.ge hw).cell
    have l2 := (X2.ge hw).lt
    go_simp
    first | exact ⟨Ge.refl _, rfl⟩ | exact Ge.refl _
  intro u w2 hw hF
  clear hF
  replace X0 := X0.ge hw
  replace X1 := X1.ge hw
  replace X2 := X2.ge hw
  have c0 := X0.cell
  have c1 := X1.cell
  have l0 := X0.lt
  have l1 := X1.lt
  have g2 := Lib.hid hw
  clear hw X2
  simp only [Act.put, List.setIfInBounds_toArray, List.set_cons_zero, List.set_cons_succ]
  have LL := Lib.hid (leq_any a b)
  generalize hl : leqB a b = t at LL KL
  clear hl
  have hx : x = -1 ∨ x = 0 ∨ x = 1 := by have := KB.out; omega
  have hy : y = -1 ∨ y = 0 ∨ y = 1 := by have := KB'.out; omega
  have hz : z = -1 ∨ z = 0 ∨ z = 1 := by have := KB2.out; omega
  rcases hx with rfl | rfl | rfl
  · rcases hy with rfl | rfl | rfl
    · obtain rfl : z = -1 := by have := KT.out; unfold Tri at this; omega
      cases t with
      | true =>
        have q := QQ.out
        have CM := CN.out
        simp only [Int.reduceNeg, Int.neg_neg, Int.reduceBEq] at q CM
        have CM' := Lib.hid CM
        clear CM
        go_wp2_with fail
        refine (LL.out _).mono ?_
        rintro e w3 ⟨rfl, hb3⟩
        have d0 := (X0.ge hb3).cell
        have d1 := (X1.ge hb3).cell
        have m0 := (X0.ge hb3).lt
        have m1 := (X1.ge hb3).lt
        replace X0 := X0.ge hb3
        replace X1 := X1.ge hb3
        have g3 := Lib.hid hb3
        clear hb3
        go_wp2_with fail
        refine (CM'.out _).mono ?_
        rintro e w4 ⟨rfl, hb4⟩
        have e0 := (X0.ge hb4).cell
        have e1 := (X1.ge hb4).cell
        have n0 := (X0.ge hb4).lt
        have n1 := (X1.ge hb4).lt
        have g4 := Lib.hid hb4
        clear hb4
        go_wp2
        go_returns
        exact ⟨rfl, (((((((Ge.refl w).alloc _).alloc _).alloc _).trans g1.out).trans g2.out).trans g3.out).trans g4.out⟩
      | false =>
        have q := QQ.out
        have CM := CN.out
        simp only [Int.reduceNeg, Int.neg_neg, Int.reduceBEq] at q CM
        have CM' := Lib.hid CM
        clear CM
        go_wp2_with fail
        refine (LL.out _).mono ?_
        rintro e w3 ⟨rfl, hb3⟩
        have d0 := (X0.ge hb3).cell
        have d1 := (X1.ge hb3).cell
        have m0 := (X0.ge hb3).lt
        have m1 := (X1.ge hb3).lt
        replace X0 := X0.ge hb3
        replace X1 := X1.ge hb3
        have g3 := Lib.hid hb3
        clear hb3
        go_wp2_with fail
        refine (CM'.out _).mono ?_
        rintro e w4 ⟨rfl, hb4⟩
        have e0 := (X0.ge hb4).cell
        have e1 := (X1.ge hb4).cell
        have n0 := (X0.ge hb4).lt
        have n1 := (X1.ge hb4).lt
        have g4 := Lib.hid hb4
        clear hb4
        go_wp2
        go_returns
        exact ⟨rfl, (((((((Ge.refl w).alloc _).alloc _).alloc _).trans g1.out).trans g2.out).trans g3.out).trans g4.out⟩
    · obtain rfl : z = -1 := by have := KT.out; unfold Tri at this; omega
      cases t with
      | true =>
        have q := QQ.out
        have CM := CN.out
        simp only [Int.reduceNeg, Int.neg_neg, Int.reduceBEq] at q CM
        have CM' := Lib.hid CM
        clear CM
        go_wp2_with fail
        refine (LL.out _).mono ?_
        rintro e w3 ⟨rfl, hb3⟩
        have d0 := (X0.ge hb3).cell
        have d1 := (X1.ge hb3).cell
        have m0 := (X0.ge hb3).lt
        have m1 := (X1.ge hb3).lt
        replace X0 := X0.ge hb3
        replace X1 := X1.ge hb3
        have g3 := Lib.hid hb3
        clear hb3
        go_wp2_with fail
        refine (CM'.out _).mono ?_
        rintro e w4 ⟨rfl, hb4⟩
        have e0 := (X0.ge hb4).cell
        have e1 := (X1.ge hb4).cell
        have n0 := (X0.ge hb4).lt
        have n1 := (X1.ge hb4).lt
        have g4 := Lib.hid hb4
        clear hb4
        go_wp2
        go_returns
        exact ⟨rfl, (((((((Ge.refl w).alloc _).alloc _).alloc _).trans g1.out).trans g2.out).trans g3.out).trans g4.out⟩
      | false =>
        have q := QQ.out
        have CM := CN.out
        simp only [Int.reduceNeg, Int.neg_neg, Int.reduceBEq] at q CM
        have CM' := Lib.hid CM
        clear CM
        go_wp2_with fail
        refine (LL.out _).mono ?_
        rintro e w3 ⟨rfl, hb3⟩
        have d0 := (X0.ge hb3).cell
        have d1 := (X1.ge hb3).cell
        have m0 := (X0.ge hb3).lt
        have m1 := (X1.ge hb3).lt
        replace X0 := X0.ge hb3
        replace X1 := X1.ge hb3
        have g3 := Lib.hid hb3
        clear hb3
        go_wp2_with fail
        refine (CM'.out _).mono ?_
        rintro e w4 ⟨rfl, hb4⟩
        have e0 := (X0.ge hb4).cell
        have e1 := (X1.ge hb4).cell
        have n0 := (X0.ge hb4).lt
        have n1 := (X1.ge hb4).lt
        have g4 := Lib.hid hb4
        clear hb4
        go_wp2
        go_returns
        exact ⟨rfl, (((((((Ge.refl w).alloc _).alloc _).alloc _).trans g1.out).trans g2.out).trans g3.out).trans g4.out⟩
    · cases t with
      | true =>
        have q := QQ.out
        have CM := CN.out
        simp only [Int.reduceNeg, Int.neg_neg, Int.reduceBEq] at q CM
        have CM' := Lib.hid CM
        clear CM
        go_wp2_with fail
        refine (LL.out _).mono ?_
        rintro e w3 ⟨rfl, hb3⟩
        have d0 := (X0.ge hb3).cell
        have d1 := (X1.ge hb3).cell
        have m0 := (X0.ge hb3).lt
        have m1 := (X1.ge hb3).lt
        replace X0 := X0.ge hb3
        replace X1 := X1.ge hb3
        have g3 := Lib.hid hb3
        clear hb3
        go_wp2_with fail
        refine (CM'.out _).mono ?_
        rintro e w4 ⟨rfl, hb4⟩
        have e0 := (X0.ge hb4).cell
        have e1 := (X1.ge hb4).cell
        have n0 := (X0.ge hb4).lt
        have n1 := (X1.ge hb4).lt
        have g4 := Lib.hid hb4
        clear hb4
        go_wp2
        go_returns
        exact ⟨rfl, (((((((Ge.refl w).alloc _).alloc _).alloc _).trans g1.out).trans g2.out).trans g3.out).trans g4.out⟩
      | false =>
        have q := QQ.out
        have CM := CN.out
        simp only [Int.reduceNeg, Int.neg_neg, Int.reduceBEq] at q CM
        have CM' := Lib.hid CM
        clear CM
        go_wp2_with fail
        refine (LL.out _).mono ?_
        rintro e w3 ⟨rfl, hb3⟩
        have d0 := (X0.ge hb3).cell
        have d1 := (X1.ge hb3).cell
        have m0 := (X0.ge hb3).lt
        have m1 := (X1.ge hb3).lt
        replace X0 := X0.ge hb3
        replace X1 := X1.ge hb3
        have g3 := Lib.hid hb3
        clear hb3
        go_wp2_with fail
        refine (CM'.out _).mono ?_
        rintro e w4 ⟨rfl, hb4⟩
        have e0 := (X0.ge hb4).cell
        have e1 := (X1.ge hb4).cell
        have n0 := (X0.ge hb4).lt
        have n1 := (X1.ge hb4).lt
        have g4 := Lib.hid hb4
        clear hb4
        go_wp2
        go_returns
        exact ⟨rfl, (((((((Ge.refl w).alloc _).alloc _).alloc _).trans g1.out).trans g2.out).trans g3.out).trans g4.out⟩
  · rcases hy with rfl | rfl | rfl
    · obtain rfl : z = -1 := by have := KT.out; unfold Tri at this; omega
      cases t with
      | true =>
        have q := QQ.out
        have CM := CN.out
        simp only [Int.neg_zero, Int.reduceBEq] at q CM
        have CM' := Lib.hid CM
        clear CM
        go_wp2_with fail
        refine (LL.out _).mono ?_
        rintro e w3 ⟨rfl, hb3⟩
        have d0 := (X0.ge hb3).cell
        have d1 := (X1.ge hb3).cell
        have m0 := (X0.ge hb3).lt
        have m1 := (X1.ge hb3).lt
        replace X0 := X0.ge hb3
        replace X1 := X1.ge hb3
        have g3 := Lib.hid hb3
        clear hb3
        go_wp2_with fail
        refine (CM'.out _).mono ?_
        rintro e w4 ⟨rfl, hb4⟩
        have e0 := (X0.ge hb4).cell
        have e1 := (X1.ge hb4).cell
        have n0 := (X0.ge hb4).lt
        have n1 := (X1.ge hb4).lt
        have g4 := Lib.hid hb4
        clear hb4
        go_wp2
        go_returns
        exact ⟨rfl, (((((((Ge.refl w).alloc _).alloc _).alloc _).trans g1.out).trans g2.out).trans g3.out).trans g4.out⟩
      | false =>
        have q := QQ.out
        have CM := CN.out
        simp only [Int.neg_zero, Int.reduceBEq] at q CM
        have CM' := Lib.hid CM
        clear CM
        go_wp2_with fail
        refine (LL.out _).mono ?_
        rintro e w3 ⟨rfl, hb3⟩
        have d0 := (X0.ge hb3).cell
        have d1 := (X1.ge hb3).cell
        have m0 := (X0.ge hb3).lt
        have m1 := (X1.ge hb3).lt
        replace X0 := X0.ge hb3
        replace X1 := X1.ge hb3
        have g3 := Lib.hid hb3
        clear hb3
        go_wp2_with fail
        refine (CM'.out _).mono ?_
        rintro e w4 ⟨rfl, hb4⟩
        have e0 := (X0.ge hb4).cell
        have e1 := (X1.ge hb4).cell
        have n0 := (X0.ge hb4).lt
        have n1 := (X1.ge hb4).lt
        have g4 := Lib.hid hb4
        clear hb4
        go_wp2
        go_returns
        exact ⟨rfl, (((((((Ge.refl w).alloc _).alloc _).alloc _).trans g1.out).trans g2.out).trans g3.out).trans g4.out⟩
    · obtain rfl : z = 0 := by have := KT.out; unfold Tri at this; omega
      cases t with
      | true =>
        have q := QQ.out
        have CM := CN.out
        simp only [Int.neg_zero, Int.reduceBEq] at q CM
        have CM' := Lib.hid CM
        clear CM
        go_wp2_with fail
        refine (LL.out _).mono ?_
        rintro e w3 ⟨rfl, hb3⟩
        have d0 := (X0.ge hb3).cell
        have d1 := (X1.ge hb3).cell
        have m0 := (X0.ge hb3).lt
        have m1 := (X1.ge hb3).lt
        replace X0 := X0.ge hb3
        replace X1 := X1.ge hb3
        have g3 := Lib.hid hb3
        clear hb3
        go_wp2_with fail
        refine (CM'.out _).mono ?_
        rintro e w4 ⟨rfl, hb4⟩
        have e0 := (X0.ge hb4).cell
        have e1 := (X1.ge hb4).cell
        have n0 := (X0.ge hb4).lt
        have n1 := (X1.ge hb4).lt
        have g4 := Lib.hid hb4
        clear hb4
        go_wp2
        go_returns
        exact ⟨rfl, (((((((Ge.refl w).alloc _).alloc _).alloc _).trans g1.out).trans g2.out).trans g3.out).trans g4.out⟩
      | false =>
        have q := QQ.out
        have CM := CN.out
        simp only [Int.neg_zero, Int.reduceBEq] at q CM
        have CM' := Lib.hid CM
        clear CM
        go_wp2_with fail
        refine (LL.out _).mono ?_
        rintro e w3 ⟨rfl, hb3⟩
        have d0 := (X0.ge hb3).cell
        have d1 := (X1.ge hb3).cell
        have m0 := (X0.ge hb3).lt
        have m1 := (X1.ge hb3).lt
        replace X0 := X0.ge hb3
        replace X1 := X1.ge hb3
        have g3 := Lib.hid hb3
        clear hb3
        go_wp2_with fail
        refine (CM'.out _).mono ?_
        rintro e w4 ⟨rfl, hb4⟩
        have e0 := (X0.ge hb4).cell
        have e1 := (X1.ge hb4).cell
        have n0 := (X0.ge hb4).lt
        have n1 := (X1.ge hb4).lt
        have g4 := Lib.hid hb4
        clear hb4
        go_wp2
        go_returns
        exact ⟨rfl, (((((((Ge.refl w).alloc _).alloc _).alloc _).trans g1.out).trans g2.out).trans g3.out).trans g4.out⟩
    · cases t with
      | true =>
        have q := QQ.out
        have CM := CN.out
        simp only [Int.neg_zero, Int.reduceBEq] at q CM
        have CM' := Lib.hid CM
        clear CM
        go_wp2_with fail
        refine (LL.out _).mono ?_
        rintro e w3 ⟨rfl, hb3⟩
        have d0 := (X0.ge hb3).cell
        have d1 := (X1.ge hb3).cell
        have m0 := (X0.ge hb3).lt
        have m1 := (X1.ge hb3).lt
        replace X0 := X0.ge hb3
        replace X1 := X1.ge hb3
        have g3 := Lib.hid hb3
        clear hb3
        go_wp2_with fail
        refine (CM'.out _).mono ?_
        rintro e w4 ⟨rfl, hb4⟩
        have e0 := (X0.ge hb4).cell
        have e1 := (X1.ge hb4).cell
        have n0 := (X0.ge hb4).lt
        have n1 := (X1.ge hb4).lt
        have g4 := Lib.hid hb4
        clear hb4
        go_wp2
        go_returns
        exact ⟨rfl, (((((((Ge.refl w).alloc _).alloc _).alloc _).trans g1.out).trans g2.out).trans g3.out).trans g4.out⟩
      | false =>
        have q := QQ.out
        have CM := CN.out
        simp only [Int.neg_zero, Int.reduceBEq] at q CM
        have CM' := Lib.hid CM
        clear CM
        go_wp2_with fail
        refine (LL.out _).mono ?_
        rintro e w3 ⟨rfl, hb3⟩
        have d0 := (X0.ge hb3).cell
        have d1 := (X1.ge hb3).cell
        have m0 := (X0.ge hb3).lt
        have m1 := (X1.ge hb3).lt
        replace X0 := X0.ge hb3
        replace X1 := X1.ge hb3
        have g3 := Lib.hid hb3
        clear hb3
        go_wp2_with fail
        refine (CM'.out _).mono ?_
        rintro e w4 ⟨rfl, hb4⟩
        have e0 := (X0.ge hb4).cell
        have e1 := (X1.ge hb4).cell
        have n0 := (X0.ge hb4).lt
        have n1 := (X1.ge hb4).lt
        have g4 := Lib.hid hb4
        clear hb4
        go_wp2
        go_returns
        exact ⟨rfl, (((((((Ge.refl w).alloc _).alloc _).alloc _).trans g1.out).trans g2.out).trans g3.out).trans g4.out⟩
  · cases t with
    | true => exact absurd (KL.out rfl) (by omega)
    | false =>
      have q := QQ.out
      have CM := CN.out
      simp only [Int.reduceNeg, Int.reduceBEq] at q CM
      have CM' := Lib.hid CM
      clear CM
      go_wp2_with fail
      refine (LL.out _).mono ?_
      rintro e w3 ⟨rfl, hb3⟩
      have d0 := (X0.ge hb3).cell
      have d1 := (X1.ge hb3).cell
      have m0 := (X0.ge hb3).lt
      have m1 := (X1.ge hb3).lt
      replace X0 := X0.ge hb3
      replace X1 := X1.ge hb3
      have g3 := Lib.hid hb3
      clear hb3
      go_wp2_with fail
      refine (CM'.out _).mono ?_
      rintro e w4 ⟨rfl, hb4⟩
      have e0 := (X0.ge hb4).cell
      have e1 := (X1.ge hb4).cell
      have n0 := (X0.ge hb4).lt
      have n1 := (X1.ge hb4).lt
      have g4 := Lib.hid hb4
      clear hb4
      go_wp2
      go_returns
      exact ⟨rfl, (((((((Ge.refl w).alloc _).alloc _).alloc _).trans g1.out).trans g2.out).trans g3.out).trans g4.out⟩
end Go.Proofs.Ytedccllpbajbfaa
