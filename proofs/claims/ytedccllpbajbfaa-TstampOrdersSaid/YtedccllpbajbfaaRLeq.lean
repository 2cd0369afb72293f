/-
  The reference's Leq and Compare.
-/
import Derived.Test.YtedccllpbajbfaaCompare
import Derived.Test.YtedccllpbajbfaaLeq
import Derived.BigQuiet
namespace Go.Proofs.Ytedccllpbajbfaa
open Go.RowKit
attribute [local go_sem] Dr.upT

theorem Ge.drewN {a b : World} (h : Ge a b) (n : Nat) : Ge a (b.drewN n) := h.trans ⟨rfl, rfl, rfl, Nat.le_refl _, fun _ _ => rfl⟩

set_option maxHeartbeats 2000000 in
theorem rleq_any (a b : Tm) (w : World) :
    Calls Try.prog 35 #[.agg #[.int .i64 a.e, .int .i64 a.d, .int .i64 a.l0, .int .i64 a.l1, .int .i64 a.l2, .int .i64 a.l3], .agg #[.int .i64 b.e, .int .i64 b.d, .int .i64 b.l0, .int .i64 b.l1, .int .i64 b.l2, .int .i64 b.l3]] w fun e w' =>
      e = .returned (.bool (leqB a b)) ∧ Below w.heap.size w w' := by
  by_cases hca : Chk a
  · have HA := Lib.hid (rcheck_yes hca)
    have KA := Lib.hid hca
    clear hca
    by_cases hcb : Chk b
    · have HB := Lib.hid (rcheck_yes hcb)
      have KB := Lib.hid hcb
      clear hcb
      go_enter Try.func35, Try.ntmps35
      go_wp2_with fail
      refine (HA.out _).mono ?_
      rintro e w1 ⟨rfl, rfl⟩
      go_wp2_with fail
      refine (HB.out _).mono ?_
      rintro e w1 ⟨rfl, rfl⟩
      go_wp2
      any_goals
        refine wp_loop_rounds 5 ?_
        repeat any_goals (rw [rounds_succ]; go_wp2_with (go_quiet (fail)))
      all_goals
        first
          | (exfalso; omega)
          | (go_returns
             refine ⟨ret_bool ?_, by ((repeat (with_reducible refine Ge.drewN ?_ _)); go_grown)⟩
             have := KA.out
             have := KB.out
             (try simp only [bne_iff_ne, ne_eq, bne_eq_false_iff_eq] at *)
             first
               | (refine leqB_no ?_; simp only [Le]; omega)
               | (refine leqB_yes ?_; simp only [Le]; exact ⟨KA.out, KB.out, by omega⟩))
    · have HB := Lib.hid (rcheck_no hcb)
      have KB := Lib.hid hcb
      clear hcb
      go_enter Try.func35, Try.ntmps35
      go_wp2_with fail
      refine (HA.out _).mono ?_
      rintro e w1 ⟨rfl, rfl⟩
      go_wp2_with fail
      refine (HB.out _).mono ?_
      rintro e w1 ⟨rfl, rfl⟩
      go_wp2
      go_returns
      exact ⟨ret_bool (leqB_no (fun h => KB.out h.2.1)), by go_grown⟩
  · have HA := Lib.hid (rcheck_no hca)
    have KA := Lib.hid hca
    clear hca
    go_enter Try.func35, Try.ntmps35
    go_wp2_with fail
    refine (HA.out _).mono ?_
    rintro e w1 ⟨rfl, rfl⟩
    go_wp2
    go_returns
    exact ⟨ret_bool (leqB_no (fun h => KA.out h.1)), by go_grown⟩

theorem orI_no {x : Int} (h : x ≠ 0) (y : Int) : orI x y = x := by unfold orI; rw [if_neg h]
theorem orI_yes {x : Int} (h : x = 0) (y : Int) : orI x y = y := by unfold orI; rw [if_pos h]

set_option maxHeartbeats 2000000 in
theorem rcompare_any (a b : Tm) (w : World) :
    Calls Try.prog 37 #[.agg #[.int .i64 a.e, .int .i64 a.d, .int .i64 a.l0, .int .i64 a.l1, .int .i64 a.l2, .int .i64 a.l3], .agg #[.int .i64 b.e, .int .i64 b.d, .int .i64 b.l0, .int .i64 b.l1, .int .i64 b.l2, .int .i64 b.l3]] w fun e w' =>
      e = .returned (.int .i64 (cmpT a b)) ∧ Below w.heap.size w w' := by
  go_enter Try.func37, Try.ntmps37
  go_wp2_with fail
  refine (sign_any _ _ _).mono ?_
  rintro e w1 ⟨rfl, rfl⟩
  rcases Bool.eq_false_or_eq_true (sgn a.e b.e != 0) with z0 | z0
  · go_wp2_with fail
    go_returns
    rw [bne_iff_ne] at z0
    exact ⟨ret_int (by simp only [cmpT, cmpH, orI_no z0]), by go_grown⟩
  go_wp2_with fail
  have Z0 := Lib.hid (bne_eq_false_iff_eq.1 z0)
  clear z0
  refine (sign_any _ _ _).mono ?_
  rintro e w1 ⟨rfl, rfl⟩
  rcases Bool.eq_false_or_eq_true (sgn a.d b.d != 0) with z1 | z1
  · go_wp2_with fail
    go_returns
    rw [bne_iff_ne] at z1
    exact ⟨ret_int (by simp only [cmpT, cmpH, orI_yes Z0.out, orI_no z1]), by go_grown⟩
  go_wp2_with fail
  have Z1 := Lib.hid (bne_eq_false_iff_eq.1 z1)
  clear z1
  obtain ⟨w0, hw0⟩ : ∃ w0, w0 = (w.alloc (.cells #[.int .i64 a.e, .int .i64 a.d, .int .i64 a.l0, .int .i64 a.l1, .int .i64 a.l2, .int .i64 a.l3] 24)).alloc (.cells #[.int .i64 b.e, .int .i64 b.d, .int .i64 b.l0, .int .i64 b.l1, .int .i64 b.l2, .int .i64 b.l3] 24) := ⟨_, rfl⟩
  have XA : Bx w0 w.heap.size 24 #[.int .i64 a.e, .int .i64 a.d, .int .i64 a.l0, .int .i64 a.l1, .int .i64 a.l2, .int .i64 a.l3] := by rw [hw0]; exact (Bx.new _ _ _ rfl).alloc _
  have XB : Bx w0 (w.heap.size + 1) 24 #[.int .i64 b.e, .int .i64 b.d, .int .i64 b.l0, .int .i64 b.l1, .int .i64 b.l2, .int .i64 b.l3] := by rw [hw0]; exact Bx.new _ _ _ (by simp)
  have GW : Hid (Ge w w0) := by rw [hw0]; exact ((Ge.refl w).alloc _).alloc _
  rw [← hw0]
  clear hw0
  refine wp_loop_rounds 5 ?_
  rw [rounds_succ]
  go_wp2_with fail
  refine Dr.wp_region_T (by kernel_rfl) (by kernel_rfl) ?_
  apply Dr.wpT_det
  · intro u w1 hw hF
    clear hF
    have cA := (XA.ge hw).cell
    have cB := (XB.ge hw).cell
    have lA := (XA.ge hw).lt
    have lB := (XB.ge hw).lt
    go_simp
    exact ⟨Ge.refl _, rfl⟩
  apply Dr.wpT_det
  · intro u w1 hw hF
    clear hF
    have cA := (XA.ge hw).cell
    have cB := (XB.ge hw).cell
    have lA := (XA.ge hw).lt
    have lB := (XB.ge hw).lt
    go_simp
    exact ⟨Ge.refl _, rfl⟩
  apply Dr.wpT_det
  · intro u w1 hw hF
    clear hF
    have cA := (XA.ge hw).cell
    have cB := (XB.ge hw).cell
    have lA := (XA.ge hw).lt
    have lB := (XB.ge hw).lt
    go_simp
    exact ⟨Ge.refl _, rfl⟩
  apply Dr.wpT_det
  · intro u w1 hw hF
    clear hF
    have cA := (XA.ge hw).cell
    have cB := (XB.ge hw).cell
    have lA := (XA.ge hw).lt
    have lB := (XB.ge hw).lt
    go_simp
    exact ⟨Ge.refl _, rfl⟩
  apply Dr.wpT_det
  · intro u w1 hw hF
    clear hF
    have cA := (XA.ge hw).cell
    have cB := (XB.ge hw).cell
    have lA := (XA.ge hw).lt
    have lB := (XB.ge hw).lt
    go_simp
    exact ⟨Ge.refl _, rfl⟩
  apply Dr.wpT_det
  · intro u w1 hw hF
    clear hF
    have cA := (XA.ge hw).cell
    have cB := (XB.ge hw).cell
    have lA := (XA.ge hw).lt
    have lB := (XB.ge hw).lt
    go_simp
    exact ⟨Ge.refl _, rfl⟩
  apply Dr.wpT_det
  · intro u w1 hw hF
    clear hF
    have cA := (XA.ge hw).cell
    have cB := (XB.ge hw).cell
    have lA := (XA.ge hw).lt
    have lB := (XB.ge hw).lt
    go_simp
    exact ⟨Ge.refl _, rfl⟩
  apply Dr.wpT_det
  · intro u w1 hw hF
    clear hF
    have cA := (XA.ge hw).cell
    have cB := (XB.ge hw).cell
    have lA := (XA.ge hw).lt
    have lB := (XB.ge hw).lt
    go_simp
    exact ⟨Ge.refl _, rfl⟩
  apply Dr.wpT_det
  · intro u w1 hw hF
    go_simp
    refine (sign_any _ _ _).mono ?_
    rintro e w2 ⟨rfl, rfl⟩
    exact ⟨rfl, Ge.refl _⟩
  apply Dr.wpT_det
  · intro u w1 hw hF
    clear hF
    have cA := (XA.ge hw).cell
    have cB := (XB.ge hw).cell
    have lA := (XA.ge hw).lt
    have lB := (XB.ge hw).lt
    go_simp
    exact ⟨Ge.refl _, rfl⟩
  intro u w1 hw hF
  clear hF
  replace XA := XA.ge hw
  replace XB := XB.ge hw
  replace GW := Lib.hid (GW.out.trans hw)
  clear hw
  rcases Bool.eq_false_or_eq_true (sgn a.l0 b.l0 != 0) with z2 | z2
  · go_wp2_with fail
    go_returns
    rw [bne_iff_ne] at z2
    exact ⟨ret_int (by simp only [cmpT, cmpH, orI_yes Z0.out, orI_yes Z1.out, orI_no z2]), GW.out⟩
  go_wp2_with fail
  have Z2 := Lib.hid (bne_eq_false_iff_eq.1 z2)
  clear z2
  rw [rounds_succ]
  go_wp2_with fail
  refine Dr.wp_region_T (by kernel_rfl) (by kernel_rfl) ?_
  apply Dr.wpT_det
  · intro u w1 hw hF
    clear hF
    have cA := (XA.ge hw).cell
    have cB := (XB.ge hw).cell
    have lA := (XA.ge hw).lt
    have lB := (XB.ge hw).lt
    go_simp
    exact ⟨Ge.refl _, rfl⟩
  apply Dr.wpT_det
  · intro u w1 hw hF
    clear hF
    have cA := (XA.ge hw).cell
    have cB := (XB.ge hw).cell
    have lA := (XA.ge hw).lt
    have lB := (XB.ge hw).lt
    go_simp
    exact ⟨Ge.refl _, rfl⟩
  apply Dr.wpT_det
  · intro u w1 hw hF
    clear hF
    have cA := (XA.ge hw).cell
    have cB := (XB.ge hw).cell
    have lA := (XA.ge hw).lt
    have lB := (XB.ge hw).lt
    go_simp
    exact ⟨Ge.refl _, rfl⟩
  apply Dr.wpT_det
  · intro u w1 hw hF
    clear hF
    have cA := (XA.ge hw).cell
    have cB := (XB.ge hw).cell
    have lA := (XA.ge hw).lt
    have lB := (XB.ge hw).lt
    go_simp
    exact ⟨Ge.refl _, rfl⟩
  apply Dr.wpT_det
  · intro u w1 hw hF
    clear hF
    have cA := (XA.ge hw).cell
    have cB := (XB.ge hw).cell
    have lA := (XA.ge hw).lt
    have lB := (XB.ge hw).lt
    go_simp
    exact ⟨Ge.refl _, rfl⟩
  apply Dr.wpT_det
  · intro u w1 hw hF
    clear hF
    have cA := (XA.ge hw).cell
    have cB := (XB.ge hw).cell
    have lA := (XA.ge hw).lt
    have lB := (XB.ge hw).lt
    go_simp
    exact ⟨Ge.refl _, rfl⟩
  apply Dr.wpT_det
  · intro u w1 hw hF
    clear hF
    have cA := (XA.ge hw).cell
    have cB := (XB.ge hw).cell
    have lA := (XA.ge hw).lt
    have lB := (XB.ge hw).lt
    go_simp
    exact ⟨Ge.refl _, rfl⟩
  apply Dr.wpT_det
  · intro u w1 hw hF
    clear hF
    have cA := (XA.ge hw).cell
    have cB := (XB.ge hw).cell
    have lA := (XA.ge hw).lt
    have lB := (XB.ge hw).lt
    go_simp
    exact ⟨Ge.refl _, rfl⟩
  apply Dr.wpT_det
  · intro u w1 hw hF
    go_simp
    refine (sign_any _ _ _).mono ?_
    rintro e w2 ⟨rfl, rfl⟩
    exact ⟨rfl, Ge.refl _⟩
  apply Dr.wpT_det
  · intro u w1 hw hF
    clear hF
    have cA := (XA.ge hw).cell
    have cB := (XB.ge hw).cell
    have lA := (XA.ge hw).lt
    have lB := (XB.ge hw).lt
    go_simp
    exact ⟨Ge.refl _, rfl⟩
  intro u w1 hw hF
  clear hF
  replace XA := XA.ge hw
  replace XB := XB.ge hw
  replace GW := Lib.hid (GW.out.trans hw)
  clear hw
  rcases Bool.eq_false_or_eq_true (sgn a.l1 b.l1 != 0) with z3 | z3
  · go_wp2_with fail
    go_returns
    rw [bne_iff_ne] at z3
    exact ⟨ret_int (by simp only [cmpT, cmpH, orI_yes Z0.out, orI_yes Z1.out, orI_yes Z2.out, orI_no z3]), GW.out⟩
  go_wp2_with fail
  have Z3 := Lib.hid (bne_eq_false_iff_eq.1 z3)
  clear z3
  rw [rounds_succ]
  go_wp2_with fail
  refine Dr.wp_region_T (by kernel_rfl) (by kernel_rfl) ?_
  apply Dr.wpT_det
  · intro u w1 hw hF
    clear hF
    have cA := (XA.ge hw).cell
    have cB := (XB.ge hw).cell
    have lA := (XA.ge hw).lt
    have lB := (XB.ge hw).lt
    go_simp
    exact ⟨Ge.refl _, rfl⟩
  apply Dr.wpT_det
  · intro u w1 hw hF
    clear hF
    have cA := (XA.ge hw).cell
    have cB := (XB.ge hw).cell
    have lA := (XA.ge hw).lt
    have lB := (XB.ge hw).lt
    go_simp
    exact ⟨Ge.refl _, rfl⟩
  apply Dr.wpT_det
  · intro u w1 hw hF
    clear hF
    have cA := (XA.ge hw).cell
    have cB := (XB.ge hw).cell
    have lA := (XA.ge hw).lt
    have lB := (XB.ge hw).lt
    go_simp
    exact ⟨Ge.refl _, rfl⟩
  apply Dr.wpT_det
  · intro u w1 hw hF
    clear hF
    have cA := (XA.ge hw).cell
    have cB := (XB.ge hw).cell
    have lA := (XA.ge hw).lt
    have lB := (XB.ge hw).lt
    go_simp
    exact ⟨Ge.refl _, rfl⟩
  apply Dr.wpT_det
  · intro u w1 hw hF
    clear hF
    have cA := (XA.ge hw).cell
    have cB := (XB.ge hw).cell
    have lA := (XA.ge hw).lt
    have lB := (XB.ge hw).lt
    go_simp
    exact ⟨Ge.refl _, rfl⟩
  apply Dr.wpT_det
  · intro u w1 hw hF
    clear hF
    have cA := (XA.ge hw).cell
    have cB := (XB.ge hw).cell
    have lA := (XA.ge hw).lt
    have lB := (XB.ge hw).lt
    go_simp
    exact ⟨Ge.refl _, rfl⟩
  apply Dr.wpT_det
  · intro u w1 hw hF
    clear hF
    have cA := (XA.ge hw).cell
    have cB := (XB.ge hw).cell
    have lA := (XA.ge hw).lt
    have lB := (XB.ge hw).lt
    go_simp
    exact ⟨Ge.refl _, rfl⟩
  apply Dr.wpT_det
  · intro u w1 hw hF
    clear hF
    have cA := (XA.ge hw).cell
    have cB := (XB.ge hw).cell
    have lA := (XA.ge hw).lt
    have lB := (XB.ge hw).lt
    go_simp
    exact ⟨Ge.refl _, rfl⟩
  apply Dr.wpT_det
  · intro u w1 hw hF
    go_simp
    refine (sign_any _ _ _).mono ?_
    rintro e w2 ⟨rfl, rfl⟩
    exact ⟨rfl, Ge.refl _⟩
  apply Dr.wpT_det
  · intro u w1 hw hF
    clear hF
    have cA := (XA.ge hw).cell
    have cB := (XB.ge hw).cell
    have lA := (XA.ge hw).lt
    have lB := (XB.ge hw).lt
    go_simp
    exact ⟨Ge.refl _, rfl⟩
  intro u w1 hw hF
  clear hF
  replace XA := XA.ge hw
  replace XB := XB.ge hw
  replace GW := Lib.hid (GW.out.trans hw)
  clear hw
  rcases Bool.eq_false_or_eq_true (sgn a.l2 b.l2 != 0) with z4 | z4
  · go_wp2_with fail
    go_returns
    rw [bne_iff_ne] at z4
    exact ⟨ret_int (by simp only [cmpT, cmpH, orI_yes Z0.out, orI_yes Z1.out, orI_yes Z2.out, orI_yes Z3.out, orI_no z4]), GW.out⟩
  go_wp2_with fail
  have Z4 := Lib.hid (bne_eq_false_iff_eq.1 z4)
  clear z4
  rw [rounds_succ]
  go_wp2_with fail
  refine Dr.wp_region_T (by kernel_rfl) (by kernel_rfl) ?_
  apply Dr.wpT_det
  · intro u w1 hw hF
    clear hF
    have cA := (XA.ge hw).cell
    have cB := (XB.ge hw).cell
    have lA := (XA.ge hw).lt
    have lB := (XB.ge hw).lt
    go_simp
    exact ⟨Ge.refl _, rfl⟩
  apply Dr.wpT_det
  · intro u w1 hw hF
    clear hF
    have cA := (XA.ge hw).cell
    have cB := (XB.ge hw).cell
    have lA := (XA.ge hw).lt
    have lB := (XB.ge hw).lt
    go_simp
    exact ⟨Ge.refl _, rfl⟩
  apply Dr.wpT_det
  · intro u w1 hw hF
    clear hF
    have cA := (XA.ge hw).cell
    have cB := (XB.ge hw).cell
    have lA := (XA.ge hw).lt
    have lB := (XB.ge hw).lt
    go_simp
    exact ⟨Ge.refl _, rfl⟩
  apply Dr.wpT_det
  · intro u w1 hw hF
    clear hF
    have cA := (XA.ge hw).cell
    have cB := (XB.ge hw).cell
    have lA := (XA.ge hw).lt
    have lB := (XB.ge hw).lt
    go_simp
    exact ⟨Ge.refl _, rfl⟩
  apply Dr.wpT_det
  · intro u w1 hw hF
    clear hF
    have cA := (XA.ge hw).cell
    have cB := (XB.ge hw).cell
    have lA := (XA.ge hw).lt
    have lB := (XB.ge hw).lt
    go_simp
    exact ⟨Ge.refl _, rfl⟩
  apply Dr.wpT_det
  · intro u w1 hw hF
    clear hF
    have cA := (XA.ge hw).cell
    have cB := (XB.ge hw).cell
    have lA := (XA.ge hw).lt
    have lB := (XB.ge hw).lt
    go_simp
    exact ⟨Ge.refl _, rfl⟩
  apply Dr.wpT_det
  · intro u w1 hw hF
    clear hF
    have cA := (XA.ge hw).cell
    have cB := (XB.ge hw).cell
    have lA := (XA.ge hw).lt
    have lB := (XB.ge hw).lt
    go_simp
    exact ⟨Ge.refl _, rfl⟩
  apply Dr.wpT_det
  · intro u w1 hw hF
    clear hF
    have cA := (XA.ge hw).cell
    have cB := (XB.ge hw).cell
    have lA := (XA.ge hw).lt
    have lB := (XB.ge hw).lt
    go_simp
    exact ⟨Ge.refl _, rfl⟩
  apply Dr.wpT_det
  · intro u w1 hw hF
    go_simp
    refine (sign_any _ _ _).mono ?_
    rintro e w2 ⟨rfl, rfl⟩
    exact ⟨rfl, Ge.refl _⟩
  apply Dr.wpT_det
  · intro u w1 hw hF
    clear hF
    have cA := (XA.ge hw).cell
    have cB := (XB.ge hw).cell
    have lA := (XA.ge hw).lt
    have lB := (XB.ge hw).lt
    go_simp
    exact ⟨Ge.refl _, rfl⟩
  intro u w1 hw hF
  clear hF
  replace XA := XA.ge hw
  replace XB := XB.ge hw
  replace GW := Lib.hid (GW.out.trans hw)
  clear hw
  rcases Bool.eq_false_or_eq_true (sgn a.l3 b.l3 != 0) with z5 | z5
  · go_wp2_with fail
    go_returns
    rw [bne_iff_ne] at z5
    exact ⟨ret_int (by simp only [cmpT, cmpH, orI_yes Z0.out, orI_yes Z1.out, orI_yes Z2.out, orI_yes Z3.out, orI_yes Z4.out]), GW.out⟩
  go_wp2_with fail
  have Z5 := Lib.hid (bne_eq_false_iff_eq.1 z5)
  clear z5
  rw [rounds_succ]
  go_wp2
  go_returns
  exact ⟨ret_int (by simp only [cmpT, cmpH, orI_yes Z0.out, orI_yes Z1.out, orI_yes Z2.out, orI_yes Z3.out, orI_yes Z4.out, Z5.out]), GW.out⟩
end Go.Proofs.Ytedccllpbajbfaa
