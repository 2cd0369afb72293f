/-
  Leq: no greater.
-/
import Derived.Test.YtedccllpbajbfaaCheck
import Derived.Test.YtedccllpbajbfaaPlainB
import Derived.Lib.Hide
namespace Go.Proofs.Ytedccllpbajbfaa
open Go.RowKit

theorem ret_bool {a b : Bool} (h : a = b) : Ending.returned (.bool a) = .returned (.bool b) := by rw [h]
theorem leqB_yes {a b : Tm} (h : Le a b) : true = leqB a b := (decide_eq_true h).symm
theorem leqB_no {a b : Tm} (h : ¬ Le a b) : false = leqB a b := (decide_eq_false h).symm

set_option maxHeartbeats 1000000 in
theorem leq_any (a b : Tm) (w : World) :
    Calls Try.prog 14 #[.agg #[.int .i64 a.e, .int .i64 a.d, .int .i64 a.l0, .int .i64 a.l1, .int .i64 a.l2, .int .i64 a.l3], .agg #[.int .i64 b.e, .int .i64 b.d, .int .i64 b.l0, .int .i64 b.l1, .int .i64 b.l2, .int .i64 b.l3]] w fun e w' =>
      e = .returned (.bool (leqB a b)) ∧ Below w.heap.size w w' := by
  by_cases hca : Chk a
  · have HA := Lib.hid (check_yes hca)
    have KA := Lib.hid hca
    clear hca
    by_cases hcb : Chk b
    · have HB := Lib.hid (check_yes hcb)
      have KB := Lib.hid hcb
      clear hcb
      have i0 : ∀ w, (Instr.index 22 (.agg #[.int .i64 a.l0, .int .i64 a.l1, .int .i64 a.l2, .int .i64 a.l3]) (.int .i64 0)).run Try.prog w = .ok (.int .i64 a.l0) w := fun _ => by kernel_rfl
      have i1 : ∀ w, (Instr.index 22 (.agg #[.int .i64 a.l0, .int .i64 a.l1, .int .i64 a.l2, .int .i64 a.l3]) (.int .i64 1)).run Try.prog w = .ok (.int .i64 a.l1) w := fun _ => by kernel_rfl
      have i2 : ∀ w, (Instr.index 22 (.agg #[.int .i64 a.l0, .int .i64 a.l1, .int .i64 a.l2, .int .i64 a.l3]) (.int .i64 2)).run Try.prog w = .ok (.int .i64 a.l2) w := fun _ => by kernel_rfl
      have i3 : ∀ w, (Instr.index 22 (.agg #[.int .i64 a.l0, .int .i64 a.l1, .int .i64 a.l2, .int .i64 a.l3]) (.int .i64 3)).run Try.prog w = .ok (.int .i64 a.l3) w := fun _ => by kernel_rfl
      go_enter Try.func14, Try.ntmps14
      go_wp2_with fail
      refine (HA.out _).mono ?_
      rintro e w1 ⟨rfl, rfl⟩
      go_wp2_with fail
      refine (HB.out _).mono ?_
      rintro e w1 ⟨rfl, rfl⟩
      go_wp2
      any_goals go_rounds 5
      all_goals
        first
          | (exfalso; omega)
          | (go_returns
             refine ⟨ret_bool ?_, by go_grown⟩
             have := KA.out
             have := KB.out
             (try simp only [bne_iff_ne, ne_eq, bne_eq_false_iff_eq] at *)
             first
               | (refine leqB_no ?_; simp only [Le]; omega)
               | (refine leqB_yes ?_; simp only [Le]; exact ⟨KA.out, KB.out, by omega⟩))
    · have HB := Lib.hid (check_no hcb)
      have KB := Lib.hid hcb
      clear hcb
      go_enter Try.func14, Try.ntmps14
      go_wp2_with fail
      refine (HA.out _).mono ?_
      rintro e w1 ⟨rfl, rfl⟩
      go_wp2_with fail
      refine (HB.out _).mono ?_
      rintro e w1 ⟨rfl, rfl⟩
      go_wp2
      go_returns
      exact ⟨ret_bool (leqB_no (fun h => KB.out h.2.1)), by go_grown⟩
  · have HA := Lib.hid (check_no hca)
    have KA := Lib.hid hca
    clear hca
    go_enter Try.func14, Try.ntmps14
    go_wp2_with fail
    refine (HA.out _).mono ?_
    rintro e w1 ⟨rfl, rfl⟩
    go_wp2
    go_returns
    exact ⟨ret_bool (leqB_no (fun h => KA.out h.1)), by go_grown⟩
end Go.Proofs.Ytedccllpbajbfaa
