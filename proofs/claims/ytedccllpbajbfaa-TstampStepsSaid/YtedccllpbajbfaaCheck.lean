import Derived.Test.YtedccllpbajbfaaProg
import Derived.Test.YtedccllpbajbfaaPlain
import Derived.Handy
import Derived.WalkSpells
import Derived.WalkLawsBesides
import Derived.BigGuardPart
import Derived.Outline
import Derived.KernelRfl
namespace Go.Proofs.Ytedccllpbajbfaa
open Go.RowKit

theorem ret_int {k : IntKind} {a b : Int} (h : a = b) : Ending.returned (.int k a) = .returned (.int k b) := by rw [h]

set_option maxHeartbeats 1000000 in
theorem check_any (t : Tm) (w : World) :
    Calls Try.prog 34 #[.agg #[.int .i64 t.e, .int .i64 t.d, .int .i64 t.l0, .int .i64 t.l1, .int .i64 t.l2, .int .i64 t.l3]] w fun e w' => e = .returned (.int .i64 (chkE t)) ∧ w' = w.alloc (.cells #[.int .i64 t.e, .int .i64 t.d, .int .i64 t.l0, .int .i64 t.l1, .int .i64 t.l2, .int .i64 t.l3] 24) := by
  have i0 : ∀ w, (Instr.index 22 (.agg #[.int .i64 t.l0, .int .i64 t.l1, .int .i64 t.l2, .int .i64 t.l3]) (.int .i64 0)).run Try.prog w = .ok (.int .i64 t.l0) w := fun _ => by kernel_rfl
  have i1 : ∀ w, (Instr.index 22 (.agg #[.int .i64 t.l0, .int .i64 t.l1, .int .i64 t.l2, .int .i64 t.l3]) (.int .i64 1)).run Try.prog w = .ok (.int .i64 t.l1) w := fun _ => by kernel_rfl
  have i2 : ∀ w, (Instr.index 22 (.agg #[.int .i64 t.l0, .int .i64 t.l1, .int .i64 t.l2, .int .i64 t.l3]) (.int .i64 2)).run Try.prog w = .ok (.int .i64 t.l2) w := fun _ => by kernel_rfl
  have i3 : ∀ w, (Instr.index 22 (.agg #[.int .i64 t.l0, .int .i64 t.l1, .int .i64 t.l2, .int .i64 t.l3]) (.int .i64 3)).run Try.prog w = .ok (.int .i64 t.l3) w := fun _ => by kernel_rfl
  go_enter Try.func34, Try.ntmps34
  go_wp2
  any_goals go_rounds 5
  all_goals
    first
      | (exfalso; omega)
      | (go_returns
         refine ⟨ret_int ?_, rfl⟩
         (try simp only [bne_iff_ne, ne_eq, bne_eq_false_iff_eq] at *)
         first
           | (refine chkE_no ?_; simp only [Chk, Lok]; omega)
           | (refine chkE_yes ?_; simp only [Chk, Lok]; omega))

set_option maxHeartbeats 1000000 in
theorem rcheck_any (t : Tm) (w : World) :
    Calls Try.prog 20 #[.agg #[.int .i64 t.e, .int .i64 t.d, .int .i64 t.l0, .int .i64 t.l1, .int .i64 t.l2, .int .i64 t.l3]] w fun e w' => e = .returned (.int .i64 (chkE t)) ∧ w' = w.alloc (.cells #[.int .i64 t.e, .int .i64 t.d, .int .i64 t.l0, .int .i64 t.l1, .int .i64 t.l2, .int .i64 t.l3] 24) := by
  go_enter Try.func20, Try.ntmps20
  go_wp2
  any_goals go_rounds 5
  all_goals
    first
      | (exfalso; omega)
      | (go_returns
         refine ⟨ret_int ?_, rfl⟩
         (try simp only [bne_iff_ne, ne_eq, bne_eq_false_iff_eq] at *)
         first
           | (refine chkE_no ?_; simp only [Chk, Lok]; omega)
           | (refine chkE_yes ?_; simp only [Chk, Lok]; omega))

theorem check_yes {t : Tm} (h : Chk t) (w : World) :
    Calls Try.prog 34 #[.agg #[.int .i64 t.e, .int .i64 t.d, .int .i64 t.l0, .int .i64 t.l1, .int .i64 t.l2, .int .i64 t.l3]] w fun e w' => e = .returned (.int .i64 0) ∧ w' = w.alloc (.cells #[.int .i64 t.e, .int .i64 t.d, .int .i64 t.l0, .int .i64 t.l1, .int .i64 t.l2, .int .i64 t.l3] 24) := by
  have := check_any t w
  rwa [← chkE_yes h] at this
theorem check_no {t : Tm} (h : ¬ Chk t) (w : World) :
    Calls Try.prog 34 #[.agg #[.int .i64 t.e, .int .i64 t.d, .int .i64 t.l0, .int .i64 t.l1, .int .i64 t.l2, .int .i64 t.l3]] w fun e w' => e = .returned (.int .i64 10) ∧ w' = w.alloc (.cells #[.int .i64 t.e, .int .i64 t.d, .int .i64 t.l0, .int .i64 t.l1, .int .i64 t.l2, .int .i64 t.l3] 24) := by
  have := check_any t w
  rwa [← chkE_no h] at this
theorem rcheck_yes {t : Tm} (h : Chk t) (w : World) :
    Calls Try.prog 20 #[.agg #[.int .i64 t.e, .int .i64 t.d, .int .i64 t.l0, .int .i64 t.l1, .int .i64 t.l2, .int .i64 t.l3]] w fun e w' => e = .returned (.int .i64 0) ∧ w' = w.alloc (.cells #[.int .i64 t.e, .int .i64 t.d, .int .i64 t.l0, .int .i64 t.l1, .int .i64 t.l2, .int .i64 t.l3] 24) := by
  have := rcheck_any t w
  rwa [← chkE_yes h] at this
theorem rcheck_no {t : Tm} (h : ¬ Chk t) (w : World) :
    Calls Try.prog 20 #[.agg #[.int .i64 t.e, .int .i64 t.d, .int .i64 t.l0, .int .i64 t.l1, .int .i64 t.l2, .int .i64 t.l3]] w fun e w' => e = .returned (.int .i64 10) ∧ w' = w.alloc (.cells #[.int .i64 t.e, .int .i64 t.d, .int .i64 t.l0, .int .i64 t.l1, .int .i64 t.l2, .int .i64 t.l3] 24) := by
  have := rcheck_any t w
  rwa [← chkE_no h] at this
end Go.Proofs.Ytedccllpbajbfaa
