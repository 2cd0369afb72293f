import Derived.Test.YtmhibpmgnicolaaDoorProg
import Derived.Test.YtmhibpmgnicolaaDoorTm
import Derived.Handy
import Derived.WalkSpells
import Derived.WalkLawsBesides
import Derived.BigGuardPart
import Derived.Outline
import Derived.KernelRfl
namespace Go.Proofs.YtmhibpmgnicolaaDoor
open Go.RowKit

theorem ret_int {k : IntKind} {a b : Int} (h : a = b) : Ending.returned (.int k a) = .returned (.int k b) := by rw [h]

set_option maxHeartbeats 1000000 in
theorem tcheck_any (t : Tm) (w : World) :
    Calls Tryd.prog 64 #[.agg #[.int .i64 t.e, .int .i64 t.d, .int .i64 t.l0, .int .i64 t.l1, .int .i64 t.l2, .int .i64 t.l3]] w fun e w' => e = .returned (.int .i64 (chkE t)) ∧ w' = w.alloc (.cells #[.int .i64 t.e, .int .i64 t.d, .int .i64 t.l0, .int .i64 t.l1, .int .i64 t.l2, .int .i64 t.l3] 35) := by
  have i0 : ∀ w, (Instr.index 33 (.agg #[.int .i64 t.l0, .int .i64 t.l1, .int .i64 t.l2, .int .i64 t.l3]) (.int .i64 0)).run Tryd.prog w = .ok (.int .i64 t.l0) w := fun _ => by kernel_rfl
  have i1 : ∀ w, (Instr.index 33 (.agg #[.int .i64 t.l0, .int .i64 t.l1, .int .i64 t.l2, .int .i64 t.l3]) (.int .i64 1)).run Tryd.prog w = .ok (.int .i64 t.l1) w := fun _ => by kernel_rfl
  have i2 : ∀ w, (Instr.index 33 (.agg #[.int .i64 t.l0, .int .i64 t.l1, .int .i64 t.l2, .int .i64 t.l3]) (.int .i64 2)).run Tryd.prog w = .ok (.int .i64 t.l2) w := fun _ => by kernel_rfl
  have i3 : ∀ w, (Instr.index 33 (.agg #[.int .i64 t.l0, .int .i64 t.l1, .int .i64 t.l2, .int .i64 t.l3]) (.int .i64 3)).run Tryd.prog w = .ok (.int .i64 t.l3) w := fun _ => by kernel_rfl
  go_enter Tryd.func64, Tryd.ntmps64
  go_wp2
  any_goals go_rounds 5
  all_goals
    first
      | (exfalso; omega)
      | (go_returns
         refine ⟨ret_int ?_, rfl⟩
         (try simp only [bne_iff_ne, ne_eq, bne_eq_false_iff_eq] at *)
         first
           | (refine chkE_no ?_; simp only [Chk, Lok]; omega)
           | (refine chkE_yes ?_; simp only [Chk, Lok]; omega))

set_option maxHeartbeats 1000000 in
theorem rtcheck_any (t : Tm) (w : World) :
    Calls Tryd.prog 54 #[.agg #[.int .i64 t.e, .int .i64 t.d, .int .i64 t.l0, .int .i64 t.l1, .int .i64 t.l2, .int .i64 t.l3]] w fun e w' => e = .returned (.int .i64 (chkE t)) ∧ w' = w.alloc (.cells #[.int .i64 t.e, .int .i64 t.d, .int .i64 t.l0, .int .i64 t.l1, .int .i64 t.l2, .int .i64 t.l3] 35) := by
  go_enter Tryd.func54, Tryd.ntmps54
  go_wp2
  any_goals go_rounds 5
  all_goals
    first
      | (exfalso; omega)
      | (go_returns
         refine ⟨ret_int ?_, rfl⟩
         (try simp only [bne_iff_ne, ne_eq, bne_eq_false_iff_eq] at *)
         first
           | (refine chkE_no ?_; simp only [Chk, Lok]; omega)
           | (refine chkE_yes ?_; simp only [Chk, Lok]; omega))

end Go.Proofs.YtmhibpmgnicolaaDoor
