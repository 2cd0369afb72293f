/-
  digits(n) is n's decimal digits.
-/
import Derived.Test.YtedccllpbajbfaaProg
import Derived.Test.YtedccllpbajbfaaDec
import Derived.Handy
import Derived.WalkSpells
import Derived.WalkLawsBesides
import Derived.BigGuardPart
import Derived.Outline
import Derived.KernelRfl
import Derived.Laws.BytesArg
namespace Go.Proofs.Ytedccllpbajbfaa
open Go.RowKit

theorem conv_lit (w : World) (cs : Array Value) (t : TypeId) (off k cap : Nat) (xs : List Int) (hlen : xs.length = k) (h : ∀ i, i < k → cs[off + i]? = some (.int .u8 (xs.getD i 0))) :
    (convert 57 9 (.slice (some ⟨w.heap.size, off, none⟩) k cap)).run Try.prog (w.alloc (.cells cs t)) = .ok (.string (strOfNums xs)) (w.alloc (.cells cs t)) :=
  run_convert_bytes_arg _ 57 5 Try.underlying57 Try.underlying5 w.heap.size off k cap xs hlen (fun i hi => by rw [World.cell?_alloc_new]; exact h i hi) 9 Try.underlying9

set_option maxHeartbeats 4000000 in
theorem digits_any (n : Int) (h0 : 0 ≤ n) (h1 : n ≤ 1073741824) (w : World) :
    Calls Try.prog 38 #[.int .i64 n] w fun e w' => e = .returned (.string (strOfNums (dec n))) ∧ Below w.heap.size w w' := by
  go_enter Try.func38, Try.ntmps38
  go_wp2
  refine wp_loop_rounds 11 ?_
  rw [rounds_succ]
  go_wp2
  · rw [conv_lit w _ _ 19 1 1 [48 + n % 10] rfl (fun i hi => by (repeat (rcases i with _ | i; · rfl)); omega)]
    go_wp2
    go_returns
    refine ⟨?_, by go_grown⟩
    have hl : dec n = [48 + n % 10] := by
      simp only [beq_iff_eq] at *
      simp [dec, decF, *]
    rw [hl]
    rfl
  rw [rounds_succ]
  go_wp2
  · rw [conv_lit w _ _ 18 2 2 [48 + n / 10 % 10, 48 + n % 10] rfl (fun i hi => by (repeat (rcases i with _ | i; · rfl)); omega)]
    go_wp2
    go_returns
    refine ⟨?_, by go_grown⟩
    have hl : dec n = [48 + n / 10 % 10, 48 + n % 10] := by
      simp only [beq_iff_eq, beq_eq_false_iff_ne] at *
      simp [dec, decF, *]
    rw [hl]
    rfl
  rw [rounds_succ]
  go_wp2
  · rw [conv_lit w _ _ 17 3 3 [48 + n / 10 / 10 % 10, 48 + n / 10 % 10, 48 + n % 10] rfl (fun i hi => by (repeat (rcases i with _ | i; · rfl)); omega)]
    go_wp2
    go_returns
    refine ⟨?_, by go_grown⟩
    have hl : dec n = [48 + n / 10 / 10 % 10, 48 + n / 10 % 10, 48 + n % 10] := by
      simp only [beq_iff_eq, beq_eq_false_iff_ne] at *
      simp [dec, decF, *]
    rw [hl]
    rfl
  rw [rounds_succ]
  go_wp2
  · rw [conv_lit w _ _ 16 4 4 [48 + n / 10 / 10 / 10 % 10, 48 + n / 10 / 10 % 10, 48 + n / 10 % 10, 48 + n % 10] rfl (fun i hi => by (repeat (rcases i with _ | i; · rfl)); omega)]
    go_wp2
    go_returns
    refine ⟨?_, by go_grown⟩
    have hl : dec n = [48 + n / 10 / 10 / 10 % 10, 48 + n / 10 / 10 % 10, 48 + n / 10 % 10, 48 + n % 10] := by
      simp only [beq_iff_eq, beq_eq_false_iff_ne] at *
      simp [dec, decF, *]
    rw [hl]
    rfl
  rw [rounds_succ]
  go_wp2
  · rw [conv_lit w _ _ 15 5 5 [48 + n / 10 / 10 / 10 / 10 % 10, 48 + n / 10 / 10 / 10 % 10, 48 + n / 10 / 10 % 10, 48 + n / 10 % 10, 48 + n % 10] rfl (fun i hi => by (repeat (rcases i with _ | i; · rfl)); omega)]
    go_wp2
    go_returns
    refine ⟨?_, by go_grown⟩
    have hl : dec n = [48 + n / 10 / 10 / 10 / 10 % 10, 48 + n / 10 / 10 / 10 % 10, 48 + n / 10 / 10 % 10, 48 + n / 10 % 10, 48 + n % 10] := by
      simp only [beq_iff_eq, beq_eq_false_iff_ne] at *
      simp [dec, decF, *]
    rw [hl]
    rfl
  rw [rounds_succ]
  go_wp2
  · rw [conv_lit w _ _ 14 6 6 [48 + n / 10 / 10 / 10 / 10 / 10 % 10, 48 + n / 10 / 10 / 10 / 10 % 10, 48 + n / 10 / 10 / 10 % 10, 48 + n / 10 / 10 % 10, 48 + n / 10 % 10, 48 + n % 10] rfl (fun i hi => by (repeat (rcases i with _ | i; · rfl)); omega)]
    go_wp2
    go_returns
    refine ⟨?_, by go_grown⟩
    have hl : dec n = [48 + n / 10 / 10 / 10 / 10 / 10 % 10, 48 + n / 10 / 10 / 10 / 10 % 10, 48 + n / 10 / 10 / 10 % 10, 48 + n / 10 / 10 % 10, 48 + n / 10 % 10, 48 + n % 10] := by
      simp only [beq_iff_eq, beq_eq_false_iff_ne] at *
      simp [dec, decF, *]
    rw [hl]
    rfl
  rw [rounds_succ]
  go_wp2
  · rw [conv_lit w _ _ 13 7 7 [48 + n / 10 / 10 / 10 / 10 / 10 / 10 % 10, 48 + n / 10 / 10 / 10 / 10 / 10 % 10, 48 + n / 10 / 10 / 10 / 10 % 10, 48 + n / 10 / 10 / 10 % 10, 48 + n / 10 / 10 % 10, 48 + n / 10 % 10, 48 + n % 10] rfl (fun i hi => by (repeat (rcases i with _ | i; · rfl)); omega)]
    go_wp2
    go_returns
    refine ⟨?_, by go_grown⟩
    have hl : dec n = [48 + n / 10 / 10 / 10 / 10 / 10 / 10 % 10, 48 + n / 10 / 10 / 10 / 10 / 10 % 10, 48 + n / 10 / 10 / 10 / 10 % 10, 48 + n / 10 / 10 / 10 % 10, 48 + n / 10 / 10 % 10, 48 + n / 10 % 10, 48 + n % 10] := by
      simp only [beq_iff_eq, beq_eq_false_iff_ne] at *
      simp [dec, decF, *]
    rw [hl]
    rfl
  rw [rounds_succ]
  go_wp2
  · rw [conv_lit w _ _ 12 8 8 [48 + n / 10 / 10 / 10 / 10 / 10 / 10 / 10 % 10, 48 + n / 10 / 10 / 10 / 10 / 10 / 10 % 10, 48 + n / 10 / 10 / 10 / 10 / 10 % 10, 48 + n / 10 / 10 / 10 / 10 % 10, 48 + n / 10 / 10 / 10 % 10, 48 + n / 10 / 10 % 10, 48 + n / 10 % 10, 48 + n % 10] rfl (fun i hi => by (repeat (rcases i with _ | i; · rfl)); omega)]
    go_wp2
    go_returns
    refine ⟨?_, by go_grown⟩
    have hl : dec n = [48 + n / 10 / 10 / 10 / 10 / 10 / 10 / 10 % 10, 48 + n / 10 / 10 / 10 / 10 / 10 / 10 % 10, 48 + n / 10 / 10 / 10 / 10 / 10 % 10, 48 + n / 10 / 10 / 10 / 10 % 10, 48 + n / 10 / 10 / 10 % 10, 48 + n / 10 / 10 % 10, 48 + n / 10 % 10, 48 + n % 10] := by
      simp only [beq_iff_eq, beq_eq_false_iff_ne] at *
      simp [dec, decF, *]
    rw [hl]
    rfl
  rw [rounds_succ]
  go_wp2
  · rw [conv_lit w _ _ 11 9 9 [48 + n / 10 / 10 / 10 / 10 / 10 / 10 / 10 / 10 % 10, 48 + n / 10 / 10 / 10 / 10 / 10 / 10 / 10 % 10, 48 + n / 10 / 10 / 10 / 10 / 10 / 10 % 10, 48 + n / 10 / 10 / 10 / 10 / 10 % 10, 48 + n / 10 / 10 / 10 / 10 % 10, 48 + n / 10 / 10 / 10 % 10, 48 + n / 10 / 10 % 10, 48 + n / 10 % 10, 48 + n % 10] rfl (fun i hi => by (repeat (rcases i with _ | i; · rfl)); omega)]
    go_wp2
    go_returns
    refine ⟨?_, by go_grown⟩
    have hl : dec n = [48 + n / 10 / 10 / 10 / 10 / 10 / 10 / 10 / 10 % 10, 48 + n / 10 / 10 / 10 / 10 / 10 / 10 / 10 % 10, 48 + n / 10 / 10 / 10 / 10 / 10 / 10 % 10, 48 + n / 10 / 10 / 10 / 10 / 10 % 10, 48 + n / 10 / 10 / 10 / 10 % 10, 48 + n / 10 / 10 / 10 % 10, 48 + n / 10 / 10 % 10, 48 + n / 10 % 10, 48 + n % 10] := by
      simp only [beq_iff_eq, beq_eq_false_iff_ne] at *
      simp [dec, decF, *]
    rw [hl]
    rfl
  rw [rounds_succ]
  go_wp2
  · rw [conv_lit w _ _ 10 10 10 [48 + n / 10 / 10 / 10 / 10 / 10 / 10 / 10 / 10 / 10 % 10, 48 + n / 10 / 10 / 10 / 10 / 10 / 10 / 10 / 10 % 10, 48 + n / 10 / 10 / 10 / 10 / 10 / 10 / 10 % 10, 48 + n / 10 / 10 / 10 / 10 / 10 / 10 % 10, 48 + n / 10 / 10 / 10 / 10 / 10 % 10, 48 + n / 10 / 10 / 10 / 10 % 10, 48 + n / 10 / 10 / 10 % 10, 48 + n / 10 / 10 % 10, 48 + n / 10 % 10, 48 + n % 10] rfl (fun i hi => by (repeat (rcases i with _ | i; · rfl)); omega)]
    go_wp2
    go_returns
    refine ⟨?_, by go_grown⟩
    have hl : dec n = [48 + n / 10 / 10 / 10 / 10 / 10 / 10 / 10 / 10 / 10 % 10, 48 + n / 10 / 10 / 10 / 10 / 10 / 10 / 10 / 10 % 10, 48 + n / 10 / 10 / 10 / 10 / 10 / 10 / 10 % 10, 48 + n / 10 / 10 / 10 / 10 / 10 / 10 % 10, 48 + n / 10 / 10 / 10 / 10 / 10 % 10, 48 + n / 10 / 10 / 10 / 10 % 10, 48 + n / 10 / 10 / 10 % 10, 48 + n / 10 / 10 % 10, 48 + n / 10 % 10, 48 + n % 10] := by
      simp only [beq_iff_eq, beq_eq_false_iff_ne] at *
      simp [dec, decF, *]
    rw [hl]
    rfl
end Go.Proofs.Ytedccllpbajbfaa
