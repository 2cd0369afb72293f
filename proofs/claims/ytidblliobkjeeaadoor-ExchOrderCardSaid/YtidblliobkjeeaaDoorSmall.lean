/-
  Which kinds of nodes there are, which are by keys; which workers there are.
-/
import Derived.Test.YtidblliobkjeeaaDoorHash
namespace Go.Proofs.YtidblliobkjeeaaDoor
open Go.RowKit

def mayB (a b : Int) : Bool := decide (1 ≤ b) && decide (b ≤ 16) && decide (0 ≤ a) && decide (a < b)
theorem mayB_iff (a b : Int) : mayB a b = true ↔ 1 ≤ b ∧ b ≤ 16 ∧ 0 ≤ a ∧ a < b := by simp [mayB, and_assoc]
def keyB (k : Int) : Bool := decide (6 ≤ k) && decide (k ≤ 11) || k == 16
/-- how many inputs a kind has; -1: there is no such kind -/
def insV (k : Int) : Int := if k < 1 ∨ 16 < k then -1 else if k = 1 then 0 else if k = 5 ∨ k = 9 then 2 else 1

set_option maxHeartbeats 1000000 in
theorem may_any (a b : Int) (w : World) : Calls Tryd.prog 26 #[.int .i64 a, .int .i64 b] w fun e w' => e = .returned (.bool (mayB a b)) ∧ w' = w := by
  unfold mayB
  rcases Bool.eq_false_or_eq_true (decide (1 ≤ b)) with h1 | h1 <;> rcases Bool.eq_false_or_eq_true (decide (b ≤ 16)) with h2 | h2 <;> rcases Bool.eq_false_or_eq_true (decide (0 ≤ a)) with h3 | h3 <;> rcases Bool.eq_false_or_eq_true (decide (a < b)) with h4 | h4
  all_goals
    rw [h1, h2, h3, h4]
    go_enter Tryd.func26, Tryd.ntmps26
    go_wp2
    go_returns
    exact ⟨rfl, rfl⟩

set_option maxHeartbeats 1000000 in
theorem keyed_any (k : Int) (w : World) : Calls Tryd.prog 29 #[.int .i64 k] w fun e w' => e = .returned (.bool (keyB k)) ∧ w' = w := by
  unfold keyB
  rcases Bool.eq_false_or_eq_true (decide (6 ≤ k)) with h1 | h1 <;> rcases Bool.eq_false_or_eq_true (decide (k ≤ 11)) with h2 | h2 <;> rcases Bool.eq_false_or_eq_true (k == 16) with h3 | h3
  all_goals
    rw [h1, h2, h3]
    go_enter Tryd.func29, Tryd.ntmps29
    go_wp2
    go_returns
    exact ⟨rfl, rfl⟩

theorem insV_no {k : Int} (h : k < 1 ∨ 16 < k) : insV k = -1 := if_pos h
theorem insV_one {k : Int} (h : k = 1) : insV k = 0 := by subst h; rfl
theorem insV_two {k : Int} (h : k = 5 ∨ k = 9) : insV k = 2 := by rcases h with rfl | rfl <;> rfl
theorem insV_else {k : Int} (h1 : ¬ (k < 1 ∨ 16 < k)) (h2 : ¬ k = 1) (h3 : ¬ (k = 5 ∨ k = 9)) : insV k = 1 := by unfold insV; rw [if_neg h1, if_neg h2, if_neg h3]

set_option maxHeartbeats 1000000 in
theorem ins_any (k : Int) (w : World) : Calls Tryd.prog 27 #[.int .i64 k] w fun e w' => e = .returned (.int .i64 (insV k)) ∧ w' = w := by
  by_cases c1 : k < 1
  · rw [insV_no (.inl c1)]
    have h1 : decide (k < 1) = true := by simpa using c1
    go_enter Tryd.func27, Tryd.ntmps27
    go_wp2
    go_returns
    exact ⟨rfl, rfl⟩
  have h1 : decide (k < 1) = false := by simpa using c1
  by_cases c2 : 16 < k
  · rw [insV_no (.inr c2)]
    have h2 : decide (16 < k) = true := by simpa using c2
    go_enter Tryd.func27, Tryd.ntmps27
    go_wp2
    go_returns
    exact ⟨rfl, rfl⟩
  have h2 : decide (16 < k) = false := by simpa using c2
  by_cases c3 : k = 1
  · rw [insV_one c3]
    subst c3
    go_enter Tryd.func27, Tryd.ntmps27
    go_wp2
    go_returns
    exact ⟨rfl, rfl⟩
  by_cases c4 : k = 5
  · rw [insV_two (.inl c4)]
    subst c4
    go_enter Tryd.func27, Tryd.ntmps27
    go_wp2
    go_returns
    exact ⟨rfl, rfl⟩
  by_cases c5 : k = 9
  · rw [insV_two (.inr c5)]
    subst c5
    go_enter Tryd.func27, Tryd.ntmps27
    go_wp2
    go_returns
    exact ⟨rfl, rfl⟩
  rw [insV_else (by omega) c3 (by omega)]
  have h3 : (k == 1) = false := by simpa using c3
  have h4 : (k == 5) = false := by simpa using c4
  have h5 : (k == 9) = false := by simpa using c5
  clear c1 c2 c3 c4 c5
  go_enter Tryd.func27, Tryd.ntmps27
  go_wp2
  go_returns
  exact ⟨rfl, rfl⟩
end Go.Proofs.YtidblliobkjeeaaDoor
