/-
  cmp.Compare, cmp.Or at two; the reference's sign.
-/
import Derived.Test.YtedccllpbajbfaaCheck
import Derived.Lib.Hide
namespace Go.Proofs.Ytedccllpbajbfaa
open Go.RowKit

def sgn (x y : Int) : Int := if x < y then -1 else if y < x then 1 else 0
def orI (x y : Int) : Int := if x = 0 then y else x

set_option maxHeartbeats 1000000 in
theorem cmp64 (x y : Int) (w : World) : Calls Try.prog 46 #[.int .i64 x, .int .i64 y] w fun e w' => e = .returned (.int .i64 (sgn x y)) ∧ w' = w := by
  have hx : (x != x) = false := by simp
  have hy : (y != y) = false := by simp
  go_enter Try.func46, Try.ntmps46
  go_wp2
  all_goals
    go_returns
    refine ⟨ret_int ?_, rfl⟩
    unfold sgn
    repeat' split
    all_goals omega
set_option maxHeartbeats 1000000 in
theorem cmpInt (x y : Int) (w : World) : Calls Try.prog 47 #[.int .i64 x, .int .i64 y] w fun e w' => e = .returned (.int .i64 (sgn x y)) ∧ w' = w := by
  have hx : (x != x) = false := by simp
  have hy : (y != y) = false := by simp
  go_enter Try.func47, Try.ntmps47
  go_wp2
  all_goals
    go_returns
    refine ⟨ret_int ?_, rfl⟩
    unfold sgn
    repeat' split
    all_goals omega
set_option maxHeartbeats 1000000 in
theorem sign_any (x y : Int) (w : World) : Calls Try.prog 48 #[.int .i64 x, .int .i64 y] w fun e w' => e = .returned (.int .i64 (sgn x y)) ∧ w' = w := by
  go_enter Try.func48, Try.ntmps48
  go_wp2
  all_goals
    go_returns
    refine ⟨ret_int ?_, rfl⟩
    unfold sgn
    repeat' split
    all_goals omega
set_option maxHeartbeats 1000000 in
theorem or2 (x y : Int) (g : Nat) (w : World) (h0 : w.cell? ⟨g, 0, none⟩ = some (.int .i64 x)) (h1 : w.cell? ⟨g, 1, none⟩ = some (.int .i64 y)) :
    Calls Try.prog 45 #[.slice (some ⟨g, 0, none⟩) 2 2] w fun e w' => e = .returned (.int .i64 (orI x y)) ∧ w' = w := by
  go_enter Try.func45, Try.ntmps45
  go_wp2
  go_rounds 3
  all_goals
    go_returns
    refine ⟨ret_int ?_, rfl⟩
    (try simp only [bne_iff_ne, ne_eq, bne_eq_false_iff_eq] at *)
    unfold orI
    split <;> omega
end Go.Proofs.Ytedccllpbajbfaa
