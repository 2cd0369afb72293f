/-
  A store into a block that is known whole; max and min, the two functions that Join and Meet hand on.
-/
import Derived.Test.YtedccllpbajbfaaCheck
import Derived.Test.YtedccllpbajbfaaDraw
import Derived.Lib.Hide
namespace Go.Proofs.Ytedccllpbajbfaa
open Go.RowKit

theorem Bx.set {w : World} {b : Nat} {t : TypeId} {cs : Array Value} (h : Bx w b t cs) (k : Nat) (v : Value) : Bx (w.setCell ⟨b, k, none⟩ v) b t (cs.setIfInBounds k v) := by
  unfold Bx at *
  simp [World.setCell, Array.getElem?_modify, h]
theorem Bx.set_ne {w : World} {b b' : Nat} {t : TypeId} {cs : Array Value} (h : Bx w b t cs) (k : Nat) (v : Value) (hne : b ≠ b') : Bx (w.setCell ⟨b', k, none⟩ v) b t cs :=
  (Below.heap_setCell _ _ _ _ hne).trans h

set_option maxHeartbeats 1000000 in
theorem maxf (x y : Int) (w : World) : Calls Try.prog 41 #[.int .i64 x, .int .i64 y] w fun e w' => e = .returned (.int .i64 (max x y)) ∧ w' = w := by
  go_enter Try.func41, Try.ntmps41
  go_wp2
  all_goals
    go_returns
    refine ⟨ret_int ?_, rfl⟩
    omega
set_option maxHeartbeats 1000000 in
theorem minf (x y : Int) (w : World) : Calls Try.prog 42 #[.int .i64 x, .int .i64 y] w fun e w' => e = .returned (.int .i64 (min x y)) ∧ w' = w := by
  go_enter Try.func42, Try.ntmps42
  go_wp2
  all_goals
    go_returns
    refine ⟨ret_int ?_, rfl⟩
    omega
end Go.Proofs.Ytedccllpbajbfaa
