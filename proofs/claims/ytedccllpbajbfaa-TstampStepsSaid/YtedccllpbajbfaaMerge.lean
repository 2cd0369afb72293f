/-
  Two arms that meet again: from there on one walk, for whatever the arms left in their own slots.
-/
import Derived.Test.YtedccllpbajbfaaFun
namespace Go.Proofs.Ytedccllpbajbfaa
open Go.RowKit

def putAll (slots : List Nat) (v : Nat → Value) (a : Act) : Act := slots.foldl (fun x s => x.put (some s) (v s)) a

theorem merge {P : Program} {c : Code} {Q : Exit → Act → World → Prop} {a : Act} {w : World} (slots : List Nat) (F : World → Prop)
    (h1 : c.wp P (Exit.then (fun a' w' => F w' ∧ a' = putAll slots (fun s => a'.tmps.getD s undef) a) Q) a w)
    (h2 : ∀ v w', F w' → Q .normal (putAll slots v a) w') : c.wp P Q a w :=
  Code.wp_mono (fun e a' w' q => by
    cases e with
    | normal => obtain ⟨f, ha⟩ := q; rw [ha]; exact h2 _ w' f
    | _ => exact q) h1

def gU (up : Bool) (x y : Int) : Int := if up then max x y else min x y
theorem gU_yes {up : Bool} {x y : Int} (h : (decide (x < y) == up) = true) : gU up x y = y := by
  cases up <;> simp [gU] at * <;> omega
theorem gU_no {up : Bool} {x y : Int} (h : (decide (x < y) == up) = false) : gU up x y = x := by
  cases up <;> simp [gU] at * <;> omega
end Go.Proofs.Ytedccllpbajbfaa
