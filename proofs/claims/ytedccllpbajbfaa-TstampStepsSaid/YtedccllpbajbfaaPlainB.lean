/-
  Times, in plain Lean: the steps.
-/
import Derived.Test.YtedccllpbajbfaaPlain
namespace Go.Proofs.Ytedccllpbajbfaa

def tz : Tm := ⟨0, 0, 0, 0, 0, 0⟩
/-- counter number i -/
def Tm.at (t : Tm) (i : Int) : Int := if i = 0 then t.l0 else if i = 1 then t.l1 else if i = 2 then t.l2 else t.l3
def Tm.setAt (t : Tm) (i n : Int) : Tm := ⟨t.e, t.d, if i = 0 then n else t.l0, if i = 1 then n else t.l1, if i = 2 then n else t.l2, if i = 3 then n else t.l3⟩

def Le (a b : Tm) : Prop := Chk a ∧ Chk b ∧ a.d = b.d ∧ a.e ≤ b.e ∧ a.l0 ≤ b.l0 ∧ a.l1 ≤ b.l1 ∧ a.l2 ≤ b.l2 ∧ a.l3 ≤ b.l3
instance (a b : Tm) : Decidable (Le a b) := by unfold Le; exact inferInstance
def leqB (a b : Tm) : Bool := decide (Le a b)

def enterE (t : Tm) : Int := if Chk t then (if t.d = 4 then 11 else 0) else 10
def enterT (t : Tm) : Tm := if Chk t ∧ t.d ≠ 4 then { t with d := t.d + 1 } else tz
def leaveE (t : Tm) : Int := if Chk t then (if t.d = 0 then 11 else 0) else 10
def leaveT (t : Tm) : Tm := if Chk t ∧ t.d ≠ 0 then { t.setAt (t.d - 1) 0 with d := t.d - 1 } else tz
def nextE (t : Tm) : Int := if Chk t then (if t.d = 0 then (if t.e = 1073741824 then 12 else 0) else if t.at (t.d - 1) = 1048576 then 12 else 0) else 10
def nextT (t : Tm) : Tm := if nextE t = 0 then (if t.d = 0 then { t with e := t.e + 1 } else t.setAt (t.d - 1) (t.at (t.d - 1) + 1)) else tz
theorem nextT_no {t : Tm} (h : nextE t = 12) : nextT t = tz := by unfold nextT; rw [h]; rfl
theorem nextT_yes {t : Tm} (h : nextE t = 0) : nextT t = if t.d = 0 then { t with e := t.e + 1 } else t.setAt (t.d - 1) (t.at (t.d - 1) + 1) := by unfold nextT; rw [if_pos h]

def mkT (ep : Int) (xs : List Int) : Tm := ⟨ep, xs.length, xs[0]?.getD 0, xs[1]?.getD 0, xs[2]?.getD 0, xs[3]?.getD 0⟩
def makeE (ep : Int) (xs : List Int) : Int := if 4 < xs.length then 11 else if Chk (mkT ep xs) then 0 else 10
def makeT (ep : Int) (xs : List Int) : Tm := if xs.length ≤ 4 ∧ Chk (mkT ep xs) then mkT ep xs else tz
theorem makeT_yes {ep : Int} {xs : List Int} (h : xs.length ≤ 4) (hc : Chk (mkT ep xs)) : makeT ep xs = mkT ep xs := if_pos ⟨h, hc⟩
theorem makeE_yes {ep : Int} {xs : List Int} (h : xs.length ≤ 4) (hc : Chk (mkT ep xs)) : makeE ep xs = 0 := by unfold makeE; rw [if_neg (by omega), if_pos hc]
theorem makeT_no {ep : Int} {xs : List Int} (hc : ¬ Chk (mkT ep xs)) : makeT ep xs = tz := if_neg (fun h => hc h.2)
theorem makeE_no {ep : Int} {xs : List Int} (h : xs.length ≤ 4) (hc : ¬ Chk (mkT ep xs)) : makeE ep xs = 10 := by unfold makeE; rw [if_neg (by omega), if_neg hc]

end Go.Proofs.Ytedccllpbajbfaa
