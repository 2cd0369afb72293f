/-
  Compare in plain Lean: a whole order that goes on from Leq's.
-/
import Derived.Test.YtedccllpbajbfaaCompare
namespace Go.Proofs.Ytedccllpbajbfaa

theorem sgn_bound (x y : Int) : -1 ≤ sgn x y ∧ sgn x y ≤ 1 := by unfold sgn; repeat' split <;> omega
theorem orI_bound {x y : Int} (hx : -1 ≤ x ∧ x ≤ 1) (hy : -1 ≤ y ∧ y ≤ 1) : -1 ≤ orI x y ∧ orI x y ≤ 1 := by unfold orI; split <;> omega
theorem sgn_anti (x y : Int) : sgn y x = - sgn x y := by unfold sgn; repeat' split <;> omega
theorem orI_anti (x y : Int) : orI (-x) (-y) = - orI x y := by unfold orI; repeat' split <;> omega
theorem sgn_zero (x y : Int) : sgn x y = 0 ↔ x = y := by unfold sgn; repeat' split <;> omega
theorem orI_zero_iff (x y : Int) : orI x y = 0 ↔ x = 0 ∧ y = 0 := by unfold orI; split <;> omega
theorem sgn_le {x y : Int} (h : x ≤ y) : sgn x y ≤ 0 := by unfold sgn; repeat' split <;> omega
theorem orI_le {x y : Int} (hx : x ≤ 0) (hy : y ≤ 0) : orI x y ≤ 0 := by unfold orI; split <;> omega

theorem cmpT_bound (a b : Tm) : -1 ≤ cmpT a b ∧ cmpT a b ≤ 1 := by
  unfold cmpT cmpH
  exact orI_bound (orI_bound (orI_bound (orI_bound (orI_bound (sgn_bound _ _) (sgn_bound _ _)) (sgn_bound _ _)) (sgn_bound _ _)) (sgn_bound _ _)) (sgn_bound _ _)
theorem cmpT_anti (a b : Tm) : cmpT b a = - cmpT a b := by
  unfold cmpT cmpH
  rw [sgn_anti a.e, sgn_anti a.d, sgn_anti a.l0, sgn_anti a.l1, sgn_anti a.l2, sgn_anti a.l3]
  simp only [orI_anti]
theorem cmpT_zero (a b : Tm) : cmpT a b = 0 ↔ a = b := by
  unfold cmpT cmpH
  simp only [orI_zero_iff, sgn_zero]
  constructor
  · rintro ⟨⟨⟨⟨⟨h0, h1⟩, h2⟩, h3⟩, h4⟩, h5⟩
    exact Tm.ext' h0 h1 h2 h3 h4 h5
  · rintro rfl
    simp
theorem cmpT_le {a b : Tm} (h : leqB a b = true) : cmpT a b ≤ 0 := by
  obtain ⟨_, _, hd, he, h0, h1, h2, h3⟩ := of_decide_eq_true h
  exact orI_le (orI_le (orI_le (orI_le (orI_le (sgn_le he) (sgn_le (Int.le_of_eq hd))) (sgn_le h0)) (sgn_le h1)) (sgn_le h2)) (sgn_le h3)

def Tri (x y z : Int) : Prop := (x ≤ 0 → y ≤ 0 → z ≤ 0 ∧ (z < 0 ∨ (x = 0 ∧ y = 0))) ∧ (x = 0 → y = 0 → z = 0)
theorem tri_sgn (a b c : Int) : Tri (sgn a b) (sgn b c) (sgn a c) := by unfold Tri sgn; repeat' split <;> omega
theorem tri_or {x y z x' y' z' : Int} (h : Tri x y z) (h' : Tri x' y' z') : Tri (orI x x') (orI y y') (orI z z') := by
  unfold Tri orI at *
  repeat' split <;> omega
theorem tri_cmpT (a b c : Tm) : Tri (cmpT a b) (cmpT b c) (cmpT a c) := by
  unfold cmpT cmpH
  exact tri_or (tri_or (tri_or (tri_or (tri_or (tri_sgn _ _ _) (tri_sgn _ _ _)) (tri_sgn _ _ _)) (tri_sgn _ _ _)) (tri_sgn _ _ _)) (tri_sgn _ _ _)
end Go.Proofs.Ytedccllpbajbfaa
