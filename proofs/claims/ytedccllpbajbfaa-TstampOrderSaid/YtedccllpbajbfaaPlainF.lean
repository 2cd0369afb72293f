/-
  Join and Meet in plain Lean: least upper, greatest lower.
-/
import Derived.Test.YtedccllpbajbfaaBoth
import Derived.Test.YtedccllpbajbfaaPlainC
import Derived.Test.YtedccllpbajbfaaEq
namespace Go.Proofs.Ytedccllpbajbfaa

theorem leqB_iff (a b : Tm) : leqB a b = true ↔ Le a b := decide_eq_true_iff
theorem leqB_self {a : Tm} (h : Chk a) : leqB a a = true := (leqB_iff _ _).2 ⟨h, h, rfl, Int.le_refl _, Int.le_refl _, Int.le_refl _, Int.le_refl _, Int.le_refl _⟩
theorem leqB_of_not {a b : Tm} (h : ¬ Chk a) : leqB a b = false := by
  rcases hh : leqB a b with _ | _
  · rfl
  · exact absurd ((leqB_iff _ _).1 hh).1 h
theorem eqB_of_leq {a b : Tm} (h : leqB a b = true) (k : leqB b a = true) : eqB a b = true := by
  rw [leqB_iff] at h k
  obtain ⟨_, _, hd, he, h0, h1, h2, h3⟩ := h
  obtain ⟨_, _, _, ke, k0, k1, k2, k3⟩ := k
  exact (eqB_iff _ _).2 (Tm.ext' (by omega) (by omega) (by omega) (by omega) (by omega) (by omega))
theorem leqB_trans {a b c : Tm} (h : leqB a b = true) (k : leqB b c = true) : leqB a c = true := by
  rw [leqB_iff] at *
  obtain ⟨ca, _, hd, he, h0, h1, h2, h3⟩ := h
  obtain ⟨_, cc, kd, ke, k0, k1, k2, k3⟩ := k
  exact ⟨ca, cc, by omega, by omega, by omega, by omega, by omega, by omega⟩
theorem bothE_leq {a b : Tm} (h : leqB a b = true) : bothE a b = 0 := by
  obtain ⟨ca, cb, hd, _⟩ := (leqB_iff _ _).1 h
  unfold bothE
  rw [if_pos ⟨ca, cb⟩, if_pos hd]
theorem bothE_bad {a b : Tm} (h : ¬ Chk a) : bothE a b ≠ 0 := by
  unfold bothE
  rw [if_neg (fun k => h k.1)]
  decide
theorem bothE_zero {a b : Tm} (h : bothE a b = 0) : Chk a ∧ Chk b ∧ a.d = b.d := by
  unfold bothE at h
  split at h
  · rename_i hc
    split at h
    · exact ⟨hc.1, hc.2, by assumption⟩
    · cases h
  · cases h
theorem join_chk {a b : Tm} (h : bothE a b = 0) : Chk (bothT max a b) := by
  obtain ⟨ha, hb, hd⟩ := bothE_zero h
  rw [bothT_yes h]
  simp only [Chk, Lok] at *
  omega
theorem meet_chk {a b : Tm} (h : bothE a b = 0) : Chk (bothT min a b) := by
  obtain ⟨ha, hb, hd⟩ := bothE_zero h
  rw [bothT_yes h]
  simp only [Chk, Lok] at *
  omega
theorem join_up {a b : Tm} (h : bothE a b = 0) : leqB a (bothT max a b) = true ∧ leqB b (bothT max a b) = true := by
  have hj := join_chk h
  obtain ⟨ha, hb, hd⟩ := bothE_zero h
  rw [leqB_iff, leqB_iff]
  rw [bothT_yes h] at *
  refine ⟨⟨ha, hj, ?_⟩, hb, hj, ?_⟩ <;> (dsimp only; omega)
theorem meet_down {a b : Tm} (h : bothE a b = 0) : leqB (bothT min a b) a = true ∧ leqB (bothT min a b) b = true := by
  have hj := meet_chk h
  obtain ⟨ha, hb, hd⟩ := bothE_zero h
  rw [leqB_iff, leqB_iff]
  rw [bothT_yes h] at *
  refine ⟨⟨hj, ha, ?_⟩, hj, hb, ?_⟩ <;> (dsimp only; omega)
theorem join_least {a b : Tm} (c : Tm) (h : bothE a b = 0) : leqB (bothT max a b) c = (leqB a c && leqB b c) := by
  have hj := join_chk h
  obtain ⟨ha, hb, hd⟩ := bothE_zero h
  rw [Bool.eq_iff_iff, Bool.and_eq_true, leqB_iff, leqB_iff, leqB_iff]
  rw [bothT_yes h] at *
  constructor
  · rintro ⟨_, cc, q⟩
    dsimp only at q
    exact ⟨⟨ha, cc, by omega⟩, hb, cc, by omega⟩
  · rintro ⟨⟨_, cc, q⟩, _, _, r⟩
    exact ⟨hj, cc, by dsimp only; omega⟩
theorem meet_most {a b : Tm} (c : Tm) (h : bothE a b = 0) : leqB c (bothT min a b) = (leqB c a && leqB c b) := by
  have hj := meet_chk h
  obtain ⟨ha, hb, hd⟩ := bothE_zero h
  rw [Bool.eq_iff_iff, Bool.and_eq_true, leqB_iff, leqB_iff, leqB_iff]
  rw [bothT_yes h] at *
  constructor
  · rintro ⟨cc, _, q⟩
    dsimp only at q
    exact ⟨⟨cc, ha, by omega⟩, cc, hb, by omega⟩
  · rintro ⟨⟨cc, _, q⟩, _, _, r⟩
    exact ⟨cc, hj, by dsimp only; omega⟩
end Go.Proofs.Ytedccllpbajbfaa
