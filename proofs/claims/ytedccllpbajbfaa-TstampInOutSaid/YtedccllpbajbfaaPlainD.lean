/-
  Times, in plain Lean: what two times share that are one no greater than the other.
-/
import Derived.Test.YtedccllpbajbfaaPlainC
namespace Go.Proofs.Ytedccllpbajbfaa
theorem enter_same {a b : Tm} (h : leqB a b = true) (ha : enterE a = 0) : enterE b = 0 := by
  obtain ⟨c1, d1, t1⟩ := enter_ok ha
  obtain ⟨h1, h2, h3, h4⟩ := le_chk h
  exact enter_of h2 (by omega)
theorem leave_same {a b : Tm} (h : leqB a b = true) (ha : leaveE a = 0) : leaveE b = 0 := by
  obtain ⟨c1, d1, t1⟩ := leave_ok ha
  obtain ⟨h1, h2, h3, h4⟩ := le_chk h
  unfold leaveE
  rw [if_pos h2, if_neg (by omega)]
theorem in_or_out {a b : Tm} (h : leqB a b = true) (ha : enterE a ≠ 0) : leaveE a = 0 := by
  obtain ⟨h1, h2, h3, h4⟩ := le_chk h
  have : a.d = 4 := by
    rcases Int.lt_or_le a.d 4 with hd | hd
    · exact absurd (enter_of h1 (by omega)) ha
    · have := h1.2.2.2.1; omega
  unfold leaveE
  rw [if_pos h1, if_neg (by omega)]
end Go.Proofs.Ytedccllpbajbfaa
