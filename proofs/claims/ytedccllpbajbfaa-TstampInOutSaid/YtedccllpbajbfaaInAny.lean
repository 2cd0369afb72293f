/-
  TstampInOut is true at any two times.
-/
import Derived.Test.YtedccllpbajbfaaInA
import Derived.Test.YtedccllpbajbfaaInB
import Derived.Test.YtedccllpbajbfaaInC
namespace Go.Proofs.Ytedccllpbajbfaa
open Go.RowKit

theorem inout_any (a b : Tm) (w : World) :
    Calls Try.prog 3 #[.agg #[.int .i64 a.e, .int .i64 a.d, .int .i64 a.l0, .int .i64 a.l1, .int .i64 a.l2, .int .i64 a.l3], .agg #[.int .i64 b.e, .int .i64 b.d, .int .i64 b.l0, .int .i64 b.l1, .int .i64 b.l2, .int .i64 b.l3]] w fun e w' =>
      e = .returned (.bool true) ∧ Below w.heap.size w w' := by
  cases hL : leqB a b
  · by_cases hE : enterE a = 0 <;> by_cases hG : nextE a = 0
    · exact inout_110000 a b w hE hG hL
    · exact inout_100000 a b w hE hG hL
    · exact inout_010000 a b w hE hG hL
    · exact inout_000000 a b w hE hG hL
  · have hM3 : nextE a = 0 → leqB b (nextT a) = false ∨ (leqB b (nextT a) = true ∧ eqB b a = true) ∨ (leqB b (nextT a) = true ∧ eqB b a = false ∧ eqB b (nextT a) = true) := by
      intro hG
      cases hM : leqB b (nextT a)
      · exact Or.inl rfl
      · right
        cases hQ : eqB b a
        · right
          rcases next_between hG hL hM with h | h
          · rw [h, eqB_self] at hQ; cases hQ
          · exact ⟨rfl, rfl, (eqB_iff _ _).2 h⟩
        · exact Or.inl ⟨rfl, rfl⟩
    by_cases hE : enterE a = 0
    · by_cases hJ : leaveE a = 0
      · by_cases hG : nextE a = 0
        · rcases hM3 hG with hM | ⟨hM, hQ⟩ | ⟨hM, hQ, hR⟩ <;> by_cases hI : nextE b = 0
          · exact inout_111011 a b w hE hG hL hM hI hJ
          · exact inout_111001 a b w hE hG hL hM hI hJ
          · exact inout_111A11 a b w hE hG hL hM hQ hI hJ
          · exact inout_111A01 a b w hE hG hL hM hQ hI hJ
          · exact inout_111N11 a b w hE hG hL hM hQ hR hI hJ
          · exact inout_111N01 a b w hE hG hL hM hQ hR hI hJ
        · exact inout_101001 a b w hE hG hL hJ
      · by_cases hG : nextE a = 0
        · rcases hM3 hG with hM | ⟨hM, hQ⟩ | ⟨hM, hQ, hR⟩ <;> by_cases hI : nextE b = 0
          · exact inout_111010 a b w hE hG hL hM hI hJ
          · exact inout_111000 a b w hE hG hL hM hI hJ
          · exact inout_111A10 a b w hE hG hL hM hQ hI hJ
          · exact inout_111A00 a b w hE hG hL hM hQ hI hJ
          · exact inout_111N10 a b w hE hG hL hM hQ hR hI hJ
          · exact inout_111N00 a b w hE hG hL hM hQ hR hI hJ
        · exact inout_101000 a b w hE hG hL hJ
    · have hJ := in_or_out hL hE
      by_cases hG : nextE a = 0
      · rcases hM3 hG with hM | ⟨hM, hQ⟩ | ⟨hM, hQ, hR⟩ <;> by_cases hI : nextE b = 0
        · exact inout_011011 a b w hE hG hL hM hI hJ
        · exact inout_011001 a b w hE hG hL hM hI hJ
        · exact inout_011A11 a b w hE hG hL hM hQ hI hJ
        · exact inout_011A01 a b w hE hG hL hM hQ hI hJ
        · exact inout_011N11 a b w hE hG hL hM hQ hR hI hJ
        · exact inout_011N01 a b w hE hG hL hM hQ hR hI hJ
      · exact inout_001001 a b w hE hG hL hJ
end Go.Proofs.Ytedccllpbajbfaa
