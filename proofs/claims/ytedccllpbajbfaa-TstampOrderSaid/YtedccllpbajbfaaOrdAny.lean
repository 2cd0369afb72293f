/-
  TstampOrder: all ways together.
-/
import Derived.Test.YtedccllpbajbfaaOrdA
import Derived.Test.YtedccllpbajbfaaOrdB
import Derived.Test.YtedccllpbajbfaaOrdC
import Derived.Test.YtedccllpbajbfaaOrdD
namespace Go.Proofs.Ytedccllpbajbfaa
open Go.RowKit

theorem order_any (a b c : Tm) (w : World) : Calls Try.prog 6 #[.agg #[.int .i64 a.e, .int .i64 a.d, .int .i64 a.l0, .int .i64 a.l1, .int .i64 a.l2, .int .i64 a.l3], .agg #[.int .i64 b.e, .int .i64 b.d, .int .i64 b.l0, .int .i64 b.l1, .int .i64 b.l2, .int .i64 b.l3], .agg #[.int .i64 c.e, .int .i64 c.d, .int .i64 c.l0, .int .i64 c.l1, .int .i64 c.l2, .int .i64 c.l3]] w fun e w' => e = .returned (.bool true) ∧ Below w.heap.size w w' := by
  by_cases hA : Chk a
  · rcases hL : leqB a b with _ | _
    · by_cases hE : bothE a b = 0
      · rcases hP : leqB a c with _ | _ <;> rcases hR : leqB c a with _ | _
        · exact order_1000100 a b c w hA hL hE hP hR
        · exact order_1000101 a b c w hA hL hE hP hR
        · exact order_1000110 a b c w hA hL hE hP hR
        · exact order_1000111 a b c w hA hL hE hP hR
      · exact order_1000000 a b c w hA hL hE
    · rcases hM : leqB b a with _ | _ <;> rcases hN : leqB b c with _ | _
      · rcases hP : leqB a c with _ | _ <;> rcases hR : leqB c a with _ | _
        · exact order_1100100 a b c w hA hL hM hN hP hR
        · exact order_1100101 a b c w hA hL hM hN hP hR
        · exact order_1100110 a b c w hA hL hM hN hP hR
        · exact order_1100111 a b c w hA hL hM hN hP hR
      · rcases hR : leqB c a with _ | _
        · exact order_1101110 a b c w hA hL hM hN hR
        · exact order_1101111 a b c w hA hL hM hN hR
      · rcases hP : leqB a c with _ | _ <;> rcases hR : leqB c a with _ | _
        · exact order_1110100 a b c w hA hL hM hN hP hR
        · exact order_1110101 a b c w hA hL hM hN hP hR
        · exact order_1110110 a b c w hA hL hM hN hP hR
        · exact order_1110111 a b c w hA hL hM hN hP hR
      · rcases hR : leqB c a with _ | _
        · exact order_1111110 a b c w hA hL hM hN hR
        · exact order_1111111 a b c w hA hL hM hN hR
  · exact order_0000000 a b c w hA
end Go.Proofs.Ytedccllpbajbfaa
