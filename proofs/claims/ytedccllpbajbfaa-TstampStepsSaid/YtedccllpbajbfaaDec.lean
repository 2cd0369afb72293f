/-
  Decimal digits, in plain Lean.
-/
namespace Go.Proofs.Ytedccllpbajbfaa
def decF : Nat → Int → List Int
  | 0, _ => []
  | f + 1, n => (if n / 10 = 0 then [] else decF f (n / 10)) ++ [48 + n % 10]
def dec (n : Int) : List Int := decF 10 n
end Go.Proofs.Ytedccllpbajbfaa
