/-
  (of this seat: Ge and Bx stand in Region)
-/
import Derived.Test.YtedccllpbajbfaaRegion
