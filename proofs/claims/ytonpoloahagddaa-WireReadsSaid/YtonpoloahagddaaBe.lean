/-
  Numbers as bytes, in plain Lean.
-/
namespace Go.Proofs.Ytonpoloahagddaa

/-- the bytes of a number above 0, the greatest first -/
def beF : Nat → Nat → List Int
  | 0, _ => []
  | f + 1, u => if u = 0 then [] else beF f (u / 256) ++ [((u % 256 : Nat) : Int)]
def be (u : Nat) : List Int := beF 8 u

theorem beF_more : ∀ (f g u : Nat), u < 256 ^ f → f ≤ g → beF g u = beF f u
  | 0, g, u, h, _ => by
    have hu : u = 0 := by simpa using h
    subst hu
    cases g <;> simp [beF]
  | f + 1, 0, u, _, hg => absurd hg (by omega)
  | f + 1, g + 1, u, h, hg => by
    unfold beF
    split
    · rfl
    · rw [beF_more f g (u / 256) (by rw [Nat.div_lt_iff_lt_mul (by decide)]; rwa [Nat.pow_succ] at h) (by omega)]

theorem be_step {u : Nat} (h : u < 256 ^ 8) (h0 : u ≠ 0) : be u = be (u / 256) ++ [((u % 256 : Nat) : Int)] := by
  have h7 : u / 256 < 256 ^ 7 := by
    rw [Nat.div_lt_iff_lt_mul (by decide)]
    rwa [← Nat.pow_succ]
  show beF 8 u = beF 8 (u / 256) ++ _
  rw [beF_more 7 8 (u / 256) h7 (by omega)]
  have e : beF (7 + 1) u = if u = 0 then [] else beF 7 (u / 256) ++ [((u % 256 : Nat) : Int)] := rfl
  rw [show (8 : Nat) = 7 + 1 from rfl, e, if_neg h0]

theorem beF_len : ∀ (f u : Nat), (beF f u).length ≤ f
  | 0, _ => Nat.le_refl 0
  | f + 1, u => by
    unfold beF
    split
    · simp
    · have := beF_len f (u / 256)
      simp
      omega
theorem be_len (u : Nat) : (be u).length ≤ 8 := beF_len 8 u

/-- a number's form -/
def intL (n : Int) : List Int :=
  if 0 ≤ n ∧ n < 100 then [100 + n]
  else if n < 0 ∧ -50 ≤ n then [50 + n]
  else if 0 ≤ n then (199 + ((be n.toNat).length : Int)) :: be n.toNat
  else (207 + ((be (-1 - n).toNat).length : Int)) :: be (-1 - n).toNat
end Go.Proofs.Ytonpoloahagddaa
