/-
  Reading a time's text, in plain Lean.
-/
import Derived.Test.YtedccllpbajbfaaRText
namespace Go.Proofs.Ytedccllpbajbfaa

/-- between two letters: the numbers that have ended, the number under way, whether it has no digit yet -/
structure Ps where
  l : List Int
  n : Int
  f : Bool
def pstep (s : Ps) (c : Int) : Option Ps :=
  if c = 46 ∧ s.f = false then some ⟨s.l ++ [s.n], 0, true⟩
  else if 48 ≤ c ∧ c ≤ 57 ∧ s.n ≤ 1073741824 then some ⟨s.l, 10 * s.n + (c - 48), false⟩
  else none
def prun : List Int → Ps → Option Ps
  | [], s => some s
  | c :: cs, s => (pstep s c).bind (prun cs)
theorem prun_app : ∀ (xs ys : List Int) (s : Ps), prun (xs ++ ys) s = (prun xs s).bind (prun ys)
  | [], _, _ => rfl
  | c :: cs, ys, s => by
    rw [List.cons_append, prun, prun]
    cases h : pstep s c with
    | none => rfl
    | some s' => exact prun_app cs ys s'
theorem prun_one (c : Int) (s : Ps) : prun [c] s = pstep s c := by
  rw [prun]
  cases pstep s c <;> rfl
theorem prun_snoc (xs : List Int) (c : Int) (s : Ps) : prun (xs ++ [c]) s = (prun xs s).bind (fun s' => pstep s' c) := by
  rw [prun_app]
  cases prun xs s with
  | none => rfl
  | some s' => exact prun_one c s'

theorem prun_dec : ∀ (f : Nat) (n : Int), 0 ≤ n → n < 10 ^ f → 1 ≤ f → n ≤ 1073741824 → ∀ (l : List Int) (b : Bool), prun (decF f n) ⟨l, 0, b⟩ = some ⟨l, n, false⟩
  | 0, _, _, _, h, _, _, _ => absurd h (by omega)
  | f + 1, n, h0, h1, _, h2, l, b => by
    unfold decF
    by_cases hz : n / 10 = 0
    · rw [if_pos hz, List.nil_append, prun_one]
      unfold pstep
      rw [if_neg (by omega), if_pos ⟨by omega, by omega, by simp⟩]
      simp
      omega
    · rw [if_neg hz, prun_snoc]
      have h3 : n / 10 < 10 ^ f := by rw [Int.pow_succ] at h1; omega
      have h4 : 1 ≤ f := by
        rcases f with _ | f
        · simp at h3; omega
        · omega
      rw [prun_dec f (n / 10) (by omega) h3 h4 (by omega) l b]
      simp only [Option.bind_some]
      unfold pstep
      rw [if_neg (by omega), if_pos ⟨by omega, by omega, by dsimp only; omega⟩]
      simp
      omega
theorem prun_dec10 {n : Int} (h0 : 0 ≤ n) (h2 : n ≤ 1073741824) (l : List Int) (b : Bool) : prun (dec n) ⟨l, 0, b⟩ = some ⟨l, n, false⟩ := prun_dec 10 n h0 (by omega) (by omega) h2 l b

theorem prun_tail : ∀ (xs : List Int) (l : List Int) (n : Int), (∀ x ∈ xs, 0 ≤ x ∧ x ≤ 1048576) → ∃ l' n', prun (xs.flatMap fun x => 46 :: dec x) ⟨l, n, false⟩ = some ⟨l', n', false⟩ ∧ l' ++ [n'] = l ++ [n] ++ xs
  | [], l, n, _ => ⟨l, n, rfl, by simp⟩
  | x :: xs, l, n, h => by
    have hx := h x (by simp)
    have e : prun (46 :: dec x) ⟨l, n, false⟩ = some ⟨l ++ [n], x, false⟩ := by
      rw [prun]
      have : pstep ⟨l, n, false⟩ 46 = some ⟨l ++ [n], 0, true⟩ := by simp [pstep]
      rw [this]
      exact prun_dec10 hx.1 (by omega) _ _
    obtain ⟨l', n', h1, h2⟩ := prun_tail xs (l ++ [n]) x (fun y hy => h y (by simp [hy]))
    refine ⟨l', n', ?_, by rw [h2]; simp⟩
    rw [List.flatMap_cons, prun_app, e]
    exact h1

theorem mk_lp {t : Tm} (hc : Chk t) : mkT t.e (lpL t) = t ∧ (lpL t).length = t.d.toNat := by
  have hc' := hc
  obtain ⟨-, -, h0, h4, ⟨-, -, z0⟩, ⟨-, -, z1⟩, ⟨-, -, z2⟩, -, -, z3⟩ := hc
  obtain ⟨e, d, l0, l1, l2, l3⟩ := t
  dsimp only at *
  have : d = 0 ∨ d = 1 ∨ d = 2 ∨ d = 3 ∨ d = 4 := by omega
  unfold lpL
  rw [if_pos hc']
  rcases this with rfl | rfl | rfl | rfl | rfl
  · simp [mkT]; exact ⟨(z0 (by omega)).symm, (z1 (by omega)).symm, (z2 (by omega)).symm, (z3 (by omega)).symm⟩
  · simp [mkT]; exact ⟨(z1 (by omega)).symm, (z2 (by omega)).symm, (z3 (by omega)).symm⟩
  · simp [mkT]; exact ⟨(z2 (by omega)).symm, (z3 (by omega)).symm⟩
  · simp [mkT]; exact (z3 (by omega)).symm
  · simp [mkT]

theorem prun_text {t : Tm} (hc : Chk t) : ∃ l n, prun (textL t) ⟨[], 0, true⟩ = some ⟨l, n, false⟩ ∧ l ++ [n] = t.e :: lpL t := by
  obtain ⟨l, n, h1, h2⟩ := prun_tail (lpL t) [] t.e (fun x hx => lpL_in hx)
  refine ⟨l, n, ?_, by rw [h2]; simp⟩
  rw [text_alt hc, prun_app, prun_dec10 hc.1 hc.2.1]
  exact h1

/-- the time of a text -/
def IsTxt (s : List Int) (t : Tm) : Prop := Chk t ∧ textL t = s

/-- the reference's letters -/
def rstep (s : List Int × Int) (c : Int) : Option (List Int × Int) :=
  if c = 46 then some (s.1 ++ [s.2], 0)
  else if 48 ≤ c ∧ c ≤ 57 ∧ s.2 ≤ 1073741824 then some (s.1, 10 * s.2 + (c - 48))
  else none
def rrun : List Int → List Int × Int → Option (List Int × Int)
  | [], s => some s
  | c :: cs, s => (rstep s c).bind (rrun cs)
theorem rrun_app : ∀ (xs ys : List Int) (s : List Int × Int), rrun (xs ++ ys) s = (rrun xs s).bind (rrun ys)
  | [], _, _ => rfl
  | c :: cs, ys, s => by
    rw [List.cons_append, rrun, rrun]
    cases h : rstep s c with
    | none => rfl
    | some s' => exact rrun_app cs ys s'
theorem rrun_snoc (xs : List Int) (c : Int) (s : List Int × Int) : rrun (xs ++ [c]) s = (rrun xs s).bind (fun s' => rstep s' c) := by
  rw [rrun_app]
  cases rrun xs s with
  | none => rfl
  | some s' =>
    show rrun [c] s' = rstep s' c
    rw [rrun]
    cases rstep s' c <;> rfl
/-- where the one goes on, the other does too -/
theorem rrun_of_prun : ∀ (xs : List Int) (s s' : Ps), prun xs s = some s' → rrun xs (s.l, s.n) = some (s'.l, s'.n)
  | [], s, s', h => by cases h; rfl
  | c :: cs, s, s', h => by
    rw [prun] at h
    rw [rrun]
    unfold pstep at h
    unfold rstep
    split at h
    · rename_i hc
      rw [if_pos hc.1]
      exact rrun_of_prun cs _ s' h
    · split at h
      · rename_i hc
        rw [if_neg (by omega), if_pos hc]
        exact rrun_of_prun cs _ s' h
      · cases h
end Go.Proofs.Ytedccllpbajbfaa
