/-
  Numbers as bytes: laws in plain Lean.
-/
import Derived.Test.YtonpoloahagddaaBe
namespace Go.Proofs.Ytonpoloahagddaa

/-- all are bytes -/
def IsB (xs : List Int) : Prop := ∀ x ∈ xs, 0 ≤ x ∧ x ≤ 255
theorem IsB.nil : IsB [] := fun _ h => by simp at h
theorem IsB.cons {x : Int} {xs : List Int} (h : 0 ≤ x ∧ x ≤ 255) (hx : IsB xs) : IsB (x :: xs) := by
  intro y hy
  rcases List.mem_cons.1 hy with rfl | hy
  · exact h
  · exact hx y hy
theorem IsB.append {xs ys : List Int} (h : IsB xs) (k : IsB ys) : IsB (xs ++ ys) := fun x hx => by
  rcases List.mem_append.1 hx with hx | hx
  · exact h x hx
  · exact k x hx
theorem IsB.take {xs : List Int} (h : IsB xs) (k : Nat) : IsB (xs.take k) := fun x hx => h x (List.mem_of_mem_take hx)
theorem IsB.drop {xs : List Int} (h : IsB xs) (k : Nat) : IsB (xs.drop k) := fun x hx => h x (List.mem_of_mem_drop hx)

theorem beF_isB : ∀ (f u : Nat), IsB (beF f u)
  | 0, _ => IsB.nil
  | f + 1, u => by
    unfold beF
    split
    · exact IsB.nil
    · exact (beF_isB f _).append (IsB.cons (by omega) IsB.nil)
theorem be_isB (u : Nat) : IsB (be u) := beF_isB 8 u

theorem intL_isB (n : Int) : IsB (intL n) := by
  unfold intL
  have h1 := be_len n.toNat
  have h2 := be_len (-1 - n).toNat
  split
  · exact IsB.cons (by omega) IsB.nil
  · split
    · exact IsB.cons (by omega) IsB.nil
    · split
      · exact IsB.cons (by omega) (be_isB _)
      · exact IsB.cons (by omega) (be_isB _)
theorem intL_len (n : Int) : (intL n).length ≤ 9 := by
  unfold intL
  have h1 := be_len n.toNat
  have h2 := be_len (-1 - n).toNat
  split
  · simp
  · split
    · simp
    · split <;> (simp; omega)
theorem intL_pos (n : Int) : 1 ≤ (intL n).length := by
  unfold intL
  split
  · simp
  · split
    · simp
    · split <;> simp

/-- the number of bytes, the greatest first -/
def valL (xs : List Int) : Nat := xs.foldl (fun u x => u * 256 + x.toNat) 0
theorem valL_snoc (xs : List Int) (x : Int) : valL (xs ++ [x]) = valL xs * 256 + x.toNat := by simp [valL]
theorem valF : ∀ (f u : Nat), u < 256 ^ f → valL (beF f u) = u
  | 0, u, h => by
    have : u = 0 := by simpa using h
    subst this
    rfl
  | f + 1, u, h => by
    unfold beF
    split
    · subst u; rfl
    · rw [valL_snoc, valF f (u / 256) (by rw [Nat.div_lt_iff_lt_mul (by decide)]; rwa [Nat.pow_succ] at h)]
      rw [Int.toNat_natCast]
      omega
theorem val_be {u : Nat} (h : u < 256 ^ 8) : valL (be u) = u := valF 8 u h

theorem beF_mono : ∀ (f u v : Nat), u ≤ v → (beF f u).length ≤ (beF f v).length
  | 0, _, _, _ => Nat.le_refl _
  | f + 1, u, v, h => by
    unfold beF
    split
    · simp
    · rw [if_neg (by omega)]
      have := beF_mono f (u / 256) (v / 256) (Nat.div_le_div_right h)
      simpa using this
theorem be_mono {u v : Nat} (h : u ≤ v) : (be u).length ≤ (be v).length := beF_mono 8 u v h

theorem valL_lt : ∀ (xs : List Int), IsB xs → valL xs < 256 ^ xs.length := by
  intro xs
  induction h : xs.length generalizing xs with
  | zero => intro _; rw [List.eq_nil_of_length_eq_zero h]; decide
  | succ n ih =>
    intro hb
    have hne : xs ≠ [] := by intro e; subst e; simp at h
    have hd := List.dropLast_concat_getLast hne
    rw [← hd]
    rw [valL_snoc]
    have h1 := ih xs.dropLast (by simp [h]) (fun x hx => hb x (List.dropLast_subset _ hx))
    have h2 := hb (xs.getLast hne) (List.getLast_mem hne)
    rw [Nat.pow_succ]
    omega

/-- which of two comes ahead -/
def cmpL : List Int → List Int → Int
  | [], [] => 0
  | [], _ :: _ => -1
  | _ :: _, [] => 1
  | x :: xs, y :: ys => if x < y then -1 else if y < x then 1 else cmpL xs ys

theorem val_from (xs : List Int) : ∀ u : Nat, xs.foldl (fun u x => u * 256 + x.toNat) u = u * 256 ^ xs.length + valL xs := by
  induction xs with
  | nil => intro u; simp [valL]
  | cons x xs ih =>
    intro u
    rw [List.foldl_cons, ih]
    have : valL (x :: xs) = x.toNat * 256 ^ xs.length + valL xs := by
      show List.foldl _ _ _ = _
      rw [List.foldl_cons, ih]
      simp
    rw [this, List.length_cons, Nat.pow_succ, Nat.add_mul, Nat.mul_assoc u, Nat.mul_comm 256, Nat.add_assoc]
theorem valL_cons (x : Int) (xs : List Int) : valL (x :: xs) = x.toNat * 256 ^ xs.length + valL xs := by
  show List.foldl _ _ _ = _
  rw [List.foldl_cons, val_from]
  simp

theorem cmpL_val : ∀ (xs ys : List Int), IsB xs → IsB ys → xs.length = ys.length → (cmpL xs ys < 0 ↔ valL xs < valL ys)
  | [], [], _, _, _ => by simp [cmpL, valL]
  | [], _ :: _, _, _, h => by simp at h
  | _ :: _, [], _, _, h => by simp at h
  | x :: xs, y :: ys, hx, hy, h => by
    have hl : xs.length = ys.length := by simpa using h
    have h1 := hx x (by simp)
    have h2 := hy y (by simp)
    have a1 := valL_lt xs (fun z hz => hx z (by simp [hz]))
    have a2 := valL_lt ys (fun z hz => hy z (by simp [hz]))
    have ih := cmpL_val xs ys (fun z hz => hx z (by simp [hz])) (fun z hz => hy z (by simp [hz])) hl
    rw [valL_cons, valL_cons, ← hl]
    rw [← hl] at a2
    unfold cmpL
    by_cases c1 : x < y
    · rw [if_pos c1]
      have : x.toNat + 1 ≤ y.toNat := by omega
      have := Nat.mul_le_mul_right (256 ^ xs.length) this
      rw [Nat.add_mul] at this
      constructor
      · intro _; omega
      · intro _; decide
    · rw [if_neg c1]
      by_cases c2 : y < x
      · rw [if_pos c2]
        have : y.toNat + 1 ≤ x.toNat := by omega
        have := Nat.mul_le_mul_right (256 ^ xs.length) this
        rw [Nat.add_mul] at this
        constructor
        · intro h; exact absurd h (by decide)
        · intro h; omega
      · rw [if_neg c2, ih]
        have : x = y := by omega
        subst this
        omega
/-- what bytes begin with: the number, how many bytes, what is wrong -/
def takeL : List Int → Int × Nat × Int
  | [] => (0, 0, 71)
  | c :: xs =>
    if c < 50 then (c - 50, 1, 0)
    else if c < 100 then (0, 0, 70)
    else if c ≤ 199 then (c - 100, 1, 0)
    else if 215 < c then (0, 0, 70)
    else if c ≤ 207 then
      if xs.length < (c - 199).toNat then (0, 0, 71)
      else if valL (xs.take (c - 199).toNat) < 9223372036854775808 ∧ intL (valL (xs.take (c - 199).toNat)) = c :: xs.take (c - 199).toNat then (valL (xs.take (c - 199).toNat), (c - 199).toNat + 1, 0)
      else (0, 0, 70)
    else
      if xs.length < (c - 207).toNat then (0, 0, 71)
      else if valL (xs.take (c - 207).toNat) < 9223372036854775808 ∧ intL (-1 - valL (xs.take (c - 207).toNat)) = c :: xs.take (c - 207).toNat then (-1 - valL (xs.take (c - 207).toNat), (c - 207).toNat + 1, 0)
      else (0, 0, 70)

theorem takeL_int (n : Int) (h0 : -9223372036854775808 ≤ n) (h1 : n ≤ 9223372036854775807) (ys : List Int) : takeL (intL n ++ ys) = (n, (intL n).length, 0) := by
  by_cases c1 : 0 ≤ n ∧ n < 100
  · have e : intL n = [100 + n] := by unfold intL; rw [if_pos c1]
    rw [e]
    simp only [List.cons_append, List.nil_append, takeL]
    rw [if_neg (by omega), if_neg (by omega), if_pos (by omega)]
    simp
    omega
  · by_cases c2 : n < 0 ∧ -50 ≤ n
    · have e : intL n = [50 + n] := by unfold intL; rw [if_neg c1, if_pos c2]
      rw [e]
      simp only [List.cons_append, List.nil_append, takeL]
      rw [if_pos (by omega)]
      simp
      omega
    · by_cases c3 : 0 ≤ n
      · have e : intL n = (199 + ((be n.toNat).length : Int)) :: be n.toNat := by unfold intL; rw [if_neg c1, if_neg c2, if_pos c3]
        have hl := be_len n.toNat
        have hv := val_be (u := n.toNat) (by omega)
        have hp : 1 ≤ (be n.toNat).length := by
          rw [be_step (by omega) (by omega)]; simp
        have hk : (199 + ((be n.toNat).length : Int) - 199).toNat = (be n.toNat).length := by omega
        have hn : ((n.toNat : Nat) : Int) = n := by omega
        rw [e]
        simp only [List.cons_append, takeL]
        rw [if_neg (by omega), if_neg (by omega), if_neg (by omega), if_neg (by omega), if_pos (by omega), hk]
        simp only [List.length_append, List.take_left', hv, hn]
        rw [if_neg (by omega), if_pos ⟨by omega, e⟩]
        simp
      · have e : intL n = (207 + ((be (-1 - n).toNat).length : Int)) :: be (-1 - n).toNat := by unfold intL; rw [if_neg c1, if_neg c2, if_neg c3]
        have hl := be_len (-1 - n).toNat
        have hv := val_be (u := (-1 - n).toNat) (by omega)
        have hp : 1 ≤ (be (-1 - n).toNat).length := by
          rw [be_step (by omega) (by omega)]; simp
        have hk : (207 + ((be (-1 - n).toNat).length : Int) - 207).toNat = (be (-1 - n).toNat).length := by omega
        have hn : -1 - (((-1 - n).toNat : Nat) : Int) = n := by omega
        rw [e]
        simp only [List.cons_append, takeL]
        rw [if_neg (by omega), if_neg (by omega), if_neg (by omega), if_neg (by omega), if_neg (by omega), hk]
        simp only [List.length_append, List.take_left', hv, hn]
        rw [if_neg (by omega), if_pos ⟨by omega, e⟩]
        simp

theorem takeL_back {xs : List Int} (hb : IsB xs) {n : Int} {k : Nat} (h : takeL xs = (n, k, 0)) : intL n = xs.take k ∧ k ≤ xs.length ∧ 1 ≤ k ∧ -9223372036854775808 ≤ n ∧ n ≤ 9223372036854775807 := by
  cases xs with
  | nil => simp [takeL] at h
  | cons c xs =>
    have hc := hb c (by simp)
    unfold takeL at h
    dsimp only at h
    split at h
    · simp only [Prod.mk.injEq] at h
      obtain ⟨rfl, rfl, _⟩ := h
      refine ⟨?_, by simp, by omega, by omega, by omega⟩
      unfold intL
      rw [if_neg (by omega), if_pos (by omega)]
      simp
      omega
    · split at h
      · simp at h
      · split at h
        · simp only [Prod.mk.injEq] at h
          obtain ⟨rfl, rfl, _⟩ := h
          refine ⟨?_, by simp, by omega, by omega, by omega⟩
          unfold intL
          rw [if_pos (by omega)]
          simp
          omega
        · split at h
          · simp at h
          · split at h
            · split at h
              · simp at h
              · split at h
                · rename_i hh
                  simp only [Prod.mk.injEq] at h
                  obtain ⟨rfl, rfl, _⟩ := h
                  refine ⟨?_, by simp; omega, by omega, by omega, by omega⟩
                  rw [hh.2]
                  rfl
                · simp at h
            · split at h
              · simp at h
              · split at h
                · rename_i hh
                  simp only [Prod.mk.injEq] at h
                  obtain ⟨rfl, rfl, _⟩ := h
                  refine ⟨?_, by simp; omega, by omega, by omega, by omega⟩
                  rw [hh.2]
                  rfl
                · simp at h
theorem intL_inj {a b : Int} (a0 : -9223372036854775808 ≤ a) (a1 : a ≤ 9223372036854775807) (b0 : -9223372036854775808 ≤ b) (b1 : b ≤ 9223372036854775807) {ys : List Int} (h : intL a = intL b ++ ys) : a = b := by
  have h1 := takeL_int a a0 a1 []
  have h2 := takeL_int b b0 b1 ys
  rw [List.append_nil, h, h2] at h1
  simp only [Prod.mk.injEq] at h1
  exact h1.1.symm

theorem intL_order {a b : Int} (a0 : 99 < a) (a1 : a ≤ 9223372036854775807) (b0 : 99 < b) (b1 : b ≤ 9223372036854775807) : cmpL (intL a) (intL b) < 0 ↔ a < b := by
  have ea : intL a = (199 + ((be a.toNat).length : Int)) :: be a.toNat := by unfold intL; rw [if_neg (by omega), if_neg (by omega), if_pos (by omega)]
  have eb : intL b = (199 + ((be b.toNat).length : Int)) :: be b.toNat := by unfold intL; rw [if_neg (by omega), if_neg (by omega), if_pos (by omega)]
  have va := val_be (u := a.toNat) (by omega)
  have vb := val_be (u := b.toNat) (by omega)
  rw [ea, eb]
  unfold cmpL
  by_cases c1 : (be a.toNat).length < (be b.toNat).length
  · rw [if_pos (by omega)]
    refine ⟨fun _ => ?_, fun _ => by decide⟩
    rcases Int.lt_or_le a b with h | h
    · exact h
    · have := be_mono (u := b.toNat) (v := a.toNat) (by omega)
      omega
  · rw [if_neg (by omega)]
    by_cases c2 : (be b.toNat).length < (be a.toNat).length
    · rw [if_pos (by omega)]
      refine ⟨fun h => absurd h (by decide), fun h => ?_⟩
      have := be_mono (u := a.toNat) (v := b.toNat) (by omega)
      omega
    · rw [if_neg (by omega), cmpL_val _ _ (be_isB _) (be_isB _) (by omega), va, vb]
      omega
end Go.Proofs.Ytonpoloahagddaa
