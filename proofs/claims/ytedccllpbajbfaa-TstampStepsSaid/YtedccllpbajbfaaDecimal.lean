/-
  The reference's decimal.
-/
import Derived.Test.YtedccllpbajbfaaDec
import Derived.Test.YtedccllpbajbfaaCheck
import Derived.Laws.BytesArg
import Derived.Lib.Hide
namespace Go.Proofs.Ytedccllpbajbfaa
open Go.RowKit

theorem decF_more : ∀ (f g : Nat) (n : Int), 0 ≤ n → n < 10 ^ f → 1 ≤ f → f ≤ g → decF g n = decF f n
  | 0, _, _, _, _, h, _ => absurd h (by omega)
  | f + 1, 0, _, _, _, _, h => absurd h (by omega)
  | f + 1, g + 1, n, h0, h1, _, hg => by
    unfold decF
    by_cases hz : n / 10 = 0
    · rw [if_pos hz, if_pos hz]
    · rw [if_neg hz, if_neg hz]
      have h2 : n / 10 < 10 ^ f := by
        rw [Int.pow_succ] at h1
        omega
      have h3 : 1 ≤ f := by
        rcases f with _ | f
        · simp at h2; omega
        · omega
      rw [decF_more f g (n / 10) (by omega) h2 h3 (by omega)]
theorem dec_step {n : Int} (h0 : 10 ≤ n) (h1 : n ≤ 9999999999) : dec n = dec (n / 10) ++ [48 + n % 10] := by
  show decF (9 + 1) n = decF 10 (n / 10) ++ _
  have e : decF (9 + 1) n = (if n / 10 = 0 then [] else decF 9 (n / 10)) ++ [48 + n % 10] := rfl
  rw [e, if_neg (by omega), decF_more 9 10 (n / 10) (by omega) (by omega) (by omega) (by omega)]
theorem dec_one {n : Int} (h0 : 0 ≤ n) (h1 : n < 10) : dec n = [48 + n] := by
  show decF (9 + 1) n = _
  have e : decF (9 + 1) n = (if n / 10 = 0 then [] else decF 9 (n / 10)) ++ [48 + n % 10] := rfl
  rw [e, if_pos (by omega), show n % 10 = n by omega]
  rfl

theorem digit_at : ∀ k : Nat, k < 10 → (⟨#[48, 49, 50, 51, 52, 53, 54, 55, 56, 57]⟩ : ByteArray).extract k (k + 1) = strOfNums [48 + (k : Int)] := by
  intro k hk
  have : k = 0 ∨ k = 1 ∨ k = 2 ∨ k = 3 ∨ k = 4 ∨ k = 5 ∨ k = 6 ∨ k = 7 ∨ k = 8 ∨ k = 9 := by omega
  rcases this with rfl | rfl | rfl | rfl | rfl | rfl | rfl | rfl | rfl | rfl <;> rfl

theorem decF_le : ∀ (f : Nat) (n : Int), (decF f n).length ≤ f
  | 0, _ => Nat.le_refl 0
  | f + 1, n => by
    have := decF_le f (n / 10)
    unfold decF
    split <;> simp <;> omega
theorem app_strs (xs ys : List Int) : strOfNums xs ++ strOfNums ys = strOfNums (xs ++ ys) := by
  simp [strOfNums]
  rfl

def DecRel (n : Int) (v s : Value) : Prop := ∃ (m : Int) (xs : List Int), 0 ≤ m ∧ m ≤ 1073741824 ∧ v = .int .i64 m ∧ s = .string (strOfNums xs) ∧ dec n = dec m ++ xs

set_option maxHeartbeats 2000000 in
theorem decimal_any (n : Int) (h0 : 0 ≤ n) (h1 : n ≤ 1073741824) (w : World) :
    Calls Try.prog 44 #[.int .i64 n] w fun e w' => e = .returned (.string (strOfNums (dec n))) ∧ w' = w := by
  go_enter Try.func44, Try.ntmps44
  go_wp2
  go_loop [0, 3] (fun v s => DecRel n v s) (fun v _ => (intOf v).toNat)
  case atStart => exact ⟨n, [], h0, h1, rfl, rfl, by simp⟩
  case round =>
    obtain ⟨m, xs, m0, m1, rfl, rfl, he⟩ := hrel
    have hl : xs.length ≤ 10 := by
      have := decF_le 10 n
      rw [show decF 10 n = dec n from rfl, he, List.length_append] at this
      omega
    have hsz : (strOfNums xs).size ≤ 10 := by rw [strOfNums_size]; exact hl
    have HE := Lib.hid he
    clear he
    obtain ⟨k, hk⟩ : ∃ k : Nat, m % 10 = (k : Int) := ⟨(m % 10).toNat, by omega⟩
    have hk9 : k < 10 := by omega
    have HK := Lib.hid hk
    have HD := Lib.hid (digit_at k hk9)
    by_cases hm : m < 10
    · have hz : (m / 10 == 0) = true := by simp; omega
      have hz2 : m / 10 = 0 := by omega
      go_wp2
      rw [HD.out, app_strs]
      go_returns
      refine ⟨?_, rfl⟩
      have e : dec n = [48 + (k : Int)] ++ xs := by
        rw [HE.out, dec_one m0 hm]
        have := HK.out
        rw [show m = (k : Int) by omega]
      rw [e]
      rfl
    · have hz : (m / 10 == 0) = false := by simp; omega
      go_wp2
      rw [HD.out, app_strs]
      refine ⟨⟨m / 10, [48 + (k : Int)] ++ xs, by omega, by omega, rfl, rfl, ?_⟩, by simp [intOf]; omega⟩
      rw [HE.out, dec_step (by omega) (by omega), ← HK.out, List.append_assoc]
end Go.Proofs.Ytedccllpbajbfaa
