/-
  few: whether lists of bytes are no more than a statement looks at.
-/
import Derived.Test.YtonpoloahagddaaRefs
namespace Go.Proofs.Ytonpoloahagddaa
open Go.RowKit

def fewS (ls : List (List Int)) : Nat := (ls.map fun l => min l.length 3000).sum
theorem fewS_snoc (ls : List (List Int)) (k : Nat) (l : List Int) (h : ls[k]? = some l) : fewS (ls.take (k + 1)) = fewS (ls.take k) + min l.length 3000 := by
  have hk := (List.getElem?_eq_some_iff.1 h).1
  rw [List.take_succ_eq_append_getElem hk, (List.getElem?_eq_some_iff.1 h).2]
  simp [fewS]
theorem fewS_le (ls : List (List Int)) : fewS ls ≤ 3000 * ls.length := by
  induction ls with
  | nil => simp [fewS]
  | cons l ls ih =>
    simp only [fewS, List.map_cons, List.sum_cons, List.length_cons] at *
    omega
theorem few_flat {M : Nat} (hM : 3000 ≤ M) : ∀ (ls : List (List Int)), (∀ l ∈ ls, l.length ≤ M) → fewS ls ≤ 3000 → ls.flatten.length = fewS ls ∨ ls.flatten.length ≤ M ∧ fewS ls = 3000
  | [], _, _ => .inl rfl
  | l :: ls, hl, h => by
    have h1 := hl l (by simp)
    have e : fewS (l :: ls) = min l.length 3000 + fewS ls := by simp [fewS]
    rw [e] at h ⊢
    rw [List.flatten_cons, List.length_append]
    rcases few_flat hM ls (fun x hx => hl x (by simp [hx])) (by omega) with ih | ⟨ih1, ih2⟩
    · omega
    · omega
theorem few_len {ls : List (List Int)} {M : Nat} (hM : 3000 ≤ M) (hl : ∀ l ∈ ls, l.length ≤ M) (h : fewS ls ≤ 3000) : ls.flatten.length ≤ M := by
  rcases few_flat hM ls hl h with h1 | h1
  · omega
  · exact h1.1

def FewB (ls : List (List Int)) (w : World) (e : Ending) (w' : World) : Prop := ∃ b : Bool, e = .returned (.bool b) ∧ (b = true → ls.length ≤ 100 ∧ fewS ls ≤ 3000) ∧ w' = w

set_option maxHeartbeats 2000000 in
theorem few_any {w : World} {v : Value} {ls : List (List Int)} (h : PartsW w v ls) (hl : ls.length ≤ 9223372036854775807) (hls : ∀ l ∈ ls, l.length ≤ 9223372036854775807) :
    Calls Try.prog 14 #[v] w fun e w' => FewB ls w e w' := by
  obtain ⟨A, cap, vs, rfl, hle, hvl, hi, hc, hb⟩ := h
  have HC := Lib.hid hc
  have HB := Lib.hid hb
  have HLS := Lib.hid hls
  clear hi hc hb hls
  obtain ⟨m, hm⟩ : ∃ m : Nat, m = min ls.length 100 := ⟨_, rfl⟩
  have hm1 : min (ls.length : Int) 100 = (m : Int) := by omega
  have hm2 : m ≤ ls.length := by omega
  have hm3 : m ≤ 100 := by omega
  have hm4 : m ≤ cap := by omega
  have HM := Lib.hid hm
  clear hm
  go_enter Try.func14, Try.ntmps14
  go_wp2
  go_loop [3, 12] (fun n i => ∃ k : Nat, k ≤ m ∧ i = .int .i64 (k : Int) ∧ n = .int .i64 (fewS (ls.take k) : Int)) (fun _ i => m - (intOf i).toNat)
  case atStart => exact ⟨0, by omega, rfl, by simp [fewS]⟩
  case round =>
    obtain ⟨k, hk, rfl, rfl⟩ := hrel
    have hfl := fewS_le (ls.take k)
    rw [List.length_take] at hfl
    by_cases hlt : k < m
    · obtain ⟨bb, off, hA, hbb, hcell⟩ := HC.out (by intro e; rw [e] at hm2; simp at hm2; omega)
      subst hA
      have hu := List.getElem?_eq_getElem (l := vs) (i := k) (by omega)
      have hl' := List.getElem?_eq_getElem (l := ls) (i := k) (by omega)
      obtain ⟨u, hue⟩ : ∃ u, u = vs[k] := ⟨_, rfl⟩
      obtain ⟨l, hle'⟩ : ∃ l, l = ls[k] := ⟨_, rfl⟩
      rw [← hue] at hu
      rw [← hle'] at hl'
      have hck := hcell k u hu
      have hbu := HB.out k u l hu hl'
      have hlm := HLS.out l (List.mem_of_getElem? hl')
      have HS := Lib.hid (fewS_snoc ls k l hl')
      obtain ⟨uA, ucap, rfl, -, -⟩ := hbu
      obtain ⟨f, hf⟩ : ∃ f, f = fewS (ls.take k) := ⟨_, rfl⟩
      rw [← hf] at HS hfl ⊢
      have HF := Lib.hid hf
      obtain ⟨ml, hml⟩ : ∃ ml : Nat, ml = min l.length 3000 := ⟨_, rfl⟩
      have hml1 : min (l.length : Int) 3000 = (ml : Int) := by omega
      have hml2 : ml ≤ 3000 := by omega
      rw [← hml] at HS
      have hfl' : f ≤ 300000 := by omega
      clear hcell hu hl' hue hle' hf hml hfl
      go_wp2
      go_round
      case rel => exact ⟨k + 1, by omega, by go_num, by rw [HS.out]; go_num⟩
      case measure => simp [intOf]; omega
    · obtain rfl : k = m := by omega
      obtain ⟨f, hf⟩ : ∃ f, f = fewS (ls.take k) := ⟨_, rfl⟩
      rw [← hf] at hfl ⊢
      have HF := Lib.hid hf
      clear hf
      by_cases c1 : ls.length ≤ 100
      · have c1' : decide ((ls.length : Int) ≤ 100) = true := by simp; omega
        have hkl : ls.take k = ls := by have := HM.out; exact List.take_of_length_le (by omega)
        have HKL := Lib.hid hkl
        clear hkl
        go_wp2
        go_returns
        refine ⟨_, rfl, fun hh => ⟨c1, ?_⟩, rfl⟩
        have e := HF.out
        rw [HKL.out] at e
        simp at hh
        omega
      · have c1' : decide ((ls.length : Int) ≤ 100) = false := by simp; omega
        go_wp2
        go_returns
        exact ⟨_, rfl, fun hh => by simp at hh, rfl⟩
end Go.Proofs.Ytonpoloahagddaa
