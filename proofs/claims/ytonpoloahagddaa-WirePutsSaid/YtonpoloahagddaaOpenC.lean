/-
  Pieces that came in: a slice of slices of bytes.
-/
import Derived.Test.YtonpoloahagddaaOpen
import Derived.Test.YtonpoloahagddaaPutsW
import Derived.SizedLaws
namespace Go.Proofs.Ytonpoloahagddaa
open Go.ChangeShapes Go.WideShapes Go.ChangeAt Go.RowKit Go.Deep

theorem weights_all_mem {H : Type} {P : Program} {e : TypeId} : ∀ {ds : List (DataW H)} {d : DataW H}, d ∈ ds → ∀ n ∈ d.weights P e, n ∈ DataW.weightsAll P e ds
  | [], _, h, _, _ => by cases h
  | d0 :: ds, d, h, n, hn => by
    simp only [DataW.weightsAll, List.mem_append]
    rcases List.mem_cons.1 h with rfl | h
    · exact .inl hn
    · exact .inr (weights_all_mem h n hn)

theorem bytes5 : Try.prog.bytesOf 5 = 1 := by kernel_rfl

theorem parts_open {H : Type} {enc : TypeId × Value → H} {W : World} {base : Nat} {v : Value} {d : DataW H} {p : List MemPlace} (hv : Value.okWide Try.prog W .any base 29 v) (h : DataW.Trod enc Try.prog W 0 (fun _ => true) true 29 v d p)
    (hwt : ∀ n ∈ d.weights Try.prog 29, n ≤ reachBytes) :
    ∃ ls, PartsW W v ls ∧ ls.length ≤ 9223372036854775807 ∧ ∀ l ∈ ls, l.length ≤ 140737488351232 := by
  obtain ⟨A, len, cap, rfl⟩ := okWide_slice Try.underlying29 hv
  obtain ⟨fuel, hf⟩ := h
  rcases open_int_rows Try.underlying29 Try.underlying23 Try.underlying5 (by kernel_rfl) (by kernel_rfl) hf with ⟨hcs, hx⟩ | ⟨a, len', cap', A', L, C, Z, hcs, _, hl, hm, hx, hr⟩
  · simp [Value.cells] at hcs
    obtain ⟨rfl, rfl, rfl⟩ := hcs
    exact ⟨[], ⟨none, 0, [], rfl, Nat.le_refl _, rfl, (fun _ h => by cases h), (fun h => absurd rfl h), fun j u l hu => by simp at hu⟩, by simp, (fun _ h => by cases h)⟩
  · simp [Value.cells] at hcs
    obtain ⟨rfl, rfl, rfl⟩ := hcs
    simp only [Prod.mk.injEq] at hx
    obtain ⟨rfl, rfl⟩ := hx
    simp only [maxLen] at hm
    have hlen : ((List.range len).map fun r => (Z r).take (L r)).length = len := by simp
    have hz : ∀ r, r < len → ((Z r).take (L r)).length = L r := fun r hr' => by
      obtain ⟨_, h1, _, h2, _⟩ := hr r (by omega)
      rw [List.length_take]
      omega
    refine ⟨(List.range len).map fun r => (Z r).take (L r), ⟨some a, cap, (List.range len).map fun r => .slice (A' r) (L r) (C r), by rw [hlen], by rw [hlen]; exact hl, by simp, ?_, fun hne => ?_, ?_⟩, by rw [hlen]; omega, ?_⟩
    · intro l hl'
      simp only [List.mem_map, List.mem_range] at hl'
      obtain ⟨r, hr', rfl⟩ := hl'
      obtain ⟨_, _, _, _, hw, _⟩ := hr r (by omega)
      intro x hx
      have := hw x (List.mem_of_mem_take hx)
      simp [Lit.wf, IntKind.min, IntKind.max, IntKind.signed, IntKind.bits] at this
      omega
    · have hpos : 0 < len := by rw [← hlen]; exact List.length_pos_iff.2 hne
      obtain ⟨b, off, rfl, hlt⟩ := addr_plain (hr 0 (by omega)).1
      refine ⟨b, off, rfl, hlt, fun j u hu => ?_⟩
      have hj : j < len := by have := (List.getElem?_eq_some_iff.1 hu).1; simpa using this
      have := (hr j (by omega)).1
      rw [addr_add] at this
      simp [hj] at hu
      rw [this, hu]
    · intro j u l hu hl'
      have hj : j < len := by have := (List.getElem?_eq_some_iff.1 hu).1; simpa using this
      simp [hj] at hu hl'
      subst hu hl'
      obtain ⟨_, h1, h2, h3, _, h4, h5⟩ := hr j (by omega)
      refine ⟨A' j, C j, by rw [hz j hj], by rw [hz j hj]; exact h1, fun hne => ?_⟩
      have hpos : 0 < L j := by rw [← hz j hj]; exact List.length_pos_iff.2 hne
      rcases hA : A' j with _ | ad
      · have := h4 hA; omega
      · obtain ⟨_, hc⟩ := h5 ad hA
        obtain ⟨b, off, rfl, hlt⟩ := addr_plain (hc 0 (by omega))
        refine ⟨b, off, rfl, hlt, fun i hi => ?_⟩
        rw [hz j hj] at hi
        have := hc i (by omega)
        rw [addr_add] at this
        rw [this, List.getElem?_take, if_pos hi]
        simp [List.getD]
    · intro l hl'
      simp only [List.mem_map, List.mem_range] at hl'
      obtain ⟨r, hr', rfl⟩ := hl'
      rw [hz r hr']
      obtain ⟨_, h1, h2, h3, _, h4, h5⟩ := hr r (by omega)
      rcases hA : A' r with _ | ad
      · have := h4 hA; omega
      · have hmem : intRow (H := H) .u8 (A' r) (L r) (Z r) ∈ ((List.range len).map fun r => intRow (H := H) .u8 (A' r) (L r) (Z r)) := List.mem_map.2 ⟨r, by simpa using hr', rfl⟩
        have hw := hwt (C r) (by
          simp only [DataW.weights, Try.underlying29, List.mem_cons, List.mem_append]
          refine .inr (.inl (weights_all_mem hmem _ ?_))
          rw [hA]
          simp [intRow, DataW.weights, Try.underlying23, lits, bytes5]
          omega)
        simp only [reachBytes] at hw
        omega
end Go.Proofs.Ytonpoloahagddaa
