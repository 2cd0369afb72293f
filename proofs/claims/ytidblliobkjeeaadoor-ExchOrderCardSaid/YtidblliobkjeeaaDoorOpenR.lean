/-
  Records, small numbers, that came in.
-/
import Derived.Test.YtidblliobkjeeaaDoorOpen
import Derived.Test.YtidblliobkjeeaaDoorRecs
import Derived.SliceStrings
import Derived.Deep.Matrix
import Derived.Deep.Strs
namespace Go.Proofs.YtidblliobkjeeaaDoor
open Go.ChangeShapes Go.WideShapes Go.ChangeAt Go.RowKit Go.Deep

/-- an address at which a cell lies has no spot -/
theorem addr_plain {w : World} {a : Addr} {v : Value} (h : w.cell? (a.add 0) = some v) : ∃ b off, a = ⟨b, off, none⟩ ∧ b < w.heap.size := by
  obtain ⟨b, off, sp⟩ := a
  cases sp with
  | none =>
    rw [addr_add] at h
    exact ⟨b, off, rfl, cell_lt h⟩
  | some s =>
    exfalso
    have : ((⟨b, off, some s⟩ : Addr).add 0).spot.isSome = true := by simp [Addr.add]
    unfold World.cell? at h
    split at h
    · rw [if_pos this] at h; cases h
    · cases h

def inI (n : Int) : Prop := -9223372036854775808 ≤ n ∧ n ≤ 9223372036854775807
theorem inI_wf {n : Int} (h : (Lit.int .i64 n).wf = true) : inI n := by
  simp [Lit.wf, IntKind.min, IntKind.max, IntKind.signed, IntKind.bits] at h
  exact ⟨by omega, by omega⟩

theorem recs_open {H : Type} {enc : TypeId × Value → H} {W : World} {base : Nat} {v : Value} {d : DataW H} {p : List MemPlace} (hv : Value.okWide Tryd.prog W .any base 28 v) (h : DataW.Trod enc Tryd.prog W 0 (fun _ => true) true 28 v d p) :
    ∃ rs : List Rc, RecsAt W v rs ∧ rs.length ≤ 9223372036854775807 ∧ ∀ r ∈ rs, inI r.1 := by
  obtain ⟨A, len, cap, rfl⟩ := okWide_slice Tryd.underlying28 hv
  obtain ⟨fuel, hf⟩ := h
  have h3 : Tryd.prog.cellsOf 32 = 2 := by kernel_rfl
  have h21 : Tryd.prog.cellsOf 2 = 1 := by kernel_rfl
  have h91 : Tryd.prog.cellsOf 9 = 1 := by kernel_rfl
  rcases open_slice Tryd.underlying28 hf with ⟨hcs, hx⟩ | ⟨a, len', cap', m, n, D, Pl, hcs, _, hl, hm, hmm, hx, hr⟩
  · simp [Value.cells] at hcs
    obtain ⟨rfl, rfl, rfl⟩ := hcs
    exact ⟨[], ⟨none, 0, rfl, Nat.le_refl _, fun h => absurd rfl h⟩, by simp, fun _ h => by cases h⟩
  · simp [Value.cells] at hcs
    obtain ⟨rfl, rfl, rfl⟩ := hcs
    simp only [if_true] at hmm
    have each : ∀ i, i < len → ∃ t : Rc, W.cell? (a.add (i * 2)) = some (.int .i64 t.1) ∧ W.cell? ((a.add (i * 2)).add 1) = some (.string t.2) ∧ inI t.1 := by
      intro i hi
      obtain ⟨cs', hc1, hc2⟩ := hr i (by omega)
      rw [h3] at hc1
      obtain ⟨_, hlen, hcell⟩ := World.cells?_some hc1
      obtain ⟨y0, y1, n', _, _, e0, e1⟩ := trod_struct2 Tryd.underlying32 hc2
      match cs', hlen with
      | [u0, u1], _ =>
        simp only [h21, h91] at e0 e1
        obtain ⟨x0, g0, _, w0⟩ := DataW.trod_int Tryd.underlying2 e0
        obtain ⟨x1, g1, _, _⟩ := DataW.trod_string Tryd.underlying9 e1
        simp at g0 g1
        subst g0 g1
        refine ⟨(x0, x1), ?_, hcell 1 (by omega), inI_wf w0⟩
        have := hcell 0 (by omega)
        simpa [add_add] using this
    obtain ⟨T, hT⟩ := choose_lt each
    have hlen : ((List.range len).map T).length = len := by simp
    refine ⟨(List.range len).map T, ⟨some a, cap, by rw [hlen], by omega, fun hne => ?_⟩, ?_, ?_⟩
    · have hpos : 0 < len := by rw [← hlen]; exact List.length_pos_iff.2 hne
      have h00 := (hT 0 hpos).1
      obtain ⟨b, off, rfl, hlt⟩ := addr_plain (a := a) (by simpa using h00)
      refine ⟨b, off, rfl, hlt, fun j r hj => ?_⟩
      have hjl : j < len := by
        have := (List.getElem?_eq_some_iff.1 hj).1
        rwa [hlen] at this
      obtain ⟨e0, e1, e2⟩ := hT j hjl
      have hg : T j = r := by simpa [hjl] using hj
      rw [hg] at e0 e1
      simp only [addr_add] at e0 e1
      exact ⟨e0, e1⟩
    · rw [hlen]; simp only [maxLen] at hm; omega
    · intro r hr
      obtain ⟨j, hj, rfl⟩ := List.mem_map.1 hr
      exact (hT j (by simpa using hj)).2.2

theorem u8_open {W : World} {base : Nat} {v : Value} (h : Value.okWide Tryd.prog W .any base 5 v) : ∃ n : Nat, v = .int .u8 (n : Int) ∧ n ≤ 255 := by
  unfold Value.okWide at h
  rw [Tryd.underlying5] at h
  obtain ⟨n, rfl, hn⟩ := okCell_int Tryd.underlying5 h
  simp [IntKind.has, IntKind.min, IntKind.max, IntKind.signed, IntKind.bits] at hn
  obtain ⟨k, rfl⟩ : ∃ k : Nat, n = (k : Int) := ⟨n.toNat, by omega⟩
  exact ⟨k, rfl, by omega⟩

/-- small numbers that came in -/
def BytesAt (w : World) (v : Value) (xs : List Int) : Prop := ∃ (A : Option Addr) (cap : Nat), v = .slice A xs.length cap ∧ xs.length ≤ cap ∧
  (xs ≠ [] → ∃ b off, A = some ⟨b, off, none⟩ ∧ b < w.heap.size ∧ ∀ j x, xs[j]? = some x → w.cell? ⟨b, off + j, none⟩ = some (.int .i8 x))
theorem i8s_open {H : Type} {enc : TypeId × Value → H} {W : World} {base : Nat} {v : Value} {d : DataW H} {p : List MemPlace} (hv : Value.okWide Tryd.prog W .any base 27 v) (h : DataW.Trod enc Tryd.prog W 0 (fun _ => true) true 27 v d p) :
    ∃ xs : List Int, BytesAt W v xs ∧ xs.length ≤ 9223372036854775807 ∧ ∀ x ∈ xs, -128 ≤ x ∧ x ≤ 127 := by
  obtain ⟨A, len, cap, rfl⟩ := okWide_slice Tryd.underlying27 hv
  obtain ⟨fuel, hf⟩ := h
  rcases open_ints Tryd.underlying27 Tryd.underlying29 (by kernel_rfl) hf with ⟨hcs, hx⟩ | ⟨a, len', cap', zs, hcs, _, hl, hm, hz, hx, hcell, hwz⟩
  · simp [Value.cells] at hcs
    obtain ⟨rfl, rfl, rfl⟩ := hcs
    exact ⟨[], ⟨none, 0, rfl, Nat.le_refl _, fun h => absurd rfl h⟩, by simp, (fun _ h => by cases h)⟩
  · simp [Value.cells] at hcs
    obtain ⟨rfl, rfl, rfl⟩ := hcs
    simp only [if_true] at hz
    have hlen : (zs.take len).length = len := by simp; omega
    refine ⟨zs.take len, ⟨some a, cap, by rw [hlen], by omega, fun hne => ?_⟩, ?_, ?_⟩
    · have hpos : 0 < len := by rw [← hlen]; exact List.length_pos_iff.2 hne
      obtain ⟨b, off, rfl, hlt⟩ := addr_plain (hcell 0 (by omega))
      refine ⟨b, off, rfl, hlt, fun j x hj => ?_⟩
      have hjl : j < len := by
        have := (List.getElem?_eq_some_iff.1 hj).1
        rwa [hlen] at this
      have := hcell j (by omega)
      rw [addr_add] at this
      rw [List.getElem?_take, if_pos hjl] at hj
      rw [this]
      simp [List.getD, hj]
    · rw [hlen]; simp only [maxLen] at hm; omega
    · intro x hx'
      have := hwz x (List.mem_of_mem_take hx')
      simp [Lit.wf, IntKind.min, IntKind.max, IntKind.signed, IntKind.bits] at this
      omega
end Go.Proofs.YtidblliobkjeeaaDoor
