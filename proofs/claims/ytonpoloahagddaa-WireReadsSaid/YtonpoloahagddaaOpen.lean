/-
  What came in, opened.
-/
import Derived.Test.YtonpoloahagddaaRows
import Derived.Test.YtonpoloahagddaaLift
import Derived.ProofKit
import Derived.OpenShut
import Derived.SliceStrings
import Derived.Deep.Matrix
import Derived.Test.YtonpoloahagddaaJoin
namespace Go.Proofs.Ytonpoloahagddaa
open Go.ChangeShapes Go.WideShapes Go.ChangeAt Go.RowKit

theorem own : ownKnob Try.prog.godebug = none := by kernel_rfl
theorem laidOut : laidOutB Try.prog = true := by kernel_rfl

theorem okCell_int {P : Program} {w : World} {r : Reach} {base : Nat} {t : TypeId} {k : IntKind} {v : Value} (ht : P.underlying t = some (.int k)) (h : Cell.okWide P w r base t v) : ∃ n, v = .int k n ∧ k.has n := by
  unfold Cell.okWide at h
  rw [ht] at h
  cases v <;> simp [Cell.ok, ht] at h
  rename_i k' n
  obtain ⟨rfl, h⟩ := h
  exact ⟨n, rfl, h⟩
theorem int_open {W : World} {base : Nat} {v : Value} (h : Value.okWide Try.prog W .any base 2 v) : ∃ n : Int, v = .int .i64 n ∧ -9223372036854775808 ≤ n ∧ n ≤ 9223372036854775807 := by
  unfold Value.okWide at h
  rw [Try.underlying2] at h
  obtain ⟨n, rfl, hn⟩ := okCell_int Try.underlying2 h
  refine ⟨n, rfl, ?_⟩
  simp [IntKind.has, IntKind.min, IntKind.max, IntKind.signed, IntKind.bits] at hn
  omega

theorem u64_open {W : World} {base : Nat} {v : Value} (h : Value.okWide Try.prog W .any base 39 v) : ∃ n : Int, v = .int .u64 n ∧ 0 ≤ n ∧ n ≤ 18446744073709551615 := by
  unfold Value.okWide at h
  rw [Try.underlying39] at h
  obtain ⟨n, rfl, hn⟩ := okCell_int Try.underlying39 h
  refine ⟨n, rfl, ?_⟩
  simp [IntKind.has, IntKind.min, IntKind.max, IntKind.signed, IntKind.bits] at hn
  omega
theorem string_open {W : World} {base : Nat} {v : Value} (h : Value.okWide Try.prog W .any base 9 v) : ∃ s : ByteArray, v = .string s := okWide_string Try.underlying9 h

/-- an address at which a cell lies has no spot -/
theorem addr_plain {w : World} {a : Addr} {v : Value} (h : w.cell? (a.add 0) = some v) : ∃ b off, a = ⟨b, off, none⟩ ∧ b < w.heap.size := by
  obtain ⟨b, off, sp⟩ := a
  cases sp with
  | none =>
    rw [addr_add] at h
    exact ⟨b, off, rfl, cell_lt h⟩
  | some s =>
    exfalso
    have : ((⟨b, off, some s⟩ : Addr).add 0).spot.isSome = true := by simp [Addr.add]
    unfold World.cell? at h
    split at h
    · rw [if_pos this] at h; cases h
    · cases h

theorem ints_open {H : Type} {enc : TypeId × Value → H} {W : World} {base : Nat} {v : Value} {d : DataW H} {p : List MemPlace} {t e : TypeId} {k : IntKind} (ht : Try.prog.underlying t = some (.slice e)) (he : Try.prog.underlying e = some (.int k)) (hc : Try.prog.cellsOf e = 1)
    (hv : Value.okWide Try.prog W .any base t v) (h : DataW.Trod enc Try.prog W 0 (fun _ => true) true t v d p) :
    ∃ (A : Option Addr) (cap : Nat) (xs : List Int), v = .slice A xs.length cap ∧ xs.length ≤ cap ∧ xs.length ≤ maxLen ∧ (∀ x ∈ xs, (Lit.int k x).wf = true) ∧ (xs ≠ [] → ∃ b off, A = some ⟨b, off, none⟩ ∧ b < W.heap.size ∧ ∀ j, j < xs.length → W.cell? ⟨b, off + j, none⟩ = some (.int k (xs[j]?.getD 0))) := by
  obtain ⟨A, len, cap, rfl⟩ := okWide_slice ht hv
  obtain ⟨fuel, hf⟩ := h
  rcases open_ints ht he hc hf with ⟨hcs, hx⟩ | ⟨a, len', cap', zs, hcs, _, hl, hm, hz, hx, hcell, hwz⟩
  · simp [Value.cells] at hcs
    obtain ⟨rfl, rfl, rfl⟩ := hcs
    exact ⟨none, 0, [], rfl, Nat.le_refl _, Nat.zero_le _, (fun _ h => by cases h), fun h => absurd rfl h⟩
  · simp [Value.cells] at hcs
    obtain ⟨rfl, rfl, rfl⟩ := hcs
    simp only [if_true] at hz
    have hlen : (zs.take len).length = len := by simp; omega
    refine ⟨some a, cap, zs.take len, by rw [hlen], by omega, by omega, fun x hx' => hwz x (List.mem_of_mem_take hx'), fun hne => ?_⟩
    have hpos : 0 < len := by rw [← hlen]; exact List.length_pos_iff.2 hne
    obtain ⟨b, off, rfl, hlt⟩ := addr_plain (hcell 0 (by omega))
    refine ⟨b, off, rfl, hlt, fun j hj => ?_⟩
    rw [hlen] at hj
    have := hcell j (by omega)
    rw [addr_add] at this
    rw [this, List.getElem?_take, if_pos hj]
    simp [List.getD]

theorem bytes_open {H : Type} {enc : TypeId × Value → H} {W : World} {base : Nat} {v : Value} {d : DataW H} {p : List MemPlace} (hv : Value.okWide Try.prog W .any base 23 v) (h : DataW.Trod enc Try.prog W 0 (fun _ => true) true 23 v d p) :
    ∃ bs, BytesAt W v bs ∧ IsB bs ∧ bs.length ≤ 9223372036854775807 := by
  obtain ⟨A, cap, xs, rfl, hle, hm, hw, hc⟩ := ints_open Try.underlying23 Try.underlying5 (by kernel_rfl) hv h
  refine ⟨xs, ⟨A, cap, rfl, hle, hc⟩, fun x hx => ?_, by simpa [maxLen] using hm⟩
  have := hw x hx
  simp [Lit.wf, IntKind.min, IntKind.max, IntKind.signed, IntKind.bits] at this
  omega
theorem longs_open {H : Type} {enc : TypeId × Value → H} {W : World} {base : Nat} {v : Value} {d : DataW H} {p : List MemPlace} (hv : Value.okWide Try.prog W .any base 28 v) (h : DataW.Trod enc Try.prog W 0 (fun _ => true) true 28 v d p) :
    ∃ ns, LongsAt W v ns ∧ ns.length ≤ 9223372036854775807 := by
  obtain ⟨A, cap, xs, rfl, hle, hm, hw, hc⟩ := ints_open Try.underlying28 Try.underlying2 (by kernel_rfl) hv h
  refine ⟨xs, ⟨A, cap, rfl, hle, fun x hx => ?_, hc⟩, by simpa [maxLen] using hm⟩
  have := hw x hx
  simp [Lit.wf, IntKind.min, IntKind.max, IntKind.signed, IntKind.bits] at this
  omega
end Go.Proofs.Ytonpoloahagddaa
