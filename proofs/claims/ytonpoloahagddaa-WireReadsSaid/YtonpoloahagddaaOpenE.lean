/-
  Takes that came in.
-/
import Derived.Test.YtonpoloahagddaaOpen
import Derived.Deep.Strs
import Derived.Test.YtonpoloahagddaaReadsW
namespace Go.Proofs.Ytonpoloahagddaa
open Go.ChangeShapes Go.WideShapes Go.ChangeAt Go.RowKit Go.Deep

theorem takes_open {H : Type} {enc : TypeId × Value → H} {W : World} {base : Nat} {v : Value} {d : DataW H} {p : List MemPlace} (hv : Value.okWide Try.prog W .any base 63 v) (h : DataW.Trod enc Try.prog W 0 (fun _ => true) true 63 v d p) :
    ∃ ts, TakesAt W v ts := by
  obtain ⟨A, len, cap, rfl⟩ := okWide_slice Try.underlying63 hv
  obtain ⟨fuel, hf⟩ := h
  have h3 : Try.prog.cellsOf 52 = 3 := by kernel_rfl
  have h31 : Try.prog.cellsOf 3 = 1 := by kernel_rfl
  have h21 : Try.prog.cellsOf 2 = 1 := by kernel_rfl
  rcases open_slice Try.underlying63 hf with ⟨hcs, hx⟩ | ⟨a, len', cap', m, n, D, Pl, hcs, _, hl, hm, hmm, hx, hr⟩
  · simp [Value.cells] at hcs
    obtain ⟨rfl, rfl, rfl⟩ := hcs
    exact ⟨[], none, 0, rfl, fun h => absurd rfl h⟩
  · simp [Value.cells] at hcs
    obtain ⟨rfl, rfl, rfl⟩ := hcs
    simp only [if_true] at hmm
    have each : ∀ i, i < len → ∃ t : Tk, W.cell? (a.add (i * 3)) = some (.int .i64 t.1) ∧ W.cell? ((a.add (i * 3)).add 1) = some (.int .i64 t.2.1) ∧ W.cell? ((a.add (i * 3)).add 2) = some (.int .i64 t.2.2) := by
      intro i hi
      obtain ⟨cs', hc1, hc2⟩ := hr i (by omega)
      rw [h3] at hc1
      obtain ⟨_, hlen, hcell⟩ := World.cells?_some hc1
      obtain ⟨y0, y1, y2, n', _, _, e0, e1, e2⟩ := trod_struct3 Try.underlying52 hc2
      match cs', hlen with
      | [u0, u1, u2], _ =>
        simp only [h31, h21] at e0 e1 e2
        obtain ⟨x0, g0, _, _⟩ := DataW.trod_int Try.underlying3 e0
        obtain ⟨x1, g1, _, _⟩ := DataW.trod_int Try.underlying2 e1
        obtain ⟨x2, g2, _, _⟩ := DataW.trod_int Try.underlying2 e2
        simp at g0 g1 g2
        subst g0 g1 g2
        refine ⟨(x0, x1, x2), ?_, hcell 1 (by omega), hcell 2 (by omega)⟩
        have := hcell 0 (by omega)
        simpa [add_add] using this
    obtain ⟨T, hT⟩ := choose_lt each
    have hlen : ((List.range len).map T).length = len := by simp
    refine ⟨(List.range len).map T, some a, cap, by rw [hlen], fun hne => ?_⟩
    have hpos : 0 < len := by rw [← hlen]; exact List.length_pos_iff.2 hne
    have h00 := (hT 0 hpos).1
    obtain ⟨b, off, rfl, hlt⟩ := addr_plain (a := a) (by simpa using h00)
    refine ⟨b, off, rfl, hlt, fun j hj => ?_⟩
    rw [hlen] at hj
    obtain ⟨e0, e1, e2⟩ := hT j hj
    have hg : ((List.range len).map T)[j]?.getD (0, 0, 0) = T j := by simp [hj]
    rw [hg]
    simp only [addr_add] at e0 e1 e2
    exact ⟨e0, e1, e2⟩
end Go.Proofs.Ytonpoloahagddaa
