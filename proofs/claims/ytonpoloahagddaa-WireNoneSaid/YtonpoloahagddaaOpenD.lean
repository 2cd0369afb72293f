/-
  A Take that came in.
-/
import Derived.Test.YtonpoloahagddaaOpen
namespace Go.Proofs.Ytonpoloahagddaa
open Go.ChangeShapes Go.WideShapes Go.ChangeAt Go.RowKit

theorem take_open {W : World} {base : Nat} {v : Value} (h : Value.okWide Try.prog W .any base 52 v) : ∃ d a b : Int, v = .agg #[.int .i64 d, .int .i64 a, .int .i64 b] := by
  unfold Value.okWide at h
  rw [Try.underlying52] at h
  obtain ⟨cs, rfl, hsz, ts, hts, _, hc⟩ := h
  have h3 : Try.prog.cellsOf 52 = 3 := by kernel_rfl
  have ht : Try.prog.cellTypes Try.prog.depth 52 = some [3, 2, 2] := by kernel_rfl
  rw [h3] at hsz
  rw [ht] at hts
  obtain rfl : [3, 2, 2] = ts := Option.some.inj hts
  obtain ⟨l⟩ := cs
  simp only [List.size_toArray] at hsz
  match l, hsz with
  | [v0, v1, v2], _ =>
    obtain ⟨u0, hu0, o0⟩ := hc 0 v0 rfl
    obtain ⟨u1, hu1, o1⟩ := hc 1 v1 rfl
    obtain ⟨u2, hu2, o2⟩ := hc 2 v2 rfl
    simp at hu0 hu1 hu2
    subst hu0 hu1 hu2
    obtain ⟨n0, rfl, _⟩ := okCell_int Try.underlying3 o0
    obtain ⟨n1, rfl, _⟩ := okCell_int Try.underlying2 o1
    obtain ⟨n2, rfl, _⟩ := okCell_int Try.underlying2 o2
    exact ⟨n0, n1, n2, rfl⟩
end Go.Proofs.Ytonpoloahagddaa
