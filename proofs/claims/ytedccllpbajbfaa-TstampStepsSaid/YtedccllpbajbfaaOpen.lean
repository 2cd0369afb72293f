/-
  A time that came in: its six numbers.
-/
import Derived.Test.YtedccllpbajbfaaRows
import Derived.Test.YtedccllpbajbfaaPlain
import Derived.Test.YtedccllpbajbfaaLift
import Derived.ProofKit
import Derived.OpenShut
namespace Go.Proofs.Ytedccllpbajbfaa
open Go.ChangeShapes Go.WideShapes Go.ChangeAt Go.RowKit

theorem own : ownKnob Try.prog.godebug = none := by kernel_rfl
theorem laidOut : laidOutB Try.prog = true := by kernel_rfl

theorem okCell_int {P : Program} {w : World} {r : Reach} {base : Nat} {t : TypeId} {k : IntKind} {v : Value} (ht : P.underlying t = some (.int k)) (h : Cell.okWide P w r base t v) : ∃ n, v = .int k n ∧ k.has n := by
  unfold Cell.okWide at h
  rw [ht] at h
  cases v <;> simp [Cell.ok, ht] at h
  rename_i k' n
  obtain ⟨rfl, h⟩ := h
  exact ⟨n, rfl, h⟩

theorem time_open {W : World} {base : Nat} {v : Value} (h : Value.okWide Try.prog W .any base 24 v) :
    ∃ t : Tm, v = .agg #[.int .i64 t.e, .int .i64 t.d, .int .i64 t.l0, .int .i64 t.l1, .int .i64 t.l2, .int .i64 t.l3] := by
  unfold Value.okWide at h
  rw [Try.underlying24] at h
  obtain ⟨cs, rfl, hsz, ts, hts, _, hc⟩ := h
  have h6 : Try.prog.cellsOf 24 = 6 := by kernel_rfl
  have ht : Try.prog.cellTypes Try.prog.depth 24 = some [2, 3, 2, 2, 2, 2] := by kernel_rfl
  rw [h6] at hsz
  rw [ht] at hts
  obtain rfl : [2, 3, 2, 2, 2, 2] = ts := Option.some.inj hts
  obtain ⟨l⟩ := cs
  simp only [List.size_toArray] at hsz
  match l, hsz with
  | [v0, v1, v2, v3, v4, v5], _ =>
    obtain ⟨u0, hu0, o0⟩ := hc 0 v0 rfl
    obtain ⟨u1, hu1, o1⟩ := hc 1 v1 rfl
    obtain ⟨u2, hu2, o2⟩ := hc 2 v2 rfl
    obtain ⟨u3, hu3, o3⟩ := hc 3 v3 rfl
    obtain ⟨u4, hu4, o4⟩ := hc 4 v4 rfl
    obtain ⟨u5, hu5, o5⟩ := hc 5 v5 rfl
    simp at hu0 hu1 hu2 hu3 hu4 hu5
    subst hu0 hu1 hu2 hu3 hu4 hu5
    obtain ⟨n0, rfl, _⟩ := okCell_int Try.underlying2 o0
    obtain ⟨n1, rfl, _⟩ := okCell_int Try.underlying3 o1
    obtain ⟨n2, rfl, _⟩ := okCell_int Try.underlying2 o2
    obtain ⟨n3, rfl, _⟩ := okCell_int Try.underlying2 o3
    obtain ⟨n4, rfl, _⟩ := okCell_int Try.underlying2 o4
    obtain ⟨n5, rfl, _⟩ := okCell_int Try.underlying2 o5
    exact ⟨⟨n0, n1, n2, n3, n4, n5⟩, rfl⟩
end Go.Proofs.Ytedccllpbajbfaa
