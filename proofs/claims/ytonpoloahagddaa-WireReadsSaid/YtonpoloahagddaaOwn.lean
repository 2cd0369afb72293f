/-
  Byte slices of the call's own; bytes that a slice reads.
-/
import Derived.Test.YtonpoloahagddaaProg
import Derived.Test.YtonpoloahagddaaGe
import Derived.Maps.AppendAt
import Derived.Laws.AppendOwnNone
import Derived.Lib.AppendStr
import Derived.KernelRfl
namespace Go.Proofs.Ytonpoloahagddaa
open Go.RowKit

/-- v is a slice of the call's own (its block lies at or behind 'base') that holds these bytes -/
def OwnB (w : World) (base : Nat) (v : Value) (xs : List Int) : Prop := w.ownsRow base 5 1 v xs.length (xs.map (Value.int .u8))

/-- the slice value holds these bytes -/
def BytesAt (w : World) (v : Value) (xs : List Int) : Prop :=
  ∃ (A : Option Addr) (cap : Nat), v = .slice A xs.length cap ∧ xs.length ≤ cap ∧ (xs ≠ [] → ∃ b off, A = some ⟨b, off, none⟩ ∧ b < w.heap.size ∧ ∀ j, j < xs.length → w.cell? ⟨b, off + j, none⟩ = some (.int .u8 (xs[j]?.getD 0)))

theorem BytesAt.ge {w w' : World} {v : Value} {xs : List Int} (h : BytesAt w v xs) (hb : Ge w w') : BytesAt w' v xs := by
  obtain ⟨A, cap, rfl, hle, h⟩ := h
  refine ⟨A, cap, rfl, hle, fun hne => ?_⟩
  obtain ⟨b, off, rfl, hlt, hc⟩ := h hne
  exact ⟨b, off, rfl, Nat.lt_of_lt_of_le hlt hb.size, fun j hj => (hb.cell (p := ⟨b, off + j, none⟩) hlt).trans (hc j hj)⟩

theorem addr_add (b off j : Nat) : (⟨b, off, none⟩ : Addr).add j = ⟨b, off + j, none⟩ := by unfold Addr.add; split <;> simp_all

theorem OwnB.nil (w : World) (base : Nat) : OwnB w base (.slice none 0 0) [] := ⟨by simp, Or.inl ⟨rfl, rfl⟩⟩
theorem OwnB.ge {w w' : World} {base : Nat} {v : Value} {xs : List Int} (h : OwnB w base v xs) (hb : Ge w w') : OwnB w' base v xs := by
  obtain ⟨h1, h2⟩ := h
  refine ⟨h1, ?_⟩
  rcases h2 with h2 | ⟨g, cap, cur, hv, hg, hh, r⟩
  · exact Or.inl h2
  · exact Or.inr ⟨g, cap, cur, hv, hg, (hb.block g (Array.getElem?_eq_some_iff.1 hh).1).trans hh, r⟩
theorem OwnB.base {w : World} {base base' : Nat} {v : Value} {xs : List Int} (h : OwnB w base v xs) (hb : base' ≤ base) : OwnB w base' v xs := by
  obtain ⟨h1, h2⟩ := h
  refine ⟨h1, ?_⟩
  rcases h2 with h2 | ⟨g, cap, cur, hv, hg, hh, r⟩
  · exact Or.inl h2
  · exact Or.inr ⟨g, cap, cur, hv, by omega, hh, r⟩
/-- a slice literal -/
theorem OwnB.lit (w : World) {base g : Nat} {cs : Array Value} {xs : List Int} (hh : w.heap[g]? = some (.cells cs 5 (0, 0))) (hg : base ≤ g) (hx : cs.toList = xs.map (Value.int .u8)) (hl : xs.length ≤ maxLen) :
    OwnB w base (.slice (some ⟨g, 0, none⟩) xs.length xs.length) xs := by
  refine ⟨by simp, Or.inr ⟨g, xs.length, cs, rfl, hg, hh, Nat.le_refl _, hl, ?_, ?_⟩⟩
  · rw [← Array.length_toList, hx]; simp
  · rw [hx, Nat.mul_one]; exact List.take_of_length_le (by simp)
theorem OwnB.bytes {w : World} {base : Nat} {v : Value} {xs : List Int} (h : OwnB w base v xs) : BytesAt w v xs := by
  obtain ⟨h1, h2⟩ := h
  rcases h2 with ⟨rfl, hn⟩ | ⟨g, cap, cur, rfl, hg, hh, hle, hm, hs, ht⟩
  · have : xs = [] := List.eq_nil_of_length_eq_zero hn
    subst this
    exact ⟨none, 0, rfl, Nat.le_refl _, fun h => absurd rfl h⟩
  · refine ⟨some ⟨g, 0, none⟩, cap, rfl, hle, fun _ => ⟨g, 0, rfl, (Array.getElem?_eq_some_iff.1 hh).1, fun j hj => ?_⟩⟩
    have e : cur[j]? = some (.int .u8 (xs[j]?.getD 0)) := by
      have : (cur.toList.take (xs.length * 1))[j]? = (xs.map (Value.int .u8))[j]? := by rw [ht]
      rw [List.getElem?_take, if_pos (by omega), Array.getElem?_toList] at this
      rw [this]
      simp [hj]
    simp only [World.cell?, hh, Nat.zero_add]
    simpa using e

theorem info5 : (Try.prog.info? 5).map (fun i => (i.zero, i.size, i.bytes)) = some (some (.int .u8 0), 1, 1) := by kernel_rfl

/-- 'append(v, s...)': v of the call's own, s whatever it reads -/
theorem run_app {w : World} {base : Nat} {v s : Value} {xs ys : List Int} (ty : TypeId) (hv : OwnB w base v xs) (hs : BytesAt w s ys) (hlen : xs.length + ys.length ≤ 140737488355328) (hbase : base ≤ w.heap.size) :
    ∃ v' w', (Builtin.append_ #[23, 23] ty #[v, s]).run Try.prog w = .ok v' w' ∧ OwnB w' base v' (xs ++ ys) ∧ w.grownBy w' v.ownBlock ∧ (v'.ownBlock = v.ownBlock ∨ v'.ownBlock = some w.heap.size) := by
  obtain ⟨i0, hi, hz0, hz1, hz2⟩ := info_parts info5
  obtain ⟨A, cap, rfl, hle, hc⟩ := hs
  cases A with
  | none =>
    have hy : ys = [] := by
      rcases ys with _ | ⟨y, ys⟩
      · rfl
      · obtain ⟨b, off, h, _⟩ := hc (by simp)
        cases h
    subst hy
    refine ⟨v, w, ?_, by simpa using hv, World.grownBy.refl w _, .inl rfl⟩
    rcases hv.2 with ⟨rfl, _⟩ | ⟨g, cap', cur, rfl, _, _, hnc, _⟩
    · simp [Builtin.append_, run_underlying Try.underlying23, sizeOf, typeInfo, hi, Builtin.lenOf, Builtin.firstCells]
    · simp [Builtin.append_, run_underlying Try.underlying23, sizeOf, typeInfo, hi, Builtin.lenOf, Builtin.firstCells, hnc, storeCells]
  | some ad =>
    have hcells : ∀ j u, (ys.map (Value.int .u8))[j]? = some u → w.cell? (ad.add j) = some u := by
      intro j u hu
      have hj : j < ys.length := by
        have := (List.getElem?_eq_some_iff.1 hu).1
        simpa using this
      obtain ⟨b, off, h, _, hcell⟩ := hc (by intro e; subst e; simp at hj)
      cases h
      rw [addr_add, hcell j hj]
      simp [hj] at hu ⊢
      exact hu
    obtain ⟨v', w', hrun, h2, h3, _, h5⟩ := run_append_own_at (P := Try.prog) w base 23 ty 5 i0 (.int .u8 0) 1 1 Try.underlying23 hi hz0 hz1 hz2 rfl (by decide) v xs.length (xs.map (Value.int .u8)) hv ad ys.length cap (ys.map (Value.int .u8)) (by simp) hcells
      (fun u hu => by
        simp at hu
        obtain ⟨n, _, rfl⟩ := hu
        rfl) (by simp only [maxLen]; omega) (by omega) hbase
    refine ⟨v', w', hrun, ?_, h3, h5⟩
    unfold OwnB
    simpa using h2

theorem wpList_app {w : World} {ops : Array Oper} {rest : List Oper} {o : Oper} {a : Act} {Q : Exit → Act → World → Prop} (hgd : o.guard = none) (s x : Operand)
    (ho : o.op = .call { callee := .builtin .append, args := #[s, x], argTypes := #[23, 23] }) {base : Nat} {v sv : Value} {xs ys : List Int} (hs : a.eval s = v) (hx : a.eval x = sv)
    (hv : OwnB w base v xs) (hy : BytesAt w sv ys) (hlen : xs.length + ys.length ≤ 140737488355328) (hbase : base ≤ w.heap.size)
    (h : ∀ v' w', OwnB w' base v' (xs ++ ys) → w.grownBy w' v.ownBlock → (v'.ownBlock = v.ownBlock ∨ v'.ownBlock = some w.heap.size) → wpList Try.prog ops Q rest (a.put o.dst v') w') : wpList Try.prog ops Q (o :: rest) a w := by
  obtain ⟨v', w', hrun, h2, h3, h4⟩ := run_app o.type hv hy hlen hbase
  refine wpList_plain hgd fun K hK => ?_
  unfold Oper.wp execOp
  simp only [ho, resolve, invoke, builtin, Sem.run_bind, Sem.run_pure, Result.andThen_ok, List.map_toArray, List.map_cons, List.map_nil, hs, hx, hrun]
  exact hK _ _ (h v' w' h2 h3 h4)

/-- an append onto a row of the call's own leaves what was there ahead of the call -/
theorem ge_app {w wr w1 : World} {base : Nat} {v : Value} {xs : List Int} (hge : Ge w wr) (hv : OwnB wr base v xs) (hb : w.heap.size ≤ base) (hg : wr.grownBy w1 v.ownBlock) : Ge w w1 := by
  refine Below.grown hge hg hge.size (fun k hk => ?_)
  rcases hv.2 with ⟨rfl, _⟩ | ⟨g, cap, cur, rfl, hgb, _⟩
  · simp [Value.ownBlock] at hk
  · simp [Value.ownBlock] at hk
    omega
end Go.Proofs.Ytonpoloahagddaa
