/-
  Slices of numbers of the call's own.
-/
import Derived.Test.YtedccllpbajbfaaMake
import Derived.Test.YtedccllpbajbfaaGe
import Derived.Maps.AppendAt
import Derived.Laws.AppendOwnNone
import Derived.KernelRfl
namespace Go.Proofs.Ytedccllpbajbfaa
open Go.RowKit

/-- v is a slice of the call's own (its block lies at or behind 'base') that holds these numbers -/
def OwnI (w : World) (base : Nat) (v : Value) (xs : List Int) : Prop := w.ownsRow base 2 1 v xs.length (xs.map (Value.int .i64))
theorem info2 : (Try.prog.info? 2).map (fun i => (i.zero, i.size, i.bytes)) = some (some (.int .i64 0), 1, 8) := by kernel_rfl
theorem addr_add (b off j : Nat) : (⟨b, off, none⟩ : Addr).add j = ⟨b, off + j, none⟩ := by unfold Addr.add; split <;> simp_all
theorem OwnI.nil (w : World) (base : Nat) : OwnI w base (.slice none 0 0) [] := ⟨by simp, Or.inl ⟨rfl, rfl⟩⟩
theorem OwnI.keep {w w' : World} {base : Nat} {v : Value} {xs : List Int} (h : OwnI w base v xs) (hb : ∀ g, base ≤ g → g < w.heap.size → w.heap[g]? ≠ none → (∃ cs, w.heap[g]? = some (.cells cs 2 (0, 0))) → w'.heap[g]? = w.heap[g]?) : OwnI w' base v xs := by
  obtain ⟨h1, h2⟩ := h
  refine ⟨h1, ?_⟩
  rcases h2 with h2 | ⟨g, cap, cur, hv, hg, hh, r⟩
  · exact Or.inl h2
  · have hlt := (Array.getElem?_eq_some_iff.1 hh).1
    exact Or.inr ⟨g, cap, cur, hv, hg, (hb g hg hlt (by rw [hh]; simp) ⟨cur, hh⟩).trans hh, r⟩
theorem OwnI.ge {w w' : World} {base : Nat} {v : Value} {xs : List Int} (h : OwnI w base v xs) (hb : Ge w w') : OwnI w' base v xs := h.keep fun g _ hg _ _ => hb.block g hg
/-- the slice value holds these numbers; its room is no less than its length -/
theorem OwnI.ints {w : World} {base : Nat} {v : Value} {xs : List Int} (h : OwnI w base v xs) : ∃ (A : Option Addr) (cap : Nat), v = .slice A xs.length cap ∧ xs.length ≤ cap ∧
    (xs ≠ [] → ∃ g, A = some ⟨g, 0, none⟩ ∧ base ≤ g ∧ g < w.heap.size ∧ ∀ j, j < xs.length → w.cell? ⟨g, j, none⟩ = some (.int .i64 (xs[j]?.getD 0))) := by
  obtain ⟨h1, h2⟩ := h
  rcases h2 with ⟨rfl, hn⟩ | ⟨g, cap, cur, rfl, hg, hh, hle, hm, hs, ht⟩
  · have : xs = [] := List.eq_nil_of_length_eq_zero hn
    subst this
    exact ⟨none, 0, rfl, Nat.le_refl _, fun h => absurd rfl h⟩
  · refine ⟨some ⟨g, 0, none⟩, cap, rfl, hle, fun _ => ⟨g, rfl, hg, (Array.getElem?_eq_some_iff.1 hh).1, fun j hj => ?_⟩⟩
    have e : cur[j]? = some (.int .i64 (xs[j]?.getD 0)) := by
      have : (cur.toList.take (xs.length * 1))[j]? = (xs.map (Value.int .i64))[j]? := by rw [ht]
      rw [List.getElem?_take, if_pos (by omega), Array.getElem?_toList] at this
      rw [this]
      simp [hj]
    simp only [World.cell?, hh]
    simpa using e
theorem OwnI.intsAt {w : World} {base : Nat} {v : Value} {xs : List Int} (h : OwnI w base v xs) : IntsAt w v xs := by
  obtain ⟨A, cap, rfl, _, hc⟩ := h.ints
  refine ⟨A, cap, rfl, fun hne => ?_⟩
  obtain ⟨g, rfl, _, hlt, hcell⟩ := hc hne
  exact ⟨g, 0, rfl, hlt, fun j hj => by rw [Nat.zero_add]; exact hcell j hj⟩

/-- 'append(v, x)': x lies in a block of one cell that has just been made -/
theorem wpList_app1 {w : World} {ops : Array Oper} {rest : List Oper} {o : Oper} {a : Act} {Q : Exit → Act → World → Prop} (hgd : o.guard = none) (s x : Operand)
    (ho : o.op = .call { callee := .builtin .append, args := #[s, x], argTypes := #[30, 30] }) {base g : Nat} {v : Value} {xs : List Int} {n : Int} (hs : a.eval s = v) (hx : a.eval x = .slice (some ⟨g, 0, none⟩) 1 1)
    (hv : OwnI w base v xs) (hy : w.cell? ⟨g, 0, none⟩ = some (.int .i64 n)) (hlen : xs.length + 1 ≤ 1000000) (hbase : base ≤ w.heap.size)
    (h : ∀ v' w', OwnI w' base v' (xs ++ [n]) → w.grownBy w' v.ownBlock → (v'.ownBlock = v.ownBlock ∨ v'.ownBlock = some w.heap.size) → wpList Try.prog ops Q rest (a.put o.dst v') w') : wpList Try.prog ops Q (o :: rest) a w := by
  obtain ⟨i0, hi, hz0, hz1, hz2⟩ := info_parts info2
  obtain ⟨v', w', hrun, h2, h3, _, h5⟩ := run_append_own_at (P := Try.prog) w base 30 o.type 2 i0 (.int .i64 0) 1 8 Try.underlying30 hi hz0 hz1 hz2 rfl (by decide) v xs.length (xs.map (Value.int .i64)) hv ⟨g, 0, none⟩ 1 1 [.int .i64 n] rfl
    (fun j u hu => by
      rcases j with _ | j
      · simp at hu
        rw [addr_add, ← hu]
        exact hy
      · simp at hu)
    (fun u hu => by simp at hu; rw [hu]; rfl) (by simp only [maxLen]; omega) (by omega) hbase
  refine wpList_plain hgd fun K hK => ?_
  unfold Oper.wp execOp
  simp only [ho, resolve, invoke, builtin, Sem.run_bind, Sem.run_pure, Result.andThen_ok, List.map_toArray, List.map_cons, List.map_nil, hs, hx, hrun]
  refine hK _ _ (h v' w' ?_ h3 h5)
  unfold OwnI
  simpa using h2

theorem OwnI.ownBlock {w : World} {base : Nat} {v : Value} {xs : List Int} (hv : OwnI w base v xs) {k : Nat} (hk : v.ownBlock = some k) : base ≤ k ∧ ∃ cs, w.heap[k]? = some (.cells cs 2 (0, 0)) := by
  rcases hv.2 with ⟨rfl, _⟩ | ⟨g, cap, cur, rfl, hgb, hh, _⟩
  · simp [Value.ownBlock] at hk
  · simp [Value.ownBlock] at hk
    subst hk
    exact ⟨hgb, cur, hh⟩
theorem ge_app1 {w wr w1 : World} {base : Nat} {v : Value} {xs : List Int} (hge : Ge w wr) (hv : OwnI wr base v xs) (hb : w.heap.size ≤ base) (hg : wr.grownBy w1 v.ownBlock) : Ge w w1 :=
  Below.grown hge hg hge.size (fun k hk => by have := (hv.ownBlock hk).1; omega)
/-- another block than the row is as it was -/
theorem app1_other {wr w1 : World} {base : Nat} {v : Value} {xs : List Int} (hv : OwnI wr base v xs) (hg : wr.grownBy w1 v.ownBlock) {k : Nat} {o : Obj} (hk : wr.heap[k]? = some o) (hne : ∀ cs, o ≠ .cells cs 2 (0, 0)) : w1.heap[k]? = some o := by
  refine (hg.block k (Array.getElem?_eq_some_iff.1 hk).1 (fun e => ?_)).trans hk
  obtain ⟨cs, hcs⟩ := (hv.ownBlock e.symm).2
  rw [hk] at hcs
  exact hne cs (Option.some.inj hcs)
end Go.Proofs.Ytedccllpbajbfaa
