/-
  Whole messages in a round of a range over a function, and a store that tells its new world by its blocks alone.
-/
import Derived.RangeFuncNested
import Derived.RangeFuncBound
import Derived.RangeFuncCalls
import Derived.RangeFuncLeaves
import Derived.Shelf.Abstract
import Derived.Shelf.RegionOpen
import Derived.WalkKit
import Derived.OwnWalkIn
import Derived.BigFrameIn
import Derived.TacticsInMore
import Derived.LoopNIn
import Derived.LoopIn
import Derived.RangeFuncBox
import Derived.Test.YtmhibpmgnicolaaDoorCall
namespace Go.Proofs.YtmhibpmgnicolaaDoor
open Go.RowKit Go.Shelf

theorem i45s {cs : Array Value} (hs : cs.size = 19) : (Tryd.prog.info? 45).map (·.size) = some cs.size := by rw [hs]; exact i45

section
variable {F : Fence} {n : Nat} {ops : Array Oper} {Q : Exit → Act → World → Prop} {a : Act} {w : World} {rest : List Oper} {o : Oper}

theorem wpListIn_load_msg (hw : Region.wanted o (yielded ops a.tmps) = true) (x : Operand) (ho : o.op = .load 45 x) (g : Nat) (hx : a.eval x = .pointer (some ⟨g, 0, none⟩)) (cs : Array Value) (hg : Bx w g 45 cs) (hs : cs.size = 19)
    (h : wpListIn F n Tryd.prog ops Q rest (a.put o.dst (.agg cs)) w) : wpListIn F n Tryd.prog ops Q (o :: rest) a w := by
  refine wpListIn_step fun K hK => ?_
  rw [if_pos hw]
  unfold Oper.wpIn
  refine ⟨?_, ?_⟩
  · simp [Oper.about, ho]
  · rw [Oper.semAt_plain F _ _ (by rw [ho]; intro c hc; cases hc)]
    have hl := run_loadVar_row (P := Tryd.prog) w g 45 45 cs (0, 0) _ hg Tryd.underlying45 rfl (i45s hs)
    simp only [execOp, ho, hx, Instr.loadAt, Instr.sureAddr, Sem.run_bind, Sem.run_pure, Result.andThen_ok, hl]
    exact hK _ _ h

/-- a message that lies within a block -/
theorem wpListIn_load_at (hw : Region.wanted o (yielded ops a.tmps) = true) (x : Operand) (ho : o.op = .load 45 x) (g k : Nat) (hx : a.eval x = .pointer (some ⟨g, k, none⟩)) (cs : List Value) (hg : w.rangeAt g k cs) (hs : cs.length = 19)
    (h : wpListIn F n Tryd.prog ops Q rest (a.put o.dst (.agg cs.toArray)) w) : wpListIn F n Tryd.prog ops Q (o :: rest) a w := by
  refine wpListIn_step fun K hK => ?_
  rw [if_pos hw]
  unfold Oper.wpIn
  refine ⟨?_, ?_⟩
  · simp [Oper.about, ho]
  · rw [Oper.semAt_plain F _ _ (by rw [ho]; intro c hc; cases hc)]
    have hl := run_loadAt_mid (P := Tryd.prog) w g k 45 cs _ hg Tryd.underlying45 rfl (by rw [hs]; exact i45)
    simp only [execOp, ho, hx, Sem.run_bind, Sem.run_pure, Result.andThen_ok, hl]
    exact hK _ _ h
theorem wpList_load_at (hw : Region.wanted o (yielded ops a.tmps) = true) (x : Operand) (ho : o.op = .load 45 x) (g k : Nat) (hx : a.eval x = .pointer (some ⟨g, k, none⟩)) (cs : List Value) (hg : w.rangeAt g k cs) (hs : cs.length = 19)
    (h : wpList Tryd.prog ops Q rest (a.put o.dst (.agg cs.toArray)) w) : wpList Tryd.prog ops Q (o :: rest) a w :=
  wpList_step fun K hK => by rw [if_pos hw]; exact wp_load_mid 45 x ho g k hx cs _ hg Tryd.underlying45 rfl (by rw [hs]; exact i45) (hK _ _ h)

theorem stored {w : World} {b : Nat} {cs0 cells : Array Value} (hb : Bx w b 45 cs0) (h0 : cs0.size = 19) (hs : cells.size = 19) {w0 : World} (hB : w0.heap.size ≤ b) (hg : Ge w0 w) :
    Bx (w.setCells b 0 cells.toList) b 45 cells ∧ Ge w0 (w.setCells b 0 cells.toList) ∧ ∀ c, c ≠ b → (w.setCells b 0 cells.toList).heap[c]? = w.heap[c]? := by
  refine ⟨by simpa using hb.fill cells.toList (by simp [h0, hs]), below_sets hB _ _ _ hg, fun c hc => ?_⟩
  have : ∀ (vs : List Value) (o : Nat) (w1 : World), (w1.setCells b o vs).heap[c]? = w1.heap[c]? := by
    intro vs
    induction vs with
    | nil => intro o w1; rfl
    | cons x r ih => intro o w1; exact (ih (o + 1) _).trans (Below.heap_setCell _ _ _ c hc)
  exact this _ _ _

/-- a message is stored into a variable of its own -/
theorem wpListIn_store_msg (hgd : o.guard = none) (x y : Operand) (ho : o.op = .store 45 x y) (b : Nat) (cells : Array Value) (hx : a.eval x = .pointer (some ⟨b, 0, none⟩)) (hy : a.eval y = .agg cells)
    {cs0 : Array Value} (hb : Bx w b 45 cs0) (h0 : cs0.size = 19) (hs : cells.size = 19) (h1 : ∀ u ∈ cells.toList, u.oneCell' = true) {w0 : World} (hB : w0.heap.size ≤ b) (hg : Ge w0 w)
    (h : ∀ w', Bx w' b 45 cells → Ge w0 w' → (∀ c, c ≠ b → w'.heap[c]? = w.heap[c]?) → wpListIn F n Tryd.prog ops Q rest (a.put o.dst undef) w') : wpListIn F n Tryd.prog ops Q (o :: rest) a w := by
  refine wpListIn_plain hgd fun K hK => ?_
  obtain ⟨s1, s2, s3⟩ := stored hb h0 hs hB hg
  unfold Oper.wpIn
  refine ⟨?_, ?_⟩
  · simp [Oper.about, ho]
  · rw [Oper.semAt_plain F _ _ (by rw [ho]; intro c hc; cases hc)]
    have hl := run_storeAt_mid (P := Tryd.prog) w b 0 45 cells (by rw [hs, ← h0]; exact hb.there) (i45s hs) (Array.all_eq_true_iff_forall_mem.2 (fun v hv => h1 v (by simpa using hv)))
    simp only [execOp, ho, hx, hy, Sem.run_bind, Sem.run_pure, Result.andThen_ok, hl]
    exact hK _ _ (h _ s1 s2 s3)
theorem wpList_store_msg (hgd : o.guard = none) (x y : Operand) (ho : o.op = .store 45 x y) (b : Nat) (cells : Array Value) (hx : a.eval x = .pointer (some ⟨b, 0, none⟩)) (hy : a.eval y = .agg cells)
    {cs0 : Array Value} (hb : Bx w b 45 cs0) (h0 : cs0.size = 19) (hs : cells.size = 19) (h1 : ∀ u ∈ cells.toList, u.oneCell' = true) {w0 : World} (hB : w0.heap.size ≤ b) (hg : Ge w0 w)
    (h : ∀ w', Bx w' b 45 cells → Ge w0 w' → (∀ c, c ≠ b → w'.heap[c]? = w.heap[c]?) → wpList Tryd.prog ops Q rest (a.put o.dst undef) w') : wpList Tryd.prog ops Q (o :: rest) a w := by
  obtain ⟨s1, s2, s3⟩ := stored hb h0 hs hB hg
  exact wpList_store_mid hgd 45 x y ho b 0 cells hx hy (by rw [hs, ← h0]; exact hb.there) (i45s hs) (Array.all_eq_true_iff_forall_mem.2 (fun v hv => h1 v (by simpa using hv))) (h _ s1 s2 s3)
end

/-- an iterator that tells nothing -/
def SeqNone (F : Fence) (n : Nat) (P : Program) (g : Nat) (lb : Array Value) (w : World) : Prop :=
  ∀ (l : Nat) (W : World), Ge w W → CallsIn F n P g (#[.func (.yield l) #[] #[]] ++ lb) W fun e W' => (∃ v, e = .returned v) ∧ W' = W

theorem range_none {F : Fence} {n : Nat} {P : Program} {g : Operand} {ps : Array Tmp} {assign body : Code} {Q : Exit → Act → World → Prop} {a : Act} {w : World}
    (hro : F.round = none) (h1 : 1 ≤ n) {gf : Nat} {lb : Array Value} (hg : a.eval g = .func (.func gf) #[] lb) (hFg : F.fn gf) (eg : ∀ args w, (callFunc gf args).run P w = .ok (.enter gf args) w)
    (hseq : SeqNone F (n - 1) P gf lb w)
    (hdone : ∀ (D : Nat) (W : World), w.heap.size ≤ D → Ge w W → W.heap[D]? = some (.deferred (some [])) → Q .normal { a with defers := { target := .collected D, args := #[] } :: a.defers } W) :
    (Code.rangeFunc g ps assign body).wpIn F n P Q a w := by
  refine wpIn_rangeFunc ?_
  intro fn hfn
  rw [hro]
  obtain ⟨rec, hrec⟩ : ∃ rec : LoopState → Option Code → Loop, rec = fun st pe => { state := st, pending := pe, fn, tmps := a.tmps, params := ps, assign, body, defers := w.heap.size } := ⟨_, rfl⟩
  obtain ⟨W1, hW1⟩ : ∃ W1, (w.alloc (.deferred (some []))).alloc (.loop (rec .ready none)) = W1 := ⟨_, rfl⟩
  have hL1 : W1.heap[w.heap.size + 1]? = some (.loop (rec .ready none)) := by
    rw [← hW1]; have := World.alloc_heap_new (w.alloc (.deferred (some []))) (.loop (rec .ready none)); rwa [World.size_alloc] at this
  have hK1 : W1.heap[w.heap.size]? = some (.deferred (some [])) := by
    rw [← hW1]; exact (Below.heap_alloc _ _ _ (by simp)).trans (World.alloc_heap_new w _)
  have hb1 : Ge w W1 := by rw [← hW1]; exact ((Ge.refl w).alloc _).alloc _
  refine ⟨w.heap.size + 1, [{ target := .collected w.heap.size, args := #[] }], W1, { target := .fn (.func gf) lb, args := #[.func (.yield (w.heap.size + 1)) #[] #[]] }, W1, gf,
    #[.func (.yield (w.heap.size + 1)) #[] #[]] ++ lb, W1, ?_, ?_, ?_, ?_, fun _ => h1, ?_⟩
  · rw [← hW1, hrec]; exact run_enterLoop_outer _ _ _ _ _
  · simp only [resolve, hg]
    simp [go_sem]
  · intro f' hf'; simp [Target.leads] at hf'; subst hf'; exact hFg
  · simp [invoke, go_sem, eg]
  · refine (hseq (w.heap.size + 1) W1 hb1).mono ?_
    rintro e W2 ⟨⟨v, rfl⟩, rfl⟩
    exact ⟨none, _, by have := run_endLoop (P := P) hL1 (by rw [hrec]; simp); rw [hrec] at this; exact this,
      hdone _ _ (Nat.le_refl _) (Below.trans hb1 (belowK_b (w := w) (Nat.le_refl _) _ _ _ _ (by omega) hL1 rfl rfl)) ((World.putObj_heap_other (by omega)).trans hK1)⟩
end Go.Proofs.YtmhibpmgnicolaaDoor
