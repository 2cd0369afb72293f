/-
  Whole messages in a round of a range over a function, and a store that tells its new world by its blocks alone; a range over a function in two laws (its opening and closing, one round).
-/
import Derived.RangeFuncNested
import Derived.RangeFuncBound
import Derived.RangeFuncCalls
import Derived.RangeFuncLeaves
import Derived.Shelf.Abstract
import Derived.Shelf.RegionOpen
import Derived.WalkKit
import Derived.OwnWalkIn
import Derived.BigFrameIn
import Derived.TacticsInMore
import Derived.LoopNIn
import Derived.LoopIn
import Derived.RangeFuncBox
import Derived.Test.YtmhibpmgnicolaaDoorCall
namespace Go.Proofs.YtmhibpmgnicolaaDoor
open Go.RowKit Go.Shelf

theorem i45s {cs : Array Value} (hs : cs.size = 19) : (Tryd.prog.info? 45).map (·.size) = some cs.size := by rw [hs]; exact i45

section
variable {F : Fence} {n : Nat} {ops : Array Oper} {Q : Exit → Act → World → Prop} {a : Act} {w : World} {rest : List Oper} {o : Oper}

theorem wpListIn_load_msg (hw : Region.wanted o (yielded ops a.tmps) = true) (x : Operand) (ho : o.op = .load 45 x) (g : Nat) (hx : a.eval x = .pointer (some ⟨g, 0, none⟩)) (cs : Array Value) (hg : Bx w g 45 cs) (hs : cs.size = 19)
    (h : wpListIn F n Tryd.prog ops Q rest (a.put o.dst (.agg cs)) w) : wpListIn F n Tryd.prog ops Q (o :: rest) a w := by
  refine wpListIn_step fun K hK => ?_
  rw [if_pos hw]
  unfold Oper.wpIn
  refine ⟨?_, ?_⟩
  · simp [Oper.about, ho]
  · rw [Oper.semAt_plain F _ _ (by rw [ho]; intro c hc; cases hc)]
    have hl := run_loadVar_row (P := Tryd.prog) w g 45 45 cs (0, 0) _ hg Tryd.underlying45 rfl (i45s hs)
    simp only [execOp, ho, hx, Instr.loadAt, Instr.sureAddr, Sem.run_bind, Sem.run_pure, Result.andThen_ok, hl]
    exact hK _ _ h

/-- a message that lies within a block -/
theorem wpListIn_load_at (hw : Region.wanted o (yielded ops a.tmps) = true) (x : Operand) (ho : o.op = .load 45 x) (g k : Nat) (hx : a.eval x = .pointer (some ⟨g, k, none⟩)) (cs : List Value) (hg : w.rangeAt g k cs) (hs : cs.length = 19)
    (h : wpListIn F n Tryd.prog ops Q rest (a.put o.dst (.agg cs.toArray)) w) : wpListIn F n Tryd.prog ops Q (o :: rest) a w := by
  refine wpListIn_step fun K hK => ?_
  rw [if_pos hw]
  unfold Oper.wpIn
  refine ⟨?_, ?_⟩
  · simp [Oper.about, ho]
  · rw [Oper.semAt_plain F _ _ (by rw [ho]; intro c hc; cases hc)]
    have hl := run_loadAt_mid (P := Tryd.prog) w g k 45 cs _ hg Tryd.underlying45 rfl (by rw [hs]; exact i45)
    simp only [execOp, ho, hx, Sem.run_bind, Sem.run_pure, Result.andThen_ok, hl]
    exact hK _ _ h
theorem wpList_load_at (hw : Region.wanted o (yielded ops a.tmps) = true) (x : Operand) (ho : o.op = .load 45 x) (g k : Nat) (hx : a.eval x = .pointer (some ⟨g, k, none⟩)) (cs : List Value) (hg : w.rangeAt g k cs) (hs : cs.length = 19)
    (h : wpList Tryd.prog ops Q rest (a.put o.dst (.agg cs.toArray)) w) : wpList Tryd.prog ops Q (o :: rest) a w :=
  wpList_step fun K hK => by rw [if_pos hw]; exact wp_load_mid 45 x ho g k hx cs _ hg Tryd.underlying45 rfl (by rw [hs]; exact i45) (hK _ _ h)

theorem stored {w : World} {b : Nat} {cs0 cells : Array Value} (hb : Bx w b 45 cs0) (h0 : cs0.size = 19) (hs : cells.size = 19) {w0 : World} (hB : w0.heap.size ≤ b) (hg : Ge w0 w) :
    Bx (w.setCells b 0 cells.toList) b 45 cells ∧ Ge w0 (w.setCells b 0 cells.toList) ∧ ∀ c, c ≠ b → (w.setCells b 0 cells.toList).heap[c]? = w.heap[c]? := by
  refine ⟨by simpa using hb.fill cells.toList (by simp [h0, hs]), below_sets hB _ _ _ hg, fun c hc => ?_⟩
  have : ∀ (vs : List Value) (o : Nat) (w1 : World), (w1.setCells b o vs).heap[c]? = w1.heap[c]? := by
    intro vs
    induction vs with
    | nil => intro o w1; rfl
    | cons x r ih => intro o w1; exact (ih (o + 1) _).trans (Below.heap_setCell _ _ _ c hc)
  exact this _ _ _

/-- a message is stored into a variable of its own -/
theorem wpListIn_store_msg (hgd : o.guard = none) (x y : Operand) (ho : o.op = .store 45 x y) (b : Nat) (cells : Array Value) (hx : a.eval x = .pointer (some ⟨b, 0, none⟩)) (hy : a.eval y = .agg cells)
    {cs0 : Array Value} (hb : Bx w b 45 cs0) (h0 : cs0.size = 19) (hs : cells.size = 19) (h1 : ∀ u ∈ cells.toList, u.oneCell' = true) {w0 : World} (hB : w0.heap.size ≤ b) (hg : Ge w0 w)
    (h : ∀ w', Bx w' b 45 cells → Ge w0 w' → (∀ c, c ≠ b → w'.heap[c]? = w.heap[c]?) → wpListIn F n Tryd.prog ops Q rest (a.put o.dst undef) w') : wpListIn F n Tryd.prog ops Q (o :: rest) a w := by
  refine wpListIn_plain hgd fun K hK => ?_
  obtain ⟨s1, s2, s3⟩ := stored hb h0 hs hB hg
  unfold Oper.wpIn
  refine ⟨?_, ?_⟩
  · simp [Oper.about, ho]
  · rw [Oper.semAt_plain F _ _ (by rw [ho]; intro c hc; cases hc)]
    have hl := run_storeAt_mid (P := Tryd.prog) w b 0 45 cells (by rw [hs, ← h0]; exact hb.there) (i45s hs) (Array.all_eq_true_iff_forall_mem.2 (fun v hv => h1 v (by simpa using hv)))
    simp only [execOp, ho, hx, hy, Sem.run_bind, Sem.run_pure, Result.andThen_ok, hl]
    exact hK _ _ (h _ s1 s2 s3)
theorem wpList_store_msg (hgd : o.guard = none) (x y : Operand) (ho : o.op = .store 45 x y) (b : Nat) (cells : Array Value) (hx : a.eval x = .pointer (some ⟨b, 0, none⟩)) (hy : a.eval y = .agg cells)
    {cs0 : Array Value} (hb : Bx w b 45 cs0) (h0 : cs0.size = 19) (hs : cells.size = 19) (h1 : ∀ u ∈ cells.toList, u.oneCell' = true) {w0 : World} (hB : w0.heap.size ≤ b) (hg : Ge w0 w)
    (h : ∀ w', Bx w' b 45 cells → Ge w0 w' → (∀ c, c ≠ b → w'.heap[c]? = w.heap[c]?) → wpList Tryd.prog ops Q rest (a.put o.dst undef) w') : wpList Tryd.prog ops Q (o :: rest) a w := by
  obtain ⟨s1, s2, s3⟩ := stored hb h0 hs hB hg
  exact wpList_store_mid hgd 45 x y ho b 0 cells hx hy (by rw [hs, ← h0]; exact hb.there) (i45s hs) (Array.all_eq_true_iff_forall_mem.2 (fun v hv => h1 v (by simpa using hv))) (h _ s1 s2 s3)
end

/-! ### A range over a function: what may happen beside a caller's own memory, the two blocks of the range, its opening and closing, one round -/
/-- all blocks below b and all blocks of cells stay -/
structure Aside (b : Nat) (A A' : World) : Prop where
  os : A'.os = A.os
  tape : A'.tape = A.tape
  output : A'.output = A.output
  size : A.heap.size ≤ A'.heap.size
  block : ∀ k, k < A.heap.size → (k < b ∨ ∃ o : Obj, A.heap[k]? = some o ∧ o.isCells = true) → A'.heap[k]? = A.heap[k]?
theorem Ge.aside {A A' : World} (g : Ge A A') (b : Nat) : Aside b A A' := ⟨g.os, g.tape, g.output, g.size, fun k hk _ => g.block k hk⟩
theorem aside_put {b l : Nat} {A : World} {o : Obj} (o' : Obj) (hl : b ≤ l) (h : A.heap[l]? = some o) (ho : o.isCells = false) : Aside b A (A.putObj l o') := by
  have hg := grownBy_putObj' A l o'
  refine ⟨hg.os, hg.tape, hg.output, hg.size, fun k hk hor => World.putObj_heap_other ?_⟩
  rintro rfl
  rcases hor with h1 | ⟨o2, h1, h2⟩
  · omega
  · rw [h] at h1
    cases h1
    rw [ho] at h2
    cases h2
theorem Aside.bx {b : Nat} {A A' : World} (s : Aside b A A') {k : Nat} {t : TypeId} {cs : Array Value} (h : Bx A k t cs) : Bx A' k t cs := (s.block k h.lt (.inr ⟨_, h, rfl⟩)).trans h
theorem Aside.ge {b : Nat} {w A A' : World} (s : Aside b A A') (hb : w.heap.size ≤ b) (h : Ge w A) : Ge w A' :=
  ⟨s.os.trans h.os, s.tape.trans h.tape, s.output.trans h.output, Nat.le_trans h.size s.size, fun k hk => (s.block k (Nat.lt_of_lt_of_le hk h.size) (.inl (by omega))).trans (h.block k hk)⟩

/-- the two blocks that a range keeps its books in: at b the calls put off, behind it the loop's record -/
structure Books (b : Nat) (r : Loop) (W : World) : Prop where
  put : W.heap[b]? = some (.deferred (some []))
  loop : W.heap[b + 1]? = some (.loop r)
theorem Books.ge {b : Nat} {r : Loop} {W W' : World} (h : Books b r W) (g : Ge W W') : Books b r W' :=
  ⟨(g.block b (Array.getElem?_eq_some_iff.1 h.put).1).trans h.put, (g.block (b + 1) (Array.getElem?_eq_some_iff.1 h.loop).1).trans h.loop⟩
theorem Books.kept {b : Nat} {r : Loop} {W W' : World} (h : Books b r W) (k : KeepsFrom b W W') : Books b r W' :=
  ⟨k.same b _ (Nat.le_refl _) h.put rfl, k.same (b + 1) _ (by omega) h.loop rfl⟩
theorem Books.turn {b : Nat} {r : Loop} {W : World} (h : Books b r W) (r' : Loop) : Books b r' (W.putObj (b + 1) (.loop r')) ∧ Aside b W (W.putObj (b + 1) (.loop r')) ∧ ∀ n, n ≤ b → Below n W (W.putObj (b + 1) (.loop r')) := by
  have hl := (Array.getElem?_eq_some_iff.1 h.loop).1
  refine ⟨⟨(World.putObj_heap_other (by omega)).trans h.put, World.putObj_heap_same hl⟩, aside_put _ (by omega) h.loop rfl, fun n hn => ?_⟩
  have hg := grownBy_putObj' W (b + 1) (.loop r')
  exact ⟨hg.os, hg.tape, hg.output, hg.size, fun k hk => World.putObj_heap_other (by omega)⟩
theorem Books.lt {b : Nat} {r : Loop} {W : World} (h : Books b r W) : b < W.heap.size := (Array.getElem?_eq_some_iff.1 h.put).1

/-- the record of a range whose first block is b -/
def recAt (f : FuncId) (ts : Array Value) (ps : Array Tmp) (assign body : Code) (b : Nat) (st : LoopState) (pe : Option Code) : Loop :=
  { fn := f, tmps := ts, params := ps, assign := assign, body := body, defers := b, state := st, pending := pe }
/-- what is to be done behind a range: go on, or take the jump that a round has told -/
def Onward (F : Fence) (n : Nat) (P : Program) (Q : Exit → Act → World → Prop) (a : Act) (W : World) : Option Code → Prop
  | none => Q .normal a W
  | some c => c.wpIn F n P Q a W

theorem range_open {F : Fence} {n : Nat} {P : Program} {g : Operand} {ps : Array Tmp} {assign body : Code} {Q : Exit → Act → World → Prop} {a : Act} {w : World} {gf : Nat} {lb : Array Value}
    (hro : F.round = none) (h1 : 1 ≤ n) (hg : a.eval g = .func (.func gf) #[] lb) (hF : F.fn gf) (he : ∀ xs W, (callFunc gf xs).run P W = .ok (.enter gf xs) W)
    (h : ∀ f, F.fn f → ∀ W1, Ge w W1 → Books w.heap.size (recAt f a.tmps ps assign body w.heap.size .ready none) W1 →
      CallsIn F (n - 1) P gf (#[.func (.yield (w.heap.size + 1)) #[] #[]] ++ lb) W1 fun e W2 => (∃ v, e = .returned v) ∧ ∃ st pe, st ≠ .busy ∧ Books w.heap.size (recAt f a.tmps ps assign body w.heap.size st pe) W2 ∧
        ∀ W3, Aside w.heap.size W2 W3 → W3.heap[w.heap.size]? = some (.deferred (some [])) → Onward F n P Q { a with defers := { target := .collected w.heap.size, args := #[] } :: a.defers } W3 pe) :
    (Code.rangeFunc g ps assign body).wpIn F n P Q a w := by
  refine wpIn_rangeFunc fun f hf => ?_
  have hB : Books w.heap.size (recAt f a.tmps ps assign body w.heap.size .ready none) ((w.alloc (.deferred (some []))).alloc (.loop (recAt f a.tmps ps assign body w.heap.size .ready none))) := by
    generalize recAt f a.tmps ps assign body w.heap.size .ready none = r
    constructor
    · exact (Below.heap_alloc _ _ _ (by simp)).trans (by show (w.heap.push _)[w.heap.size]? = _; simp)
    · show (((w.heap.push _).push _ : Array Obj))[w.heap.size + 1]? = _
      simp [Array.getElem_push]
  obtain ⟨W1, hW1⟩ : ∃ W1, W1 = (w.alloc (.deferred (some []))).alloc (.loop (recAt f a.tmps ps assign body w.heap.size .ready none)) := ⟨_, rfl⟩
  rw [← hW1] at hB
  have hg1 : Ge w W1 := by rw [hW1]; exact ((Ge.refl w).alloc _).alloc _
  have hE : (Instr.enterLoop f a.tmps ps assign body F.round).run P w = .ok (w.heap.size + 1, [{ target := .collected w.heap.size, args := #[] }]) W1 := by
    rw [hro, hW1]
    exact run_enterLoop_outer _ _ _ _ _
  have hR : (resolve a.eval (rangeCall g (w.heap.size + 1)) 0).run P W1 = .ok { target := .fn (.func gf) lb, args := #[.func (.yield (w.heap.size + 1)) #[] #[]] } W1 := by
    simp only [resolve, hg]
    simp [go_sem]
  have hV : (invoke (.fn (.func gf) lb) #[.func (.yield (w.heap.size + 1)) #[] #[]]).run P W1 = .ok (.enter gf (#[.func (.yield (w.heap.size + 1)) #[] #[]] ++ lb)) W1 := by simp [invoke, go_sem, he]
  refine ⟨_, _, _, _, _, _, _, _, hE, hR, ?_, hV, fun _ => h1, (h f hf W1 hg1 hB).mono ?_⟩
  · intro f' h'
    simp [Target.leads] at h'
    rw [← h']
    exact hF
  · rintro e W2 ⟨⟨v, rfl⟩, st, pe, hst, hb, hend⟩
    have hr := run_endLoop (P := P) hb.loop hst
    obtain ⟨t1, t2, -⟩ := hb.turn (recAt f a.tmps ps assign body w.heap.size .exhausted pe)
    have := hend _ t2 t1.put
    cases pe with
    | none => exact ⟨none, _, hr, this⟩
    | some c => exact ⟨some c, _, hr, this⟩

/-- the jump with which a round's body ends, if it ends in one -/
def jumpOf : Exit → Option (Option Code)
  | .normal => some none
  | .ret => some (some .ret)
  | .exit i => some (some (.exit i))
  | .goto t => some (some (.goto t))
  | .panic _ => none
  | .outgrown => none
/-- a body's end: the books are there, and with the jump written into them the round keeps its word R -/
def Ended (b : Nat) (r : LoopState → Option Code → Loop) (R : Ending → World → Prop) (e : Exit) (_ : Act) (W : World) : Prop :=
  match jumpOf e with
  | none => False
  | some j => Books b (r .busy none) W ∧ ∀ W', Books b (r (if j.isNone then .ready else .done) j) W' → Aside b W W' → (∀ m, m ≤ b → Below m W W') → R (.returned (.bool j.isNone)) W'

theorem round_at {F : Fence} {n : Nat} {P : Program} {f : FuncId} {ts : Array Value} {ps : Array Tmp} {assign body : Code} {b : Nat} {xs : Array Value} {R : Ending → World → Prop} {W : World}
    (hf : F.fn f) (hps : xs.size = ps.size) (hb : Books b (recAt f ts ps assign body b .ready none) W)
    (h : assign.wpIn (F.inRound (b + 1)) n P (Exit.then (fun a1 W1 => Books b (recAt f ts ps assign body b .ready none) W1 ∧
      ∀ W2, Books b (recAt f ts ps assign body b .busy none) W2 → Aside b W1 W2 → (∀ m, m ≤ b → Below m W1 W2) → body.wpIn (F.inRound (b + 1)) n P (Ended b (recAt f ts ps assign body b) R) a1 W2) (fun _ _ _ => False))
      { tmps := (ps.zip xs).foldl (fun t (p, v) => t.setIfInBounds p v) ts, defers := [] } W) :
    YieldAt F n P (b + 1) xs W R := by
  refine ⟨f, _, assign, body, run_yield hb.loop hps, roundIn_of_wpIn hf (wpIn_mono h ?_)⟩
  have hend : ∀ (j : Option Code) (W3 : World), Books b (recAt f ts ps assign body b .busy none) W3 →
      (∀ W', Books b (recAt f ts ps assign body b (if j.isNone then .ready else .done) j) W' → Aside b W3 W' → (∀ m, m ≤ b → Below m W3 W') → R (.returned (.bool j.isNone)) W') →
      ∃ v w', (Instr.endRound (b + 1) j).run P W3 = .ok v w' ∧ R (.returned v) w' := fun j W3 hb3 h3 => by
    obtain ⟨t1, t2, t3⟩ := hb3.turn (recAt f ts ps assign body b (if j.isNone then .ready else .done) j)
    exact ⟨_, _, run_endRound j hb3.loop, h3 _ t1 t2 t3⟩
  rintro e a1 W1 hp
  cases e with
  | normal =>
    obtain ⟨hb1, hbody⟩ := hp
    obtain ⟨t1, t2, t3⟩ := hb1.turn (recAt f ts ps assign body b .busy none)
    refine ⟨_, run_beginRound hb1.loop rfl, wpIn_mono (hbody _ t1 t2 t3) ?_⟩
    rintro e a3 W3 hq
    cases e with
    | normal => exact hend _ _ hq.1 hq.2
    | ret => exact hend _ _ hq.1 hq.2
    | exit i => exact hend _ _ hq.1 hq.2
    | goto t => exact hend _ _ hq.1 hq.2
    | panic c => exact hq.elim
    | outgrown => exact hq.elim
  | ret => exact hp.elim
  | exit i => exact hp.elim
  | goto t => exact hp.elim
  | panic c => exact hp.elim
  | outgrown => exact hp.elim

/-- an iterator that tells nothing -/
def TellsNone (gf : Nat) (lb : Array Value) (w : World) : Prop :=
  ∀ (l : Nat) (W : World), Ge w W → CallsIn Fence.wide 2 Tryd.prog gf (#[.func (.yield l) #[] #[]] ++ lb) W fun e W' => (∃ v, e = .returned v) ∧ W' = W
theorem range_none {g : Operand} {ps : Array Tmp} {assign body : Code} {Q : Exit → Act → World → Prop} {a : Act} {w : World} {gf : Nat} {lb : Array Value}
    (hg : a.eval g = .func (.func gf) #[] lb) (he : ∀ xs W, (callFunc gf xs).run Tryd.prog W = .ok (.enter gf xs) W) (hseq : TellsNone gf lb w)
    (hdone : ∀ (D : Nat) (W : World), w.heap.size ≤ D → Ge w W → W.heap[D]? = some (.deferred (some [])) → Q .normal { a with defers := { target := .collected D, args := #[] } :: a.defers } W) :
    (Code.rangeFunc g ps assign body).wpIn Fence.wide 3 Tryd.prog Q a w := by
  refine range_open rfl (by omega) hg trivial he fun f _ W1 g1 b1 => (hseq _ W1 g1).mono ?_
  rintro e W2 ⟨hv, rfl⟩
  exact ⟨hv, .ready, none, by simp, b1, fun W3 s3 h3 => hdone _ W3 (Nat.le_refl _) (s3.ge (Nat.le_refl _) g1) h3⟩
end Go.Proofs.YtmhibpmgnicolaaDoor
