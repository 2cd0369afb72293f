/-
  A range over a function in two laws (its opening and closing, one round); an iterator that moves a variable of its own between two rounds: its contract, and the statement over it.
-/
import Derived.Test.YtonpoloahagddaaNoneW
import Derived.Test.YtonpoloahagddaaWantsB
namespace Go.Proofs.Ytonpoloahagddaa
open Go.RowKit Go.Shelf

/-! ### A range over a function: what may happen beside a caller's own memory, the two blocks of the range, its opening and closing, one round -/
/-- all blocks below b and all blocks of cells stay -/
structure Aside (b : Nat) (A A' : World) : Prop where
  os : A'.os = A.os
  tape : A'.tape = A.tape
  output : A'.output = A.output
  size : A.heap.size ≤ A'.heap.size
  block : ∀ k, k < A.heap.size → (k < b ∨ ∃ o : Obj, A.heap[k]? = some o ∧ o.isCells = true) → A'.heap[k]? = A.heap[k]?
theorem Ge.aside {A A' : World} (g : Ge A A') (b : Nat) : Aside b A A' := ⟨g.os, g.tape, g.output, g.size, fun k hk _ => g.block k hk⟩
theorem aside_put {b l : Nat} {A : World} {o : Obj} (o' : Obj) (hl : b ≤ l) (h : A.heap[l]? = some o) (ho : o.isCells = false) : Aside b A (A.putObj l o') := by
  have hg := grownBy_putObj' A l o'
  refine ⟨hg.os, hg.tape, hg.output, hg.size, fun k hk hor => World.putObj_heap_other ?_⟩
  rintro rfl
  rcases hor with h1 | ⟨o2, h1, h2⟩
  · omega
  · rw [h] at h1
    cases h1
    rw [ho] at h2
    cases h2
theorem Aside.bx {b : Nat} {A A' : World} (s : Aside b A A') {k : Nat} {t : TypeId} {cs : Array Value} (h : Bx A k t cs) : Bx A' k t cs := (s.block k h.lt (.inr ⟨_, h, rfl⟩)).trans h
theorem Aside.ge {b : Nat} {w A A' : World} (s : Aside b A A') (hb : w.heap.size ≤ b) (h : Ge w A) : Ge w A' :=
  ⟨s.os.trans h.os, s.tape.trans h.tape, s.output.trans h.output, Nat.le_trans h.size s.size, fun k hk => (s.block k (Nat.lt_of_lt_of_le hk h.size) (.inl (by omega))).trans (h.block k hk)⟩

/-- the two blocks that a range keeps its books in: at b the calls put off, behind it the loop's record -/
structure Books (b : Nat) (r : Loop) (W : World) : Prop where
  put : W.heap[b]? = some (.deferred (some []))
  loop : W.heap[b + 1]? = some (.loop r)
theorem Books.ge {b : Nat} {r : Loop} {W W' : World} (h : Books b r W) (g : Ge W W') : Books b r W' :=
  ⟨(g.block b (Array.getElem?_eq_some_iff.1 h.put).1).trans h.put, (g.block (b + 1) (Array.getElem?_eq_some_iff.1 h.loop).1).trans h.loop⟩
theorem Books.kept {b : Nat} {r : Loop} {W W' : World} (h : Books b r W) (k : KeepsFrom b W W') : Books b r W' :=
  ⟨k.same b _ (Nat.le_refl _) h.put rfl, k.same (b + 1) _ (by omega) h.loop rfl⟩
theorem Books.turn {b : Nat} {r : Loop} {W : World} (h : Books b r W) (r' : Loop) : Books b r' (W.putObj (b + 1) (.loop r')) ∧ Aside b W (W.putObj (b + 1) (.loop r')) ∧ ∀ n, n ≤ b → Below n W (W.putObj (b + 1) (.loop r')) := by
  have hl := (Array.getElem?_eq_some_iff.1 h.loop).1
  refine ⟨⟨(World.putObj_heap_other (by omega)).trans h.put, World.putObj_heap_same hl⟩, aside_put _ (by omega) h.loop rfl, fun n hn => ?_⟩
  have hg := grownBy_putObj' W (b + 1) (.loop r')
  exact ⟨hg.os, hg.tape, hg.output, hg.size, fun k hk => World.putObj_heap_other (by omega)⟩
theorem Books.lt {b : Nat} {r : Loop} {W : World} (h : Books b r W) : b < W.heap.size := (Array.getElem?_eq_some_iff.1 h.put).1

/-- the record of a range whose first block is b -/
def recAt (f : FuncId) (ts : Array Value) (ps : Array Tmp) (assign body : Code) (b : Nat) (st : LoopState) (pe : Option Code) : Loop :=
  { fn := f, tmps := ts, params := ps, assign := assign, body := body, defers := b, state := st, pending := pe }
/-- what is to be done behind a range: go on, or take the jump that a round has told -/
def Onward (F : Fence) (n : Nat) (P : Program) (Q : Exit → Act → World → Prop) (a : Act) (W : World) : Option Code → Prop
  | none => Q .normal a W
  | some c => c.wpIn F n P Q a W

theorem range_open {F : Fence} {n : Nat} {P : Program} {g : Operand} {ps : Array Tmp} {assign body : Code} {Q : Exit → Act → World → Prop} {a : Act} {w : World} {gf : Nat} {lb : Array Value}
    (hro : F.round = none) (h1 : 1 ≤ n) (hg : a.eval g = .func (.func gf) #[] lb) (hF : F.fn gf) (he : ∀ xs W, (callFunc gf xs).run P W = .ok (.enter gf xs) W)
    (h : ∀ f, F.fn f → ∀ W1, Ge w W1 → Books w.heap.size (recAt f a.tmps ps assign body w.heap.size .ready none) W1 →
      CallsIn F (n - 1) P gf (#[.func (.yield (w.heap.size + 1)) #[] #[]] ++ lb) W1 fun e W2 => (∃ v, e = .returned v) ∧ ∃ st pe, st ≠ .busy ∧ Books w.heap.size (recAt f a.tmps ps assign body w.heap.size st pe) W2 ∧
        ∀ W3, Aside w.heap.size W2 W3 → W3.heap[w.heap.size]? = some (.deferred (some [])) → Onward F n P Q { a with defers := { target := .collected w.heap.size, args := #[] } :: a.defers } W3 pe) :
    (Code.rangeFunc g ps assign body).wpIn F n P Q a w := by
  refine wpIn_rangeFunc fun f hf => ?_
  have hB : Books w.heap.size (recAt f a.tmps ps assign body w.heap.size .ready none) ((w.alloc (.deferred (some []))).alloc (.loop (recAt f a.tmps ps assign body w.heap.size .ready none))) := by
    generalize recAt f a.tmps ps assign body w.heap.size .ready none = r
    constructor
    · exact (Below.heap_alloc _ _ _ (by simp)).trans (by show (w.heap.push _)[w.heap.size]? = _; simp)
    · show (((w.heap.push _).push _ : Array Obj))[w.heap.size + 1]? = _
      simp [Array.getElem_push]
  obtain ⟨W1, hW1⟩ : ∃ W1, W1 = (w.alloc (.deferred (some []))).alloc (.loop (recAt f a.tmps ps assign body w.heap.size .ready none)) := ⟨_, rfl⟩
  rw [← hW1] at hB
  have hg1 : Ge w W1 := by rw [hW1]; exact ((Ge.refl w).alloc _).alloc _
  have hE : (Instr.enterLoop f a.tmps ps assign body F.round).run P w = .ok (w.heap.size + 1, [{ target := .collected w.heap.size, args := #[] }]) W1 := by
    rw [hro, hW1]
    exact run_enterLoop_outer _ _ _ _ _
  have hR : (resolve a.eval (rangeCall g (w.heap.size + 1)) 0).run P W1 = .ok { target := .fn (.func gf) lb, args := #[.func (.yield (w.heap.size + 1)) #[] #[]] } W1 := by
    simp only [resolve, hg]
    simp [go_sem]
  have hV : (invoke (.fn (.func gf) lb) #[.func (.yield (w.heap.size + 1)) #[] #[]]).run P W1 = .ok (.enter gf (#[.func (.yield (w.heap.size + 1)) #[] #[]] ++ lb)) W1 := by simp [invoke, go_sem, he]
  refine ⟨_, _, _, _, _, _, _, _, hE, hR, ?_, hV, fun _ => h1, (h f hf W1 hg1 hB).mono ?_⟩
  · intro f' h'
    simp [Target.leads] at h'
    rw [← h']
    exact hF
  · rintro e W2 ⟨⟨v, rfl⟩, st, pe, hst, hb, hend⟩
    have hr := run_endLoop (P := P) hb.loop hst
    obtain ⟨t1, t2, -⟩ := hb.turn (recAt f a.tmps ps assign body w.heap.size .exhausted pe)
    have := hend _ t2 t1.put
    cases pe with
    | none => exact ⟨none, _, hr, this⟩
    | some c => exact ⟨some c, _, hr, this⟩

/-- the jump with which a round's body ends, if it ends in one -/
def jumpOf : Exit → Option (Option Code)
  | .normal => some none
  | .ret => some (some .ret)
  | .exit i => some (some (.exit i))
  | .goto t => some (some (.goto t))
  | .panic _ => none
  | .outgrown => none
/-- a body's end: the books are there, and with the jump written into them the round keeps its word R -/
def Ended (b : Nat) (r : LoopState → Option Code → Loop) (R : Ending → World → Prop) (e : Exit) (_ : Act) (W : World) : Prop :=
  match jumpOf e with
  | none => False
  | some j => Books b (r .busy none) W ∧ ∀ W', Books b (r (if j.isNone then .ready else .done) j) W' → Aside b W W' → (∀ m, m ≤ b → Below m W W') → R (.returned (.bool j.isNone)) W'

theorem round_at {F : Fence} {n : Nat} {P : Program} {f : FuncId} {ts : Array Value} {ps : Array Tmp} {assign body : Code} {b : Nat} {xs : Array Value} {R : Ending → World → Prop} {W : World}
    (hf : F.fn f) (hps : xs.size = ps.size) (hb : Books b (recAt f ts ps assign body b .ready none) W)
    (h : assign.wpIn (F.inRound (b + 1)) n P (Exit.then (fun a1 W1 => Books b (recAt f ts ps assign body b .ready none) W1 ∧
      ∀ W2, Books b (recAt f ts ps assign body b .busy none) W2 → Aside b W1 W2 → (∀ m, m ≤ b → Below m W1 W2) → body.wpIn (F.inRound (b + 1)) n P (Ended b (recAt f ts ps assign body b) R) a1 W2) (fun _ _ _ => False))
      { tmps := (ps.zip xs).foldl (fun t (p, v) => t.setIfInBounds p v) ts, defers := [] } W) :
    YieldAt F n P (b + 1) xs W R := by
  refine ⟨f, _, assign, body, run_yield hb.loop hps, roundIn_of_wpIn hf (wpIn_mono h ?_)⟩
  have hend : ∀ (j : Option Code) (W3 : World), Books b (recAt f ts ps assign body b .busy none) W3 →
      (∀ W', Books b (recAt f ts ps assign body b (if j.isNone then .ready else .done) j) W' → Aside b W3 W' → (∀ m, m ≤ b → Below m W3 W') → R (.returned (.bool j.isNone)) W') →
      ∃ v w', (Instr.endRound (b + 1) j).run P W3 = .ok v w' ∧ R (.returned v) w' := fun j W3 hb3 h3 => by
    obtain ⟨t1, t2, t3⟩ := hb3.turn (recAt f ts ps assign body b (if j.isNone then .ready else .done) j)
    exact ⟨_, _, run_endRound j hb3.loop, h3 _ t1 t2 t3⟩
  rintro e a1 W1 hp
  cases e with
  | normal =>
    obtain ⟨hb1, hbody⟩ := hp
    obtain ⟨t1, t2, t3⟩ := hb1.turn (recAt f ts ps assign body b .busy none)
    refine ⟨_, run_beginRound hb1.loop rfl, wpIn_mono (hbody _ t1 t2 t3) ?_⟩
    rintro e a3 W3 hq
    cases e with
    | normal => exact hend _ _ hq.1 hq.2
    | ret => exact hend _ _ hq.1 hq.2
    | exit i => exact hend _ _ hq.1 hq.2
    | goto t => exact hend _ _ hq.1 hq.2
    | panic c => exact hq.elim
    | outgrown => exact hq.elim
  | ret => exact hp.elim
  | exit i => exact hp.elim
  | goto t => exact hp.elim
  | panic c => exact hp.elim
  | outgrown => exact hp.elim

theorem ownsRow_aside {b : Nat} {A A' : World} (s : Aside b A A') {base : Nat} {e : TypeId} {size : Nat} {v : Value} {k : Nat} {xs : List Value} (h : A.ownsRow base e size v k xs) : A'.ownsRow base e size v k xs := by
  refine ⟨h.1, h.2.imp id ?_⟩
  rintro ⟨g, cap, cur, hv, hb, hh, rest⟩
  exact ⟨g, cap, cur, hv, hb, (s.block g (Array.getElem?_eq_some_iff.1 hh).1 (.inr ⟨_, hh, rfl⟩)).trans hh, rest⟩

/-- the iterator turns its block Bt and makes new ones; it tells numbers, fewer than N ahead of each, and a round must keep Bt and all below n0 -/
def Moves (Bt n0 : Nat) (S : List Int → Prop) (N : Nat) (w : World) : Prop :=
  ∀ (l : Nat) (J : List Int → World → Prop) (W : World), Ge w W → (∀ s A A', J s A → Gg Bt A A' → J s A') →
    (∀ pre x A, J pre A → pre.length < N → YieldAt Fence.wide 1 Try.prog l #[.int .i64 x] A fun e A' => e = .returned (.bool true) ∧ J (pre ++ [x]) A' ∧ KeepB Bt A A' ∧ Below n0 A A') →
    J [] W → CallsIn Fence.wide 2 Try.prog 48 #[.func (.yield l) #[] #[], .pointer (some ⟨Bt, 0, none⟩)] W fun e A' => (∃ v, e = .returned v) ∧ ∃ xs, S xs ∧ J xs A'

theorem range_moves {g : Operand} {ps : Array Tmp} {assign body : Code} {Q : Exit → Act → World → Prop} {a : Act} {w : World} {Bt n0 : Nat} {S : List Int → Prop} {N : Nat}
    (hg : a.eval g = .func (.func 48) #[] #[.pointer (some ⟨Bt, 0, none⟩)]) (hps : ps.size = 1) (hBt : Bt < w.heap.size) (hn0 : n0 ≤ w.heap.size) (hseq : Moves Bt n0 S N w)
    (I : List Int → World → Prop) (hI : ∀ s A A', Aside w.heap.size A A' → I s A → I s A') (hIB : ∀ s A A', I s A → Gg Bt A A' → I s A') (h0 : I [] w) (a1 : Int → Act)
    (hassign : ∀ (l : Nat) (x : Int) (W : World) (K : Act → World → Prop), K (a1 x) W →
      assign.wpIn (Fence.wide.inRound l) 1 Try.prog (Exit.then K (fun _ _ _ => False)) { tmps := (ps.zip #[.int .i64 x]).foldl (fun t (p, v) => t.setIfInBounds p v) a.tmps, defers := [] } W)
    (hbody : ∀ (l : Nat) (pre : List Int) (x : Int) (W : World), I pre W → pre.length < N → body.wpIn (Fence.wide.inRound l) 1 Try.prog (ownPostK (fun A A' => KeepB Bt A A' ∧ Below n0 A A') I (fun _ _ _ => False) (pre ++ [x]) W) (a1 x) W)
    (hdone : ∀ (D : Nat) (xs : List Int) (W : World), w.heap.size ≤ D → S xs → I xs W → W.heap[D]? = some (.deferred (some [])) → Q .normal { a with defers := { target := .collected D, args := #[] } :: a.defers } W) :
    (Code.rangeFunc g ps assign body).wpIn Fence.wide 3 Try.prog Q a w := by
  refine range_open rfl (by omega) hg trivial (enters_of Try.func48 (by kernel_rfl) rfl) fun f hf W1 g1 b1 => ?_
  have hgg : ∀ {r : Loop} {A A' : World}, Books w.heap.size r A → Gg Bt A A' → Books w.heap.size r A' := fun h g =>
    ⟨(g.block _ h.lt (by simp; omega)).trans h.put, (g.block _ (Array.getElem?_eq_some_iff.1 h.loop).1 (by simp; omega)).trans h.loop⟩
  refine (hseq (w.heap.size + 1) (fun pre W => I pre W ∧ Books w.heap.size (recAt f a.tmps ps assign body w.heap.size .ready none) W) W1 g1 (fun s A A' h g => ⟨hIB s A A' h.1 g, hgg h.2 g⟩) ?_ ⟨hI _ _ _ (g1.aside _) h0, b1⟩).mono ?_
  · rintro pre x W ⟨hi, hb⟩ hlen
    refine round_at hf hps.symm hb (hassign _ x W _ ⟨hb, fun W2 b2 s2 k2 => wpIn_mono (hbody _ pre x W2 (hI _ _ _ s2 hi) hlen) ?_⟩)
    rintro e a3 W3 hp
    cases e with
    | normal =>
      obtain ⟨p1, ⟨p2, p3⟩, p4⟩ := hp
      have hlt : Bt < W2.heap.size := Nat.lt_trans hBt b2.lt
      refine ⟨b2.kept (p1.from _), fun W4 b4 s4 k4 => ⟨rfl, ⟨hI _ _ _ s4 p4, b4⟩, ?_, (k2 n0 hn0).trans (p3.trans (k4 n0 hn0))⟩⟩
      exact KeepB.trans (s2.block Bt (Nat.lt_trans hBt hb.lt) (.inl hBt)) (KeepB.trans p2 (s4.block Bt (Nat.lt_of_lt_of_le hlt p1.size) (.inl hBt)))
    | ret => exact hp.2.elim
    | exit i => exact hp.2.elim
    | goto t => exact hp.2.elim
    | panic c => exact hp.elim
    | outgrown => exact hp.elim
  · rintro e W2 ⟨hv, xs, hS, hi, hb⟩
    exact ⟨hv, .ready, none, by simp, hb, fun W3 s3 h3 => hdone _ xs W3 (Nat.le_refl _) hS (hI _ _ _ s3 hi) h3⟩
end Go.Proofs.Ytonpoloahagddaa
