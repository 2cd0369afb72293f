/-
  Steps of a chained drawn region: a whole message is loaded, laid in a row of one, appended.
-/
import Derived.Test.YtmhibpmgnicolaaDoorDrawC
import Derived.Test.YtmhibpmgnicolaaDoorNetN
import Derived.Great.BuildSlice
namespace Go.Proofs.YtmhibpmgnicolaaDoor
open Go.RowKit
attribute [local go_sem] Dr.upT

theorem rel_nx (B : Nat) (F : Nat → Prop) : Dr.Rel (Nx B F) := ⟨fun _ _ _ h k => h.trans k (fun _ _ h => h), fun _ _ g => Nx.of_ge g⟩
theorem Bx.nx {B : Nat} {F : Nat → Prop} {w w' : World} {b : Nat} {t : TypeId} {cs : Array Value} (h : Bx w b t cs) (n : Nx B F w w') (hb : ¬ F b) : Bx w' b t cs := (n.block b h.lt hb).trans h

theorem wpC_msg {ops : Array Oper} {K : Act → World → Prop} {w0 : World} {R : World → World → Prop} {C : List Nat} {j : Nat} {o : Oper} {rest : List Oper} {fr : (Nat → Value) → Act} {F : Nat → (Nat → Value) → World → Prop} {S : (Nat → Value) → World → Prop}
    (x : Operand) (b : Nat) (CS : Array Value) (hc : C.contains j = false)
    (ho : o.op = .load 45 x) (hx : ∀ u, (fr u).eval x = .pointer (some ⟨b, 0, none⟩)) (hB : ∀ w, R w0 w → Bx w b 45 CS) (hs : CS.size = 19) (hw : ∀ u, Region.wanted o (yielded ops (fr u).tmps) = true)
    (h2 : Dr.wpC Tryd.prog ops K w0 R C (j + 1) rest (fun u => (fr u).put o.dst (.agg CS)) (fun k u w => if k = j then True else F k u w) S) :
    Dr.wpC Tryd.prog ops K w0 R C j (o :: rest) fr F S := by
  refine Dr.wpC_det (.agg CS) hc (fun u w hg _ => ?_) h2
  rw [if_pos (hw u)]
  have hl := run_loadVar_row (P := Tryd.prog) w b 45 45 CS (0, 0) _ (hB w hg) Tryd.underlying45 rfl (by rw [hs]; exact i45)
  unfold execOp
  simp only [ho, hx, Instr.loadAt, Instr.sureAddr, Sem.run_bind, Sem.run_pure, Result.andThen_ok, hl]
  exact ⟨Ge.refl _, rfl⟩

/-- one message, in a row of its own -/
theorem run_one (w : World) (CE : Array Value) (hs : CE.size = 19) : (Instr.buildSlice 72 1 #[(0, .agg CE)]).run Tryd.prog w = .ok (.slice (some ⟨w.heap.size, 0, none⟩) 1 1) (w.alloc (.cells CE 45)) := by
  obtain ⟨i, hi, hz, h19, hby⟩ : ∃ i, Tryd.prog.info? 45 = some i ∧ i.zero.map (·.cells.size) = some 19 ∧ i.size = 19 ∧ i.bytes ≤ 1000 := by
    have := info45
    rcases hq : Tryd.prog.info? 45 with _ | i
    · rw [hq] at this; cases this
    · rw [hq] at this
      simp at this
      exact ⟨i, rfl, by simpa using this.1, this.2.1, this.2.2⟩
  obtain ⟨z, hz, hzs⟩ : ∃ z, i.zero = some z ∧ z.cells.size = 19 := by
    rcases hq : i.zero with _ | z
    · rw [hq] at hz; cases hz
    · rw [hq] at hz
      simp at hz
      exact ⟨z, rfl, hz⟩
  refine run_buildSlice w 72 45 1 _ CE i z Tryd.underlying72 hi hz (by rw [h19]; omega) (by rw [h19]; omega) ?_
  have := Great.fill_whole (s := 19) (by omega) [.agg CE] ((Array.range (1 * i.size)).map (z.cells[· % z.cells.size]!)) (by intro v hv; simp at hv; subst hv; exact hs) (by simp [h19])
  rw [h19] at this ⊢
  simpa [Value.cells] using this
theorem exec_one {a : Act} {o : Oper} {x : Operand} (ho : o.op = .buildSlice 72 1 #[(0, x)]) {CE : Array Value} (hx : a.eval x = .agg CE) (hs : CE.size = 19) {w : World} {R : Value → World → Prop}
    (hR : R (.slice (some ⟨w.heap.size, 0, none⟩) 1 1) (w.alloc (.cells CE 45))) : Dr.upT Tryd.prog R ((execOp a.eval o).run Tryd.prog w) := by
  have hr := run_one w CE hs
  unfold execOp
  simp only [ho, List.map_toArray, List.map_cons, List.map_nil, hx, Sem.run_bind, hr, Result.andThen_ok]
  exact hR
theorem exec_app {a : Act} {o : Oper} {s x : Operand} (ho : o.op = .call { callee := .builtin .append, args := #[s, x], argTypes := #[72, 72] }) {v sv : Value} (hs : a.eval s = v) (hx : a.eval x = sv) {w w' : World} {v' : Value}
    (hrun : (Builtin.append_ #[72, 72] o.type #[v, sv]).run Tryd.prog w = .ok v' w') {R : Value → World → Prop} (hR : R v' w') : Dr.upT Tryd.prog R ((execOp a.eval o).run Tryd.prog w) := by
  unfold execOp
  simp only [ho, resolve, invoke, builtin, Sem.run_bind, Sem.run_pure, Result.andThen_ok, List.map_toArray, List.map_cons, List.map_nil, hs, hx, hrun]
  exact hR

theorem exec_store72 {a : Act} {o : Oper} {x y : Operand} (ho : o.op = .store 72 x y) {q k : Nat} {A : Option Addr} {n c : Nat} {v0 : Value} (hx : a.eval x = .pointer (some ⟨q, k, none⟩)) (hy : a.eval y = .slice A n c) {w : World}
    (hc : w.cell? ⟨q, k, none⟩ = some v0) (hf : w.frozen? ⟨q, k, none⟩ = false) {R : Value → World → Prop} (hR : R undef (w.setCell ⟨q, k, none⟩ (.slice A n c))) : Dr.upT Tryd.prog R ((execOp a.eval o).run Tryd.prog w) := by
  unfold execOp
  simp only [ho, hx, hy]
  go_simp
  exact hR

theorem wpC_store72 {ops : Array Oper} {K : Act → World → Prop} {w0 : World} {R : World → World → Prop} {C : List Nat} {j : Nat} {o : Oper} {rest : List Oper} {fr : (Nat → Value) → Act} {F : Nat → (Nat → Value) → World → Prop} {S : (Nat → Value) → World → Prop}
    (x y : Operand) (q k i : Nat) (T : World → Prop) (hc : C.contains j = true) (hT : ∀ w w', Ge w w' → T w → T w') (ho : o.op = .store 72 x y) (hgd : o.guard = none)
    (hx : ∀ u, (fr u).eval x = .pointer (some ⟨q, k, none⟩)) (hy : ∀ u, (fr u).eval y = u i)
    (hs : ∀ u w, R w0 w → S u w → ∃ A n c v0, u i = .slice A n c ∧ w.cell? ⟨q, k, none⟩ = some v0 ∧ w.frozen? ⟨q, k, none⟩ = false ∧ R w (w.setCell ⟨q, k, none⟩ (.slice A n c)) ∧ T (w.setCell ⟨q, k, none⟩ (.slice A n c)))
    (h2 : Dr.wpC Tryd.prog ops K w0 R C (j + 1) rest (fun u => (fr u).put o.dst undef) (fun k u w => if k = j then True else F k u w) (fun _ w => T w)) :
    Dr.wpC Tryd.prog ops K w0 R C j (o :: rest) fr F S := by
  refine Dr.wpC_chain undef T hc hT (fun u w hg _ hS => ?_) h2
  have hw : Region.wanted o (yielded ops (fr u).tmps) = true := by unfold Region.wanted; rw [hgd]
  rw [if_pos hw]
  obtain ⟨A, n, c, v0, e, h1, h2, h3, h4⟩ := hs u w hg hS
  exact exec_store72 ho (hx u) ((hy u).trans e) h1 h2 ⟨h3, rfl, h4⟩

/-- between the append and the store -/
structure Mid (B : Nat) (n0 p q : Nat) (O : Nat → Option Nat) (S : Nt) (C : Array Value) (j : Nat) (l : List Msg) (v : Value) (w : World) : Prop where
  out : ∃ O', NetP B w p q O' S C j ∧ RowAt B w v l (fun g => O' g = some j) ∧ (∃ A n c, v = .slice A n c) ∧ ∀ b, b < n0 → O' b ≠ none → O b ≠ none
theorem Mid.ge {B n0 p q : Nat} {O : Nat → Option Nat} {S : Nt} {C : Array Value} {j : Nat} {l : List Msg} {v : Value} {w w' : World} (h : Mid B n0 p q O S C j l v w) (g : Ge w w') : Mid B n0 p q O S C j l v w' := by
  obtain ⟨O', h1, h2, h3, h4⟩ := h
  exact ⟨O', h1.ge g, h2.keep (g.kp B) (fun b hb => g.block b (h1.bO b j hb).2.1) (fun _ h => h), h3, h4⟩
theorem mid_app {B n0 p q : Nat} {O : Nat → Option Nat} {S : Nt} {C : Array Value} {j : Nat} {l : List Msg} {v : Value} {w w' : World} (hS : NetC B w p q O S C)
    (hrow : RowAt B w' v l (fun g => O g = some j ∨ (w.heap.size ≤ g ∧ g < w'.heap.size))) (hb : ∀ b, b < w.heap.size → ¬ O b = some j → w'.heap[b]? = w.heap[b]?) (k : Kp B w w') (hv : ∃ A n c, v = .slice A n c) (hn0 : n0 ≤ w.heap.size) :
    Mid B n0 p q O S C j l v w' := by
  have hp : O p ≠ some j := fun e => (hS.bO p j e).2.2.1 rfl
  have hq : O q ≠ some j := fun e => (hS.bO q j e).2.2.2 rfl
  have hpl := hS.lt (.inl rfl)
  have hql := hS.lt (.inr (.inl rfl))
  obtain ⟨O', hO⟩ : ∃ O' : Nat → Option Nat, O' = fun b => if w.heap.size ≤ b then (if b < w'.heap.size then some j else none) else O b := ⟨_, rfl⟩
  have hlo : ∀ b, b < w.heap.size → O' b = O b := fun b hbl => by rw [hO]; exact if_neg (by omega)
  have hhi : ∀ b, w.heap.size ≤ b → b < w'.heap.size → O' b = some j := fun b h1 h2 => by rw [hO]; simp [h1, h2]
  refine ⟨O', ⟨(hb p hpl hp).trans hS.net, hS.ok, hS.bp, hS.bq, fun b i hbi => ?_, (hb q hql hq).trans hS.row, hS.sz, fun i r hne hr => (hS.rows i r hr).keep k (fun b e => ?_)⟩, hrow.keep (Kp.refl B _) (fun _ _ => rfl) (fun g hg => ?_), hv, fun b hbn hne => ?_⟩
  · rcases Nat.lt_or_ge b w.heap.size with h1 | h1
    · rw [hlo b h1] at hbi
      obtain ⟨a1, a2, a3, a4⟩ := hS.bO b i hbi
      exact ⟨a1, Nat.lt_of_lt_of_le a2 k.size, a3, a4⟩
    · have h2 : b < w'.heap.size := by
        rcases Nat.lt_or_ge b w'.heap.size with h2 | h2
        · exact h2
        · rw [hO] at hbi
          simp only [h1, if_true, if_neg (Nat.not_lt.2 h2)] at hbi
          cases hbi
      have := hS.bp
      exact ⟨by omega, h2, by omega, by omega⟩
  · have hbl := (hS.bO b i e).2.1
    exact ⟨hb b hbl (fun e' => hne (by rw [e] at e'; exact Option.some.inj e')), by rw [hlo b hbl]; exact e⟩
  · rcases hg with hg | ⟨h1, h2⟩
    · show O' g = some j
      rw [hlo g (hS.bO g j hg).2.1]
      exact hg
    · exact hhi g h1 h2
  · rw [hlo b (by omega)] at hne
    exact hne
end Go.Proofs.YtmhibpmgnicolaaDoor
