/-
  Steps of LinkOrder's walk: one message in a row, an append, a whole 'Do', a whole load in a drawn region.
-/
import Derived.Test.YtmhibpmgnicolaaDoorOrderN
import Derived.Test.YtmhibpmgnicolaaDoorCheckM
namespace Go.Proofs.YtmhibpmgnicolaaDoor
open Go.RowKit
attribute [local go_sem] Dr.upT

section
variable {ops : Array Oper} {Q : Exit → Act → World → Prop} {a : Act} {w : World} {rest : List Oper} {o : Oper}
theorem wpList_one (hgd : o.guard = none) (x : Operand) (ho : o.op = .buildSlice 72 1 #[(0, x)]) (CE : Array Value) (hx : a.eval x = .agg CE) (hs : CE.size = 19)
    (h : wpList Tryd.prog ops Q rest (a.put o.dst (.slice (some ⟨w.heap.size, 0, none⟩) 1 1)) (w.alloc (.cells CE 45))) : wpList Tryd.prog ops Q (o :: rest) a w := by
  refine wpList_plain hgd fun K hK => ?_
  have hr := run_one w CE hs
  unfold Oper.wp execOp
  simp only [ho, List.map_toArray, List.map_cons, List.map_nil, hx, Sem.run_bind, hr, Result.andThen_ok]
  exact hK _ _ h
theorem wpList_app72 (hgd : o.guard = none) (s x : Operand) (ho : o.op = .call { callee := .builtin .append, args := #[s, x], argTypes := #[72, 72] }) (v sv v' : Value) (w' : World) (hs : a.eval s = v) (hx : a.eval x = sv)
    (hrun : (Builtin.append_ #[72, 72] o.type #[v, sv]).run Tryd.prog w = .ok v' w') (h : wpList Tryd.prog ops Q rest (a.put o.dst v') w') : wpList Tryd.prog ops Q (o :: rest) a w := by
  refine wpList_plain hgd fun K hK => ?_
  unfold Oper.wp execOp
  simp only [ho, resolve, invoke, builtin, Sem.run_bind, Sem.run_pure, Result.andThen_ok, List.map_toArray, List.map_cons, List.map_nil, hs, hx, hrun]
  exact hK _ _ h
theorem i47 : (Tryd.prog.info? 47).map (·.size) = some 22 := by kernel_rfl
theorem wpList_load_do (hgd : o.guard = none) (x : Operand) (ho : o.op = .load 47 x) (g k : Nat) (hx : a.eval x = .pointer (some ⟨g, k, none⟩)) (cs : List Value) (hg : w.rangeAt g k cs) (hs : cs.length = 22)
    (h : wpList Tryd.prog ops Q rest (a.put o.dst (.agg cs.toArray)) w) : wpList Tryd.prog ops Q (o :: rest) a w :=
  wpList_load_mid hgd 47 x ho g k hx cs _ hg Tryd.underlying47 rfl (by rw [hs]; exact i47) h
theorem wpList_store_do (hgd : o.guard = none) (x y : Operand) (ho : o.op = .store 47 x y) (b : Nat) (cells : Array Value) (hx : a.eval x = .pointer (some ⟨b, 0, none⟩)) (hy : a.eval y = .agg cells)
    {cs0 : Array Value} (hb : Bx w b 47 cs0) (h0 : cs0.size = 22) (hs : cells.size = 22) (h1 : ∀ u ∈ cells.toList, u.oneCell' = true) {w0 : World} (hB : w0.heap.size ≤ b) (hg : Ge w0 w)
    (h : ∀ w', Bx w' b 47 cells → Ge w0 w' → wpList Tryd.prog ops Q rest (a.put o.dst undef) w') : wpList Tryd.prog ops Q (o :: rest) a w :=
  wpList_store_mid hgd 47 x y ho b 0 cells hx hy (by rw [hs, ← h0]; exact hb.there) (by rw [hs]; exact i47) (Array.all_eq_true_iff_forall_mem.2 (fun v hv => h1 v (by simpa using hv)))
    (h _ (by simpa using hb.fill cells.toList (by simp [h0, hs])) (below_sets hB _ _ _ hg))
end
theorem encD_one {B : Nat} {w : World} {d : Dor} (h : SlAt B w d.s d.m) : ∀ u ∈ encD d, u.oneCell' = true := by
  intro u hu
  simp only [encD, List.mem_cons] at hu
  rcases hu with rfl | rfl | rfl | hu
  · rfl
  · rfl
  · rfl
  · exact encG_one h u hu
theorem wpT_msg_at {ops : Array Oper} {K : Act → World → Prop} {w0 : World} {j : Nat} {o : Oper} {rest : List Oper} {fr : (Nat → Value) → Act} {F : Nat → (Nat → Value) → World → Prop} (x : Operand) (b k : Nat) (cs : List Value)
    (ho : o.op = .load 45 x) (hx : ∀ u, (fr u).eval x = .pointer (some ⟨b, k, none⟩)) (hB : ∀ w, Ge w0 w → w.rangeAt b k cs) (hs : cs.length = 19) (hw : ∀ u, Region.wanted o (yielded ops (fr u).tmps) = true)
    (h2 : Dr.wpT Tryd.prog ops K w0 (j + 1) rest (fun u => (fr u).put o.dst (.agg cs.toArray)) (fun k u w => if k = j then True else F k u w)) :
    Dr.wpT Tryd.prog ops K w0 j (o :: rest) fr F := by
  refine Dr.wpT_det (.agg cs.toArray) (fun u w hg _ => ?_) h2
  rw [if_pos (hw u)]
  have hl := run_loadAt_mid (P := Tryd.prog) w b k 45 cs _ (hB w hg) Tryd.underlying45 rfl (by rw [hs]; exact i45)
  unfold execOp
  simp only [ho, hx, hl, Sem.run_bind, Sem.run_pure, Result.andThen_ok]
  exact ⟨Ge.refl _, rfl⟩

/-- the end of a row, from k on -/
theorem run_tail (w : World) (A : Option Addr) (n c k : Nat) (hA : A = none → c = 0) (hk : k ≤ n) (hc : n ≤ c) : ∃ A', (Instr.sliceAt 72 (.slice A n c) (some (.int .i64 (k : Int))) none none).run Tryd.prog w = .ok (.slice A' (n - k) (c - k)) w := by
  rcases A with _ | ad
  · obtain rfl := hA rfl
    obtain rfl : n = 0 := by omega
    obtain rfl : k = 0 := by omega
    refine ⟨none, ?_⟩
    kernel_rfl
  · have h1 : (k : Int) ≤ (n : Int) := by omega
    have h2 : (n : Int) ≤ (c : Int) := by omega
    have h3 : (k : Int) ≤ (c : Int) := by omega
    have h4 : (0 : Int) ≤ (k : Int) := by omega
    go_simp
theorem wpList_tail {ops : Array Oper} {Q : Exit → Act → World → Prop} {a : Act} {w : World} {rest : List Oper} {o : Oper} (hgd : o.guard = none) (x y : Operand) (ho : o.op = .slice 72 x (some y) none none) (A : Option Addr) (n c k : Nat)
    (hx : a.eval x = .slice A n c) (hy : a.eval y = .int .i64 (k : Int)) (hA : A = none → c = 0) (hk : k ≤ n) (hc : n ≤ c) (h : ∀ A', wpList Tryd.prog ops Q rest (a.put o.dst (.slice A' (n - k) (c - k))) w) : wpList Tryd.prog ops Q (o :: rest) a w := by
  refine wpList_plain hgd fun K hK => ?_
  obtain ⟨A', hr⟩ := run_tail w A n c k hA hk hc
  unfold Oper.wp execOp
  simp only [ho, Option.map_some, Option.map_none, hx, hy, Sem.run_bind, hr, Result.andThen_ok, Sem.run_pure]
  exact hK _ _ (h A')
end Go.Proofs.YtmhibpmgnicolaaDoor
