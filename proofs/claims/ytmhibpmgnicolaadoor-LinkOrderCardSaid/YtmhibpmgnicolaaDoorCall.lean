/-
  A call in a chained drawn region; a whole load under a guard.
-/
import Derived.Test.YtmhibpmgnicolaaDoorChain
namespace Go.Proofs.YtmhibpmgnicolaaDoor
open Go.RowKit
attribute [local go_sem] Dr.upT

theorem wpC_call {ops : Array Oper} {K : Act → World → Prop} {w0 : World} {R : World → World → Prop} {C : List Nat} {j : Nat} {o : Oper} {rest : List Oper} {fr : (Nat → Value) → Act} {F : Nat → (Nat → Value) → World → Prop} {S : (Nat → Value) → World → Prop}
    (k : Nat) (vs : Array Value) (v : Value) (T : World → Prop) (hc : C.contains j = true) (hT : ∀ w w', Ge w w' → T w → T w')
    (hw : ∀ u, Region.wanted o (yielded ops (fr u).tmps) = true) (hr : ∀ u w, (execOp (fr u).eval o).run Tryd.prog w = .ok (.enter k vs) w)
    (hs : ∀ u w, R w0 w → S u w → Calls Tryd.prog k vs w fun e w' => e = .returned v ∧ R w w' ∧ T w')
    (h2 : Dr.wpC Tryd.prog ops K w0 R C (j + 1) rest (fun u => (fr u).put o.dst v) (fun k u w => if k = j then True else F k u w) (fun _ w => T w)) :
    Dr.wpC Tryd.prog ops K w0 R C j (o :: rest) fr F S := by
  refine Dr.wpC_chain v T hc hT (fun u w hg _ hS => ?_) h2
  rw [if_pos (hw u), hr u w]
  exact (hs u w hg hS).mono fun e w' ⟨h1, h2, h3⟩ => ⟨v, h1, h2, rfl, h3⟩
theorem wpList_load_rowG {ops : Array Oper} {rest : List Oper} {o : Oper} {a : Act} {w : World} {Q : Exit → Act → World → Prop} (hw : Region.wanted o (yielded ops a.tmps) = true) (x : Operand) (ho : o.op = .load 45 x)
    (g : Nat) (hx : a.eval x = .pointer (some ⟨g, 0, none⟩)) (cs : Array Value) (hg : Bx w g 45 cs) (hs : cs.size = 19)
    (h : wpList Tryd.prog ops Q rest (a.put o.dst (.agg cs)) w) : wpList Tryd.prog ops Q (o :: rest) a w :=
  wpList_step fun K hK => by rw [if_pos hw]; exact wp_load_row 45 x ho g hx 45 cs (0, 0) _ hg Tryd.underlying45 rfl (by rw [hs]; exact i45) (hK _ _ h)

end Go.Proofs.YtmhibpmgnicolaaDoor
