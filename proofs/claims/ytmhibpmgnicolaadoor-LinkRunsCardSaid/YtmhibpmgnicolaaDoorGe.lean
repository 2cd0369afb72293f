/-
  A world that has grown; a block that is known whole.
-/
import Derived.Below
namespace Go.Proofs.YtmhibpmgnicolaaDoor
open Go.RowKit

/-- the world has grown: all that was there is as it was -/
abbrev Ge (w w' : World) : Prop := Below w.heap.size w w'
theorem Ge.refl (w : World) : Ge w w := Below.refl _ _
theorem Ge.trans {a b c : World} (h : Ge a b) (k : Ge b c) : Ge a c := Below.trans h (k.mono h.size)
theorem Ge.alloc {a b : World} (h : Ge a b) (o : Obj) : Ge a (b.alloc o) := Below.alloc h h.size o
theorem Ge.drew {a b : World} (h : Ge a b) : Ge a b.drew := Below.drew h

/-- block b is just these cells -/
def Bx (w : World) (b : Nat) (t : TypeId) (cs : Array Value) : Prop := w.heap[b]? = some (.cells cs t (0, 0))
theorem Bx.lt {w : World} {b : Nat} {t : TypeId} {cs : Array Value} (h : Bx w b t cs) : b < w.heap.size := (Array.getElem?_eq_some_iff.1 h).1
theorem Bx.cell {w : World} {b : Nat} {t : TypeId} {cs : Array Value} (h : Bx w b t cs) (k : Nat) : w.cell? ⟨b, k, none⟩ = cs[k]? := by
  unfold Bx at h
  simp [World.cell?, h]
theorem Bx.frozen {w : World} {b : Nat} {t : TypeId} {cs : Array Value} (h : Bx w b t cs) (k : Nat) : w.frozen? ⟨b, k, none⟩ = false := by
  unfold Bx at h
  simp [World.frozen?, h]
theorem Bx.new (w : World) (t : TypeId) (cs : Array Value) {b : Nat} (hb : b = w.heap.size) : Bx (w.alloc (.cells cs t)) b t cs := by
  subst hb
  show (w.heap.push _)[w.heap.size]? = _
  simp
theorem Bx.alloc {w : World} {b : Nat} {t : TypeId} {cs : Array Value} (h : Bx w b t cs) (o : Obj) : Bx (w.alloc o) b t cs := (Below.heap_alloc w o b h.lt).trans h
theorem Bx.ge {w w' : World} {b : Nat} {t : TypeId} {cs : Array Value} (h : Bx w b t cs) (hg : Ge w w') : Bx w' b t cs := (hg.block b h.lt).trans h
theorem Bx.drew {w : World} {b : Nat} {t : TypeId} {cs : Array Value} (h : Bx w b t cs) : Bx w.drew b t cs := h

end Go.Proofs.YtmhibpmgnicolaaDoor
