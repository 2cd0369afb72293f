/-
  Nodes and messages in memory.
-/
import Derived.Test.YtmhibpmgnicolaaDoorLists
import Derived.Test.YtmhibpmgnicolaaDoorClones
namespace Go.Proofs.YtmhibpmgnicolaaDoor
open Go.RowKit

/-- a node's cells, and its inputs -/
def NodAt (B : Nat) (w : World) (r : Nrw) (n : Nod) : Prop := r.id = n.id ∧ r.kind = n.kind ∧ r.fn = n.fn ∧ r.name = n.name ∧ r.cap = n.cap ∧ r.d = n.d ∧ LAt eI B w r.ins n.ins
theorem NodAt.kp {B : Nat} {w w' : World} {r : Nrw} {n : Nod} (h : NodAt B w r n) (k : Kp B w w') : NodAt B w' r n := ⟨h.1, h.2.1, h.2.2.1, h.2.2.2.1, h.2.2.2.2.1, h.2.2.2.2.2.1, h.2.2.2.2.2.2.kp k⟩
def PutAt (B : Nat) (w : World) (v : Value) (ns : List Nod) : Prop := ∃ rs : List Nrw, LAt eN B w v rs ∧ rs.length = ns.length ∧ ∀ (j : Nat) (r : Nrw) (n : Nod), rs[j]? = some r → ns[j]? = some n → NodAt B w r n
theorem PutAt.kp {B : Nat} {w w' : World} {v : Value} {ns : List Nod} (h : PutAt B w v ns) (k : Kp B w w') : PutAt B w' v ns := by
  obtain ⟨rs, h1, h2, h3⟩ := h
  exact ⟨rs, h1.kp k, h2, fun j r n a b => (h3 j r n a b).kp k⟩
theorem PutAt.form {B : Nat} {w : World} {v : Value} {ns : List Nod} (h : PutAt B w v ns) : ∃ A cap, v = .slice A ns.length cap := by
  obtain ⟨rs, ⟨A, cap, rfl, _⟩, h2, _⟩ := h
  exact ⟨A, cap, by rw [h2]⟩
theorem LAt.form {α : Type} {E : Elem α} {B : Nat} {w : World} {v : Value} {xs : List α} (h : LAt E B w v xs) : ∃ A cap, v = .slice A xs.length cap := by
  obtain ⟨A, cap, rfl, _⟩ := h
  exact ⟨A, cap, rfl⟩

/-- a message's six slices -/
structure Sls where
  r : Value
  c : Value
  d : Value
  p : Value
  m : Value
  e : Value
def encG (m : Msg) (s : Sls) : List Value := [.int .i64 m.kind, .int .i64 m.ver, .int .i64 m.p1, .int .i64 m.p2, .int .i64 m.t.e, .int .i64 m.t.d, .int .i64 m.t.l0, .int .i64 m.t.l1, .int .i64 m.t.l2, .int .i64 m.t.l3,
  s.r, s.c, s.d, s.p, s.m, .int .i64 m.cut, s.e, .bool m.yes, .int .i64 m.why]
structure SlAt (B : Nat) (w : World) (s : Sls) (m : Msg) : Prop where
  r : LAt eR B w s.r m.recs
  c : LAt eC B w s.c m.chs
  d : LAt eI B w s.d m.drop
  p : PutAt B w s.p m.put
  mv : LAt eM B w s.m m.moves
  e : LAt eE B w s.e m.ents
theorem SlAt.kp {B : Nat} {w w' : World} {s : Sls} {m : Msg} (h : SlAt B w s m) (k : Kp B w w') : SlAt B w' s m := ⟨h.r.kp k, h.c.kp k, h.d.kp k, h.p.kp k, h.mv.kp k, h.e.kp k⟩
theorem SlAt.ge {B : Nat} {w w' : World} {s : Sls} {m : Msg} (h : SlAt B w s m) (k : Ge w w') : SlAt B w' s m := h.kp (k.kp B)
/-- not too long for anything -/
structure Small (m : Msg) : Prop where
  r : m.recs.length ≤ 1000000
  c : m.chs.length ≤ 1000000
  d : m.drop.length ≤ 1000000
  p : m.put.length ≤ 1000000
  n : ∀ n ∈ m.put, n.ins.length ≤ 1000000
  mv : m.moves.length ≤ 1000000
  e : m.ents.length ≤ 1000000

/-- a box's cells in every world that has grown out of it -/
theorem bx_all {W : World} {b : Nat} {t : TypeId} {cs : Array Value} (h : Bx W b t cs) : Hid (∀ w', Ge W w' → ∀ k, w'.cell? ⟨b, k, none⟩ = cs[k]?) := Lib.hid fun _ hg k => (h.ge hg).cell k
end Go.Proofs.YtmhibpmgnicolaaDoor
