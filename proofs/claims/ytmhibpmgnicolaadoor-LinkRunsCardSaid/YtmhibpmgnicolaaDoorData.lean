/-
  Messages: plain data, and how lists of them lie in memory.
-/
import Derived.Test.YtmhibpmgnicolaaDoorCheckT
import Derived.Test.YtmhibpmgnicolaaDoorCheckR
import Derived.Maps.AppendAt
import Derived.Deep.AppendLies
import Derived.Deep.RegionLaw
import Derived.Deep.OwnRows
import Derived.Laws.AppendOwnNone
import Derived.ArgAppend
import Derived.Lib.Hide
import Derived.WalkKit
namespace Go.Proofs.YtmhibpmgnicolaaDoor
open Go.RowKit

abbrev Rc := Int × ByteArray
structure Chg where
  n : Int
  p : Int
  t : Tm
  c : Int
  deriving DecidableEq
structure Ent where
  node : Int
  key : Int
  text : ByteArray
  n : Int
  deriving DecidableEq
structure Fnv where
  k : Int
  a : Int
  s : ByteArray
  deriving DecidableEq
structure Mov where
  f : Int
  t : Int
  k : Int
  a : Int
  fn : Fnv
  deriving DecidableEq
structure Nod where
  id : Int
  kind : Int
  ins : List Int
  fn : Fnv
  name : ByteArray
  cap : Int
  d : Int
  deriving DecidableEq
/-- a node as its cells lie: its inputs are a slice's value -/
structure Nrw where
  id : Int
  kind : Int
  ins : Value
  fn : Fnv
  name : ByteArray
  cap : Int
  d : Int
structure Msg where
  kind : Int
  ver : Int
  p1 : Int
  p2 : Int
  t : Tm
  recs : List Rc
  chs : List Chg
  drop : List Int
  put : List Nod
  moves : List Mov
  cut : Int
  ents : List Ent
  yes : Bool
  why : Int
  deriving DecidableEq

def encT (t : Tm) : List Value := [.int .i64 t.e, .int .i64 t.d, .int .i64 t.l0, .int .i64 t.l1, .int .i64 t.l2, .int .i64 t.l3]
def encR (r : Rc) : List Value := [.int .i64 r.1, .string r.2]
def encC (c : Chg) : List Value := [.int .i64 c.n, .int .i64 c.p, .int .i64 c.t.e, .int .i64 c.t.d, .int .i64 c.t.l0, .int .i64 c.t.l1, .int .i64 c.t.l2, .int .i64 c.t.l3, .int .i64 c.c]
def encE (e : Ent) : List Value := [.int .i64 e.node, .int .i64 e.key, .string e.text, .int .i64 e.n]
def encI (x : Int) : List Value := [.int .i64 x]
def encM (m : Mov) : List Value := [.int .i64 m.f, .int .i64 m.t, .int .i64 m.k, .int .i64 m.a, .int .i64 m.fn.k, .int .i64 m.fn.a, .string m.fn.s]
def encN (n : Nrw) : List Value := [.int .i64 n.id, .int .i64 n.kind, n.ins, .int .i64 n.fn.k, .int .i64 n.fn.a, .string n.fn.s, .string n.name, .int .i64 n.cap, .int .i64 n.d]

/-- an element type of this program -/
structure Elem (α : Type) where
  S : TypeId
  T : TypeId
  k : Nat
  bytes : Nat
  enc : α → List Value
  z : Value
  hS : Tryd.prog.underlying S = some (.slice T)
  info : (Tryd.prog.info? T).map (fun i => (i.zero, i.size, i.bytes)) = some (some z, k, bytes)
  hzs : z.cells.size = k
  hk : 0 < k
  hb : bytes ≤ 300
  hlen : ∀ x, (enc x).length = k

/-- the types whose blocks are never written again -/
def isD (t : TypeId) : Bool := [80, 101, 3, 84, 109, 104].contains t
def DataB (w : World) (b : Nat) : Prop := ∃ cs t mk, w.heap[b]? = some (.cells cs t mk) ∧ isD t = true
/-- a block that stays: it was there ahead of the call, or holds data -/
def Kept (B : Nat) (w : World) (b : Nat) : Prop := b < w.heap.size ∧ (b < B ∨ DataB w b)
theorem DataB.lt {w : World} {b : Nat} (h : DataB w b) : b < w.heap.size := by
  obtain ⟨cs, t, mk, h, _⟩ := h
  exact (Array.getElem?_eq_some_iff.1 h).1
/-- from w to w' what was there ahead, and all data, stay -/
structure Kp (B : Nat) (w w' : World) : Prop where
  size : w.heap.size ≤ w'.heap.size
  block : ∀ b, Kept B w b → w'.heap[b]? = w.heap[b]?
theorem Kept.kp {B : Nat} {w w' : World} {b : Nat} (h : Kept B w b) (k : Kp B w w') : Kept B w' b := by
  have e := k.block b h
  refine ⟨Nat.lt_of_lt_of_le h.1 k.size, ?_⟩
  rcases h.2 with h2 | ⟨cs, t, mk, h2, h3⟩
  · exact .inl h2
  · exact .inr ⟨cs, t, mk, e.trans h2, h3⟩
theorem Kp.refl (B : Nat) (w : World) : Kp B w w := ⟨Nat.le_refl _, fun _ _ => rfl⟩
theorem Kp.trans {B : Nat} {a b c : World} (h : Kp B a b) (k : Kp B b c) : Kp B a c :=
  ⟨Nat.le_trans h.size k.size, fun x hx => (k.block x (hx.kp h)).trans (h.block x hx)⟩
theorem Ge.kp {w w' : World} (h : Ge w w') (B : Nat) : Kp B w w' := ⟨h.size, fun b hb => h.block b hb.1⟩
theorem Kp.cell {B : Nat} {w w' : World} (k : Kp B w w') {b : Nat} (h : Kept B w b) (o : Nat) : w'.cell? ⟨b, o, none⟩ = w.cell? ⟨b, o, none⟩ :=
  World.cell?_of_block (a := ⟨b, o, none⟩) (k.block b h)

/-- v reads as these elements -/
def LAt {α : Type} (E : Elem α) (B : Nat) (w : World) (v : Value) (xs : List α) : Prop := ∃ (A : Option Addr) (cap : Nat), v = .slice A xs.length cap ∧ xs.length ≤ cap ∧
  (xs ≠ [] → ∃ b off, A = some ⟨b, off, none⟩ ∧ Kept B w b ∧ ∀ (j : Nat) (x : α), xs[j]? = some x → ∀ (i : Nat) (u : Value), (E.enc x)[i]? = some u → w.cell? ⟨b, off + j * E.k + i, none⟩ = some u)
section
variable {α : Type} {E : Elem α} {B : Nat} {w w' : World} {v : Value} {xs : List α}
theorem LAt.kp (h : LAt E B w v xs) (k : Kp B w w') : LAt E B w' v xs := by
  obtain ⟨A, cap, rfl, hle, hc⟩ := h
  refine ⟨A, cap, rfl, hle, fun hne => ?_⟩
  obtain ⟨b, off, rfl, hb, hcell⟩ := hc hne
  exact ⟨b, off, rfl, hb.kp k, fun j x hj i u hu => (k.cell hb _).trans (hcell j x hj i u hu)⟩
theorem LAt.ge (h : LAt E B w v xs) (hg : Ge w w') : LAt E B w' v xs := h.kp (hg.kp B)
theorem LAt.nil (E : Elem α) (B : Nat) (w : World) (A : Option Addr) (cap : Nat) : LAt E B w (.slice A 0 cap) [] := ⟨A, cap, rfl, Nat.zero_le _, fun h => absurd rfl h⟩

/-- a row of the call's own -/
def OwnL (E : Elem α) (w : World) (base : Nat) (v : Value) (xs : List α) : Prop := w.ownsRow base E.T E.k v xs.length (xs.flatMap E.enc)
theorem flat_len (E : Elem α) (xs : List α) : (xs.flatMap E.enc).length = xs.length * E.k := by
  induction xs with
  | nil => simp
  | cons x t ih => rw [List.flatMap_cons, List.length_append, ih, E.hlen, List.length_cons, Nat.add_mul]; omega
theorem flat_at (E : Elem α) : ∀ (xs : List α) (j : Nat) (x : α), xs[j]? = some x → ∀ (i : Nat) (u : Value), (E.enc x)[i]? = some u → (xs.flatMap E.enc)[j * E.k + i]? = some u
  | [], j, x, h => by simp at h
  | y :: t, 0, x, h => by
    intro i u hu
    simp at h
    subst h
    have hi : i < (E.enc y).length := (List.getElem?_eq_some_iff.1 hu).1
    rw [List.flatMap_cons, Nat.zero_mul, Nat.zero_add, List.getElem?_append_left hi]
    exact hu
  | y :: t, j + 1, x, h => by
    intro i u hu
    rw [List.getElem?_cons_succ] at h
    have := flat_at E t j x h i u hu
    rw [List.flatMap_cons, List.getElem?_append_right (by rw [E.hlen, Nat.add_mul]; omega), E.hlen, Nat.add_mul, Nat.one_mul, show j * E.k + E.k + i - E.k = j * E.k + i by omega]
    exact this
theorem OwnL.ge {base : Nat} (h : OwnL E w base v xs) (hg : Ge w w') : OwnL E w' base v xs := by
  refine ⟨h.1, ?_⟩
  rcases h.2 with h2 | ⟨g, cap, cur, hv, hb, hh, r⟩
  · exact Or.inl h2
  · exact Or.inr ⟨g, cap, cur, hv, hb, (hg.block g (Array.getElem?_eq_some_iff.1 hh).1).trans hh, r⟩
theorem ownCellsL {base : Nat} (h : OwnL E w base v xs) : ∃ (A : Option Addr) (cap : Nat), v = .slice A xs.length cap ∧ xs.length ≤ cap ∧
    (xs ≠ [] → ∃ g, A = some ⟨g, 0, none⟩ ∧ (∃ cs, w.heap[g]? = some (.cells cs E.T (0, 0))) ∧ base ≤ g ∧ ∀ (j : Nat) (x : α), xs[j]? = some x → ∀ (i : Nat) (u : Value), (E.enc x)[i]? = some u → w.cell? ⟨g, j * E.k + i, none⟩ = some u) := by
  obtain ⟨h1, h2⟩ := h
  rcases h2 with ⟨rfl, hn⟩ | ⟨g, cap, cur, rfl, hg, hh, hle, hm, hs, ht⟩
  · have : xs = [] := List.eq_nil_of_length_eq_zero hn
    subst this
    exact ⟨none, 0, rfl, Nat.le_refl _, fun h => absurd rfl h⟩
  · refine ⟨some ⟨g, 0, none⟩, cap, rfl, hle, fun _ => ⟨g, rfl, ⟨cur, hh⟩, hg, fun j x hj i u hu => ?_⟩⟩
    have hq := flat_at E xs j x hj i u hu
    have hk : j * E.k + i < xs.length * E.k := by
      have := (List.getElem?_eq_some_iff.1 hq).1
      rwa [flat_len] at this
    rw [← ht, List.getElem?_take, if_pos hk, Array.getElem?_toList] at hq
    simp only [World.cell?, hh]
    simpa using hq
theorem OwnL.lat {base : Nat} (h : OwnL E w base v xs) (hd : isD E.T = true) (B : Nat) : LAt E B w v xs := by
  obtain ⟨A, cap, rfl, hle, hc⟩ := ownCellsL h
  refine ⟨A, cap, rfl, hle, fun hne => ?_⟩
  obtain ⟨g, rfl, ⟨cs, hh⟩, _, hcell⟩ := hc hne
  have hD : DataB w g := ⟨cs, E.T, (0, 0), hh, hd⟩
  exact ⟨g, 0, rfl, ⟨hD.lt, .inr hD⟩, fun j x hj i u hu => by rw [Nat.zero_add]; exact hcell j x hj i u hu⟩
theorem OwnL.form {base : Nat} (h : OwnL E w base v xs) : ∃ A cap, v = .slice A xs.length cap := by
  obtain ⟨A, cap, rfl, _⟩ := ownCellsL h
  exact ⟨A, cap, rfl⟩
end
theorem addr_add (b off j : Nat) : (⟨b, off, none⟩ : Addr).add j = ⟨b, off + j, none⟩ := by unfold Addr.add; split <;> simp_all

/-- what an append reads: cells that lie at the source -/
structure SrcAt {α : Type} (E : Elem α) (w : World) (v : Value) (xs : List α) : Prop where
  form : ∃ (A : Option Addr) (cap : Nat), v = .slice A xs.length cap ∧ (xs ≠ [] → ∃ b off, A = some ⟨b, off, none⟩ ∧ ∀ (j : Nat) (x : α), xs[j]? = some x → ∀ (i : Nat) (u : Value), (E.enc x)[i]? = some u → w.cell? ⟨b, off + j * E.k + i, none⟩ = some u)
  one : ∀ x ∈ xs, ∀ u ∈ E.enc x, u.oneCell' = true
theorem SrcAt.ge {α : Type} {E : Elem α} {w w' : World} {v : Value} {xs : List α} (h : SrcAt E w v xs) (hg : Ge w w') : SrcAt E w' v xs := by
  obtain ⟨⟨A, cap, rfl, hc⟩, h1⟩ := h
  refine ⟨⟨A, cap, rfl, fun hne => ?_⟩, h1⟩
  obtain ⟨b, off, rfl, hcell⟩ := hc hne
  refine ⟨b, off, rfl, fun j x hj i u hu => ?_⟩
  have := hcell j x hj i u hu
  exact (hg.cell (p := ⟨b, off + j * E.k + i, none⟩) (cell_lt this)).trans this
theorem LAt.src {α : Type} {E : Elem α} {B : Nat} {w : World} {v : Value} {xs : List α} (h : LAt E B w v xs) (h1 : ∀ x ∈ xs, ∀ u ∈ E.enc x, u.oneCell' = true) : SrcAt E w v xs := by
  obtain ⟨A, cap, rfl, _, hc⟩ := h
  refine ⟨⟨A, cap, rfl, fun hne => ?_⟩, h1⟩
  obtain ⟨b, off, rfl, _, hcell⟩ := hc hne
  exact ⟨b, off, rfl, hcell⟩
theorem SrcAt.flat {α : Type} {E : Elem α} {w : World} {A : Option Addr} {n cap : Nat} {xs : List α} (h : SrcAt E w (.slice A n cap) xs) (ad : Addr) (hA : A = some ad) :
    ∀ j u, (xs.flatMap E.enc)[j]? = some u → w.cell? (ad.add j) = some u := by
  intro j u hu
  obtain ⟨A0, cap0, e, hc⟩ := h.form
  cases e
  have hj : j < xs.length * E.k := by
    have := (List.getElem?_eq_some_iff.1 hu).1
    rwa [flat_len] at this
  obtain ⟨b, off, e, hcell⟩ := hc (by intro e; subst e; simp at hj)
  rw [hA] at e
  cases e
  have hdm := Nat.div_add_mod j E.k
  have hml := Nat.mod_lt j E.hk
  have hq : j / E.k < xs.length := Nat.div_lt_of_lt_mul (by rw [Nat.mul_comm]; exact hj)
  obtain ⟨x, hx⟩ : ∃ x, xs[j / E.k]? = some x := ⟨_, List.getElem?_eq_getElem hq⟩
  obtain ⟨u', hu'⟩ : ∃ u', (E.enc x)[j % E.k]? = some u' := ⟨_, List.getElem?_eq_getElem (by rw [E.hlen]; exact hml)⟩
  have e1 := flat_at E xs _ x hx _ _ hu'
  rw [show j / E.k * E.k + j % E.k = j by rw [Nat.mul_comm]; exact hdm, hu] at e1
  cases e1
  have e2 := hcell _ x hx _ _ hu'
  rw [addr_add]
  rw [Nat.add_assoc, show j / E.k * E.k + j % E.k = j by rw [Nat.mul_comm]; exact hdm] at e2
  exact e2

/-- 'append(v, s...)': v of the call's own, s whatever it reads -/
theorem run_appL {α : Type} (E : Elem α) {w : World} {base : Nat} {v s : Value} {xs ys : List α} (ty : TypeId) (hv : OwnL E w base v xs) (hs : SrcAt E w s ys) (hlen : xs.length + ys.length ≤ 100000000000) (hbase : base ≤ w.heap.size) :
    ∃ v' w', (Builtin.append_ #[E.S, E.S] ty #[v, s]).run Tryd.prog w = .ok v' w' ∧ OwnL E w' base v' (xs ++ ys) ∧ w.grownBy w' v.ownBlock := by
  obtain ⟨i0, hi, hz0, hz1, hz2⟩ := info_parts E.info
  obtain ⟨A, cap, rfl, hc⟩ := hs.form
  cases A with
  | none =>
    have hy : ys = [] := by
      rcases ys with _ | ⟨y, ys⟩
      · rfl
      · obtain ⟨b, off, h, _⟩ := hc (by simp)
        cases h
    subst hy
    refine ⟨v, w, ?_, by simpa using hv, World.grownBy.refl w _⟩
    rcases hv.2 with ⟨rfl, _⟩ | ⟨g, cap', cur, rfl, _, _, hnc, _⟩
    · simp [Builtin.append_, run_underlying E.hS, sizeOf, typeInfo, hi, Builtin.lenOf, Builtin.firstCells]
    · simp [Builtin.append_, run_underlying E.hS, sizeOf, typeInfo, hi, Builtin.lenOf, Builtin.firstCells, hnc, storeCells]
  | some ad =>
    have hb1 := E.hb
    obtain ⟨v', w', hrun, h2, h3, _, h5⟩ := run_append_own_at (P := Tryd.prog) w base E.S ty E.T i0 _ E.k E.bytes E.hS hi hz0 hz1 hz2 E.hzs E.hk v xs.length _ hv ad ys.length cap (ys.flatMap E.enc) (flat_len E ys) (hs.flat ad rfl)
      (fun u hu => by
        obtain ⟨x, hx, hu⟩ := List.mem_flatMap.1 hu
        exact hs.one x hx u hu) (by simp only [maxLen]; omega) (by
          have h1 : (xs.length + ys.length) * E.bytes ≤ 100000000000 * 300 := Nat.mul_le_mul hlen hb1
          omega) hbase
    refine ⟨v', w', hrun, ?_, h3⟩
    unfold OwnL
    rw [List.length_append, List.flatMap_append]
    exact h2

theorem wpList_appL {α : Type} (E : Elem α) {w : World} {ops : Array Oper} {rest : List Oper} {o : Oper} {a : Act} {Q : Exit → Act → World → Prop} (hgd : o.guard = none) (s x : Operand)
    (ho : o.op = .call { callee := .builtin .append, args := #[s, x], argTypes := #[E.S, E.S] }) {base : Nat} {v sv : Value} {xs ys : List α} (hs : a.eval s = v) (hx : a.eval x = sv)
    (hv : OwnL E w base v xs) (hy : SrcAt E w sv ys) (hlen : xs.length + ys.length ≤ 100000000000) (hbase : base ≤ w.heap.size)
    (h : ∀ v' w', OwnL E w' base v' (xs ++ ys) → w.grownBy w' v.ownBlock → wpList Tryd.prog ops Q rest (a.put o.dst v') w') : wpList Tryd.prog ops Q (o :: rest) a w := by
  obtain ⟨v', w', hrun, h2, h3⟩ := run_appL E o.type hv hy hlen hbase
  refine wpList_plain hgd fun K hK => ?_
  unfold Oper.wp execOp
  simp only [ho, resolve, invoke, builtin, Sem.run_bind, Sem.run_pure, Result.andThen_ok, List.map_toArray, List.map_cons, List.map_nil, hs, hx, hrun]
  exact hK _ _ (h v' w' h2 h3)

/-- an append onto a row of the call's own leaves what was there ahead of the call -/
theorem ge_own {w wr w1 : World} {base : Nat} {e : TypeId} {size n : Nat} {v : Value} {xs : List Value} (hge : Ge w wr) (hv : wr.ownsRow base e size v n xs) (hb : w.heap.size ≤ base) (hg : wr.grownBy w1 v.ownBlock) : Ge w w1 := by
  refine Below.grown hge hg hge.size (fun k hk => ?_)
  have := (hv.lt k hk).1
  omega
end Go.Proofs.YtmhibpmgnicolaaDoor
