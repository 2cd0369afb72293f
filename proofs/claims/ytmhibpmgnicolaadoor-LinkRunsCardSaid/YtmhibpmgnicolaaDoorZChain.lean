/-
  A link's row is cloned.
  A region that draws its order, where some operations ('the chain') turn memory one after the other and all others only let it grow: verified once, in the order of the text.
  R: what every operation keeps (a preorder that holds of growth). The chain's operations are shown from a state that they hand on; all others from any world that R allows.
  Steps of a chained drawn region: a whole message is loaded, laid in a row of one, appended.
  A call in a chained drawn region; a whole load under a guard.
  Whole messages in a round of a range over a function, and a store that tells its new world by its blocks alone; a range over a function in two laws (its opening and closing, one round).
  A range over a link's messages: the iterator's contract (each message comes with the fact that it lies in memory), and the statement over it.
-/
import Derived.Test.YtmhibpmgnicolaaDoorZNet
import Derived.Test.YtmhibpmgnicolaaDoorDraw
import Derived.Great.BuildSlice
import Derived.RangeFuncNested
import Derived.RangeFuncBound
import Derived.RangeFuncCalls
import Derived.RangeFuncLeaves
import Derived.Shelf.Abstract
import Derived.Shelf.RegionOpen
import Derived.WalkKit
import Derived.OwnWalkIn
import Derived.BigFrameIn
import Derived.TacticsInMore
import Derived.LoopNIn
import Derived.LoopIn
import Derived.RangeFuncBox
import Derived.Test.YtmhibpmgnicolaaDoorClone
namespace Go.Proofs.YtmhibpmgnicolaaDoor
open Go.RowKit

theorem pick_lt {α : Type} [Inhabited α] {n : Nat} {Q : Nat → α → Prop} (h : ∀ i, i < n → ∃ t, Q i t) : ∃ T : Nat → α, ∀ i, i < n → Q i (T i) := by
  classical
  refine ⟨fun i => if h' : i < n then Classical.choose (h i h') else default, fun i hi => ?_⟩
  simp only [hi, dif_pos]
  exact Classical.choose_spec (h i hi)
instance : Inhabited Sls := ⟨nilS⟩
def rawL (l : List Msg) (T : Nat → Sls) : List (Cs 19) := (List.range l.length).map fun j => ⟨encG (l[j]?.getD mzero) (T j), encG_len _ _⟩
theorem rawL_len (l : List Msg) (T : Nat → Sls) : (rawL l T).length = l.length := by simp [rawL]
theorem rawL_get {l : List Msg} {T : Nat → Sls} {j : Nat} {m : Msg} (h : l[j]? = some m) : (rawL l T)[j]? = some ⟨encG m (T j), encG_len _ _⟩ := by
  have hj := (List.getElem?_eq_some_iff.1 h).1
  unfold rawL
  rw [List.getElem?_map, List.getElem?_range hj]
  simp [h]
theorem rawL_of {l : List Msg} {T : Nat → Sls} {j : Nat} {x : Cs 19} (h : (rawL l T)[j]? = some x) : ∃ m, l[j]? = some m ∧ x = ⟨encG m (T j), encG_len _ _⟩ := by
  have hj := (List.getElem?_eq_some_iff.1 h).1
  rw [rawL_len] at hj
  obtain ⟨m, hm⟩ : ∃ m, l[j]? = some m := ⟨_, List.getElem?_eq_getElem hj⟩
  rw [rawL_get hm] at h
  exact ⟨m, hm, (Option.some.inj h).symm⟩
theorem row_src {B : Nat} {w : World} {v : Value} {l : List Msg} {G : Nat → Prop} (h : RowAt B w v l G) : ∃ T : Nat → Sls, (∀ (j : Nat) (m : Msg), l[j]? = some m → SlAt B w (T j) m) ∧ SrcAt eMw w v (rawL l T) := by
  obtain ⟨A, cap, rfl, hle, h0, hc⟩ := h
  rcases Nat.eq_zero_or_pos l.length with hl | hl
  · obtain rfl : l = [] := List.eq_nil_of_length_eq_zero hl
    exact ⟨fun _ => nilS, fun j m hj => by simp at hj, ⟨A, cap, rfl, fun hn => absurd rfl hn⟩, fun x hx => by cases hx⟩
  obtain ⟨g, off, cs, rfl, hg, hx, hs, hm⟩ := hc (by omega)
  obtain ⟨T, hT⟩ := pick_lt (α := Sls) (n := l.length) (Q := fun j s => ∀ m, l[j]? = some m → SlAt B w s m ∧ ∀ (i : Nat) (u : Value), (encG m s)[i]? = some u → cs[off + j * 19 + i]? = some u) (fun j hj => by
    obtain ⟨s, h1, h2⟩ := hm j _ (List.getElem?_eq_getElem hj)
    exact ⟨s, fun m hm' => by rw [List.getElem?_eq_getElem hj] at hm'; cases hm'; exact ⟨h1, h2⟩⟩)
  refine ⟨T, fun j m hj => (hT j (List.getElem?_eq_some_iff.1 hj).1 m hj).1, ⟨some ⟨g, off, none⟩, cap, by rw [rawL_len], fun _ => ⟨g, off, rfl, fun j x hj i u hu => ?_⟩⟩, fun x hx u hu => ?_⟩
  · obtain ⟨m, hm', rfl⟩ := rawL_of hj
    have := (hT j (List.getElem?_eq_some_iff.1 hm').1 m hm').2 i u hu
    show w.cell? ⟨g, off + j * 19 + i, none⟩ = some u
    rw [hx.cell]
    exact this
  · obtain ⟨j, hj⟩ := List.mem_iff_getElem?.1 hx
    obtain ⟨m, hm', rfl⟩ := rawL_of hj
    exact encG_one (hT j (List.getElem?_eq_some_iff.1 hm').1 m hm').1 u hu
theorem own_row {B : Nat} {w' : World} {base : Nat} {v' : Value} {l : List Msg} {T : Nat → Sls} (ho : OwnL eMw w' base v' (rawL l T)) (hT : ∀ (j : Nat) (m : Msg), l[j]? = some m → SlAt B w' (T j) m) :
    RowAt B w' v' l (fun b => base ≤ b ∧ b < w'.heap.size) ∧ ∃ A n c, v' = .slice A n c := by
  rcases ho.2 with ⟨rfl, hn⟩ | ⟨g, cap, cur, hv, hb, hh, hle, hm, hsz, htk⟩
  · rw [rawL_len] at hn
    obtain rfl : l = [] := List.eq_nil_of_length_eq_zero hn
    exact ⟨RowAt.nil _ _ _, _, _, _, rfl⟩
  · rw [rawL_len] at hv hle htk
    have hx : Bx w' g 45 cur := hh
    refine ⟨⟨some ⟨g, 0, none⟩, cap, hv, hle, fun _ => .inr ⟨_, rfl⟩, fun _ => ⟨g, 0, cur, rfl, ⟨hb, hx.lt⟩, hx, by have : cur.size = cap * 19 := hsz; omega, fun j m hj => ⟨T j, hT j m hj, fun i u hu => ?_⟩⟩⟩, _, _, _, hv⟩
    have h1 := flat_at eMw (rawL l T) j _ (rawL_get hj) i u hu
    have h2 : j * 19 + i < l.length * 19 := by
      have := (List.getElem?_eq_some_iff.1 h1).1
      rw [flat_len, rawL_len] at this
      exact this
    have h3 : (cur.toList.take (l.length * 19))[j * 19 + i]? = some u := by
      have e : cur.toList.take (l.length * 19) = (rawL l T).flatMap eMw.enc := htk
      rw [e]
      exact h1
    rw [List.getElem?_take, if_pos h2, Array.getElem?_toList] at h3
    rwa [Nat.zero_add]
theorem clone_row {B : Nat} {w : World} {v : Value} {l : List Msg} {G : Nat → Prop} (h : RowAt B w v l G) (hl : l.length ≤ 64) :
    Calls Tryd.prog 30 #[v] w fun e w' => ∃ v', e = .returned v' ∧ RowAt B w' v' l (fun b => w.heap.size ≤ b ∧ b < w'.heap.size) ∧ (∃ A n c, v' = .slice A n c) ∧ Ge w w' := by
  obtain ⟨T, hT, hs⟩ := row_src h
  refine (cloneMw hs (by rw [rawL_len]; omega)).mono ?_
  rintro e w' ⟨v', rfl, ho, g⟩
  obtain ⟨h1, h2⟩ := own_row (B := B) ho (fun j m hj => (hT j m hj).ge g)
  exact ⟨v', rfl, h1, h2, g⟩

/-- a net's links, as cells -/
theorem rows_src {w : World} {q kk : Nat} {C : Array Value} (h : Bx w q 87 C) (hk : kk * 3 ≤ C.size) (hone : ∀ i u, i < kk * 3 → C[i]? = some u → u.oneCell' = true) (cap : Nat) :
    ∃ xs : List (Cs 3), xs.length = kk ∧ SrcAt eRw w (.slice (some ⟨q, 0, none⟩) kk cap) xs ∧ ∀ i, i < kk * 3 → (xs.flatMap eRw.enc)[i]? = C[i]? := by
  obtain ⟨xs, hxs⟩ : ∃ xs : List (Cs 3), xs = (List.range kk).map fun j => ⟨[C[j * 3]?.getD undef, C[j * 3 + 1]?.getD undef, C[j * 3 + 2]?.getD undef], rfl⟩ := ⟨_, rfl⟩
  have hlen : xs.length = kk := by rw [hxs]; simp
  have hget : ∀ (j : Nat) (x : Cs 3), xs[j]? = some x → j < kk ∧ ∀ (i : Nat) (u : Value), x.1[i]? = some u → i < 3 ∧ C[j * 3 + i]? = some u := by
    intro j x hj
    have hjk : j < kk := by rw [← hlen]; exact (List.getElem?_eq_some_iff.1 hj).1
    rw [hxs, List.getElem?_map, List.getElem?_range hjk] at hj
    simp only [Option.map_some] at hj
    cases hj
    have g : ∀ t, t < 3 → C[j * 3 + t]? = some (C[j * 3 + t]?.getD undef) := fun t ht => by
      rw [Array.getElem?_eq_getElem (show j * 3 + t < C.size by omega)]
      rfl
    refine ⟨hjk, fun i u hu => ?_⟩
    match i with
    | 0 => simp at hu; subst hu; exact ⟨by omega, g 0 (by omega)⟩
    | 1 => simp at hu; subst hu; exact ⟨by omega, g 1 (by omega)⟩
    | 2 => simp at hu; subst hu; exact ⟨by omega, g 2 (by omega)⟩
    | n + 3 => simp at hu
  refine ⟨xs, hlen, ⟨⟨some ⟨q, 0, none⟩, cap, by rw [hlen], fun _ => ⟨q, 0, rfl, fun j x hj i u hu => ?_⟩⟩, fun x hx u hu => ?_⟩, fun i hi => ?_⟩
  · obtain ⟨hjk, hh⟩ := hget j x hj
    obtain ⟨h1, h2⟩ := hh i u hu
    rw [h.cell]
    show C[0 + j * 3 + i]? = some u
    rw [Nat.zero_add]
    exact h2
  · obtain ⟨j, hj⟩ := List.mem_iff_getElem?.1 hx
    obtain ⟨i, hi⟩ := List.mem_iff_getElem?.1 hu
    obtain ⟨hjk, hh⟩ := hget j x hj
    obtain ⟨h1, h2⟩ := hh i u hi
    exact hone _ _ (by omega) h2
  · have hj : i / 3 < kk := Nat.div_lt_of_lt_mul (by omega)
    obtain ⟨x, hx⟩ : ∃ x, xs[i / 3]? = some x := ⟨_, List.getElem?_eq_getElem (by omega)⟩
    obtain ⟨u, hu⟩ : ∃ u, x.1[i % 3]? = some u := ⟨_, List.getElem?_eq_getElem (by rw [x.2]; exact Nat.mod_lt _ (by omega))⟩
    have h1 := flat_at eRw xs (i / 3) x hx (i % 3) u hu
    have h2 := ((hget _ _ hx).2 _ _ hu).2
    have e : i / 3 * 3 + i % 3 = i := by omega
    have e' : i / 3 * eRw.k + i % 3 = i := e
    rw [e'] at h1
    rw [e] at h2
    rw [h1, h2]
end Go.Proofs.YtmhibpmgnicolaaDoor

namespace Go.Proofs.YtmhibpmgnicolaaDoor.Dr
open Go.RowKit

/-- k comes up ahead of o, by n steps or fewer -/
def reach (ops : Array Oper) : Nat → Oper → Nat → Bool
  | 0, o, k => befB o k
  | n + 1, o, k => befB o k || (List.range ops.size).any fun j => befB o j && match ops[j]? with
    | none => false
    | some p => reach ops n p k
/-- the chain's operations come up one after the other -/
def chainB (ops : Array Oper) (C : List Nat) : Bool := C.all fun i => match ops[i]? with
  | none => false
  | some o => C.all fun k => !decide (k < i) || reach ops 3 o k

theorem reach_listed {ops : Array Oper} {listed : Array Bool} (hcl : ∀ (q : Nat) (p : Oper), listed.getD q false = true → ops[q]? = some p → ∀ k, befB p k = true → listed.getD k false = true) :
    ∀ (n : Nat) (o : Oper) (k : Nat), (∀ k, befB o k = true → listed.getD k false = true) → reach ops n o k = true → listed.getD k false = true
  | 0, o, k, h, hr => h k hr
  | n + 1, o, k, h, hr => by
    rcases Bool.or_eq_true_iff.1 hr with h1 | h1
    · exact h k h1
    · obtain ⟨j, _, h4⟩ := List.any_eq_true.1 h1
      rw [Bool.and_eq_true] at h4
      cases hp : ops[j]? with
      | none => rw [hp] at h4; exact absurd h4.2 (by simp)
      | some p =>
        rw [hp] at h4
        exact reach_listed hcl n p k (fun k' hk' => hcl j p (h j h4.1) hp k' hk') h4.2

structure Rel (R : World → World → Prop) : Prop where
  trans : ∀ a b c, R a b → R b c → R a c
  ge : ∀ a b, Ge a b → R a b

def Slot.monoR (R : World → World → Prop) (s : Slot) : Prop := match s with | .inl _ => True | .inr T => ∀ v w w', R w w' → T v w → T v w'
theorem Slot.fact_monoR {R : World → World → Prop} {s : Slot} (hm : s.monoR R) {v : Value} {w w' : World} (hw : R w w') (h : s.fact v w) : s.fact v w' := by
  cases s with
  | inl v' => trivial
  | inr T => exact hm v w w' hw h

section
variable (P : Program) (ops : Array Oper) (K : Act → World → Prop) (w0 : World) (R : World → World → Prop) (C : List Nat)

def wpC : Nat → List Oper → ((Nat → Value) → Act) → (Nat → (Nat → Value) → World → Prop) → ((Nat → Value) → World → Prop) → Prop
  | j, [], fr, F, S => ∀ u w, R w0 w → (∀ k, k < j → F k u w) → S u w → K (fr u) w
  | j, o :: rest, fr, F, S => if C.contains j then
      ∃ (s : Slot) (T : Value → World → Prop), s.monoR R ∧ (∀ v w w', Ge w w' → T v w → T v w') ∧
        (∀ u w, R w0 w → (∀ k, befB o k = true → F k u w) → S u w →
          if Region.wanted o (yielded ops (fr u).tmps) then upT P (fun v w' => R w w' ∧ s.ok v w' ∧ T v w') ((execOp (fr u).eval o).run P w) else s.ok undef w ∧ T undef w) ∧
        wpC (j + 1) rest (fun u => (fr u).put o.dst (s.fill (u j))) (fun k u w => if k = j then s.fact (u j) w else F k u w) (fun u w => T (u j) w)
    else
      ∃ s : Slot, s.monoR R ∧
        (∀ u w, R w0 w → (∀ k, befB o k = true → F k u w) →
          if Region.wanted o (yielded ops (fr u).tmps) then upT P (fun v w' => Ge w w' ∧ s.ok v w') ((execOp (fr u).eval o).run P w) else s.ok undef w) ∧
        wpC (j + 1) rest (fun u => (fr u).put o.dst (s.fill (u j))) (fun k u w => if k = j then s.fact (u j) w else F k u w) S

/-- the chain's state when the first j operations of the text are behind -/
def stt (S0 : World → Prop) (T : Nat → Value → World → Prop) : Nat → (Nat → Value) → World → Prop
  | 0 => fun _ => S0
  | j + 1 => fun u => if C.contains j then T j (u j) else stt S0 T j u
end

section
variable {P : Program} {ops : Array Oper} {Q : Exit → Act → World → Prop} {K : Act → World → Prop} {w0 : World} {R : World → World → Prop} {C : List Nat}

theorem wpC_det {j : Nat} {o : Oper} {rest : List Oper} {fr : (Nat → Value) → Act} {F : Nat → (Nat → Value) → World → Prop} {S : (Nat → Value) → World → Prop} (v : Value) (hc : C.contains j = false)
    (h1 : ∀ u w, R w0 w → (∀ k, befB o k = true → F k u w) →
        if Region.wanted o (yielded ops (fr u).tmps) then upT P (fun v' w' => Ge w w' ∧ v' = v) ((execOp (fr u).eval o).run P w) else undef = v)
    (h2 : wpC P ops K w0 R C (j + 1) rest (fun u => (fr u).put o.dst v) (fun k u w => if k = j then True else F k u w) S) :
    wpC P ops K w0 R C j (o :: rest) fr F S := by
  unfold wpC
  rw [hc]
  exact ⟨.inl v, trivial, h1, h2⟩
theorem wpC_non {j : Nat} {o : Oper} {rest : List Oper} {fr : (Nat → Value) → Act} {F : Nat → (Nat → Value) → World → Prop} {S : (Nat → Value) → World → Prop} (T : Value → World → Prop) (hc : C.contains j = false)
    (hm : ∀ v w w', R w w' → T v w → T v w')
    (h1 : ∀ u w, R w0 w → (∀ k, befB o k = true → F k u w) →
        if Region.wanted o (yielded ops (fr u).tmps) then upT P (fun v' w' => Ge w w' ∧ T v' w') ((execOp (fr u).eval o).run P w) else T undef w)
    (h2 : wpC P ops K w0 R C (j + 1) rest (fun u => (fr u).put o.dst (u j)) (fun k u w => if k = j then T (u j) w else F k u w) S) :
    wpC P ops K w0 R C j (o :: rest) fr F S := by
  unfold wpC
  rw [hc]
  exact ⟨.inr T, hm, h1, h2⟩
/-- an operation of the chain that yields what is known ahead -/
theorem wpC_chain {j : Nat} {o : Oper} {rest : List Oper} {fr : (Nat → Value) → Act} {F : Nat → (Nat → Value) → World → Prop} {S : (Nat → Value) → World → Prop} (v : Value) (T : World → Prop) (hc : C.contains j = true)
    (hT : ∀ w w', Ge w w' → T w → T w')
    (h1 : ∀ u w, R w0 w → (∀ k, befB o k = true → F k u w) → S u w →
        if Region.wanted o (yielded ops (fr u).tmps) then upT P (fun v' w' => R w w' ∧ v' = v ∧ T w') ((execOp (fr u).eval o).run P w) else undef = v ∧ T w)
    (h2 : wpC P ops K w0 R C (j + 1) rest (fun u => (fr u).put o.dst v) (fun k u w => if k = j then True else F k u w) (fun _ w => T w)) :
    wpC P ops K w0 R C j (o :: rest) fr F S := by
  unfold wpC
  rw [if_pos hc]
  exact ⟨.inl v, fun _ => T, trivial, fun _ => hT, h1, h2⟩
/-- an operation of the chain whose value the state knows -/
theorem wpC_chainV {j : Nat} {o : Oper} {rest : List Oper} {fr : (Nat → Value) → Act} {F : Nat → (Nat → Value) → World → Prop} {S : (Nat → Value) → World → Prop} (T : Value → World → Prop) (hc : C.contains j = true)
    (hT : ∀ v w w', Ge w w' → T v w → T v w')
    (h1 : ∀ u w, R w0 w → (∀ k, befB o k = true → F k u w) → S u w →
        if Region.wanted o (yielded ops (fr u).tmps) then upT P (fun v' w' => R w w' ∧ T v' w') ((execOp (fr u).eval o).run P w) else T undef w)
    (h2 : wpC P ops K w0 R C (j + 1) rest (fun u => (fr u).put o.dst (u j)) (fun k u w => if k = j then True else F k u w) (fun u w => T (u j) w)) :
    wpC P ops K w0 R C j (o :: rest) fr F S := by
  unfold wpC
  rw [if_pos hc]
  refine ⟨.inr fun _ _ => True, T, fun _ _ _ _ _ => trivial, hT, fun u w a b c => ?_, h2⟩
  have := h1 u w a b c
  split
  · rename_i hw
    rw [if_pos hw] at this
    revert this
    generalize (execOp (fr u).eval o).run P w = r
    intro this
    cases r with
    | ok n w' =>
      cases n <;> simp only [upT] at this ⊢
      case value v => exact ⟨this.1, trivial, this.2⟩
      case skip => exact ⟨this.1, trivial, this.2⟩
      case enter f args => exact this.mono fun e w'' ⟨v, he, hr⟩ => ⟨v, he, hr.1, trivial, hr.2⟩
    | halt x w' => exact this
  · rename_i hw
    rw [if_neg hw] at this
    exact ⟨trivial, this⟩

theorem stt_ge {S0 : World → Prop} {T : Nat → Value → World → Prop} (h0 : ∀ w w', Ge w w' → S0 w → S0 w') (m : Nat) (hT : ∀ j, j < m → ∀ v w w', Ge w w' → T j v w → T j v w') : ∀ (j : Nat), j ≤ m → ∀ u w w', Ge w w' → stt C S0 T j u w → stt C S0 T j u w'
  | 0, _, _, w, w', hg, h => h0 w w' hg h
  | j + 1, hj, u, w, w', hg, h => by
    unfold stt at h ⊢
    split
    · rename_i hc
      rw [if_pos hc] at h
      exact hT j (by omega) _ _ _ hg h
    · rename_i hc
      rw [if_neg hc] at h
      exact stt_ge h0 m hT j (by omega) u w w' hg h
theorem stt_const {S0 : World → Prop} {T : Nat → Value → World → Prop} {c : Nat} {u : Nat → Value} : ∀ (d : Nat), (∀ k, c ≤ k → k < c + d → C.contains k = false) → stt C S0 T (c + d) u = stt C S0 T c u
  | 0, _ => rfl
  | d + 1, h => by
    rw [← Nat.add_assoc]
    show (if C.contains (c + d) then _ else _) = _
    rw [h (c + d) (by omega) (by omega)]
    exact stt_const d (fun k h1 h2 => h k h1 (by omega))
theorem stt_congr {S0 : World → Prop} {T : Nat → Value → World → Prop} {u u' : Nat → Value} : ∀ (j : Nat), (∀ k, k < j → C.contains k = true → u k = u' k) → stt C S0 T j u = stt C S0 T j u'
  | 0, _ => rfl
  | j + 1, h => by
    unfold stt
    split
    · rename_i hc
      rw [h j (by omega) hc]
    · exact stt_congr j (fun k hk => h k (by omega))

theorem wpC_slots (a : Act) {S0 : World → Prop} : ∀ (rest : List Oper) (j : Nat) (ss : Nat → Slot) (T : Nat → Value → World → Prop) (fr : (Nat → Value) → Act) (F : Nat → (Nat → Value) → World → Prop) (S : (Nat → Value) → World → Prop),
    (∀ i, i < rest.length → rest[i]? = ops[j + i]?) → (∀ u, fr u = frameT ops ss u a j) → (∀ k u w, k < j → (F k u w ↔ (ss k).fact (u k) w)) → (∀ k, k < j → (ss k).monoR R) → (∀ k, k < j → ∀ v w w', Ge w w' → T k v w → T k v w') →
    (∀ u w, S u w ↔ stt C S0 T j u w) → wpC P ops K w0 R C j rest fr F S →
    ∃ (ss' : Nat → Slot) (T' : Nat → Value → World → Prop), (∀ k, k < j → ss' k = ss k) ∧ (∀ k, k < j → T' k = T k) ∧ (∀ k, k < j + rest.length → (ss' k).monoR R) ∧ (∀ k, k < j + rest.length → ∀ v w w', Ge w w' → T' k v w → T' k v w') ∧
      (∀ (i : Nat) (o : Oper), j ≤ i → i < j + rest.length → ops[i]? = some o → (∀ k, befB o k = true → k < i) → ∀ u w, R w0 w → (∀ k, befB o k = true → (ss' k).fact (u k) w) →
        if C.contains i then stt C S0 T' i u w → if Region.wanted o (yielded ops (frameT ops ss' u a i).tmps) then upT P (fun v w' => R w w' ∧ (ss' i).ok v w' ∧ T' i v w') ((execOp (frameT ops ss' u a i).eval o).run P w) else (ss' i).ok undef w ∧ T' i undef w
        else if Region.wanted o (yielded ops (frameT ops ss' u a i).tmps) then upT P (fun v w' => Ge w w' ∧ (ss' i).ok v w') ((execOp (frameT ops ss' u a i).eval o).run P w) else (ss' i).ok undef w) ∧
      (∀ u w, R w0 w → (∀ k, k < j + rest.length → (ss' k).fact (u k) w) → stt C S0 T' (j + rest.length) u w → K (frameT ops ss' u a (j + rest.length)) w)
  | [], j, ss, T, fr, F, S, hl, hfr, hF, hm, hT, hS, h => by
    refine ⟨ss, T, fun _ _ => rfl, fun _ _ => rfl, fun k hk => hm k (by simpa using hk), fun k hk => hT k (by simpa using hk), fun i o hji hi => absurd hi (by simp; omega), fun u w hw hf hs => ?_⟩
    have := h u w hw (fun k hk => (hF k u w hk).2 (hf k (by simpa using hk))) ((hS u w).2 hs)
    rwa [hfr] at this
  | o :: rest, j, ss, T, fr, F, S, hl, hfr, hF, hm, hT, hS, h => by
    have ho : ops[j]? = some o := by simpa using (hl 0 (by simp)).symm
    obtain ⟨s, Tj, S2, hsm, hTj, h1, hS2, h2⟩ : ∃ (s : Slot) (Tj : Value → World → Prop) (S2 : (Nat → Value) → World → Prop), s.monoR R ∧ (∀ v w w', Ge w w' → Tj v w → Tj v w') ∧
        (∀ u w, R w0 w → (∀ k, befB o k = true → F k u w) →
          if C.contains j then S u w → if Region.wanted o (yielded ops (fr u).tmps) then upT P (fun v w' => R w w' ∧ s.ok v w' ∧ Tj v w') ((execOp (fr u).eval o).run P w) else s.ok undef w ∧ Tj undef w
          else if Region.wanted o (yielded ops (fr u).tmps) then upT P (fun v w' => Ge w w' ∧ s.ok v w') ((execOp (fr u).eval o).run P w) else s.ok undef w) ∧
        (∀ u w, S2 u w ↔ if C.contains j then Tj (u j) w else S u w) ∧
        wpC P ops K w0 R C (j + 1) rest (fun u => (fr u).put o.dst (s.fill (u j))) (fun k u w => if k = j then s.fact (u j) w else F k u w) S2 := by
      unfold wpC at h
      by_cases hc : C.contains j = true
      · rw [if_pos hc] at h
        obtain ⟨s, Tj, a1, a2, a3, a4⟩ := h
        exact ⟨s, Tj, _, a1, a2, fun u w x y => by rw [if_pos hc]; exact a3 u w x y, fun u w => by rw [if_pos hc], a4⟩
      · rw [if_neg hc] at h
        obtain ⟨s, a1, a3, a4⟩ := h
        exact ⟨s, fun _ _ => True, _, a1, fun _ _ _ _ _ => trivial, fun u w x y => by rw [if_neg hc]; exact a3 u w x y, fun u w => by rw [if_neg hc], a4⟩
    obtain ⟨sn, hsn⟩ : ∃ sn : Nat → Slot, sn = fun k => if k = j then s else ss k := ⟨_, rfl⟩
    have hold : ∀ k, k < j → sn k = ss k := fun k hk => by rw [hsn]; simp; omega
    have hnew : sn j = s := by rw [hsn]; simp
    obtain ⟨Tn, hTn⟩ : ∃ Tn : Nat → Value → World → Prop, Tn = fun k => if k = j then Tj else T k := ⟨_, rfl⟩
    have holdT : ∀ k, k < j → Tn k = T k := fun k hk => by rw [hTn]; simp; omega
    have hnewT : Tn j = Tj := by rw [hTn]; simp
    have hfe : ∀ u i, i ≤ j → frameT ops sn u a i = frameT ops ss u a i := by
      intro u i
      induction i with
      | zero => intro _; rfl
      | succ i ih => intro hi; rw [frameT, frameT, ih (by omega), hold i (by omega)]
    have hst : ∀ (T1 T2 : Nat → Value → World → Prop) (i : Nat), (∀ k, k < i → T1 k = T2 k) → stt C S0 T1 i = stt C S0 T2 i := by
      intro T1 T2 i
      induction i with
      | zero => intro _; rfl
      | succ i ih => intro hh; unfold stt; rw [ih (fun k hk => hh k (by omega)), hh i (by omega)]
    obtain ⟨ss', T', e1, e1T, e2, e2T, e3, e4⟩ := wpC_slots a (S0 := S0) rest (j + 1) sn Tn _ _ _ (fun i hi => by have := hl (i + 1) (by simp; omega); simpa [Nat.add_assoc, Nat.add_comm 1 i] using this)
      (fun u => by rw [frameT, hfe u j (Nat.le_refl _), ← hfr, ho, hnew]; rfl)
      (fun k u w hk => by
        by_cases hkj : k = j
        · subst hkj; simp [hnew]
        · simp only [hkj, if_false]; rw [hold k (by omega)]; exact hF k u w (by omega))
      (fun k hk => by
        by_cases hkj : k = j
        · subst hkj; rw [hnew]; exact hsm
        · rw [hold k (by omega)]; exact hm k (by omega))
      (fun k hk => by
        by_cases hkj : k = j
        · subst hkj; rw [hnewT]; exact hTj
        · rw [holdT k (by omega)]; exact hT k (by omega))
      (fun u w => by
        rw [hS2]
        unfold stt
        split
        · rw [hnewT]
        · rw [hS, hst T Tn j (fun k hk => (holdT k hk).symm)]) h2
    have hfe' : ∀ u i, i ≤ j + 1 → frameT ops ss' u a i = frameT ops sn u a i := by
      intro u i
      induction i with
      | zero => intro _; rfl
      | succ i ih => intro hi; rw [frameT, frameT, ih (by omega), e1 i (by omega)]
    have hlen : j + (o :: rest).length = j + 1 + rest.length := by simp; omega
    refine ⟨ss', T', fun k hk => (e1 k (by omega)).trans (hold k hk), fun k hk => (e1T k (by omega)).trans (holdT k hk), fun k hk => e2 k (by omega), fun k hk => e2T k (by omega), fun i p hji hi hp hb u w hw hf => ?_, fun u w hw hf hs => ?_⟩
    · by_cases hij : i = j
      · subst hij
        obtain rfl : p = o := by rw [ho] at hp; exact (Option.some.inj hp).symm
        have := h1 u w hw (fun k hk => by
          have hkj := hb k hk
          have h3 := hf k hk
          rw [e1 k (by omega), hold k hkj] at h3
          exact (hF k u w hkj).2 h3)
        rw [hfe' u i (by omega), hfe u i (Nat.le_refl _), ← hfr u, e1 i (by omega), hnew, e1T i (by omega), hnewT]
        split
        · rename_i hc
          rw [if_pos hc] at this
          intro hs
          refine this ((hS u w).2 ?_)
          rwa [hst T' T i (fun k hk => (e1T k (by omega)).trans (holdT k hk))] at hs
        · rename_i hc
          rw [if_neg hc] at this
          exact this
      · exact e3 i p (by omega) (by omega) hp hb u w hw hf
    · have := e4 u w hw (fun k hk => hf k (by omega))
      rw [hlen]
      exact this (by rwa [hlen] at hs)

/-- between two operations -/
def InvC (R : World → World → Prop) (C : List Nat) (ops : Array Oper) (ss : Nat → Slot) (S0 : World → Prop) (T : Nat → Value → World → Prop) (a : Act) (w0 : World) (listed : Array Bool) (a' : Act) (w' : World) : Prop :=
  ∃ (u : Nat → Value) (c : Nat), R w0 w' ∧ a'.defers = a.defers ∧ a'.tmps.size = a.tmps.size ∧
    (∀ (k : Nat) o d, ops[k]? = some o → listed.getD k false = true → o.dst = some d → d < a.tmps.size → a'.tmps[d]? = some ((ss k).fill (u k))) ∧
    (∀ t, (∀ (k : Nat) o, ops[k]? = some o → listed.getD k false = true → o.dst ≠ some t) → a'.tmps[t]? = a.tmps[t]?) ∧
    (∀ k, listed.getD k false = true → (ss k).fact (u k) w') ∧
    c ≤ ops.size ∧ (∀ k, C.contains k = true → (listed.getD k false = true ↔ k < c)) ∧ stt C S0 T c u w'

theorem frame_step (hB : okT ops = true) {ss : Nat → Slot} {a a' : Act} {listed : Array Bool} (hls : listed.size = ops.size) {j : Nat} {o : Oper} (ho : ops[j]? = some o)
    {u : Nat → Value} (hsz : a'.tmps.size = a.tmps.size)
    (h1 : ∀ (k : Nat) o d, ops[k]? = some o → listed.getD k false = true → o.dst = some d → d < a.tmps.size → a'.tmps[d]? = some ((ss k).fill (u k)))
    (h2 : ∀ t, (∀ (k : Nat) o, ops[k]? = some o → listed.getD k false = true → o.dst ≠ some t) → a'.tmps[t]? = a.tmps[t]?) {v : Value} {w2 : World} (hv : (ss j).ok v w2) :
    (∀ (k : Nat) p d, ops[k]? = some p → (listed.setIfInBounds j true).getD k false = true → p.dst = some d → d < a.tmps.size → (a'.put o.dst v).tmps[d]? = some ((ss k).fill (if k = j then v else u k))) ∧
    (∀ t, (∀ (k : Nat) p, ops[k]? = some p → (listed.setIfInBounds j true).getD k false = true → p.dst ≠ some t) → (a'.put o.dst v).tmps[t]? = a.tmps[t]?) := by
  have hj : j < ops.size := (Array.getElem?_eq_some_iff.1 ho).1
  have hget : ∀ k, (listed.setIfInBounds j true).getD k false = if k = j then true else listed.getD k false := by
    intro k
    by_cases hk : k = j
    · subst hk; simp [Array.getD_eq_getD_getElem?, hls, hj]
    · simp [Array.getD_eq_getD_getElem?, Array.getElem?_setIfInBounds_ne (Ne.symm hk), hk]
  refine ⟨?_, ?_⟩
  · intro k p d hp hl hd hdl
    by_cases hk : k = j
    · subst hk
      obtain rfl : p = o := by rw [ho] at hp; exact (Option.some.inj hp).symm
      rw [hd]
      simp only [if_true]
      rw [put_at_eq _ _ _ (hsz.symm ▸ hdl), Slot.ok_fill hv]
    · rw [hget, if_neg hk] at hl
      simp only [hk, if_false]
      rw [put_at_ne _ _ _ _ ((((okT_spec hB).2 j o ho).2 k p d hp hd hk).1)]
      exact h1 k p d hp hl hd hdl
  · intro t ht
    rw [put_at_ne _ _ _ _ (ht j o ho (by rw [hget]; simp))]
    refine h2 t (fun k p hp hl => ht k p hp ?_)
    rw [hget]; split
    · rfl
    · exact hl

theorem wpAny_of_invC (hR : Rel R) (hB : okT ops = true) (hC : chainB ops C = true) {ss : Nat → Slot} {S0 : World → Prop} {T : Nat → Value → World → Prop} (h0 : ∀ w w', Ge w w' → S0 w → S0 w')
    (hmono : ∀ k, k < ops.size → (ss k).monoR R) (hTg : ∀ k, k < ops.size → ∀ v w w', Ge w w' → T k v w → T k v w') {a : Act}
    (hob : ∀ (i : Nat) (o : Oper), i < ops.size → ops[i]? = some o → ∀ u w, R w0 w → (∀ k, befB o k = true → (ss k).fact (u k) w) →
        if C.contains i then stt C S0 T i u w → if Region.wanted o (yielded ops (frameT ops ss u a i).tmps) then upT P (fun v w' => R w w' ∧ (ss i).ok v w' ∧ T i v w') ((execOp (frameT ops ss u a i).eval o).run P w) else (ss i).ok undef w ∧ T i undef w
        else if Region.wanted o (yielded ops (frameT ops ss u a i).tmps) then upT P (fun v w' => Ge w w' ∧ (ss i).ok v w') ((execOp (frameT ops ss u a i).eval o).run P w) else (ss i).ok undef w)
    (hfin : ∀ u w, R w0 w → (∀ k, k < ops.size → (ss k).fact (u k) w) → stt C S0 T ops.size u w → Q .normal (frameT ops ss u a ops.size) w) :
    ∀ (fuel : Nat) (listed : Array Bool) (a' : Act) (w' : World), listed.size = ops.size → (∀ (q : Nat) (p : Oper), listed.getD q false = true → ops[q]? = some p → ∀ k, befB p k = true → listed.getD k false = true) →
      fuel + listed.toList.count true = ops.size → InvC R C ops ss S0 T a w0 listed a' w' → wpAny P .any ops Q fuel listed a' w' := by
  intro fuel
  induction fuel with
  | zero =>
    intro listed a' w' hls hcl hc hI
    have hall : ∀ k, k < ops.size → listed.getD k false = true := by
      intro k hk
      rcases hb : listed.getD k false with _ | _
      · exfalso
        have := count_set (listed := listed) (i := k) (by omega) hb
        have hle := List.count_le_length (a := true) (l := (listed.setIfInBounds k true).toList)
        rw [Array.length_toList, Array.size_setIfInBounds] at hle
        omega
      · rfl
    refine ⟨?_, ?_⟩
    · cases hr : Region.ready .any ops listed with
      | nil => rfl
      | cons x xs =>
        exfalso
        have hx' : x ∈ Region.ready .any ops listed := by rw [hr]; exact List.mem_cons_self
        obtain ⟨hun, o, ho, _⟩ := mem_ready.1 hx'
        have hk : x < ops.size := (Array.getElem?_eq_some_iff.1 ho).1
        have := hall x hk
        simp [Array.getD_eq_getD_getElem?, hls, hk] at this hun
        rw [this] at hun
        cases hun
    · obtain ⟨u, c, hw, hde, hsz, h1, h2, hf, hcs, hcc, hst⟩ := hI
      have : a' = frameT ops ss u a ops.size := by
        have e1 : a'.tmps = (frameT ops ss u a ops.size).tmps := by
          apply Array.ext_getElem?
          intro t
          by_cases hlt : t < a.tmps.size
          · by_cases hx : ∃ (k : Nat) (p : Oper), k < ops.size ∧ ops[k]? = some p ∧ p.dst = some t
            · obtain ⟨k, p, hk, hp, hd⟩ := hx
              rw [h1 k p t hp (hall k hk) hd hlt, frameT_on hB ss u a t hlt k p hp hd _ hk]
            · rw [h2 t (fun k p hp hl hd => hx ⟨k, p, (Array.getElem?_eq_some_iff.1 hp).1, hp, hd⟩), frameT_off ss u a t _ (fun k p hk hp hd => hx ⟨k, p, hk, hp, hd⟩)]
          · rw [Array.getElem?_eq_none (by omega), Array.getElem?_eq_none (by rw [frameT_size]; omega)]
        have e2 : a'.defers = (frameT ops ss u a ops.size).defers := by rw [hde, frameT_defers]
        cases a'
        cases hfr : frameT ops ss u a ops.size
        rw [hfr] at e1 e2
        simp only at e1 e2
        rw [e1, e2]
      rw [this]
      refine hfin u w' hw (fun k hk => hf k (hall k hk)) ?_
      have := stt_const (C := C) (S0 := S0) (T := T) (c := c) (u := u) (ops.size - c) (fun k hk1 hk2 => by
        rcases hb : C.contains k with _ | _
        · rfl
        · have := (hcc k hb).1 (hall k (by omega))
          omega)
      rw [show c + (ops.size - c) = ops.size by omega] at this
      rw [this]
      exact hst
  | succ fuel ih =>
    intro listed a' w' hls hcl hc hI
    refine ⟨fun h0' => ?_, fun i hi => ?_⟩
    · exfalso
      have hall := all_listed hB hls h0'
      have : listed.toList.count true = listed.toList.length := by
        rw [List.count_eq_length]
        intro b hb
        obtain ⟨k, hk, e⟩ := List.getElem_of_mem hb
        have := hall k (by simp at hk; omega)
        simp at hk
        simp [Array.getD_eq_getD_getElem?, hk] at this
        simp at e
        rw [← e, this]
      rw [Array.length_toList] at this
      omega
    · obtain ⟨u, c, hw, hde, hsz, h1, h2, hf, hcs, hcc, hst⟩ := hI
      obtain ⟨hun, o, ho, hall⟩ := mem_ready.1 hi
      have hk : i < ops.size := (Array.getElem?_eq_some_iff.1 ho).1
      have hjn : listed.getD i false = false := by
        simp [Array.getD_eq_getD_getElem?, hls, hk] at hun ⊢
        exact hun
      have hbl : ∀ k, befB o k = true → listed.getD k false = true ∧ k < i := by
        intro k hk'
        obtain ⟨e, he, heb⟩ := Array.any_eq_true'.1 hk'
        simp only [Bool.and_eq_true, beq_iff_eq] at heb
        obtain ⟨hb, rfl⟩ := heb
        exact ⟨hall e he hb, ((okT_spec hB).2 i o ho).1 e he hb⟩
      have hlook := fun t ht => InvT.look (ss := ss) hB ho hbl hjn hsz h1 h2 t ht
      have hex : execOp a'.eval o = execOp (frameT ops ss u a i).eval o := execOp_congr o (fun cs b => (okT_spec hB).1 i o cs b ho) fun x hx => by
        cases x with
        | tmp t => exact at_same (hlook t (mem_looks_operand hx))
        | _ => rfl
      have hwa := wanted_same (ops := ops) (o := o) hlook
      have hO := hob i o hk ho u w' hw (fun k hk' => hf k (hbl k hk').1)
      rw [← hex, ← hwa] at hO
      have hget : ∀ k, (listed.setIfInBounds i true).getD k false = if k = i then true else listed.getD k false := by
        intro k
        by_cases hk' : k = i
        · subst hk'; simp [Array.getD_eq_getD_getElem?, hls, hk]
        · simp [Array.getD_eq_getD_getElem?, Array.getElem?_setIfInBounds_ne (Ne.symm hk'), hk']
      have hcl2 : ∀ (q : Nat) (p : Oper), (listed.setIfInBounds i true).getD q false = true → ops[q]? = some p → ∀ k, befB p k = true → (listed.setIfInBounds i true).getD k false = true := by
        intro q p hq hp k hk'
        rw [hget]
        split
        · rfl
        · by_cases hqi : q = i
          · subst hqi
            obtain rfl : p = o := by rw [ho] at hp; exact (Option.some.inj hp).symm
            exact (hbl k hk').1
          · rw [hget, if_neg hqi] at hq
            exact hcl q p hq hp k hk'
      have hcount : fuel + (listed.setIfInBounds i true).toList.count true = ops.size := by
        rw [count_set (by omega) hjn]
        omega
      have hfact : ∀ (v : Value) (w2 : World), R w' w2 → (ss i).ok v w2 → ∀ k, (listed.setIfInBounds i true).getD k false = true → (ss k).fact (if k = i then v else u k) w2 := by
        intro v w2 hg hv k hl
        by_cases hki : k = i
        · subst hki; simp only [if_true]; exact Slot.ok_fact hv
        · rw [hget, if_neg hki] at hl
          simp only [hki, if_false]
          have hkl : k < ops.size := by
            rcases Nat.lt_or_ge k ops.size with h | h
            · exact h
            · rw [Array.getD_eq_getD_getElem?, Array.getElem?_eq_none (by omega)] at hl
              cases hl
          exact Slot.fact_monoR (hmono k hkl) hg (hf k hl)
      by_cases hch : C.contains i = true
      · rw [if_pos hch] at hO
        have hlow : ∀ k, C.contains k = true → k < i → listed.getD k false = true := by
          intro k hkc hki
          have h1' := List.all_eq_true.1 hC i (by simpa using hch)
          rw [ho] at h1'
          have h2' := List.all_eq_true.1 h1' k (by simpa using hkc)
          rw [show decide (k < i) = true from decide_eq_true hki] at h2'
          simp only [Bool.not_true, Bool.false_or] at h2'
          exact reach_listed hcl 3 o k (fun k' hk' => (hbl k' hk').1) h2'
        have hci : c ≤ i := by
          rcases Nat.lt_or_ge i c with hlt | hge
          · have := (hcc i hch).2 hlt
            rw [hjn] at this
            cases this
          · exact hge
        have hsti : stt C S0 T i u w' := by
          have := stt_const (C := C) (S0 := S0) (T := T) (c := c) (u := u) (i - c) (fun k hk1 hk2 => by
            rcases hb : C.contains k with _ | _
            · rfl
            · have := (hcc k hb).1 (hlow k hb (by omega))
              omega)
          rw [show c + (i - c) = i by omega] at this
          rw [this]
          exact hst
        have hO2 := hO hsti
        refine wpOp_of_upT ho (R := fun v w2 => R w' w2 ∧ (ss i).ok v w2 ∧ T i v w2) (fun v w2 hr => ?_) ?_
        · have hfs := frame_step hB hls ho hsz h1 h2 hr.2.1
          refine ih _ _ _ (by simp [hls]) hcl2 hcount ⟨fun k => if k = i then v else u k, i + 1, hR.trans _ _ _ hw hr.1, by rw [put_defers', hde], by rw [put_size', hsz], hfs.1, hfs.2, hfact v w2 hr.1 hr.2.1, by omega, ?_, ?_⟩
          · intro k hkc
            rw [hget]
            by_cases hki : k = i
            · simp [hki]
            · rw [if_neg hki]
              constructor
              · intro hl
                have := (hcc k hkc).1 hl
                omega
              · intro hl
                exact hlow k hkc (by omega)
          · unfold stt
            rw [if_pos hch]
            simp only [if_true]
            exact hr.2.2
        · split
          · rename_i hw'; rw [if_pos hw'] at hO2; exact hO2
          · rename_i hw'; rw [if_neg hw'] at hO2; exact ⟨hR.ge _ _ (Ge.refl _), hO2⟩
      · rw [if_neg hch] at hO
        refine wpOp_of_upT ho (R := fun v w2 => Ge w' w2 ∧ (ss i).ok v w2) (fun v w2 hr => ?_) ?_
        · have hfs := frame_step hB hls ho hsz h1 h2 hr.2
          refine ih _ _ _ (by simp [hls]) hcl2 hcount ⟨fun k => if k = i then v else u k, c, hR.trans _ _ _ hw (hR.ge _ _ hr.1), by rw [put_defers', hde], by rw [put_size', hsz], hfs.1, hfs.2, hfact v w2 (hR.ge _ _ hr.1) hr.2, hcs, ?_, ?_⟩
          · intro k hkc
            rw [hget]
            by_cases hki : k = i
            · subst hki; exact absurd hkc hch
            · rw [if_neg hki]
              exact hcc k hkc
          · rw [stt_congr c (u' := u) (fun k _ hkc => by
              by_cases hki : k = i
              · subst hki; exact absurd hkc hch
              · simp [hki])]
            exact stt_ge h0 ops.size hTg c hcs u _ _ hr.1 hst
        · split
          · rename_i hw'; rw [if_pos hw'] at hO; exact hO
          · rename_i hw'; rw [if_neg hw'] at hO; exact ⟨Ge.refl _, hO⟩

/-- THE RULE -/
theorem wp_region_C {id : Nat} {l : List Oper} {a : Act} (R : World → World → Prop) (C : List Nat) (S0 : World → Prop) (hR : Rel R) (hm : P.follows .mixedOrders = true) (hB : okT l.toArray = true) (hC : chainB l.toArray C = true)
    (h0 : ∀ w w', Ge w w' → S0 w → S0 w') (hs : S0 w0)
    (h : wpC P l.toArray (Q .normal) w0 R C 0 l (fun _ => a) (fun _ _ _ => True) (fun _ w => S0 w)) : (Code.region id l.toArray true).wp P Q a w0 := by
  obtain ⟨ss, T, _, _, hmono, hTg, hob, hfin⟩ := wpC_slots (ops := l.toArray) (S0 := S0) a l 0 (fun _ => .inl undef) (fun _ _ _ => True) _ _ _ (fun i hi => by simp) (fun _ => rfl) (fun _ _ _ h => absurd h (by omega)) (fun _ h => absurd h (by omega)) (fun _ h => absurd h (by omega)) (fun _ _ => Iff.rfl) h
  rw [Nat.zero_add] at hmono hob hfin hTg
  refine wp_region_any hm ?_
  refine wpAny_of_invC (ss := ss) (T := T) (a := a) (w0 := w0) hR hB hC h0 (by simpa using hmono) (by simpa using hTg) (fun i o hi ho u w hw hf => hob i o (Nat.zero_le _) (by simpa using hi) ho (fun k hk => ?_) u w hw hf) (fun u w hw hf hst => ?_) _ _ _ _ (by simp) ?_ ?_ ?_
  · obtain ⟨e, he, heb⟩ := Array.any_eq_true'.1 hk
    simp only [Bool.and_eq_true, beq_iff_eq] at heb
    obtain ⟨hb, rfl⟩ := heb
    exact ((okT_spec hB).2 i o ho).1 e he hb
  · simpa using hfin u w hw (by simpa using hf) (by simpa using hst)
  · intro q p hq
    rw [Array.getD_eq_getD_getElem?, Array.getElem?_replicate] at hq
    split at hq <;> simp at hq
  · simp [List.count_replicate]
  · refine ⟨fun _ => undef, 0, hR.ge _ _ (Ge.drawn _ _), rfl, rfl, ?_, fun _ _ => rfl, ?_, Nat.zero_le _, ?_, h0 _ _ (Ge.drawn _ _) hs⟩
    · intro k o d ho hl
      rw [Array.getD_eq_getD_getElem?, Array.getElem?_replicate] at hl
      split at hl <;> simp at hl
    · intro k hl
      rw [Array.getD_eq_getD_getElem?, Array.getElem?_replicate] at hl
      split at hl <;> simp at hl
    · intro k _
      rw [Array.getD_eq_getD_getElem?, Array.getElem?_replicate]
      split <;> simp
end
end Go.Proofs.YtmhibpmgnicolaaDoor.Dr

namespace Go.Proofs.YtmhibpmgnicolaaDoor
open Go.RowKit
attribute [local go_sem] Dr.upT

theorem rel_nx (B : Nat) (F : Nat → Prop) : Dr.Rel (Nx B F) := ⟨fun _ _ _ h k => h.trans k (fun _ _ h => h), fun _ _ g => Nx.of_ge g⟩
theorem Bx.nx {B : Nat} {F : Nat → Prop} {w w' : World} {b : Nat} {t : TypeId} {cs : Array Value} (h : Bx w b t cs) (n : Nx B F w w') (hb : ¬ F b) : Bx w' b t cs := (n.block b h.lt hb).trans h

theorem wpC_msg {ops : Array Oper} {K : Act → World → Prop} {w0 : World} {R : World → World → Prop} {C : List Nat} {j : Nat} {o : Oper} {rest : List Oper} {fr : (Nat → Value) → Act} {F : Nat → (Nat → Value) → World → Prop} {S : (Nat → Value) → World → Prop}
    (x : Operand) (b : Nat) (CS : Array Value) (hc : C.contains j = false)
    (ho : o.op = .load 45 x) (hx : ∀ u, (fr u).eval x = .pointer (some ⟨b, 0, none⟩)) (hB : ∀ w, R w0 w → Bx w b 45 CS) (hs : CS.size = 19) (hw : ∀ u, Region.wanted o (yielded ops (fr u).tmps) = true)
    (h2 : Dr.wpC Tryd.prog ops K w0 R C (j + 1) rest (fun u => (fr u).put o.dst (.agg CS)) (fun k u w => if k = j then True else F k u w) S) :
    Dr.wpC Tryd.prog ops K w0 R C j (o :: rest) fr F S := by
  refine Dr.wpC_det (.agg CS) hc (fun u w hg _ => ?_) h2
  rw [if_pos (hw u)]
  have hl := run_loadVar_row (P := Tryd.prog) w b 45 45 CS (0, 0) _ (hB w hg) Tryd.underlying45 rfl (by rw [hs]; exact i45)
  unfold execOp
  simp only [ho, hx, Instr.loadAt, Instr.sureAddr, Sem.run_bind, Sem.run_pure, Result.andThen_ok, hl]
  exact ⟨Ge.refl _, rfl⟩

/-- one message, in a row of its own -/
theorem run_one (w : World) (CE : Array Value) (hs : CE.size = 19) : (Instr.buildSlice 72 1 #[(0, .agg CE)]).run Tryd.prog w = .ok (.slice (some ⟨w.heap.size, 0, none⟩) 1 1) (w.alloc (.cells CE 45)) := by
  obtain ⟨i, hi, hz, h19, hby⟩ : ∃ i, Tryd.prog.info? 45 = some i ∧ i.zero.map (·.cells.size) = some 19 ∧ i.size = 19 ∧ i.bytes ≤ 1000 := by
    have := info45
    rcases hq : Tryd.prog.info? 45 with _ | i
    · rw [hq] at this; cases this
    · rw [hq] at this
      simp at this
      exact ⟨i, rfl, by simpa using this.1, this.2.1, this.2.2⟩
  obtain ⟨z, hz, hzs⟩ : ∃ z, i.zero = some z ∧ z.cells.size = 19 := by
    rcases hq : i.zero with _ | z
    · rw [hq] at hz; cases hz
    · rw [hq] at hz
      simp at hz
      exact ⟨z, rfl, hz⟩
  refine run_buildSlice w 72 45 1 _ CE i z Tryd.underlying72 hi hz (by rw [h19]; omega) (by rw [h19]; omega) ?_
  have := Great.fill_whole (s := 19) (by omega) [.agg CE] ((Array.range (1 * i.size)).map (z.cells[· % z.cells.size]!)) (by intro v hv; simp at hv; subst hv; exact hs) (by simp [h19])
  rw [h19] at this ⊢
  simpa [Value.cells] using this
theorem exec_one {a : Act} {o : Oper} {x : Operand} (ho : o.op = .buildSlice 72 1 #[(0, x)]) {CE : Array Value} (hx : a.eval x = .agg CE) (hs : CE.size = 19) {w : World} {R : Value → World → Prop}
    (hR : R (.slice (some ⟨w.heap.size, 0, none⟩) 1 1) (w.alloc (.cells CE 45))) : Dr.upT Tryd.prog R ((execOp a.eval o).run Tryd.prog w) := by
  have hr := run_one w CE hs
  unfold execOp
  simp only [ho, List.map_toArray, List.map_cons, List.map_nil, hx, Sem.run_bind, hr, Result.andThen_ok]
  exact hR
theorem exec_app {a : Act} {o : Oper} {s x : Operand} (ho : o.op = .call { callee := .builtin .append, args := #[s, x], argTypes := #[72, 72] }) {v sv : Value} (hs : a.eval s = v) (hx : a.eval x = sv) {w w' : World} {v' : Value}
    (hrun : (Builtin.append_ #[72, 72] o.type #[v, sv]).run Tryd.prog w = .ok v' w') {R : Value → World → Prop} (hR : R v' w') : Dr.upT Tryd.prog R ((execOp a.eval o).run Tryd.prog w) := by
  unfold execOp
  simp only [ho, resolve, invoke, builtin, Sem.run_bind, Sem.run_pure, Result.andThen_ok, List.map_toArray, List.map_cons, List.map_nil, hs, hx, hrun]
  exact hR

theorem exec_store72 {a : Act} {o : Oper} {x y : Operand} (ho : o.op = .store 72 x y) {q k : Nat} {A : Option Addr} {n c : Nat} {v0 : Value} (hx : a.eval x = .pointer (some ⟨q, k, none⟩)) (hy : a.eval y = .slice A n c) {w : World}
    (hc : w.cell? ⟨q, k, none⟩ = some v0) (hf : w.frozen? ⟨q, k, none⟩ = false) {R : Value → World → Prop} (hR : R undef (w.setCell ⟨q, k, none⟩ (.slice A n c))) : Dr.upT Tryd.prog R ((execOp a.eval o).run Tryd.prog w) := by
  unfold execOp
  simp only [ho, hx, hy]
  go_simp
  exact hR

theorem wpC_store72 {ops : Array Oper} {K : Act → World → Prop} {w0 : World} {R : World → World → Prop} {C : List Nat} {j : Nat} {o : Oper} {rest : List Oper} {fr : (Nat → Value) → Act} {F : Nat → (Nat → Value) → World → Prop} {S : (Nat → Value) → World → Prop}
    (x y : Operand) (q k i : Nat) (T : World → Prop) (hc : C.contains j = true) (hT : ∀ w w', Ge w w' → T w → T w') (ho : o.op = .store 72 x y) (hgd : o.guard = none)
    (hx : ∀ u, (fr u).eval x = .pointer (some ⟨q, k, none⟩)) (hy : ∀ u, (fr u).eval y = u i)
    (hs : ∀ u w, R w0 w → S u w → ∃ A n c v0, u i = .slice A n c ∧ w.cell? ⟨q, k, none⟩ = some v0 ∧ w.frozen? ⟨q, k, none⟩ = false ∧ R w (w.setCell ⟨q, k, none⟩ (.slice A n c)) ∧ T (w.setCell ⟨q, k, none⟩ (.slice A n c)))
    (h2 : Dr.wpC Tryd.prog ops K w0 R C (j + 1) rest (fun u => (fr u).put o.dst undef) (fun k u w => if k = j then True else F k u w) (fun _ w => T w)) :
    Dr.wpC Tryd.prog ops K w0 R C j (o :: rest) fr F S := by
  refine Dr.wpC_chain undef T hc hT (fun u w hg _ hS => ?_) h2
  have hw : Region.wanted o (yielded ops (fr u).tmps) = true := by unfold Region.wanted; rw [hgd]
  rw [if_pos hw]
  obtain ⟨A, n, c, v0, e, h1, h2, h3, h4⟩ := hs u w hg hS
  exact exec_store72 ho (hx u) ((hy u).trans e) h1 h2 ⟨h3, rfl, h4⟩

/-- between the append and the store -/
structure Mid (B : Nat) (n0 p q : Nat) (O : Nat → Option Nat) (S : Nt) (C : Array Value) (j : Nat) (l : List Msg) (v : Value) (w : World) : Prop where
  out : ∃ O', NetP B w p q O' S C j ∧ RowAt B w v l (fun g => O' g = some j) ∧ (∃ A n c, v = .slice A n c) ∧ ∀ b, b < n0 → O' b ≠ none → O b ≠ none
theorem Mid.ge {B n0 p q : Nat} {O : Nat → Option Nat} {S : Nt} {C : Array Value} {j : Nat} {l : List Msg} {v : Value} {w w' : World} (h : Mid B n0 p q O S C j l v w) (g : Ge w w') : Mid B n0 p q O S C j l v w' := by
  obtain ⟨O', h1, h2, h3, h4⟩ := h
  exact ⟨O', h1.ge g, h2.keep (g.kp B) (fun b hb => g.block b (h1.bO b j hb).2.1) (fun _ h => h), h3, h4⟩
theorem mid_app {B n0 p q : Nat} {O : Nat → Option Nat} {S : Nt} {C : Array Value} {j : Nat} {l : List Msg} {v : Value} {w w' : World} (hS : NetC B w p q O S C)
    (hrow : RowAt B w' v l (fun g => O g = some j ∨ (w.heap.size ≤ g ∧ g < w'.heap.size))) (hb : ∀ b, b < w.heap.size → ¬ O b = some j → w'.heap[b]? = w.heap[b]?) (k : Kp B w w') (hv : ∃ A n c, v = .slice A n c) (hn0 : n0 ≤ w.heap.size) :
    Mid B n0 p q O S C j l v w' := by
  have hp : O p ≠ some j := fun e => (hS.bO p j e).2.2.1 rfl
  have hq : O q ≠ some j := fun e => (hS.bO q j e).2.2.2 rfl
  have hpl := hS.lt (.inl rfl)
  have hql := hS.lt (.inr (.inl rfl))
  obtain ⟨O', hO⟩ : ∃ O' : Nat → Option Nat, O' = fun b => if w.heap.size ≤ b then (if b < w'.heap.size then some j else none) else O b := ⟨_, rfl⟩
  have hlo : ∀ b, b < w.heap.size → O' b = O b := fun b hbl => by rw [hO]; exact if_neg (by omega)
  have hhi : ∀ b, w.heap.size ≤ b → b < w'.heap.size → O' b = some j := fun b h1 h2 => by rw [hO]; simp [h1, h2]
  refine ⟨O', ⟨(hb p hpl hp).trans hS.net, hS.ok, hS.bp, hS.bq, fun b i hbi => ?_, (hb q hql hq).trans hS.row, hS.sz, fun i r hne hr => (hS.rows i r hr).keep k (fun b e => ?_)⟩, hrow.keep (Kp.refl B _) (fun _ _ => rfl) (fun g hg => ?_), hv, fun b hbn hne => ?_⟩
  · rcases Nat.lt_or_ge b w.heap.size with h1 | h1
    · rw [hlo b h1] at hbi
      obtain ⟨a1, a2, a3, a4⟩ := hS.bO b i hbi
      exact ⟨a1, Nat.lt_of_lt_of_le a2 k.size, a3, a4⟩
    · have h2 : b < w'.heap.size := by
        rcases Nat.lt_or_ge b w'.heap.size with h2 | h2
        · exact h2
        · rw [hO] at hbi
          simp only [h1, if_true, if_neg (Nat.not_lt.2 h2)] at hbi
          cases hbi
      have := hS.bp
      exact ⟨by omega, h2, by omega, by omega⟩
  · have hbl := (hS.bO b i e).2.1
    exact ⟨hb b hbl (fun e' => hne (by rw [e] at e'; exact Option.some.inj e')), by rw [hlo b hbl]; exact e⟩
  · rcases hg with hg | ⟨h1, h2⟩
    · show O' g = some j
      rw [hlo g (hS.bO g j hg).2.1]
      exact hg
    · exact hhi g h1 h2
  · rw [hlo b (by omega)] at hne
    exact hne
end Go.Proofs.YtmhibpmgnicolaaDoor

namespace Go.Proofs.YtmhibpmgnicolaaDoor
open Go.RowKit
attribute [local go_sem] Dr.upT

theorem wpC_call {ops : Array Oper} {K : Act → World → Prop} {w0 : World} {R : World → World → Prop} {C : List Nat} {j : Nat} {o : Oper} {rest : List Oper} {fr : (Nat → Value) → Act} {F : Nat → (Nat → Value) → World → Prop} {S : (Nat → Value) → World → Prop}
    (k : Nat) (vs : Array Value) (v : Value) (T : World → Prop) (hc : C.contains j = true) (hT : ∀ w w', Ge w w' → T w → T w')
    (hw : ∀ u, Region.wanted o (yielded ops (fr u).tmps) = true) (hr : ∀ u w, (execOp (fr u).eval o).run Tryd.prog w = .ok (.enter k vs) w)
    (hs : ∀ u w, R w0 w → S u w → Calls Tryd.prog k vs w fun e w' => e = .returned v ∧ R w w' ∧ T w')
    (h2 : Dr.wpC Tryd.prog ops K w0 R C (j + 1) rest (fun u => (fr u).put o.dst v) (fun k u w => if k = j then True else F k u w) (fun _ w => T w)) :
    Dr.wpC Tryd.prog ops K w0 R C j (o :: rest) fr F S := by
  refine Dr.wpC_chain v T hc hT (fun u w hg _ hS => ?_) h2
  rw [if_pos (hw u), hr u w]
  exact (hs u w hg hS).mono fun e w' ⟨h1, h2, h3⟩ => ⟨v, h1, h2, rfl, h3⟩
theorem wpList_load_rowG {ops : Array Oper} {rest : List Oper} {o : Oper} {a : Act} {w : World} {Q : Exit → Act → World → Prop} (hw : Region.wanted o (yielded ops a.tmps) = true) (x : Operand) (ho : o.op = .load 45 x)
    (g : Nat) (hx : a.eval x = .pointer (some ⟨g, 0, none⟩)) (cs : Array Value) (hg : Bx w g 45 cs) (hs : cs.size = 19)
    (h : wpList Tryd.prog ops Q rest (a.put o.dst (.agg cs)) w) : wpList Tryd.prog ops Q (o :: rest) a w :=
  wpList_step fun K hK => by rw [if_pos hw]; exact wp_load_row 45 x ho g hx 45 cs (0, 0) _ hg Tryd.underlying45 rfl (by rw [hs]; exact i45) (hK _ _ h)

end Go.Proofs.YtmhibpmgnicolaaDoor

namespace Go.Proofs.YtmhibpmgnicolaaDoor
open Go.RowKit Go.Shelf

theorem i45s {cs : Array Value} (hs : cs.size = 19) : (Tryd.prog.info? 45).map (·.size) = some cs.size := by rw [hs]; exact i45

section
variable {F : Fence} {n : Nat} {ops : Array Oper} {Q : Exit → Act → World → Prop} {a : Act} {w : World} {rest : List Oper} {o : Oper}

theorem wpListIn_load_msg (hw : Region.wanted o (yielded ops a.tmps) = true) (x : Operand) (ho : o.op = .load 45 x) (g : Nat) (hx : a.eval x = .pointer (some ⟨g, 0, none⟩)) (cs : Array Value) (hg : Bx w g 45 cs) (hs : cs.size = 19)
    (h : wpListIn F n Tryd.prog ops Q rest (a.put o.dst (.agg cs)) w) : wpListIn F n Tryd.prog ops Q (o :: rest) a w := by
  refine wpListIn_step fun K hK => ?_
  rw [if_pos hw]
  unfold Oper.wpIn
  refine ⟨?_, ?_⟩
  · simp [Oper.about, ho]
  · rw [Oper.semAt_plain F _ _ (by rw [ho]; intro c hc; cases hc)]
    have hl := run_loadVar_row (P := Tryd.prog) w g 45 45 cs (0, 0) _ hg Tryd.underlying45 rfl (i45s hs)
    simp only [execOp, ho, hx, Instr.loadAt, Instr.sureAddr, Sem.run_bind, Sem.run_pure, Result.andThen_ok, hl]
    exact hK _ _ h

/-- a message that lies within a block -/
theorem wpListIn_load_at (hw : Region.wanted o (yielded ops a.tmps) = true) (x : Operand) (ho : o.op = .load 45 x) (g k : Nat) (hx : a.eval x = .pointer (some ⟨g, k, none⟩)) (cs : List Value) (hg : w.rangeAt g k cs) (hs : cs.length = 19)
    (h : wpListIn F n Tryd.prog ops Q rest (a.put o.dst (.agg cs.toArray)) w) : wpListIn F n Tryd.prog ops Q (o :: rest) a w := by
  refine wpListIn_step fun K hK => ?_
  rw [if_pos hw]
  unfold Oper.wpIn
  refine ⟨?_, ?_⟩
  · simp [Oper.about, ho]
  · rw [Oper.semAt_plain F _ _ (by rw [ho]; intro c hc; cases hc)]
    have hl := run_loadAt_mid (P := Tryd.prog) w g k 45 cs _ hg Tryd.underlying45 rfl (by rw [hs]; exact i45)
    simp only [execOp, ho, hx, Sem.run_bind, Sem.run_pure, Result.andThen_ok, hl]
    exact hK _ _ h
theorem wpList_load_at (hw : Region.wanted o (yielded ops a.tmps) = true) (x : Operand) (ho : o.op = .load 45 x) (g k : Nat) (hx : a.eval x = .pointer (some ⟨g, k, none⟩)) (cs : List Value) (hg : w.rangeAt g k cs) (hs : cs.length = 19)
    (h : wpList Tryd.prog ops Q rest (a.put o.dst (.agg cs.toArray)) w) : wpList Tryd.prog ops Q (o :: rest) a w :=
  wpList_step fun K hK => by rw [if_pos hw]; exact wp_load_mid 45 x ho g k hx cs _ hg Tryd.underlying45 rfl (by rw [hs]; exact i45) (hK _ _ h)

theorem stored {w : World} {b : Nat} {cs0 cells : Array Value} (hb : Bx w b 45 cs0) (h0 : cs0.size = 19) (hs : cells.size = 19) {w0 : World} (hB : w0.heap.size ≤ b) (hg : Ge w0 w) :
    Bx (w.setCells b 0 cells.toList) b 45 cells ∧ Ge w0 (w.setCells b 0 cells.toList) ∧ ∀ c, c ≠ b → (w.setCells b 0 cells.toList).heap[c]? = w.heap[c]? := by
  refine ⟨by simpa using hb.fill cells.toList (by simp [h0, hs]), below_sets hB _ _ _ hg, fun c hc => ?_⟩
  have : ∀ (vs : List Value) (o : Nat) (w1 : World), (w1.setCells b o vs).heap[c]? = w1.heap[c]? := by
    intro vs
    induction vs with
    | nil => intro o w1; rfl
    | cons x r ih => intro o w1; exact (ih (o + 1) _).trans (Below.heap_setCell _ _ _ c hc)
  exact this _ _ _

/-- a message is stored into a variable of its own -/
theorem wpListIn_store_msg (hgd : o.guard = none) (x y : Operand) (ho : o.op = .store 45 x y) (b : Nat) (cells : Array Value) (hx : a.eval x = .pointer (some ⟨b, 0, none⟩)) (hy : a.eval y = .agg cells)
    {cs0 : Array Value} (hb : Bx w b 45 cs0) (h0 : cs0.size = 19) (hs : cells.size = 19) (h1 : ∀ u ∈ cells.toList, u.oneCell' = true) {w0 : World} (hB : w0.heap.size ≤ b) (hg : Ge w0 w)
    (h : ∀ w', Bx w' b 45 cells → Ge w0 w' → (∀ c, c ≠ b → w'.heap[c]? = w.heap[c]?) → wpListIn F n Tryd.prog ops Q rest (a.put o.dst undef) w') : wpListIn F n Tryd.prog ops Q (o :: rest) a w := by
  refine wpListIn_plain hgd fun K hK => ?_
  obtain ⟨s1, s2, s3⟩ := stored hb h0 hs hB hg
  unfold Oper.wpIn
  refine ⟨?_, ?_⟩
  · simp [Oper.about, ho]
  · rw [Oper.semAt_plain F _ _ (by rw [ho]; intro c hc; cases hc)]
    have hl := run_storeAt_mid (P := Tryd.prog) w b 0 45 cells (by rw [hs, ← h0]; exact hb.there) (i45s hs) (Array.all_eq_true_iff_forall_mem.2 (fun v hv => h1 v (by simpa using hv)))
    simp only [execOp, ho, hx, hy, Sem.run_bind, Sem.run_pure, Result.andThen_ok, hl]
    exact hK _ _ (h _ s1 s2 s3)
theorem wpList_store_msg (hgd : o.guard = none) (x y : Operand) (ho : o.op = .store 45 x y) (b : Nat) (cells : Array Value) (hx : a.eval x = .pointer (some ⟨b, 0, none⟩)) (hy : a.eval y = .agg cells)
    {cs0 : Array Value} (hb : Bx w b 45 cs0) (h0 : cs0.size = 19) (hs : cells.size = 19) (h1 : ∀ u ∈ cells.toList, u.oneCell' = true) {w0 : World} (hB : w0.heap.size ≤ b) (hg : Ge w0 w)
    (h : ∀ w', Bx w' b 45 cells → Ge w0 w' → (∀ c, c ≠ b → w'.heap[c]? = w.heap[c]?) → wpList Tryd.prog ops Q rest (a.put o.dst undef) w') : wpList Tryd.prog ops Q (o :: rest) a w := by
  obtain ⟨s1, s2, s3⟩ := stored hb h0 hs hB hg
  exact wpList_store_mid hgd 45 x y ho b 0 cells hx hy (by rw [hs, ← h0]; exact hb.there) (i45s hs) (Array.all_eq_true_iff_forall_mem.2 (fun v hv => h1 v (by simpa using hv))) (h _ s1 s2 s3)
end

/-! ### A range over a function: what may happen beside a caller's own memory, the two blocks of the range, its opening and closing, one round -/
/-- all blocks below b and all blocks of cells stay -/
structure Aside (b : Nat) (A A' : World) : Prop where
  os : A'.os = A.os
  tape : A'.tape = A.tape
  output : A'.output = A.output
  size : A.heap.size ≤ A'.heap.size
  block : ∀ k, k < A.heap.size → (k < b ∨ ∃ o : Obj, A.heap[k]? = some o ∧ o.isCells = true) → A'.heap[k]? = A.heap[k]?
theorem Ge.aside {A A' : World} (g : Ge A A') (b : Nat) : Aside b A A' := ⟨g.os, g.tape, g.output, g.size, fun k hk _ => g.block k hk⟩
theorem aside_put {b l : Nat} {A : World} {o : Obj} (o' : Obj) (hl : b ≤ l) (h : A.heap[l]? = some o) (ho : o.isCells = false) : Aside b A (A.putObj l o') := by
  have hg := grownBy_putObj' A l o'
  refine ⟨hg.os, hg.tape, hg.output, hg.size, fun k hk hor => World.putObj_heap_other ?_⟩
  rintro rfl
  rcases hor with h1 | ⟨o2, h1, h2⟩
  · omega
  · rw [h] at h1
    cases h1
    rw [ho] at h2
    cases h2
theorem Aside.bx {b : Nat} {A A' : World} (s : Aside b A A') {k : Nat} {t : TypeId} {cs : Array Value} (h : Bx A k t cs) : Bx A' k t cs := (s.block k h.lt (.inr ⟨_, h, rfl⟩)).trans h
theorem Aside.ge {b : Nat} {w A A' : World} (s : Aside b A A') (hb : w.heap.size ≤ b) (h : Ge w A) : Ge w A' :=
  ⟨s.os.trans h.os, s.tape.trans h.tape, s.output.trans h.output, Nat.le_trans h.size s.size, fun k hk => (s.block k (Nat.lt_of_lt_of_le hk h.size) (.inl (by omega))).trans (h.block k hk)⟩

/-- the two blocks that a range keeps its books in: at b the calls put off, behind it the loop's record -/
structure Books (b : Nat) (r : Loop) (W : World) : Prop where
  put : W.heap[b]? = some (.deferred (some []))
  loop : W.heap[b + 1]? = some (.loop r)
theorem Books.ge {b : Nat} {r : Loop} {W W' : World} (h : Books b r W) (g : Ge W W') : Books b r W' :=
  ⟨(g.block b (Array.getElem?_eq_some_iff.1 h.put).1).trans h.put, (g.block (b + 1) (Array.getElem?_eq_some_iff.1 h.loop).1).trans h.loop⟩
theorem Books.kept {b : Nat} {r : Loop} {W W' : World} (h : Books b r W) (k : KeepsFrom b W W') : Books b r W' :=
  ⟨k.same b _ (Nat.le_refl _) h.put rfl, k.same (b + 1) _ (by omega) h.loop rfl⟩
theorem Books.turn {b : Nat} {r : Loop} {W : World} (h : Books b r W) (r' : Loop) : Books b r' (W.putObj (b + 1) (.loop r')) ∧ Aside b W (W.putObj (b + 1) (.loop r')) ∧ ∀ n, n ≤ b → Below n W (W.putObj (b + 1) (.loop r')) := by
  have hl := (Array.getElem?_eq_some_iff.1 h.loop).1
  refine ⟨⟨(World.putObj_heap_other (by omega)).trans h.put, World.putObj_heap_same hl⟩, aside_put _ (by omega) h.loop rfl, fun n hn => ?_⟩
  have hg := grownBy_putObj' W (b + 1) (.loop r')
  exact ⟨hg.os, hg.tape, hg.output, hg.size, fun k hk => World.putObj_heap_other (by omega)⟩
theorem Books.lt {b : Nat} {r : Loop} {W : World} (h : Books b r W) : b < W.heap.size := (Array.getElem?_eq_some_iff.1 h.put).1

/-- the record of a range whose first block is b -/
def recAt (f : FuncId) (ts : Array Value) (ps : Array Tmp) (assign body : Code) (b : Nat) (st : LoopState) (pe : Option Code) : Loop :=
  { fn := f, tmps := ts, params := ps, assign := assign, body := body, defers := b, state := st, pending := pe }
/-- what is to be done behind a range: go on, or take the jump that a round has told -/
def Onward (F : Fence) (n : Nat) (P : Program) (Q : Exit → Act → World → Prop) (a : Act) (W : World) : Option Code → Prop
  | none => Q .normal a W
  | some c => c.wpIn F n P Q a W

theorem range_open {F : Fence} {n : Nat} {P : Program} {g : Operand} {ps : Array Tmp} {assign body : Code} {Q : Exit → Act → World → Prop} {a : Act} {w : World} {gf : Nat} {lb : Array Value}
    (hro : F.round = none) (h1 : 1 ≤ n) (hg : a.eval g = .func (.func gf) #[] lb) (hF : F.fn gf) (he : ∀ xs W, (callFunc gf xs).run P W = .ok (.enter gf xs) W)
    (h : ∀ f, F.fn f → ∀ W1, Ge w W1 → Books w.heap.size (recAt f a.tmps ps assign body w.heap.size .ready none) W1 →
      CallsIn F (n - 1) P gf (#[.func (.yield (w.heap.size + 1)) #[] #[]] ++ lb) W1 fun e W2 => (∃ v, e = .returned v) ∧ ∃ st pe, st ≠ .busy ∧ Books w.heap.size (recAt f a.tmps ps assign body w.heap.size st pe) W2 ∧
        ∀ W3, Aside w.heap.size W2 W3 → W3.heap[w.heap.size]? = some (.deferred (some [])) → Onward F n P Q { a with defers := { target := .collected w.heap.size, args := #[] } :: a.defers } W3 pe) :
    (Code.rangeFunc g ps assign body).wpIn F n P Q a w := by
  refine wpIn_rangeFunc fun f hf => ?_
  have hB : Books w.heap.size (recAt f a.tmps ps assign body w.heap.size .ready none) ((w.alloc (.deferred (some []))).alloc (.loop (recAt f a.tmps ps assign body w.heap.size .ready none))) := by
    generalize recAt f a.tmps ps assign body w.heap.size .ready none = r
    constructor
    · exact (Below.heap_alloc _ _ _ (by simp)).trans (by show (w.heap.push _)[w.heap.size]? = _; simp)
    · show (((w.heap.push _).push _ : Array Obj))[w.heap.size + 1]? = _
      simp [Array.getElem_push]
  obtain ⟨W1, hW1⟩ : ∃ W1, W1 = (w.alloc (.deferred (some []))).alloc (.loop (recAt f a.tmps ps assign body w.heap.size .ready none)) := ⟨_, rfl⟩
  rw [← hW1] at hB
  have hg1 : Ge w W1 := by rw [hW1]; exact ((Ge.refl w).alloc _).alloc _
  have hE : (Instr.enterLoop f a.tmps ps assign body F.round).run P w = .ok (w.heap.size + 1, [{ target := .collected w.heap.size, args := #[] }]) W1 := by
    rw [hro, hW1]
    exact run_enterLoop_outer _ _ _ _ _
  have hR : (resolve a.eval (rangeCall g (w.heap.size + 1)) 0).run P W1 = .ok { target := .fn (.func gf) lb, args := #[.func (.yield (w.heap.size + 1)) #[] #[]] } W1 := by
    simp only [resolve, hg]
    simp [go_sem]
  have hV : (invoke (.fn (.func gf) lb) #[.func (.yield (w.heap.size + 1)) #[] #[]]).run P W1 = .ok (.enter gf (#[.func (.yield (w.heap.size + 1)) #[] #[]] ++ lb)) W1 := by simp [invoke, go_sem, he]
  refine ⟨_, _, _, _, _, _, _, _, hE, hR, ?_, hV, fun _ => h1, (h f hf W1 hg1 hB).mono ?_⟩
  · intro f' h'
    simp [Target.leads] at h'
    rw [← h']
    exact hF
  · rintro e W2 ⟨⟨v, rfl⟩, st, pe, hst, hb, hend⟩
    have hr := run_endLoop (P := P) hb.loop hst
    obtain ⟨t1, t2, -⟩ := hb.turn (recAt f a.tmps ps assign body w.heap.size .exhausted pe)
    have := hend _ t2 t1.put
    cases pe with
    | none => exact ⟨none, _, hr, this⟩
    | some c => exact ⟨some c, _, hr, this⟩

/-- the jump with which a round's body ends, if it ends in one -/
def jumpOf : Exit → Option (Option Code)
  | .normal => some none
  | .ret => some (some .ret)
  | .exit i => some (some (.exit i))
  | .goto t => some (some (.goto t))
  | .panic _ => none
  | .outgrown => none
/-- a body's end: the books are there, and with the jump written into them the round keeps its word R -/
def Ended (b : Nat) (r : LoopState → Option Code → Loop) (R : Ending → World → Prop) (e : Exit) (_ : Act) (W : World) : Prop :=
  match jumpOf e with
  | none => False
  | some j => Books b (r .busy none) W ∧ ∀ W', Books b (r (if j.isNone then .ready else .done) j) W' → Aside b W W' → (∀ m, m ≤ b → Below m W W') → R (.returned (.bool j.isNone)) W'

theorem round_at {F : Fence} {n : Nat} {P : Program} {f : FuncId} {ts : Array Value} {ps : Array Tmp} {assign body : Code} {b : Nat} {xs : Array Value} {R : Ending → World → Prop} {W : World}
    (hf : F.fn f) (hps : xs.size = ps.size) (hb : Books b (recAt f ts ps assign body b .ready none) W)
    (h : assign.wpIn (F.inRound (b + 1)) n P (Exit.then (fun a1 W1 => Books b (recAt f ts ps assign body b .ready none) W1 ∧
      ∀ W2, Books b (recAt f ts ps assign body b .busy none) W2 → Aside b W1 W2 → (∀ m, m ≤ b → Below m W1 W2) → body.wpIn (F.inRound (b + 1)) n P (Ended b (recAt f ts ps assign body b) R) a1 W2) (fun _ _ _ => False))
      { tmps := (ps.zip xs).foldl (fun t (p, v) => t.setIfInBounds p v) ts, defers := [] } W) :
    YieldAt F n P (b + 1) xs W R := by
  refine ⟨f, _, assign, body, run_yield hb.loop hps, roundIn_of_wpIn hf (wpIn_mono h ?_)⟩
  have hend : ∀ (j : Option Code) (W3 : World), Books b (recAt f ts ps assign body b .busy none) W3 →
      (∀ W', Books b (recAt f ts ps assign body b (if j.isNone then .ready else .done) j) W' → Aside b W3 W' → (∀ m, m ≤ b → Below m W3 W') → R (.returned (.bool j.isNone)) W') →
      ∃ v w', (Instr.endRound (b + 1) j).run P W3 = .ok v w' ∧ R (.returned v) w' := fun j W3 hb3 h3 => by
    obtain ⟨t1, t2, t3⟩ := hb3.turn (recAt f ts ps assign body b (if j.isNone then .ready else .done) j)
    exact ⟨_, _, run_endRound j hb3.loop, h3 _ t1 t2 t3⟩
  rintro e a1 W1 hp
  cases e with
  | normal =>
    obtain ⟨hb1, hbody⟩ := hp
    obtain ⟨t1, t2, t3⟩ := hb1.turn (recAt f ts ps assign body b .busy none)
    refine ⟨_, run_beginRound hb1.loop rfl, wpIn_mono (hbody _ t1 t2 t3) ?_⟩
    rintro e a3 W3 hq
    cases e with
    | normal => exact hend _ _ hq.1 hq.2
    | ret => exact hend _ _ hq.1 hq.2
    | exit i => exact hend _ _ hq.1 hq.2
    | goto t => exact hend _ _ hq.1 hq.2
    | panic c => exact hq.elim
    | outgrown => exact hq.elim
  | ret => exact hp.elim
  | exit i => exact hp.elim
  | goto t => exact hp.elim
  | panic c => exact hp.elim
  | outgrown => exact hp.elim

/-- an iterator that tells nothing -/
def TellsNone (gf : Nat) (lb : Array Value) (w : World) : Prop :=
  ∀ (l : Nat) (W : World), Ge w W → CallsIn Fence.wide 2 Tryd.prog gf (#[.func (.yield l) #[] #[]] ++ lb) W fun e W' => (∃ v, e = .returned v) ∧ W' = W
theorem range_none {g : Operand} {ps : Array Tmp} {assign body : Code} {Q : Exit → Act → World → Prop} {a : Act} {w : World} {gf : Nat} {lb : Array Value}
    (hg : a.eval g = .func (.func gf) #[] lb) (he : ∀ xs W, (callFunc gf xs).run Tryd.prog W = .ok (.enter gf xs) W) (hseq : TellsNone gf lb w)
    (hdone : ∀ (D : Nat) (W : World), w.heap.size ≤ D → Ge w W → W.heap[D]? = some (.deferred (some [])) → Q .normal { a with defers := { target := .collected D, args := #[] } :: a.defers } W) :
    (Code.rangeFunc g ps assign body).wpIn Fence.wide 3 Tryd.prog Q a w := by
  refine range_open rfl (by omega) hg trivial he fun f _ W1 g1 b1 => (hseq _ W1 g1).mono ?_
  rintro e W2 ⟨hv, rfl⟩
  exact ⟨hv, .ready, none, by simp, b1, fun W3 s3 h3 => hdone _ W3 (Nat.le_refl _) (s3.ge (Nat.le_refl _) g1) h3⟩
end Go.Proofs.YtmhibpmgnicolaaDoor

namespace Go.Proofs.YtmhibpmgnicolaaDoor
open Go.RowKit Go.Shelf

theorem Aside.kp {B b : Nat} {A A' : World} (s : Aside b A A') (hb : B ≤ b) : Kp B A A' := by
  refine ⟨s.size, fun k hk => s.block k hk.1 ?_⟩
  rcases hk.2 with h | ⟨cs, t, mk, h, _⟩
  · exact .inl (by omega)
  · exact .inr ⟨_, h, rfl⟩

def encX (x : Msg × Sls) : Array Value := #[.agg (encG x.1 x.2).toArray]
/-- the iterator over block Bt tells messages of which Ok holds; a round that goes on keeps all below n0 -/
def Tells (Bt n0 : Nat) (S Sp : List (Msg × Sls) → Prop) (Ok : List (Msg × Sls) → Msg × Sls → World → Prop) (w : World) : Prop :=
  ∀ (l : Nat) (J Jx : List (Msg × Sls) → World → Prop) (W : World), Ge w W → (∀ s A A', Ge A A' → J s A → J s A') →
    (∀ pre x A, J pre A → Ok pre x A → YieldAt Fence.wide 1 Tryd.prog l (encX x) A fun e A' =>
      (e = .returned (.bool true) ∧ J (pre ++ [x]) A' ∧ Below n0 A A') ∨ (e = .returned (.bool false) ∧ Jx (pre ++ [x]) A')) →
    J [] W → CallsIn Fence.wide 2 Tryd.prog 44 #[.func (.yield l) #[] #[], .pointer (some ⟨Bt, 0, none⟩)] W fun e A' => (∃ v, e = .returned v) ∧ ((∃ xs, S xs ∧ J xs A') ∨ ∃ pre, Sp pre ∧ Jx pre A')

theorem range_msgs {g : Operand} {ps : Array Tmp} {assign body : Code} {Q : Exit → Act → World → Prop} {a : Act} {w : World} {Bt n0 : Nat} {S Sp : List (Msg × Sls) → Prop} {Ok : List (Msg × Sls) → Msg × Sls → World → Prop}
    (hg : a.eval g = .func (.func 44) #[] #[.pointer (some ⟨Bt, 0, none⟩)]) (hps : ps.size = 1) (hn0 : n0 ≤ w.heap.size) (hseq : Tells Bt n0 S Sp Ok w)
    (I : List (Msg × Sls) → World → Prop) (hI : ∀ s A A', Aside w.heap.size A A' → I s A → I s A') (h0 : I [] w)
    (Ix : Code → List (Msg × Sls) → World → Prop) (hIx : ∀ c s A A', Aside w.heap.size A A' → Ix c s A → Ix c s A')
    (Ax : List (Msg × Sls) → Msg × Sls → Act → World → Prop) (hAx : ∀ pre x a' A A', Aside w.heap.size A A' → Ax pre x a' A → Ax pre x a' A')
    (hassign : ∀ (l : Nat) (pre : List (Msg × Sls)) (x : Msg × Sls) (W : World) (K : Act → World → Prop), I pre W → Ok pre x W → (∀ a' W', Ge W W' → Ax pre x a' W' → K a' W') →
      assign.wpIn (Fence.wide.inRound l) 1 Tryd.prog (Exit.then K (fun _ _ _ => False)) { tmps := (ps.zip (encX x)).foldl (fun t (p, v) => t.setIfInBounds p v) a.tmps, defers := [] } W)
    (hbody : ∀ (l : Nat) (pre : List (Msg × Sls)) (x : Msg × Sls) (a' : Act) (W : World), I pre W → Ax pre x a' W → body.wpIn (Fence.wide.inRound l) 1 Tryd.prog (ownPostG w.heap.size (Below n0) I Ix (pre ++ [x]) W) a' W)
    (hdone : ∀ (D : Nat) (xs : List (Msg × Sls)) (W : World), w.heap.size ≤ D → S xs → I xs W → W.heap[D]? = some (.deferred (some [])) → Q .normal { a with defers := { target := .collected D, args := #[] } :: a.defers } W)
    (hstop : ∀ (D : Nat) (c : Code) (pre : List (Msg × Sls)) (W : World), w.heap.size ≤ D → Sp pre → Ix c pre W → W.heap[D]? = some (.deferred (some [])) → c.wpIn Fence.wide 3 Tryd.prog Q { a with defers := { target := .collected D, args := #[] } :: a.defers } W) :
    (Code.rangeFunc g ps assign body).wpIn Fence.wide 3 Tryd.prog Q a w := by
  refine range_open rfl (by omega) hg trivial (enters_of Tryd.func44 (by kernel_rfl) rfl) fun f hf W1 g1 b1 => ?_
  refine (hseq (w.heap.size + 1) (fun pre W => I pre W ∧ Books w.heap.size (recAt f a.tmps ps assign body w.heap.size .ready none) W)
    (fun pre W => ∃ c, Ix c pre W ∧ Books w.heap.size (recAt f a.tmps ps assign body w.heap.size .done (some c)) W) W1 g1
    (fun s A A' g h => ⟨hI s A A' (g.aside _) h.1, h.2.ge g⟩) ?_ ⟨hI _ _ _ (g1.aside _) h0, b1⟩).mono ?_
  · rintro pre x W ⟨hi, hb⟩ hok
    refine round_at hf hps.symm hb (hassign _ pre x W _ hi hok fun a' Wa ga ha => ⟨hb.ge ga, fun W2 b2 s2 k2 => wpIn_mono (hbody _ pre x a' W2 (hI _ _ _ s2 (hI _ _ _ (ga.aside _) hi)) (hAx _ _ _ _ _ s2 ha)) ?_⟩)
    have gw := ga.mono (Nat.le_trans hn0 (Nat.le_of_lt hb.lt))
    rintro e a3 W3 hp
    cases e with
    | normal => exact ⟨b2.kept hp.1, fun W4 b4 s4 k4 => .inl ⟨rfl, ⟨hI _ _ _ s4 hp.2.2, b4⟩, gw.trans ((k2 n0 hn0).trans (hp.2.1.trans (k4 n0 hn0)))⟩⟩
    | ret => exact ⟨b2.kept hp.1, fun W4 b4 s4 _ => .inr ⟨rfl, .ret, hIx _ _ _ _ s4 hp.2, b4⟩⟩
    | exit i => exact ⟨b2.kept hp.1, fun W4 b4 s4 _ => .inr ⟨rfl, .exit i, hIx _ _ _ _ s4 hp.2, b4⟩⟩
    | goto t => exact ⟨b2.kept hp.1, fun W4 b4 s4 _ => .inr ⟨rfl, .goto t, hIx _ _ _ _ s4 hp.2, b4⟩⟩
    | panic c => exact hp.elim
    | outgrown => exact hp.elim
  · rintro e W2 ⟨hv, (⟨xs, hS, hi, hb⟩ | ⟨pre, hSp, c, hi, hb⟩)⟩
    · exact ⟨hv, .ready, none, by simp, hb, fun W3 s3 h3 => hdone _ xs W3 (Nat.le_refl _) hS (hI _ _ _ s3 hi) h3⟩
    · exact ⟨hv, .done, some c, by simp, hb, fun W3 s3 h3 => hstop _ c pre W3 (Nat.le_refl _) hSp (hIx _ _ _ _ s3 hi) h3⟩

attribute [local go_sem] Oper.semAt_some

set_option maxRecDepth 100000 in
set_option maxHeartbeats 4000000 in
theorem msgs_seq {B : Nat} {w w0 : World} (hg0 : Ge w w0) {Bt : Nat} {v : Value} {l : List Msg} {G : Nat → Prop} (hX : Bx w Bt 72 #[v]) (hrow : RowAt B w v l G) (hG : ∀ b, G b → b < w.heap.size) (hsm : ∀ m ∈ l, Small m) (hl : l.length ≤ 64) (hB : B ≤ w.heap.size)
    (n0 : Nat) (hn0 : w.heap.size ≤ n0) (hn0' : n0 ≤ w0.heap.size) :
    Tells Bt n0 (fun xs : List (Msg × Sls) => xs.map (·.1) = l) (fun pre : List (Msg × Sls) => ∃ k, k < l.length ∧ pre.map (·.1) = l.take (k + 1)) (fun (pre : List (Msg × Sls)) (x : Msg × Sls) W => pre.map (·.1) = l.take pre.length ∧ l[pre.length]? = some x.1 ∧ SlAt B W x.2 x.1) w0 := fun lp J Jx W hW hJ hY h0 => by
  have hsW : n0 ≤ W.heap.size := Nat.le_trans hn0' hW.size
  replace hW : Ge w W := hg0.trans hW
  have X : Bx W Bt 72 #[v] := hX.ge hW
  have c := X.cell
  have lt := X.lt
  obtain ⟨A, cap, rfl, hle, _, hcap⟩ := hrow
  have HC := Lib.hid hcap
  have HY := Lib.hid hY
  have HJ := Lib.hid hJ
  have HW := Lib.hid hW
  have HG := Lib.hid hG
  have HSM := Lib.hid hsm
  have HLE := Lib.hid hle
  have HBW := Lib.hid hB
  have HN0 := Lib.hid hn0
  have HSW := Lib.hid hsW
  clear hY hJ hcap hX hW hG hsm hle hB hn0 hn0' hsW
  refine callsIn_of_wp Tryd.func44 rfl trivial ?_ rfl
  simp only [Tryd.ntmps44, List.size_toArray, List.length_cons, List.length_nil, Nat.reduceAdd, Nat.reduceSub, Array.replicate_succ, Array.replicate_zero, List.push_toArray, List.append_toArray, List.nil_append, List.cons_append]
  gi_wp2
  gi_loopw [7] (fun i wr => ∃ (k : Nat) (xs : List (Msg × Sls)), k ≤ l.length ∧ i = .int .i64 (k : Int) ∧ Below w.heap.size w wr ∧ W.heap.size ≤ wr.heap.size ∧ J xs wr ∧ xs.map (·.1) = l.take k) (fun i _ => l.length - (intOf i).toNat)
  case atStart => exact ⟨0, [], by omega, rfl, HW.out, Nat.le_refl _, h0, by simp⟩
  case round =>
    obtain ⟨k, xs, hk, rfl, hg, hsz, hj, hxs⟩ := hrel
    clear X c lt
    have HGR := Lib.hid hg
    have HJ0 := Lib.hid hj
    have HXS := Lib.hid hxs
    have HSZ := Lib.hid hsz
    have hxl : xs.length = k := by
      have := congrArg List.length hxs
      simp at this
      omega
    have HXL := Lib.hid hxl
    by_cases hlt : k < l.length
    · obtain ⟨g, off, cs, rfl, hgG, hbx, hsc, hms⟩ := HC.out (by have := HLE.out; omega)
      obtain ⟨m, hm⟩ : ∃ m, l[k]? = some m := ⟨_, List.getElem?_eq_getElem hlt⟩
      obtain ⟨s, hs, hcell⟩ := hms k m hm
      have HR := Lib.hid (show wr.rangeAt g (off + k * 19) (encG m s) from fun i u hu => ((hbx.ge hg).cell _).trans (hcell i u hu))
      have HCL := Lib.hid (fun w' (g : Ge w w') => clone_any (hs.ge g) (HSM.out m (List.mem_of_getElem? hm)) (Nat.le_trans HBW.out g.size))
      have HLEN := Lib.hid (show (encG m s).length = 19 from rfl)
      have HLS := Lib.hid (show (encG m s).toArray.size = 19 from rfl)
      have HONE := Lib.hid (show ∀ u ∈ (encG m s).toArray.toList, u.oneCell' = true from fun u hu => encG_one hs u (by simpa using hu))
      have hlb : g < wr.heap.size := (hbx.ge hg).lt
      have hsn : l.take (k + 1) = l.take k ++ [m] := by
        rw [List.take_succ_eq_append_getElem hlt]
        rw [List.getElem?_eq_getElem hlt] at hm
        rw [Option.some.inj hm]
      have HSN := Lib.hid hsn
      have HM := Lib.hid hm
      have i1 : (0 : Int) ≤ (k : Int) := by omega
      have i2 : (k : Int) < (l.length : Int) := by omega
      have f24 : Fence.wide.fn 24 := trivial
      clear hgG hbx hsc hms hs hcell hsn hm hg hj hxs hsz hxl
      generalize encG m s = L at *
      gi_wp2_with (first | (refine wpListIn_load_at (by go_simp) (.tmp 9) (by rfl) g (off + k * 19) (by rfl) L HR.out HLEN.out ?_) | (refine wpListIn_store_msg (by rfl) (.tmp 4) (.tmp 10) (by rfl) wr.heap.size L.toArray (by rfl) (by rfl) (Bx.new _ 45 _ rfl) rfl HLS.out HONE.out (w0 := wr) (Nat.le_refl _) ((Ge.refl _).alloc _) ?_; intro w3 x3 g3 q3; clear q3; have HX3 := Lib.hid x3; have HG3 := Lib.hid g3; clear x3 g3) | (refine wpListIn_load_msg (by go_simp) (.tmp 4) (by rfl) wr.heap.size (by rfl) L.toArray HX3.out HLS.out ?_))
      refine (callsIn_wide.2 (HCL.out _ (Ge.trans HGR.out HG3.out))).mono ?_
      rintro e w4 ⟨s2, rfl, hs2, g4⟩
      have hg34 := HG3.out.trans g4
      have hj4 := HJ.out _ _ _ hg34 HJ0.out
      obtain ⟨fn, tmps, assign, body, hy, hR⟩ := HY.out xs (m, s2) w4 hj4 ⟨by rw [HXL.out]; exact HXS.out, by rw [HXL.out]; exact HM.out, hs2⟩
      have HRR := Lib.hid hR
      have HG4 := Lib.hid (Ge.trans HGR.out hg34)
      have HZ4 := Lib.hid (Nat.le_trans HSZ.out hg34.size)
      unfold encX at hy
      dsimp only at hy
      clear hs2 g4 hg34 hj4 hR
      generalize (encG m s2).toArray = L2 at *
      gi_wp2
      refine HRR.out.mono ?_
      rintro e W3 (⟨rfl, hJ3, hk3⟩ | ⟨rfl, hJx⟩)
      · have H3 := Lib.hid hJ3
        have G3 := Lib.hid (Below.trans (show Below w.heap.size w w4 from HG4.out) (hk3.mono HN0.out))
        have hs3 : W.heap.size ≤ W3.heap.size := Nat.le_trans HZ4.out hk3.size
        clear hJ3 hk3
        gi_wp2
        go_roundw
        case rel => exact ⟨k + 1, xs ++ [(m, s2)], by omega, by go_num, G3.out, hs3, H3.out, by rw [List.map_append, HXS.out, HSN.out]; rfl⟩
        case measure => simp [intOf]; omega
      · have H3 := Lib.hid hJx
        clear hJx
        gi_wp2
        refine bodyPost_ret (results_none rfl _ _ _) rfl ?_
        exact ⟨⟨_, rfl⟩, .inr ⟨_, ⟨k, hlt, by rw [List.map_append, HXS.out, HSN.out]; rfl⟩, H3.out⟩⟩
    · have hkx : k = l.length := by omega
      clear hg hj hxs hxl
      gi_wp2
      go_end0
      exact ⟨⟨_, rfl⟩, .inl ⟨xs, by rw [HXS.out, hkx, List.take_length], HJ0.out⟩⟩
end Go.Proofs.YtmhibpmgnicolaaDoor
