/-
  A net in memory: its links' messages, what is sent, what is taken; appends onto a link's row.
  Which link: isMade, row, link, Counts, Room.
  link, Counts, Room.
  New: links without messages.
  Left: how many messages are in all links.
-/
import Derived.Test.YtmhibpmgnicolaaDoorBare
import Derived.Test.YtmhibpmgnicolaaDoorClone
import Derived.BigQuiet
namespace Go.Proofs.YtmhibpmgnicolaaDoor
open Go.RowKit

structure Lk where
  l : List Msg
  sent : Int
  taken : Int
structure Nt where
  k : Nat
  room : Nat
  rows : List Lk

def MsgsIn (B : Nat) (w : World) (cs : Array Value) (off : Nat) (l : List Msg) : Prop := ∀ (j : Nat) (m : Msg), l[j]? = some m → ∃ s, SlAt B w s m ∧ ∀ (i : Nat) (u : Value), (encG m s)[i]? = some u → cs[off + j * 19 + i]? = some u
/-- a link's row: any window of a block that G allows -/
def RowAt (B : Nat) (w : World) (v : Value) (l : List Msg) (G : Nat → Prop) : Prop := ∃ (A : Option Addr) (cap : Nat), v = .slice A l.length cap ∧ l.length ≤ cap ∧ (cap = 0 → A = none ∨ ∃ a, A = some a) ∧
  (0 < cap → ∃ g off cs, A = some ⟨g, off, none⟩ ∧ G g ∧ Bx w g 45 cs ∧ off + cap * 19 ≤ cs.size ∧ MsgsIn B w cs off l)
theorem MsgsIn.kp {B : Nat} {w w' : World} {cs : Array Value} {off : Nat} {l : List Msg} (h : MsgsIn B w cs off l) (k : Kp B w w') : MsgsIn B w' cs off l := fun j m hj => by
  obtain ⟨s, h1, h2⟩ := h j m hj
  exact ⟨s, h1.kp k, h2⟩
theorem RowAt.keep {B : Nat} {w w' : World} {v : Value} {l : List Msg} {G G' : Nat → Prop} (h : RowAt B w v l G) (k : Kp B w w') (hb : ∀ g, G g → w'.heap[g]? = w.heap[g]?) (hG : ∀ g, G g → G' g) : RowAt B w' v l G' := by
  obtain ⟨A, cap, rfl, hle, h0, hc⟩ := h
  refine ⟨A, cap, rfl, hle, h0, fun hp => ?_⟩
  obtain ⟨g, off, cs, e, hg, hx, hs, hm⟩ := hc hp
  exact ⟨g, off, cs, e, hG g hg, (hb g hg).trans hx, hs, hm.kp k⟩
theorem RowAt.nil (B : Nat) (w : World) (G : Nat → Prop) : RowAt B w (.slice none 0 0) [] G := ⟨none, 0, rfl, Nat.le_refl _, fun _ => .inl rfl, fun h => absurd h (by omega)⟩
theorem encG_len (m : Msg) (s : Sls) : (encG m s).length = 19 := rfl
theorem encG_one {B : Nat} {w : World} {m : Msg} {s : Sls} (h : SlAt B w s m) : ∀ u ∈ encG m s, u.oneCell' = true := by
  obtain ⟨A1, c1, e1⟩ := h.r.form
  obtain ⟨A2, c2, e2⟩ := h.c.form
  obtain ⟨A3, c3, e3⟩ := h.d.form
  obtain ⟨A4, c4, e4⟩ := h.p.form
  obtain ⟨A5, c5, e5⟩ := h.mv.form
  obtain ⟨A6, c6, e6⟩ := h.e.form
  simp [encG, e1, e2, e3, e4, e5, e6, Value.oneCell']
theorem setsA_len (vs : List Value) (o : Nat) (cs : Array Value) (h : o + vs.length ≤ cs.size) : (setsA cs o vs).size = cs.size := by
  rw [← Array.length_toList, setsA_list vs o cs h]
  simp
  omega
theorem setsA_lt (vs : List Value) (o : Nat) (cs : Array Value) (h : o + vs.length ≤ cs.size) (i : Nat) (hi : i < o) : (setsA cs o vs)[i]? = cs[i]? := by
  rw [← Array.getElem?_toList, setsA_list vs o cs h, List.append_assoc, List.getElem?_append_left (by simp; omega), List.getElem?_take, if_pos hi, Array.getElem?_toList]
theorem setsA_in (vs : List Value) (o : Nat) (cs : Array Value) (h : o + vs.length ≤ cs.size) (j : Nat) (hj : j < vs.length) : (setsA cs o vs)[o + j]? = vs[j]? := by
  rw [← Array.getElem?_toList, setsA_list vs o cs h, List.append_assoc, List.getElem?_append_right (by simp; omega), List.getElem?_append_left (by simp; omega)]
  congr 1
  simp
  omega
theorem info45 : (Tryd.prog.info? 45).map (fun i => (i.zero.map (·.cells.size), i.size, decide (i.bytes ≤ 1000))) = some (some 19, 19, true) := by kernel_rfl

/-- a message is appended to a link's row -/
theorem app_row {B : Nat} {w : World} {v : Value} {l : List Msg} {G : Nat → Prop} (h : RowAt B w v l G) (hG : ∀ g, G g → B ≤ g ∧ g < w.heap.size) (hl : l.length ≤ 1000000) (b1 : Nat) (m : Msg) (s : Sls)
    (hb1 : Bx w b1 45 (encG m s).toArray) (hs : SlAt B w s m) (ty : TypeId) : ∃ v' w', (Builtin.append_ #[72, 72] ty #[v, .slice (some ⟨b1, 0, none⟩) 1 1]).run Tryd.prog w = .ok v' w' ∧
      RowAt B w' v' (l ++ [m]) (fun g => G g ∨ (w.heap.size ≤ g ∧ g < w'.heap.size)) ∧ (∀ b, b < w.heap.size → ¬ G b → w'.heap[b]? = w.heap[b]?) ∧ Kp B w w' ∧ Below 0 w w' ∧ (∃ A n c, v' = .slice A n c) := by
  obtain ⟨i, hi, hz, h19, hby⟩ : ∃ i, Tryd.prog.info? 45 = some i ∧ i.zero.map (·.cells.size) = some 19 ∧ i.size = 19 ∧ i.bytes ≤ 1000 := by
    have := info45
    rcases hq : Tryd.prog.info? 45 with _ | i
    · rw [hq] at this; cases this
    · rw [hq] at this
      simp at this
      exact ⟨i, rfl, by simpa using this.1, this.2.1, this.2.2⟩
  obtain ⟨z, hz, hzs⟩ : ∃ z, i.zero = some z ∧ z.cells.size = 19 := by
    rcases hq : i.zero with _ | z
    · rw [hq] at hz; cases hz
    · rw [hq] at hz
      simp at hz
      exact ⟨z, rfl, hz⟩
  have hnews : ∀ j u, (encG m s)[j]? = some u → w.cell? ((⟨b1, 0, none⟩ : Addr).add j) = some u := by
    intro j u hu
    rw [addr_add, Nat.zero_add, hb1.cell]
    simpa using hu
  have hone := encG_one hs
  have hbytes : (l.length + 1) * i.bytes ≤ 140737488355328 := by
    have : (l.length + 1) * i.bytes ≤ 1000001 * 1000 := Nat.mul_le_mul (by omega) hby
    omega
  have hmx : l.length + 1 ≤ maxLen := by simp only [maxLen]; omega
  -- what a new row gives
  have fin : ∀ (v' : Value) (w' : World) (olds : List Value), w'.ownsRow w.heap.size 45 19 v' (l.length + 1) (olds ++ encG m s) → w.grownBy w' none → olds.length = l.length * 19 →
      (∀ (j : Nat) (m' : Msg), l[j]? = some m' → ∃ s', SlAt B w s' m' ∧ ∀ (i : Nat) (u : Value), (encG m' s')[i]? = some u → olds[j * 19 + i]? = some u) →
      RowAt B w' v' (l ++ [m]) (fun g => G g ∨ (w.heap.size ≤ g ∧ g < w'.heap.size)) ∧ (∀ b, b < w.heap.size → ¬ G b → w'.heap[b]? = w.heap[b]?) ∧ Kp B w w' ∧ Below 0 w w' ∧ (∃ A n c, v' = .slice A n c) := by
    intro v' w' olds hown hgr hol hold
    have hkp : Kp B w w' := ⟨hgr.size, fun b hb => hgr.block b hb.1 (by simp)⟩
    refine ⟨?_, fun b hb _ => hgr.block b hb (by simp), hkp, ⟨hgr.os, hgr.tape, hgr.output, hgr.size, fun k hk => absurd hk (Nat.not_lt_zero k)⟩, ?_⟩
    · rcases hown.2 with ⟨_, h0⟩ | ⟨g, cap, cur, hv, hb, hh, hle, hm, hsz, htk⟩
      · omega
      · have hlt : g < w'.heap.size := (Array.getElem?_eq_some_iff.1 hh).1
        refine ⟨some ⟨g, 0, none⟩, cap, by rw [hv]; simp, by simpa using hle, fun _ => .inr ⟨_, rfl⟩, fun _ => ⟨g, 0, cur, rfl, .inr ⟨hb, hlt⟩, hh, by omega, ?_⟩⟩
        have hcur : ∀ (x : Nat) (u : Value), (olds ++ encG m s)[x]? = some u → cur[x]? = some u := by
          intro x u hx
          have hxl : x < (l.length + 1) * 19 := by
            have := (List.getElem?_eq_some_iff.1 hx).1
            rw [List.length_append, hol, encG_len] at this
            omega
          rw [← htk, List.getElem?_take, if_pos hxl, Array.getElem?_toList] at hx
          exact hx
        intro j m' hj
        rw [List.getElem?_append] at hj
        split at hj
        · obtain ⟨s', e1, e2⟩ := hold j m' hj
          refine ⟨s', e1.kp hkp, fun i u hu => hcur _ u ?_⟩
          rw [Nat.zero_add, List.getElem?_append_left (by
            have := (List.getElem?_eq_some_iff.1 (e2 i u hu)).1
            exact this)]
          exact e2 i u hu
        · have hj0 : j = l.length := by
            have := (List.getElem?_eq_some_iff.1 hj).1
            simp at this
            omega
          subst hj0
          simp at hj
          subst hj
          refine ⟨s, hs.kp hkp, fun i u hu => hcur _ u ?_⟩
          rw [Nat.zero_add, List.getElem?_append_right (by rw [hol]; omega), hol, show l.length * 19 + i - l.length * 19 = i by omega]
          exact hu
    · rcases hown.2 with ⟨_, h0⟩ | ⟨g, cap, cur, hv, _⟩
      · omega
      · exact ⟨_, _, _, hv⟩
  obtain ⟨A, cap, rfl, hle, h0, hc⟩ := h
  rcases Nat.eq_zero_or_pos cap with hcz | hcp
  · subst hcz
    have hln : l = [] := List.eq_nil_of_length_eq_zero (by omega)
    subst hln
    rcases h0 rfl with rfl | ⟨a, rfl⟩
    · obtain ⟨v', w', hr, h2, h3, _⟩ := run_append_own_at (P := Tryd.prog) w w.heap.size 72 ty 45 i z 19 i.bytes Tryd.underlying72 hi hz h19 rfl hzs (by omega) (.slice none 0 0) 0 [] (World.ownsRow_nil w _ _ _) ⟨b1, 0, none⟩ 1 1 (encG m s) (by rw [encG_len]) hnews hone (by simpa using hmx) (by simpa using hbytes) (Nat.le_refl _)
      exact ⟨v', w', hr, fin v' w' [] (by simpa using h2) h3 rfl (fun j m' hj => by simp at hj)⟩
    · obtain ⟨v', w', hr, h2, h3⟩ := run_append_arg_grows (P := Tryd.prog) w 72 ty 45 i z 19 i.bytes Tryd.underlying72 hi hz h19 rfl hzs (by omega) a 0 0 [] rfl (fun j u hu => by simp at hu) ⟨b1, 0, none⟩ 1 1 (encG m s) (by rw [encG_len]) hnews (by omega) (by simpa using hmx) (by simpa using hbytes)
      exact ⟨v', w', hr, fin v' w' [] (by simpa using h2) h3 rfl (fun j m' hj => by simp at hj)⟩
  obtain ⟨g, off, cs, rfl, hg, hx, hsz, hm⟩ := hc hcp
  by_cases hroom : l.length + 1 ≤ cap
  · have hfit : off + l.length * 19 + 19 ≤ cs.size := by omega
    have hr := run_append_room_cells (P := Tryd.prog) w 72 ty 45 i Tryd.underlying72 hi g off l.length cap ⟨b1, 0, none⟩ 1 1 (encG m s) (by rw [encG_len, h19]) hnews hone hroom
      (fun j hj => by rw [encG_len] at hj; rw [h19, hx.cell, Array.getElem?_eq_getElem (by omega)]; rfl) (fun j _ => hx.frozen _)
    rw [h19] at hr
    have hfit' : off + l.length * 19 + (encG m s).length ≤ cs.size := by rw [encG_len]; exact hfit
    have hkp : Kp B w (w.setCells g (off + l.length * 19) (encG m s)) := Kp.sets rfl (hG g hg).1 _ _ hx
    have hx' := hx.sets (encG m s) (off + l.length * 19)
    refine ⟨_, _, hr, ⟨some ⟨g, off, none⟩, cap, by simp, by simpa using hroom, fun _ => .inr ⟨_, rfl⟩, fun _ => ⟨g, off, _, rfl, .inl hg, hx', by rw [setsA_len _ _ _ hfit']; exact hsz, ?_⟩⟩, ?_, hkp, below_sets (Nat.zero_le _) _ _ _ (Below.refl 0 w), ⟨_, _, _, rfl⟩⟩
    · intro j m' hj
      rw [List.getElem?_append] at hj
      split at hj
      · rename_i hjl
        obtain ⟨s', e1, e2⟩ := hm j m' hj
        refine ⟨s', e1.kp hkp, fun i u hu => ?_⟩
        have hi19 : i < 19 := (List.getElem?_eq_some_iff.1 hu).1
        rw [setsA_lt _ _ _ hfit' _ (by omega)]
        exact e2 i u hu
      · have hj0 : j = l.length := by
          have := (List.getElem?_eq_some_iff.1 hj).1
          simp at this
          omega
        subst hj0
        simp at hj
        subst hj
        refine ⟨s, hs.kp hkp, fun i u hu => ?_⟩
        rw [setsA_in _ _ _ hfit' i (List.getElem?_eq_some_iff.1 hu).1]
        exact hu
    · intro b hb hnb
      have hne : g ≠ b := fun e => hnb (e ▸ hg)
      have : ∀ (vs : List Value) (o : Nat) (w1 : World), (w1.setCells g o vs).heap[b]? = w1.heap[b]? := by
        intro vs
        induction vs with
        | nil => intro o w1; rfl
        | cons x r ih => intro o w1; exact (ih (o + 1) _).trans (Below.heap_setCell _ _ _ b (fun e => hne e.symm))
      exact this _ _ _
  · have hcl : cap = l.length := by omega
    obtain ⟨olds, holds⟩ : ∃ olds : List Value, olds = (cs.toList.drop off).take (l.length * 19) := ⟨_, rfl⟩
    have hol : olds.length = l.length * 19 := by
      have := Array.length_toList (xs := cs)
      rw [holds, List.length_take, List.length_drop]
      omega
    have hog : ∀ x, x < l.length * 19 → olds[x]? = cs[off + x]? := by
      intro x hx'
      rw [holds, List.getElem?_take, if_pos hx', List.getElem?_drop, Array.getElem?_toList]
    obtain ⟨v', w', hr, h2, h3⟩ := run_append_arg_grows (P := Tryd.prog) w 72 ty 45 i z 19 i.bytes Tryd.underlying72 hi hz h19 rfl hzs (by omega) ⟨g, off, none⟩ l.length cap olds hol (fun j u hu => by
        have hj : j < l.length * 19 := by
          have := (List.getElem?_eq_some_iff.1 hu).1
          omega
        rw [hog j hj] at hu
        rw [addr_add, hx.cell]
        exact hu) ⟨b1, 0, none⟩ 1 1 (encG m s) (by rw [encG_len]) hnews (by omega) hmx hbytes
    refine ⟨v', w', hr, fin v' w' olds h2 h3 hol (fun j m' hj => ?_)⟩
    obtain ⟨s', e1, e2⟩ := hm j m' hj
    refine ⟨s', e1, fun i u hu => ?_⟩
    have hi19 : i < 19 := (List.getElem?_eq_some_iff.1 hu).1
    have hjl : j < l.length := (List.getElem?_eq_some_iff.1 hj).1
    rw [hog _ (by omega), ← Nat.add_assoc]
    exact e2 i u hu

/-- what does not lie in memory -/
structure Nt.Ok (S : Nt) : Prop where
  k1 : 1 ≤ S.k
  k2 : S.k ≤ 16
  r1 : 1 ≤ S.room
  r2 : S.room ≤ 64
  len : S.rows.length = S.k * S.k
  small : ∀ r ∈ S.rows, r.l.length ≤ 64
/-- a link as its three cells lie -/
def LinkAt (B : Nat) (w : World) (O : Nat → Option Nat) (C : Array Value) (j : Nat) (r : Lk) : Prop := ∃ v, C[j * 3]? = some v ∧ C[j * 3 + 1]? = some (.int .i64 r.sent) ∧ C[j * 3 + 2]? = some (.int .i64 r.taken) ∧ RowAt B w v r.l (fun g => O g = some j)
/-- a net, but for its link j -/
structure NetP (B : Nat) (w : World) (p q : Nat) (O : Nat → Option Nat) (S : Nt) (C : Array Value) (j : Nat) : Prop where
  net : Bx w p 58 #[.int .i64 S.k, .int .i64 S.room, .slice (some ⟨q, 0, none⟩) (S.k * S.k) (C.size / 3)]
  ok : S.Ok
  bp : B ≤ p
  bq : B ≤ q
  bO : ∀ b j, O b = some j → B ≤ b ∧ b < w.heap.size ∧ b ≠ p ∧ b ≠ q
  row : Bx w q 87 C
  sz : S.k * S.k * 3 ≤ C.size
  rows : ∀ (i : Nat) (r : Lk), i ≠ j → S.rows[i]? = some r → LinkAt B w O C i r
structure NetC (B : Nat) (w : World) (p q : Nat) (O : Nat → Option Nat) (S : Nt) (C : Array Value) : Prop where
  net : Bx w p 58 #[.int .i64 S.k, .int .i64 S.room, .slice (some ⟨q, 0, none⟩) (S.k * S.k) (C.size / 3)]
  ok : S.Ok
  bp : B ≤ p
  bq : B ≤ q
  bO : ∀ b j, O b = some j → B ≤ b ∧ b < w.heap.size ∧ b ≠ p ∧ b ≠ q
  row : Bx w q 87 C
  sz : S.k * S.k * 3 ≤ C.size
  rows : ∀ (i : Nat) (r : Lk), S.rows[i]? = some r → LinkAt B w O C i r
theorem NetC.part {B : Nat} {w : World} {p q : Nat} {O : Nat → Option Nat} {S : Nt} {C : Array Value} (h : NetC B w p q O S C) (j : Nat) : NetP B w p q O S C j :=
  ⟨h.net, h.ok, h.bp, h.bq, h.bO, h.row, h.sz, fun i r _ => h.rows i r⟩
theorem LinkAt.keep {B : Nat} {w w' : World} {O O' : Nat → Option Nat} {C : Array Value} {j : Nat} {r : Lk} (h : LinkAt B w O C j r) (k : Kp B w w') (hb : ∀ b, O b = some j → w'.heap[b]? = w.heap[b]? ∧ O' b = some j) : LinkAt B w' O' C j r := by
  obtain ⟨v, e1, e2, e3, e4⟩ := h
  exact ⟨v, e1, e2, e3, e4.keep k (fun g hg => (hb g hg).1) (fun g hg => (hb g hg).2)⟩
def FpC (p q : Nat) (O : Nat → Option Nat) (b : Nat) : Prop := b = p ∨ b = q ∨ O b ≠ none
theorem NetC.keep {B : Nat} {w w' : World} {p q : Nat} {O : Nat → Option Nat} {S : Nt} {C : Array Value} (h : NetC B w p q O S C) (k : Kp B w w') (hb : ∀ b, FpC p q O b → w'.heap[b]? = w.heap[b]?) : NetC B w' p q O S C := by
  refine ⟨(hb p (.inl rfl)).trans h.net, h.ok, h.bp, h.bq, fun b j hj => ?_, (hb q (.inr (.inl rfl))).trans h.row, h.sz, fun j r hj => (h.rows j r hj).keep k (fun b e => ⟨hb b (.inr (.inr (by rw [e]; simp))), e⟩)⟩
  obtain ⟨a, b1, c, d⟩ := h.bO b j hj
  exact ⟨a, Nat.lt_of_lt_of_le b1 k.size, c, d⟩
theorem NetC.lt {B : Nat} {w : World} {p q : Nat} {O : Nat → Option Nat} {S : Nt} {C : Array Value} (h : NetC B w p q O S C) {b : Nat} (hb : FpC p q O b) : b < w.heap.size := by
  rcases hb with rfl | rfl | hb
  · exact h.net.lt
  · exact h.row.lt
  · obtain ⟨j, hj⟩ := Option.ne_none_iff_exists'.1 hb
    exact (h.bO b j hj).2.1
theorem NetC.ge {B : Nat} {w w' : World} {p q : Nat} {O : Nat → Option Nat} {S : Nt} {C : Array Value} (h : NetC B w p q O S C) (g : Ge w w') : NetC B w' p q O S C := h.keep (g.kp B) (fun b hb => g.block b (h.lt hb))
theorem NetP.keep {B : Nat} {w w' : World} {p q : Nat} {O : Nat → Option Nat} {S : Nt} {C : Array Value} {j : Nat} (h : NetP B w p q O S C j) (k : Kp B w w') (hp : w'.heap[p]? = w.heap[p]?) (hq : w'.heap[q]? = w.heap[q]?) (hb : ∀ b i, O b = some i → i ≠ j → w'.heap[b]? = w.heap[b]?) : NetP B w' p q O S C j := by
  refine ⟨hp.trans h.net, h.ok, h.bp, h.bq, fun b i hj => ?_, hq.trans h.row, h.sz, fun i r hne hj => (h.rows i r hne hj).keep k (fun b e => ⟨hb b i e hne, e⟩)⟩
  obtain ⟨a, b1, c, d⟩ := h.bO b i hj
  exact ⟨a, Nat.lt_of_lt_of_le b1 k.size, c, d⟩
theorem NetP.lt {B : Nat} {w : World} {p q : Nat} {O : Nat → Option Nat} {S : Nt} {C : Array Value} {j : Nat} (h : NetP B w p q O S C j) {b : Nat} (hb : FpC p q O b) : b < w.heap.size := by
  rcases hb with rfl | rfl | hb
  · exact h.net.lt
  · exact h.row.lt
  · obtain ⟨j, hj⟩ := Option.ne_none_iff_exists'.1 hb
    exact (h.bO b j hj).2.1
theorem NetP.ge {B : Nat} {w w' : World} {p q : Nat} {O : Nat → Option Nat} {S : Nt} {C : Array Value} {j : Nat} (h : NetP B w p q O S C j) (g : Ge w w') : NetP B w' p q O S C j :=
  h.keep (g.kp B) (g.block p (h.lt (.inl rfl))) (g.block q (h.lt (.inr (.inl rfl)))) (fun b i hb _ => g.block b (h.lt (.inr (.inr (by rw [hb]; simp)))))
theorem kp_set87 {B : Nat} {w : World} {q : Nat} {C : Array Value} (h : Bx w q 87 C) (hb : B ≤ q) (k : Nat) (v : Value) : Kp B w (w.setCell ⟨q, k, none⟩ v) := Kp.set h rfl hb k v
/-- a store into link j -/
theorem NetP.store {B : Nat} {w : World} {p q : Nat} {O : Nat → Option Nat} {S : Nt} {C : Array Value} {j : Nat} (h : NetP B w p q O S C j) (hj : j < S.k * S.k) (i : Nat) (hi : i < 3) (v v0 : Value) (r : Lk) (hl : r.l.length ≤ 64)
    (e0 : (C.setIfInBounds (j * 3 + i) v)[j * 3]? = some v0) (e1 : (C.setIfInBounds (j * 3 + i) v)[j * 3 + 1]? = some (.int .i64 r.sent)) (e2 : (C.setIfInBounds (j * 3 + i) v)[j * 3 + 2]? = some (.int .i64 r.taken)) (hr : RowAt B w v0 r.l (fun g => O g = some j)) :
    NetC B (w.setCell ⟨q, j * 3 + i, none⟩ v) p q O { S with rows := S.rows.set j r } (C.setIfInBounds (j * 3 + i) v) := by
  have hpq : p ≠ q := by
    intro e
    have h1 := h.net
    have h2 := h.row
    unfold Bx at h1 h2
    rw [e, h2] at h1
    simp at h1
  have hkp := kp_set87 h.row h.bq (j * 3 + i) v
  refine ⟨by simpa using h.net.set_ne (b' := q) (j * 3 + i) v hpq, ⟨h.ok.k1, h.ok.k2, h.ok.r1, h.ok.r2, by simp [h.ok.len], ?_⟩, h.bp, h.bq, fun b i' hb => ?_, h.row.set _ _, by simp [h.sz], fun i' r' hr' => ?_⟩
  · intro r' hr'
    rcases List.mem_or_eq_of_mem_set hr' with h1 | rfl
    · exact h.ok.small r' h1
    · exact hl
  · obtain ⟨a, b1, c, d⟩ := h.bO b i' hb
    exact ⟨a, Nat.lt_of_lt_of_le b1 hkp.size, c, d⟩
  · have hkeep : ∀ b i'', O b = some i'' → (w.setCell ⟨q, j * 3 + i, none⟩ v).heap[b]? = w.heap[b]? := fun b i'' hb => Below.heap_setCell _ _ _ _ (fun e => (h.bO b i'' hb).2.2.2 e)
    by_cases hij : i' = j
    · subst hij
      rw [List.getElem?_set_self (by rw [h.ok.len]; exact hj)] at hr'
      cases hr'
      exact ⟨v0, e0, e1, e2, hr.keep hkp (fun g hg => hkeep g _ hg) (fun _ h => h)⟩
    · rw [List.getElem?_set_ne (Ne.symm hij)] at hr'
      obtain ⟨v1, a0, a1, a2, a3⟩ := h.rows i' r' hij hr'
      refine ⟨v1, ?_, ?_, ?_, a3.keep hkp (fun g hg => hkeep g _ hg) (fun _ h => h)⟩
      · rw [Array.getElem?_setIfInBounds_ne (by omega)]; exact a0
      · rw [Array.getElem?_setIfInBounds_ne (by omega)]; exact a1
      · rw [Array.getElem?_setIfInBounds_ne (by omega)]; exact a2

/-- all but the blocks of F stays, and all data -/
structure Nx (B : Nat) (F : Nat → Prop) (w w' : World) : Prop where
  kp : Kp B w w'
  block : ∀ b, b < w.heap.size → ¬ F b → w'.heap[b]? = w.heap[b]?
  bel : Below 0 w w'
theorem Nx.of_ge {B : Nat} {F : Nat → Prop} {w w' : World} (g : Ge w w') : Nx B F w w' := ⟨g.kp B, fun b hb _ => g.block b hb, g.mono (Nat.zero_le _)⟩
theorem Nx.trans {B : Nat} {F F' : Nat → Prop} {a b c : World} (h : Nx B F a b) (k : Nx B F' b c) (hF : ∀ x, x < a.heap.size → F' x → F x) : Nx B F a c :=
  ⟨h.kp.trans k.kp, fun x hx hn => (k.block x (Nat.lt_of_lt_of_le hx h.kp.size) (fun hf => hn (hF x hx hf))).trans (h.block x hx hn), h.bel.trans k.bel⟩
/-- where all that may turn was made behind n -/
theorem Nx.below {B n : Nat} {F : Nat → Prop} {w w' : World} (h : Nx B F w w') (hF : ∀ b, F b → n ≤ b) (hn : n ≤ w.heap.size) : Below n w w' :=
  ⟨h.bel.os, h.bel.tape, h.bel.output, h.bel.size, fun k hk => h.block k (by omega) (fun hf => absurd (hF k hf) (by omega))⟩
theorem nx_set87 {B : Nat} {F : Nat → Prop} {w : World} {q : Nat} {C : Array Value} (h : Bx w q 87 C) (hb : B ≤ q) (hF : F q) (k : Nat) (v : Value) : Nx B F w (w.setCell ⟨q, k, none⟩ v) :=
  ⟨kp_set87 h hb k v, fun b _ hn => Below.heap_setCell _ _ _ b (fun e => hn (e ▸ hF)), Below.setCell (Below.refl 0 w) (Nat.zero_le _) v⟩

def Nt.idx (S : Nt) (f t : Int) : Option Nat := if 0 ≤ f ∧ f < S.k ∧ 0 ≤ t ∧ t < S.k ∧ f ≠ t then some (f.toNat * S.k + t.toNat) else none
theorem Nt.idx_lt {S : Nt} {f t : Int} {j : Nat} (h : S.idx f t = some j) : j < S.k * S.k := by
  unfold Nt.idx at h
  split at h
  · rename_i hc
    cases h
    obtain ⟨a, b, c, d, _⟩ := hc
    have h1 : f.toNat + 1 ≤ S.k := by omega
    have h2 : t.toNat < S.k := by omega
    have := Nat.mul_le_mul_right S.k h1
    rw [Nat.add_mul] at this
    omega
  · cases h
def rowP (q : Nat) : Option Nat → Option Addr
  | none => none
  | some j => some ⟨q, j * 3, none⟩
end Go.Proofs.YtmhibpmgnicolaaDoor

namespace Go.Proofs.YtmhibpmgnicolaaDoor
open Go.RowKit

theorem made_nil {w : World} : Calls Tryd.prog 28 #[.pointer none] w fun e w' => e = .returned (.bool false) ∧ Ge w w' := by
  go_enter Tryd.func28, Tryd.ntmps28
  go_wp2
  go_returns
  exact ⟨rfl, Ge.refl _⟩
theorem made_at {w : World} {p : Nat} {k : Int} (h0 : w.cell? ⟨p, 0, none⟩ = some (.int .i64 k)) : Calls Tryd.prog 28 #[.pointer (some ⟨p, 0, none⟩)] w fun e w' => e = .returned (.bool (decide (0 < k))) ∧ Ge w w' := by
  by_cases hk : 0 < k
  · have i1 : decide (0 < k) = true := decide_eq_true hk
    rw [i1]
    go_enter Tryd.func28, Tryd.ntmps28
    go_wp2
    go_returns
    exact ⟨rfl, Ge.refl _⟩
  · have i1 : decide (0 < k) = false := decide_eq_false hk
    rw [i1]
    go_enter Tryd.func28, Tryd.ntmps28
    go_wp2
    go_returns
    exact ⟨rfl, Ge.refl _⟩

theorem Ge.drewN {a b : World} (h : Ge a b) (n : Nat) : Ge a (b.drewN n) := h.trans ⟨rfl, rfl, rfl, Nat.le_refl _, fun _ _ => rfl⟩

/-- a net that no call made -/
def NoNet (w : World) (v : Value) : Prop := v = .pointer none ∨ ∃ p, v = .pointer (some ⟨p, 0, none⟩) ∧ w.cell? ⟨p, 0, none⟩ = some (.int .i64 0)
theorem NoNet.ge {w w' : World} {v : Value} (h : NoNet w v) (g : Ge w w') : NoNet w' v := by
  rcases h with h | ⟨p, h, hc⟩
  · exact .inl h
  · exact .inr ⟨p, h, (g.cell (cell_lt hc)).trans hc⟩
theorem made_no {w : World} {v : Value} (h : NoNet w v) : Calls Tryd.prog 28 #[v] w fun e w' => e = .returned (.bool false) ∧ Ge w w' := by
  rcases h with rfl | ⟨p, rfl, hc⟩
  · exact made_nil
  · exact made_at hc
theorem made_yes {B : Nat} {w : World} {p q : Nat} {O : Nat → Option Nat} {S : Nt} {C : Array Value} (h : NetC B w p q O S C) : Calls Tryd.prog 28 #[.pointer (some ⟨p, 0, none⟩)] w fun e w' => e = .returned (.bool true) ∧ Ge w w' := by
  have := made_at (h.net.cell 0)
  rw [show decide ((0 : Int) < (S.k : Int)) = true from decide_eq_true (by have := h.ok.k1; omega)] at this
  exact this

theorem row_no {w : World} {v : Value} (h : NoNet w v) (f t : Int) : Calls Tryd.prog 43 #[v, .int .i64 f, .int .i64 t] w fun e w' => e = .returned (.pointer none) ∧ Ge w w' := by
  have HM := Lib.hid (made_no h)
  go_enter Tryd.func43, Tryd.ntmps43
  go_wp2_with fail
  refine HM.out.mono ?_
  rintro e w1 ⟨rfl, g1⟩
  have HG := Lib.hid g1
  clear g1
  go_wp2
  go_returns
  exact ⟨rfl, HG.out⟩

set_option maxHeartbeats 4000000 in
theorem row_any {B : Nat} {w : World} {p q : Nat} {O : Nat → Option Nat} {S : Nt} {C : Array Value} (h : NetC B w p q O S C) (f t : Int) :
    Calls Tryd.prog 43 #[.pointer (some ⟨p, 0, none⟩), .int .i64 f, .int .i64 t] w fun e w' => e = .returned (.pointer (rowP q (S.idx f t))) ∧ Ge w w' := by
  have HM := Lib.hid (made_yes h)
  have HN := Lib.hid (fun w' (g : Ge w w') => (h.net.ge g).cell)
  have HL := Lib.hid (fun w' (g : Ge w w') => (h.net.ge g).lt)
  have hk2 := h.ok.k2
  have hC := h.row
  have HQ := Lib.hid (fun w' (g : Ge w w') => (hC.ge g).lt)
  have hlt : ∀ (j : Nat), S.idx f t = some j → j < S.k * S.k := fun j hj => Nt.idx_lt hj
  have hdef : S.idx f t = if 0 ≤ f ∧ f < S.k ∧ 0 ≤ t ∧ t < S.k ∧ f ≠ t then some (f.toNat * S.k + t.toNat) else none := rfl
  generalize S.idx f t = r at *
  generalize S.k * S.k = kk at *
  generalize S.k = k at *
  clear h hC
  by_cases h1 : f < 0
  · have hr : r = none := by rw [hdef, if_neg (by omega)]
    subst hr
    have u1 : decide (f < 0) = true := decide_eq_true h1
    clear hlt hdef h1
    go_enter Tryd.func43, Tryd.ntmps43
    go_wp2_with fail
    refine HM.out.mono ?_
    rintro e w1 ⟨rfl, g1⟩
    have HG := Lib.hid g1
    clear g1
    go_wp2
    go_returns
    exact ⟨rfl, HG.out⟩
  have u1 : decide (f < 0) = false := decide_eq_false h1
  by_cases h2 : (k : Int) ≤ f
  · have hr : r = none := by rw [hdef, if_neg (by omega)]
    subst hr
    have u2 : decide ((k : Int) ≤ f) = true := decide_eq_true h2
    clear hlt hdef h1 h2
    go_enter Tryd.func43, Tryd.ntmps43
    go_wp2_with fail
    refine HM.out.mono ?_
    rintro e w1 ⟨rfl, g1⟩
    have HG := Lib.hid g1
    have c0 := HN.out w1 g1
    have n0 := HL.out w1 g1
    clear g1
    go_wp2
    go_returns
    exact ⟨rfl, HG.out⟩
  have u2 : decide ((k : Int) ≤ f) = false := decide_eq_false h2
  by_cases h3 : t < 0
  · have hr : r = none := by rw [hdef, if_neg (by omega)]
    subst hr
    have u3 : decide (t < 0) = true := decide_eq_true h3
    clear hlt hdef h1 h2 h3
    go_enter Tryd.func43, Tryd.ntmps43
    go_wp2_with fail
    refine HM.out.mono ?_
    rintro e w1 ⟨rfl, g1⟩
    have HG := Lib.hid g1
    have c0 := HN.out w1 g1
    have n0 := HL.out w1 g1
    clear g1
    go_wp2
    go_returns
    exact ⟨rfl, HG.out⟩
  have u3 : decide (t < 0) = false := decide_eq_false h3
  by_cases h4 : (k : Int) ≤ t
  · have hr : r = none := by rw [hdef, if_neg (by omega)]
    subst hr
    have u4 : decide ((k : Int) ≤ t) = true := decide_eq_true h4
    clear hlt hdef h1 h2 h3 h4
    go_enter Tryd.func43, Tryd.ntmps43
    go_wp2_with fail
    refine HM.out.mono ?_
    rintro e w1 ⟨rfl, g1⟩
    have HG := Lib.hid g1
    have c0 := HN.out w1 g1
    have n0 := HL.out w1 g1
    clear g1
    go_wp2
    go_returns
    exact ⟨rfl, HG.out⟩
  have u4 : decide ((k : Int) ≤ t) = false := decide_eq_false h4
  by_cases h5 : f = t
  · have hr : r = none := by rw [hdef, if_neg (by omega)]
    subst hr
    have u5 : (f == t) = true := by simpa using h5
    clear hlt hdef h1 h2 h3 h4 h5
    go_enter Tryd.func43, Tryd.ntmps43
    go_wp2_with fail
    refine HM.out.mono ?_
    rintro e w1 ⟨rfl, g1⟩
    have HG := Lib.hid g1
    have c0 := HN.out w1 g1
    have n0 := HL.out w1 g1
    clear g1
    go_wp2
    go_returns
    exact ⟨rfl, HG.out⟩
  have u5 : (f == t) = false := by simpa using h5
  rw [if_pos (by omega)] at hdef
  have hjk := hlt _ hdef
  obtain ⟨fn, rfl⟩ : ∃ fn : Nat, f = fn := ⟨f.toNat, by omega⟩
  obtain ⟨tn, rfl⟩ : ∃ tn : Nat, t = tn := ⟨t.toNat, by omega⟩
  simp only [Int.toNat_natCast] at hdef hjk
  have hfk : fn * k ≤ 16 * 16 := Nat.mul_le_mul (by omega) (by omega)
  have e1 : IntKind.i64.wrap ((fn : Int) * (k : Int)) = ((fn * k : Nat) : Int) := by
    rw [← Int.natCast_mul]
    exact IntWalk.i64_in _ (by omega)
  have e2 : IntKind.i64.wrap (((fn * k : Nat) : Int) + (tn : Int)) = ((fn * k + tn : Nat) : Int) := by
    rw [IntWalk.i64_in _ (by omega)]
    omega
  have w2 : decide (k ≤ fn) = false := decide_eq_false (by omega)
  have w4 : decide (k ≤ tn) = false := decide_eq_false (by omega)
  have i1 : (0 : Int) ≤ ((fn * k + tn : Nat) : Int) := by omega
  have i2 : ((fn * k + tn : Nat) : Int) < (kk : Int) := by omega
  generalize fn * k = fk at *
  generalize hj : fk + tn = j at *
  clear hlt h1 h2 h3 h4 h5 hfk hj hjk hk2
  subst hdef
  go_enter Tryd.func43, Tryd.ntmps43
  go_wp2_with fail
  refine HM.out.mono ?_
  rintro e w1 ⟨rfl, g1⟩
  have HG := Lib.hid g1
  have c0 := HN.out w1 g1
  have n0 := HL.out w1 g1
  have n1 := HQ.out w1 g1
  clear g1
  go_wp2
  go_quiet (fail)
  go_wp2
  go_returns
  exact ⟨rfl, HG.out.drewN _⟩
end Go.Proofs.YtmhibpmgnicolaaDoor

namespace Go.Proofs.YtmhibpmgnicolaaDoor
open Go.RowKit

theorem link_no {w : World} {v : Value} (h : NoNet w v) (f t : Int) : Calls Tryd.prog 31 #[v, .int .i64 f, .int .i64 t] w fun e w' => e = .returned (.tuple #[.pointer none, .int .i64 2]) ∧ Ge w w' := by
  have HR := Lib.hid (row_no h f t)
  have HM := Lib.hid (fun w' (g : Ge w w') => made_no (h.ge g))
  go_enter Tryd.func31, Tryd.ntmps31
  go_wp2_with fail
  refine HR.out.mono ?_
  rintro e w1 ⟨rfl, g1⟩
  have HG := Lib.hid g1
  clear g1
  go_wp2_with fail
  refine (HM.out w1 HG.out).mono ?_
  rintro e w2 ⟨rfl, g2⟩
  have HG2 := Lib.hid (HG.out.trans g2)
  clear g2
  go_wp2
  go_returns
  exact ⟨rfl, HG2.out⟩
theorem link_none {B : Nat} {w : World} {p q : Nat} {O : Nat → Option Nat} {S : Nt} {C : Array Value} (h : NetC B w p q O S C) {f t : Int} (hi : S.idx f t = none) :
    Calls Tryd.prog 31 #[.pointer (some ⟨p, 0, none⟩), .int .i64 f, .int .i64 t] w fun e w' => e = .returned (.tuple #[.pointer none, .int .i64 1]) ∧ Ge w w' := by
  have HR := row_any h f t
  rw [hi] at HR
  have HR := Lib.hid HR
  have HM := Lib.hid (fun w' (g : Ge w w') => made_yes (h.ge g))
  clear h hi
  go_enter Tryd.func31, Tryd.ntmps31
  go_wp2_with fail
  refine HR.out.mono ?_
  rintro e w1 ⟨rfl, g1⟩
  have HG := Lib.hid g1
  clear g1
  unfold rowP
  go_wp2_with fail
  refine (HM.out w1 HG.out).mono ?_
  rintro e w2 ⟨rfl, g2⟩
  have HG2 := Lib.hid (HG.out.trans g2)
  clear g2
  go_wp2
  go_returns
  exact ⟨rfl, HG2.out⟩
theorem link_some {B : Nat} {w : World} {p q : Nat} {O : Nat → Option Nat} {S : Nt} {C : Array Value} (h : NetC B w p q O S C) {f t : Int} {j : Nat} (hi : S.idx f t = some j) :
    Calls Tryd.prog 31 #[.pointer (some ⟨p, 0, none⟩), .int .i64 f, .int .i64 t] w fun e w' => e = .returned (.tuple #[.pointer (some ⟨q, j * 3, none⟩), .int .i64 0]) ∧ Ge w w' := by
  have HR := row_any h f t
  rw [hi] at HR
  have HR := Lib.hid HR
  have HM := Lib.hid (fun w' (g : Ge w w') => made_yes (h.ge g))
  clear h hi
  go_enter Tryd.func31, Tryd.ntmps31
  go_wp2_with fail
  refine HR.out.mono ?_
  rintro e w1 ⟨rfl, g1⟩
  have HG := Lib.hid g1
  clear g1
  unfold rowP
  go_wp2_with fail
  refine (HM.out w1 HG.out).mono ?_
  rintro e w2 ⟨rfl, g2⟩
  have HG2 := Lib.hid (HG.out.trans g2)
  clear g2
  go_wp2
  go_returns
  exact ⟨rfl, HG2.out⟩

theorem counts_no {w : World} {v : Value} (h : NoNet w v) (f t : Int) : Calls Tryd.prog 20 #[v, .int .i64 f, .int .i64 t] w fun e w' => e = .returned (.tuple #[.int .i64 0, .int .i64 0]) ∧ Ge w w' := by
  have HR := Lib.hid (row_no h f t)
  go_enter Tryd.func20, Tryd.ntmps20
  go_wp2_with fail
  refine HR.out.mono ?_
  rintro e w1 ⟨rfl, g1⟩
  have HG := Lib.hid g1
  clear g1
  go_wp2
  go_returns
  exact ⟨rfl, HG.out⟩
theorem counts_none {B : Nat} {w : World} {p q : Nat} {O : Nat → Option Nat} {S : Nt} {C : Array Value} (h : NetC B w p q O S C) {f t : Int} (hi : S.idx f t = none) :
    Calls Tryd.prog 20 #[.pointer (some ⟨p, 0, none⟩), .int .i64 f, .int .i64 t] w fun e w' => e = .returned (.tuple #[.int .i64 0, .int .i64 0]) ∧ Ge w w' := by
  have HR := row_any h f t
  rw [hi] at HR
  have HR := Lib.hid HR
  clear h hi
  go_enter Tryd.func20, Tryd.ntmps20
  go_wp2_with fail
  refine HR.out.mono ?_
  rintro e w1 ⟨rfl, g1⟩
  have HG := Lib.hid g1
  clear g1
  unfold rowP
  go_wp2
  go_returns
  exact ⟨rfl, HG.out⟩
theorem counts_some {B : Nat} {w : World} {p q : Nat} {O : Nat → Option Nat} {S : Nt} {C : Array Value} (h : NetC B w p q O S C) {f t : Int} {j : Nat} {r : Lk} (hi : S.idx f t = some j) (hr : S.rows[j]? = some r) :
    Calls Tryd.prog 20 #[.pointer (some ⟨p, 0, none⟩), .int .i64 f, .int .i64 t] w fun e w' => e = .returned (.tuple #[.int .i64 r.sent, .int .i64 r.taken]) ∧ Ge w w' := by
  have HR := row_any h f t
  rw [hi] at HR
  have HR := Lib.hid HR
  have hC := h.row
  obtain ⟨v, x0, x1, x2, _⟩ := h.rows j r hr
  have HX1 := Lib.hid (fun w' (g : Ge w w') => ((hC.ge g).cell _).trans x1)
  have HX2 := Lib.hid (fun w' (g : Ge w w') => ((hC.ge g).cell _).trans x2)
  have HLT := Lib.hid (fun w' (g : Ge w w') => (hC.ge g).lt)
  clear h hi hC hr x0 x1 x2
  go_enter Tryd.func20, Tryd.ntmps20
  go_wp2_with fail
  refine HR.out.mono ?_
  rintro e w1 ⟨rfl, g1⟩
  have HG := Lib.hid g1
  have x1 := HX1.out w1 g1
  have x2 := HX2.out w1 g1
  have n1 := HLT.out w1 g1
  clear g1
  unfold rowP
  go_wp2
  go_quiet (fail)
  go_wp2
  go_returns
  exact ⟨rfl, HG.out.drewN _⟩

theorem room_no {w : World} {v : Value} (h : NoNet w v) (f t : Int) : Calls Tryd.prog 22 #[v, .int .i64 f, .int .i64 t] w fun e w' => e = .returned (.int .i64 0) ∧ Ge w w' := by
  have HR := Lib.hid (row_no h f t)
  go_enter Tryd.func22, Tryd.ntmps22
  go_wp2_with fail
  refine HR.out.mono ?_
  rintro e w1 ⟨rfl, g1⟩
  have HG := Lib.hid g1
  clear g1
  go_wp2
  go_returns
  exact ⟨rfl, HG.out⟩
theorem room_none {B : Nat} {w : World} {p q : Nat} {O : Nat → Option Nat} {S : Nt} {C : Array Value} (h : NetC B w p q O S C) {f t : Int} (hi : S.idx f t = none) :
    Calls Tryd.prog 22 #[.pointer (some ⟨p, 0, none⟩), .int .i64 f, .int .i64 t] w fun e w' => e = .returned (.int .i64 0) ∧ Ge w w' := by
  have HR := row_any h f t
  rw [hi] at HR
  have HR := Lib.hid HR
  clear h hi
  go_enter Tryd.func22, Tryd.ntmps22
  go_wp2_with fail
  refine HR.out.mono ?_
  rintro e w1 ⟨rfl, g1⟩
  have HG := Lib.hid g1
  clear g1
  unfold rowP
  go_wp2
  go_returns
  exact ⟨rfl, HG.out⟩
theorem room_some {B : Nat} {w : World} {p q : Nat} {O : Nat → Option Nat} {S : Nt} {C : Array Value} (h : NetC B w p q O S C) {f t : Int} {j : Nat} {r : Lk} (hi : S.idx f t = some j) (hr : S.rows[j]? = some r) :
    Calls Tryd.prog 22 #[.pointer (some ⟨p, 0, none⟩), .int .i64 f, .int .i64 t] w fun e w' => e = .returned (.int .i64 ((S.room : Int) - (r.l.length : Int))) ∧ Ge w w' := by
  have HR := row_any h f t
  rw [hi] at HR
  have HR := Lib.hid HR
  have hC := h.row
  obtain ⟨v, x0, x1, x2, hrow⟩ := h.rows j r hr
  obtain ⟨A, cap, rfl, _⟩ := hrow
  have HX0 := Lib.hid (fun w' (g : Ge w w') => ((hC.ge g).cell _).trans x0)
  have HLT := Lib.hid (fun w' (g : Ge w w') => (hC.ge g).lt)
  have HN := Lib.hid (fun w' (g : Ge w w') => (h.net.ge g).cell)
  have HNL := Lib.hid (fun w' (g : Ge w w') => (h.net.ge g).lt)
  have b1 := h.ok.r2
  have b2 := h.ok.small r (List.mem_of_getElem? hr)
  have es : IntKind.i64.wrap ((S.room : Int) - (r.l.length : Int)) = (S.room : Int) - (r.l.length : Int) := IntWalk.i64_in _ (by omega)
  clear h hi hC hr x0 x1 x2 b1 b2
  generalize S.k = k at *
  generalize S.room = room at *
  generalize r.l.length = n at *
  go_enter Tryd.func22, Tryd.ntmps22
  go_wp2_with fail
  refine HR.out.mono ?_
  rintro e w1 ⟨rfl, g1⟩
  have HG := Lib.hid g1
  have x0 := HX0.out w1 g1
  have n1 := HLT.out w1 g1
  have c0 := HN.out w1 g1
  have n0 := HNL.out w1 g1
  clear g1
  unfold rowP
  go_wp2
  go_quiet (fail)
  go_wp2
  go_returns
  exact ⟨rfl, HG.out.drewN _⟩
end Go.Proofs.YtmhibpmgnicolaaDoor

namespace Go.Proofs.YtmhibpmgnicolaaDoor
open Go.RowKit

theorem info87 : (Tryd.prog.info? 87).map (fun i => (i.zero, i.size, decide (i.bytes ≤ 1000))) = some (some (.agg #[.slice none 0 0, .int .i64 0, .int .i64 0]), 3, true) := by kernel_rfl
def zRows (k : Nat) : List Lk := List.replicate (k * k) ⟨[], 0, 0⟩
theorem new_bad {w : World} {k room : Int} (h : k < 1 ∨ 16 < k ∨ room < 1 ∨ 64 < room) :
    Calls Tryd.prog 9 #[.int .i64 k, .int .i64 room] w fun e w' => e = .returned (.tuple #[.pointer none, .int .i64 1]) ∧ Ge w w' := by
  by_cases h1 : k < 1
  · have u1 : decide (k < 1) = true := decide_eq_true h1
    clear h h1
    go_enter Tryd.func9, Tryd.ntmps9
    go_wp2
    go_returns
    exact ⟨rfl, Ge.refl _⟩
  have u1 : decide (k < 1) = false := decide_eq_false h1
  by_cases h2 : 16 < k
  · have u2 : decide (16 < k) = true := decide_eq_true h2
    clear h h1 h2
    go_enter Tryd.func9, Tryd.ntmps9
    go_wp2
    go_returns
    exact ⟨rfl, Ge.refl _⟩
  have u2 : decide (16 < k) = false := decide_eq_false h2
  by_cases h3 : room < 1
  · have u3 : decide (room < 1) = true := decide_eq_true h3
    clear h h1 h2 h3
    go_enter Tryd.func9, Tryd.ntmps9
    go_wp2
    go_returns
    exact ⟨rfl, Ge.refl _⟩
  have u3 : decide (room < 1) = false := decide_eq_false h3
  have u4 : decide (64 < room) = true := decide_eq_true (by omega)
  clear h h1 h2 h3
  go_enter Tryd.func9, Tryd.ntmps9
  go_wp2
  go_returns
  exact ⟨rfl, Ge.refl _⟩

set_option maxHeartbeats 4000000 in
theorem new_ok {B : Nat} {w : World} (hB : B ≤ w.heap.size) {k room : Nat} (k1 : 1 ≤ k) (k2 : k ≤ 16) (r1 : 1 ≤ room) (r2 : room ≤ 64) :
    Calls Tryd.prog 9 #[.int .i64 (k : Int), .int .i64 (room : Int)] w fun e w' => ∃ p q C, e = .returned (.tuple #[.pointer (some ⟨p, 0, none⟩), .int .i64 0]) ∧ NetC B w' p q (fun _ => none) ⟨k, room, zRows k⟩ C ∧ Ge w w' ∧ w.heap.size ≤ p ∧ w.heap.size ≤ q := by
  obtain ⟨i, hi, hz, h3, hby⟩ : ∃ i, Tryd.prog.info? 87 = some i ∧ i.zero = some (.agg #[.slice none 0 0, .int .i64 0, .int .i64 0]) ∧ i.size = 3 ∧ i.bytes ≤ 1000 := by
    have := info87
    rcases hq : Tryd.prog.info? 87 with _ | i
    · rw [hq] at this; cases this
    · rw [hq] at this
      simp at this
      exact ⟨i, rfl, this.1, this.2.1, this.2.2⟩
  have hkk : k * k ≤ 16 * 16 := Nat.mul_le_mul k2 k2
  have e1 : IntKind.i64.wrap ((k : Int) * (k : Int)) = ((k * k : Nat) : Int) := by
    rw [← Int.natCast_mul]
    exact IntWalk.i64_in _ (by omega)
  have u1 : decide ((k : Int) < 1) = false := decide_eq_false (by omega)
  have u2 : decide (16 < (k : Int)) = false := decide_eq_false (by omega)
  have u3 : decide ((room : Int) < 1) = false := decide_eq_false (by omega)
  have u4 : decide (64 < (room : Int)) = false := decide_eq_false (by omega)
  have hbb : i.bytes * (k * k) ≤ 281474976710656 := by
    have := Nat.mul_le_mul hby hkk
    omega
  have hmx : k * k ≤ maxLen := by simp only [maxLen]; omega
  have HF : ∀ (w1 : World), w1.ownsRow w.heap.size 87 3 (.slice (some ⟨w.heap.size, 0, none⟩) (k * k) (k * k)) (k * k) (madeCells (Value.cells (.agg #[.slice none 0 0, .int .i64 0, .int .i64 0])) (k * k * 3)).toList → w.grownBy w1 none →
      ∃ C, NetC B (w1.alloc (.cells #[.int .i64 (k : Int), .int .i64 (room : Int), .slice (some ⟨w.heap.size, 0, none⟩) (k * k) (k * k)] 58)) w1.heap.size w.heap.size (fun _ => none) ⟨k, room, zRows k⟩ C ∧
        Ge w (w1.alloc (.cells #[.int .i64 (k : Int), .int .i64 (room : Int), .slice (some ⟨w.heap.size, 0, none⟩) (k * k) (k * k)] 58)) ∧ w.heap.size ≤ w1.heap.size := by
    intro w1 hown hgr
    have hge : Ge w w1 := ⟨hgr.os, hgr.tape, hgr.output, hgr.size, fun b hb => hgr.block b hb (by simp)⟩
    rcases hown.2 with ⟨h0, _⟩ | ⟨g, cap, cur, hv, hb, hh, hle, hm, hs, htk⟩
    · cases h0
    · cases hv
      have hcur : cur = madeCells (Value.cells (.agg #[.slice none 0 0, .int .i64 0, .int .i64 0])) (k * k * 3) := by
        apply Array.toList_inj.1
        rw [← htk, List.take_of_length_le]
        rw [Array.length_toList, hs]
        exact Nat.le_refl _
      have hx : Bx w1 w.heap.size 87 cur := hh
      refine ⟨cur, ⟨by rw [show cur.size / 3 = k * k by rw [hs]; exact Nat.mul_div_cancel _ (by omega)]; exact Bx.new _ 58 _ rfl, ⟨k1, k2, r1, r2, by simp [zRows], ?_⟩, Nat.le_trans hB hge.size, hB, fun b j e => (by cases e), hx.alloc _, by rw [hs]; exact Nat.le_refl _, ?_⟩, hge.alloc _, hge.size⟩
      · intro r hr
        rw [List.eq_of_mem_replicate hr]
        exact Nat.zero_le _
      · intro j r hj
        have hjl : j < k * k := by
          have := (List.getElem?_eq_some_iff.1 hj).1
          simpa [zRows] using this
        have hr : r = ⟨[], 0, 0⟩ := List.eq_of_mem_replicate (List.mem_of_getElem? hj)
        subst hr
        have hc : ∀ t, t < 3 → cur[j * 3 + t]? = some ((Value.cells (.agg #[.slice none 0 0, .int .i64 0, .int .i64 0]))[t]!) := by
          intro t ht
          rw [hcur]
          unfold madeCells
          rw [Array.getElem?_map, Array.getElem?_range, if_pos (by omega)]
          show some ((Value.cells (.agg #[.slice none 0 0, .int .i64 0, .int .i64 0]))[(j * 3 + t) % 3]!) = _
          rw [show (j * 3 + t) % 3 = t by omega]
        exact ⟨.slice none 0 0, hc 0 (by omega), hc 1 (by omega), hc 2 (by omega), RowAt.nil _ _ _⟩
  have HF := Lib.hid HF
  go_enter Tryd.func9, Tryd.ntmps9
  go_wp2_with (refine wpList_make_full _ (by rfl) (.tmp 24) (.tmp 24) 56 (by rfl) w.heap.size 87 i _ 3 Tryd.underlying56 hi hz h3 .i64 .i64 _ _ (k * k) (by rfl) (by rfl) rfl rfl hbb hmx (Nat.le_refl _) ?_; intro w1 hown hgr; have HC := HF.out w1 hown hgr; clear hown hgr)
  obtain ⟨C, hC, hge, hsz⟩ := HC
  go_returns
  exact ⟨_, _, C, rfl, hC, hge, hsz, Nat.le_refl _⟩
end Go.Proofs.YtmhibpmgnicolaaDoor

namespace Go.Proofs.YtmhibpmgnicolaaDoor
open Go.RowKit

def lens (l : List Lk) : Nat := (l.map (·.l.length)).sum
theorem lens_nil : lens [] = 0 := rfl
theorem lens_snoc (l : List Lk) (r : Lk) : lens (l ++ [r]) = lens l + r.l.length := by simp [lens]
theorem lens_bound : ∀ (l : List Lk), (∀ r ∈ l, r.l.length ≤ 64) → lens l ≤ l.length * 64
  | [], _ => Nat.le_refl _
  | r :: l, h => by
    have h1 := lens_bound l (fun q hq => h q (List.mem_cons_of_mem _ hq))
    have h2 := h r List.mem_cons_self
    have e : lens (r :: l) = r.l.length + lens l := by simp [lens]
    rw [e, List.length_cons]
    omega

theorem left_no {w : World} {v : Value} (h : NoNet w v) : Calls Tryd.prog 23 #[v] w fun e w' => e = .returned (.int .i64 0) ∧ Ge w w' := by
  have HM := Lib.hid (made_no h)
  go_enter Tryd.func23, Tryd.ntmps23
  go_wp2_with fail
  refine HM.out.mono ?_
  rintro e w1 ⟨rfl, g1⟩
  have HG := Lib.hid g1
  clear g1
  go_wp2
  go_returns
  exact ⟨rfl, HG.out⟩

set_option maxRecDepth 100000 in
set_option maxHeartbeats 4000000 in
theorem left_any {B : Nat} {w : World} {p q : Nat} {O : Nat → Option Nat} {S : Nt} {C : Array Value} (h : NetC B w p q O S C) :
    Calls Tryd.prog 23 #[.pointer (some ⟨p, 0, none⟩)] w fun e w' => e = .returned (.int .i64 ((lens S.rows : Nat) : Int)) ∧ Ge w w' := by
  have HM := Lib.hid (made_yes h)
  have HN := Lib.hid (fun w' (g : Ge w w') => (h.net.ge g).cell)
  have HNL := Lib.hid (fun w' (g : Ge w w') => (h.net.ge g).lt)
  have HC := Lib.hid (fun w' (g : Ge w w') => h.row.ge g)
  have HR := Lib.hid h.rows
  have hlen := h.ok.len
  have hsm := h.ok.small
  have hkk : S.k * S.k ≤ 16 * 16 := Nat.mul_le_mul h.ok.k2 h.ok.k2
  clear h
  generalize S.rows = R at *
  generalize S.k * S.k = kk at *
  generalize S.k = k at *
  generalize S.room = room at *
  have HLEN := Lib.hid hlen
  have HSM := Lib.hid (show ∀ m, lens (R.take m) ≤ 16384 from fun m => by
    have h1 := lens_bound (R.take m) (fun r hr => hsm r (List.mem_of_mem_take hr))
    have h2 : (R.take m).length ≤ 256 := by rw [List.length_take]; omega
    omega)
  clear hlen hsm
  go_enter Tryd.func23, Tryd.ntmps23
  go_wp2_with fail
  refine HM.out.mono ?_
  rintro e w1 ⟨rfl, g1⟩
  have c0 := HN.out w1 g1
  have n0 := HNL.out w1 g1
  have HG1 := Lib.hid g1
  clear g1
  go_upto_region 5 with (fail)
  clear c0 n0
  go_loopw [3, 14] (fun s i wr => ∃ m : Nat, m ≤ kk ∧ i = .int .i64 (m : Int) ∧ s = .int .i64 ((lens (R.take m) : Nat) : Int) ∧ Ge w1 wr) (fun _ i _ => kk - (intOf i).toNat)
  case atStart => exact ⟨0, by omega, rfl, rfl, Ge.refl _⟩
  case round =>
    obtain ⟨m, hm, rfl, rfl, hgw⟩ := hrel
    have HG := Lib.hid (HG1.out.trans hgw)
    have HGW := Lib.hid hgw
    have hlR := HLEN.out
    by_cases hlt : m < kk
    · obtain ⟨r, hr⟩ : ∃ r, R[m]? = some r := ⟨_, List.getElem?_eq_getElem (by omega)⟩
      obtain ⟨v, y0, y1, y2, A, cap, rfl, _⟩ := HR.out m r hr
      have hX := HC.out wr HG.out
      have x0 := (hX.cell _).trans y0
      have x1 := (hX.cell _).trans y1
      have x2 := (hX.cell _).trans y2
      have hlb := hX.lt
      have hsn : R.take (m + 1) = R.take m ++ [r] := by
        rw [List.take_succ_eq_append_getElem (by omega)]
        rw [List.getElem?_eq_getElem (by omega)] at hr
        rw [Option.some.inj hr]
      have e0 := lens_snoc (R.take m) r
      rw [← hsn] at e0
      have b1 := HSM.out (m + 1)
      have HE := Lib.hid (show wrap64 (((lens (R.take m) : Nat) : Int) + (r.l.length : Int)) = ((lens (R.take (m + 1)) : Nat) : Int) by
        rw [e0]
        rw [e0] at b1
        unfold wrap64
        omega)
      have i1 : (0 : Int) ≤ (m : Int) := by omega
      have i2 : (m : Int) < (kk : Int) := by omega
      generalize lens (R.take m) = ls at *
      clear hr y0 y1 y2 hX hsn e0 b1 hgw hlR
      go_wp2
      go_roundw
      case rel => exact ⟨m + 1, by omega, by go_num, by rw [HE.out], HGW.out.alloc _⟩
      case measure => simp [intOf]; omega
    · have hml : m = kk := by omega
      have RES := Lib.hid (show R.take m = R by rw [List.take_of_length_le]; omega)
      have hdm : decide ((m : Int) < (kk : Int)) = false := by simp; omega
      clear hml hgw
      go_wp2
      go_returns
      exact ⟨by rw [RES.out]; rfl, HG.out⟩
end Go.Proofs.YtmhibpmgnicolaaDoor
