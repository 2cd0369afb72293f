/-
  A net in memory: its links' messages, what is sent, what is taken; appends onto a link's row.
-/
import Derived.Test.YtmhibpmgnicolaaDoorBare
import Derived.Test.YtmhibpmgnicolaaDoorClone
namespace Go.Proofs.YtmhibpmgnicolaaDoor
open Go.RowKit

structure Lk where
  l : List Msg
  sent : Int
  taken : Int
structure Nt where
  k : Nat
  room : Nat
  rows : List Lk

def MsgsIn (B : Nat) (w : World) (cs : Array Value) (off : Nat) (l : List Msg) : Prop := ∀ (j : Nat) (m : Msg), l[j]? = some m → ∃ s, SlAt B w s m ∧ ∀ (i : Nat) (u : Value), (encG m s)[i]? = some u → cs[off + j * 19 + i]? = some u
/-- a link's row: any window of a block that G allows -/
def RowAt (B : Nat) (w : World) (v : Value) (l : List Msg) (G : Nat → Prop) : Prop := ∃ (A : Option Addr) (cap : Nat), v = .slice A l.length cap ∧ l.length ≤ cap ∧ (cap = 0 → A = none ∨ ∃ a, A = some a) ∧
  (0 < cap → ∃ g off cs, A = some ⟨g, off, none⟩ ∧ G g ∧ Bx w g 45 cs ∧ off + cap * 19 ≤ cs.size ∧ MsgsIn B w cs off l)
theorem MsgsIn.kp {B : Nat} {w w' : World} {cs : Array Value} {off : Nat} {l : List Msg} (h : MsgsIn B w cs off l) (k : Kp B w w') : MsgsIn B w' cs off l := fun j m hj => by
  obtain ⟨s, h1, h2⟩ := h j m hj
  exact ⟨s, h1.kp k, h2⟩
theorem RowAt.keep {B : Nat} {w w' : World} {v : Value} {l : List Msg} {G G' : Nat → Prop} (h : RowAt B w v l G) (k : Kp B w w') (hb : ∀ g, G g → w'.heap[g]? = w.heap[g]?) (hG : ∀ g, G g → G' g) : RowAt B w' v l G' := by
  obtain ⟨A, cap, rfl, hle, h0, hc⟩ := h
  refine ⟨A, cap, rfl, hle, h0, fun hp => ?_⟩
  obtain ⟨g, off, cs, e, hg, hx, hs, hm⟩ := hc hp
  exact ⟨g, off, cs, e, hG g hg, (hb g hg).trans hx, hs, hm.kp k⟩
theorem RowAt.nil (B : Nat) (w : World) (G : Nat → Prop) : RowAt B w (.slice none 0 0) [] G := ⟨none, 0, rfl, Nat.le_refl _, fun _ => .inl rfl, fun h => absurd h (by omega)⟩
theorem encG_len (m : Msg) (s : Sls) : (encG m s).length = 19 := rfl
theorem encG_one {B : Nat} {w : World} {m : Msg} {s : Sls} (h : SlAt B w s m) : ∀ u ∈ encG m s, u.oneCell' = true := by
  obtain ⟨A1, c1, e1⟩ := h.r.form
  obtain ⟨A2, c2, e2⟩ := h.c.form
  obtain ⟨A3, c3, e3⟩ := h.d.form
  obtain ⟨A4, c4, e4⟩ := h.p.form
  obtain ⟨A5, c5, e5⟩ := h.mv.form
  obtain ⟨A6, c6, e6⟩ := h.e.form
  simp [encG, e1, e2, e3, e4, e5, e6, Value.oneCell']
theorem setsA_len (vs : List Value) (o : Nat) (cs : Array Value) (h : o + vs.length ≤ cs.size) : (setsA cs o vs).size = cs.size := by
  rw [← Array.length_toList, setsA_list vs o cs h]
  simp
  omega
theorem setsA_lt (vs : List Value) (o : Nat) (cs : Array Value) (h : o + vs.length ≤ cs.size) (i : Nat) (hi : i < o) : (setsA cs o vs)[i]? = cs[i]? := by
  rw [← Array.getElem?_toList, setsA_list vs o cs h, List.append_assoc, List.getElem?_append_left (by simp; omega), List.getElem?_take, if_pos hi, Array.getElem?_toList]
theorem setsA_in (vs : List Value) (o : Nat) (cs : Array Value) (h : o + vs.length ≤ cs.size) (j : Nat) (hj : j < vs.length) : (setsA cs o vs)[o + j]? = vs[j]? := by
  rw [← Array.getElem?_toList, setsA_list vs o cs h, List.append_assoc, List.getElem?_append_right (by simp; omega), List.getElem?_append_left (by simp; omega)]
  congr 1
  simp
  omega
theorem info45 : (Tryd.prog.info? 45).map (fun i => (i.zero.map (·.cells.size), i.size, decide (i.bytes ≤ 1000))) = some (some 19, 19, true) := by kernel_rfl

/-- a message is appended to a link's row -/
theorem app_row {B : Nat} {w : World} {v : Value} {l : List Msg} {G : Nat → Prop} (h : RowAt B w v l G) (hG : ∀ g, G g → B ≤ g ∧ g < w.heap.size) (hl : l.length ≤ 1000000) (b1 : Nat) (m : Msg) (s : Sls)
    (hb1 : Bx w b1 45 (encG m s).toArray) (hs : SlAt B w s m) (ty : TypeId) : ∃ v' w', (Builtin.append_ #[72, 72] ty #[v, .slice (some ⟨b1, 0, none⟩) 1 1]).run Tryd.prog w = .ok v' w' ∧
      RowAt B w' v' (l ++ [m]) (fun g => G g ∨ (w.heap.size ≤ g ∧ g < w'.heap.size)) ∧ (∀ b, b < w.heap.size → ¬ G b → w'.heap[b]? = w.heap[b]?) ∧ Kp B w w' ∧ Below 0 w w' ∧ (∃ A n c, v' = .slice A n c) := by
  obtain ⟨i, hi, hz, h19, hby⟩ : ∃ i, Tryd.prog.info? 45 = some i ∧ i.zero.map (·.cells.size) = some 19 ∧ i.size = 19 ∧ i.bytes ≤ 1000 := by
    have := info45
    rcases hq : Tryd.prog.info? 45 with _ | i
    · rw [hq] at this; cases this
    · rw [hq] at this
      simp at this
      exact ⟨i, rfl, by simpa using this.1, this.2.1, this.2.2⟩
  obtain ⟨z, hz, hzs⟩ : ∃ z, i.zero = some z ∧ z.cells.size = 19 := by
    rcases hq : i.zero with _ | z
    · rw [hq] at hz; cases hz
    · rw [hq] at hz
      simp at hz
      exact ⟨z, rfl, hz⟩
  have hnews : ∀ j u, (encG m s)[j]? = some u → w.cell? ((⟨b1, 0, none⟩ : Addr).add j) = some u := by
    intro j u hu
    rw [addr_add, Nat.zero_add, hb1.cell]
    simpa using hu
  have hone := encG_one hs
  have hbytes : (l.length + 1) * i.bytes ≤ 140737488355328 := by
    have : (l.length + 1) * i.bytes ≤ 1000001 * 1000 := Nat.mul_le_mul (by omega) hby
    omega
  have hmx : l.length + 1 ≤ maxLen := by simp only [maxLen]; omega
  -- what a new row gives
  have fin : ∀ (v' : Value) (w' : World) (olds : List Value), w'.ownsRow w.heap.size 45 19 v' (l.length + 1) (olds ++ encG m s) → w.grownBy w' none → olds.length = l.length * 19 →
      (∀ (j : Nat) (m' : Msg), l[j]? = some m' → ∃ s', SlAt B w s' m' ∧ ∀ (i : Nat) (u : Value), (encG m' s')[i]? = some u → olds[j * 19 + i]? = some u) →
      RowAt B w' v' (l ++ [m]) (fun g => G g ∨ (w.heap.size ≤ g ∧ g < w'.heap.size)) ∧ (∀ b, b < w.heap.size → ¬ G b → w'.heap[b]? = w.heap[b]?) ∧ Kp B w w' ∧ Below 0 w w' ∧ (∃ A n c, v' = .slice A n c) := by
    intro v' w' olds hown hgr hol hold
    have hkp : Kp B w w' := ⟨hgr.size, fun b hb => hgr.block b hb.1 (by simp)⟩
    refine ⟨?_, fun b hb _ => hgr.block b hb (by simp), hkp, ⟨hgr.os, hgr.tape, hgr.output, hgr.size, fun k hk => absurd hk (Nat.not_lt_zero k)⟩, ?_⟩
    · rcases hown.2 with ⟨_, h0⟩ | ⟨g, cap, cur, hv, hb, hh, hle, hm, hsz, htk⟩
      · omega
      · have hlt : g < w'.heap.size := (Array.getElem?_eq_some_iff.1 hh).1
        refine ⟨some ⟨g, 0, none⟩, cap, by rw [hv]; simp, by simpa using hle, fun _ => .inr ⟨_, rfl⟩, fun _ => ⟨g, 0, cur, rfl, .inr ⟨hb, hlt⟩, hh, by omega, ?_⟩⟩
        have hcur : ∀ (x : Nat) (u : Value), (olds ++ encG m s)[x]? = some u → cur[x]? = some u := by
          intro x u hx
          have hxl : x < (l.length + 1) * 19 := by
            have := (List.getElem?_eq_some_iff.1 hx).1
            rw [List.length_append, hol, encG_len] at this
            omega
          rw [← htk, List.getElem?_take, if_pos hxl, Array.getElem?_toList] at hx
          exact hx
        intro j m' hj
        rw [List.getElem?_append] at hj
        split at hj
        · obtain ⟨s', e1, e2⟩ := hold j m' hj
          refine ⟨s', e1.kp hkp, fun i u hu => hcur _ u ?_⟩
          rw [Nat.zero_add, List.getElem?_append_left (by
            have := (List.getElem?_eq_some_iff.1 (e2 i u hu)).1
            exact this)]
          exact e2 i u hu
        · have hj0 : j = l.length := by
            have := (List.getElem?_eq_some_iff.1 hj).1
            simp at this
            omega
          subst hj0
          simp at hj
          subst hj
          refine ⟨s, hs.kp hkp, fun i u hu => hcur _ u ?_⟩
          rw [Nat.zero_add, List.getElem?_append_right (by rw [hol]; omega), hol, show l.length * 19 + i - l.length * 19 = i by omega]
          exact hu
    · rcases hown.2 with ⟨_, h0⟩ | ⟨g, cap, cur, hv, _⟩
      · omega
      · exact ⟨_, _, _, hv⟩
  obtain ⟨A, cap, rfl, hle, h0, hc⟩ := h
  rcases Nat.eq_zero_or_pos cap with hcz | hcp
  · subst hcz
    have hln : l = [] := List.eq_nil_of_length_eq_zero (by omega)
    subst hln
    rcases h0 rfl with rfl | ⟨a, rfl⟩
    · obtain ⟨v', w', hr, h2, h3, _⟩ := run_append_own_at (P := Tryd.prog) w w.heap.size 72 ty 45 i z 19 i.bytes Tryd.underlying72 hi hz h19 rfl hzs (by omega) (.slice none 0 0) 0 [] (World.ownsRow_nil w _ _ _) ⟨b1, 0, none⟩ 1 1 (encG m s) (by rw [encG_len]) hnews hone (by simpa using hmx) (by simpa using hbytes) (Nat.le_refl _)
      exact ⟨v', w', hr, fin v' w' [] (by simpa using h2) h3 rfl (fun j m' hj => by simp at hj)⟩
    · obtain ⟨v', w', hr, h2, h3⟩ := run_append_arg_grows (P := Tryd.prog) w 72 ty 45 i z 19 i.bytes Tryd.underlying72 hi hz h19 rfl hzs (by omega) a 0 0 [] rfl (fun j u hu => by simp at hu) ⟨b1, 0, none⟩ 1 1 (encG m s) (by rw [encG_len]) hnews (by omega) (by simpa using hmx) (by simpa using hbytes)
      exact ⟨v', w', hr, fin v' w' [] (by simpa using h2) h3 rfl (fun j m' hj => by simp at hj)⟩
  obtain ⟨g, off, cs, rfl, hg, hx, hsz, hm⟩ := hc hcp
  by_cases hroom : l.length + 1 ≤ cap
  · have hfit : off + l.length * 19 + 19 ≤ cs.size := by omega
    have hr := run_append_room_cells (P := Tryd.prog) w 72 ty 45 i Tryd.underlying72 hi g off l.length cap ⟨b1, 0, none⟩ 1 1 (encG m s) (by rw [encG_len, h19]) hnews hone hroom
      (fun j hj => by rw [encG_len] at hj; rw [h19, hx.cell, Array.getElem?_eq_getElem (by omega)]; rfl) (fun j _ => hx.frozen _)
    rw [h19] at hr
    have hfit' : off + l.length * 19 + (encG m s).length ≤ cs.size := by rw [encG_len]; exact hfit
    have hkp : Kp B w (w.setCells g (off + l.length * 19) (encG m s)) := Kp.sets rfl (hG g hg).1 _ _ hx
    have hx' := hx.sets (encG m s) (off + l.length * 19)
    refine ⟨_, _, hr, ⟨some ⟨g, off, none⟩, cap, by simp, by simpa using hroom, fun _ => .inr ⟨_, rfl⟩, fun _ => ⟨g, off, _, rfl, .inl hg, hx', by rw [setsA_len _ _ _ hfit']; exact hsz, ?_⟩⟩, ?_, hkp, below_sets (Nat.zero_le _) _ _ _ (Below.refl 0 w), ⟨_, _, _, rfl⟩⟩
    · intro j m' hj
      rw [List.getElem?_append] at hj
      split at hj
      · rename_i hjl
        obtain ⟨s', e1, e2⟩ := hm j m' hj
        refine ⟨s', e1.kp hkp, fun i u hu => ?_⟩
        have hi19 : i < 19 := (List.getElem?_eq_some_iff.1 hu).1
        rw [setsA_lt _ _ _ hfit' _ (by omega)]
        exact e2 i u hu
      · have hj0 : j = l.length := by
          have := (List.getElem?_eq_some_iff.1 hj).1
          simp at this
          omega
        subst hj0
        simp at hj
        subst hj
        refine ⟨s, hs.kp hkp, fun i u hu => ?_⟩
        rw [setsA_in _ _ _ hfit' i (List.getElem?_eq_some_iff.1 hu).1]
        exact hu
    · intro b hb hnb
      have hne : g ≠ b := fun e => hnb (e ▸ hg)
      have : ∀ (vs : List Value) (o : Nat) (w1 : World), (w1.setCells g o vs).heap[b]? = w1.heap[b]? := by
        intro vs
        induction vs with
        | nil => intro o w1; rfl
        | cons x r ih => intro o w1; exact (ih (o + 1) _).trans (Below.heap_setCell _ _ _ b (fun e => hne e.symm))
      exact this _ _ _
  · have hcl : cap = l.length := by omega
    obtain ⟨olds, holds⟩ : ∃ olds : List Value, olds = (cs.toList.drop off).take (l.length * 19) := ⟨_, rfl⟩
    have hol : olds.length = l.length * 19 := by
      have := Array.length_toList (xs := cs)
      rw [holds, List.length_take, List.length_drop]
      omega
    have hog : ∀ x, x < l.length * 19 → olds[x]? = cs[off + x]? := by
      intro x hx'
      rw [holds, List.getElem?_take, if_pos hx', List.getElem?_drop, Array.getElem?_toList]
    obtain ⟨v', w', hr, h2, h3⟩ := run_append_arg_grows (P := Tryd.prog) w 72 ty 45 i z 19 i.bytes Tryd.underlying72 hi hz h19 rfl hzs (by omega) ⟨g, off, none⟩ l.length cap olds hol (fun j u hu => by
        have hj : j < l.length * 19 := by
          have := (List.getElem?_eq_some_iff.1 hu).1
          omega
        rw [hog j hj] at hu
        rw [addr_add, hx.cell]
        exact hu) ⟨b1, 0, none⟩ 1 1 (encG m s) (by rw [encG_len]) hnews (by omega) hmx hbytes
    refine ⟨v', w', hr, fin v' w' olds h2 h3 hol (fun j m' hj => ?_)⟩
    obtain ⟨s', e1, e2⟩ := hm j m' hj
    refine ⟨s', e1, fun i u hu => ?_⟩
    have hi19 : i < 19 := (List.getElem?_eq_some_iff.1 hu).1
    have hjl : j < l.length := (List.getElem?_eq_some_iff.1 hj).1
    rw [hog _ (by omega), ← Nat.add_assoc]
    exact e2 i u hu

/-- what does not lie in memory -/
structure Nt.Ok (S : Nt) : Prop where
  k1 : 1 ≤ S.k
  k2 : S.k ≤ 16
  r1 : 1 ≤ S.room
  r2 : S.room ≤ 64
  len : S.rows.length = S.k * S.k
  small : ∀ r ∈ S.rows, r.l.length ≤ 64
/-- a link as its three cells lie -/
def LinkAt (B : Nat) (w : World) (O : Nat → Option Nat) (C : Array Value) (j : Nat) (r : Lk) : Prop := ∃ v, C[j * 3]? = some v ∧ C[j * 3 + 1]? = some (.int .i64 r.sent) ∧ C[j * 3 + 2]? = some (.int .i64 r.taken) ∧ RowAt B w v r.l (fun g => O g = some j)
/-- a net, but for its link j -/
structure NetP (B : Nat) (w : World) (p q : Nat) (O : Nat → Option Nat) (S : Nt) (C : Array Value) (j : Nat) : Prop where
  net : Bx w p 58 #[.int .i64 S.k, .int .i64 S.room, .slice (some ⟨q, 0, none⟩) (S.k * S.k) (S.k * S.k)]
  ok : S.Ok
  bp : B ≤ p
  bq : B ≤ q
  bO : ∀ b j, O b = some j → B ≤ b ∧ b < w.heap.size ∧ b ≠ p ∧ b ≠ q
  row : Bx w q 87 C
  sz : C.size = S.k * S.k * 3
  rows : ∀ (i : Nat) (r : Lk), i ≠ j → S.rows[i]? = some r → LinkAt B w O C i r
structure NetC (B : Nat) (w : World) (p q : Nat) (O : Nat → Option Nat) (S : Nt) (C : Array Value) : Prop where
  net : Bx w p 58 #[.int .i64 S.k, .int .i64 S.room, .slice (some ⟨q, 0, none⟩) (S.k * S.k) (S.k * S.k)]
  ok : S.Ok
  bp : B ≤ p
  bq : B ≤ q
  bO : ∀ b j, O b = some j → B ≤ b ∧ b < w.heap.size ∧ b ≠ p ∧ b ≠ q
  row : Bx w q 87 C
  sz : C.size = S.k * S.k * 3
  rows : ∀ (i : Nat) (r : Lk), S.rows[i]? = some r → LinkAt B w O C i r
theorem NetC.part {B : Nat} {w : World} {p q : Nat} {O : Nat → Option Nat} {S : Nt} {C : Array Value} (h : NetC B w p q O S C) (j : Nat) : NetP B w p q O S C j :=
  ⟨h.net, h.ok, h.bp, h.bq, h.bO, h.row, h.sz, fun i r _ => h.rows i r⟩
theorem LinkAt.keep {B : Nat} {w w' : World} {O O' : Nat → Option Nat} {C : Array Value} {j : Nat} {r : Lk} (h : LinkAt B w O C j r) (k : Kp B w w') (hb : ∀ b, O b = some j → w'.heap[b]? = w.heap[b]? ∧ O' b = some j) : LinkAt B w' O' C j r := by
  obtain ⟨v, e1, e2, e3, e4⟩ := h
  exact ⟨v, e1, e2, e3, e4.keep k (fun g hg => (hb g hg).1) (fun g hg => (hb g hg).2)⟩
def FpC (p q : Nat) (O : Nat → Option Nat) (b : Nat) : Prop := b = p ∨ b = q ∨ O b ≠ none
theorem NetC.keep {B : Nat} {w w' : World} {p q : Nat} {O : Nat → Option Nat} {S : Nt} {C : Array Value} (h : NetC B w p q O S C) (k : Kp B w w') (hb : ∀ b, FpC p q O b → w'.heap[b]? = w.heap[b]?) : NetC B w' p q O S C := by
  refine ⟨(hb p (.inl rfl)).trans h.net, h.ok, h.bp, h.bq, fun b j hj => ?_, (hb q (.inr (.inl rfl))).trans h.row, h.sz, fun j r hj => (h.rows j r hj).keep k (fun b e => ⟨hb b (.inr (.inr (by rw [e]; simp))), e⟩)⟩
  obtain ⟨a, b1, c, d⟩ := h.bO b j hj
  exact ⟨a, Nat.lt_of_lt_of_le b1 k.size, c, d⟩
theorem NetC.lt {B : Nat} {w : World} {p q : Nat} {O : Nat → Option Nat} {S : Nt} {C : Array Value} (h : NetC B w p q O S C) {b : Nat} (hb : FpC p q O b) : b < w.heap.size := by
  rcases hb with rfl | rfl | hb
  · exact h.net.lt
  · exact h.row.lt
  · obtain ⟨j, hj⟩ := Option.ne_none_iff_exists'.1 hb
    exact (h.bO b j hj).2.1
theorem NetC.ge {B : Nat} {w w' : World} {p q : Nat} {O : Nat → Option Nat} {S : Nt} {C : Array Value} (h : NetC B w p q O S C) (g : Ge w w') : NetC B w' p q O S C := h.keep (g.kp B) (fun b hb => g.block b (h.lt hb))
theorem NetP.keep {B : Nat} {w w' : World} {p q : Nat} {O : Nat → Option Nat} {S : Nt} {C : Array Value} {j : Nat} (h : NetP B w p q O S C j) (k : Kp B w w') (hp : w'.heap[p]? = w.heap[p]?) (hq : w'.heap[q]? = w.heap[q]?) (hb : ∀ b i, O b = some i → i ≠ j → w'.heap[b]? = w.heap[b]?) : NetP B w' p q O S C j := by
  refine ⟨hp.trans h.net, h.ok, h.bp, h.bq, fun b i hj => ?_, hq.trans h.row, h.sz, fun i r hne hj => (h.rows i r hne hj).keep k (fun b e => ⟨hb b i e hne, e⟩)⟩
  obtain ⟨a, b1, c, d⟩ := h.bO b i hj
  exact ⟨a, Nat.lt_of_lt_of_le b1 k.size, c, d⟩
theorem NetP.lt {B : Nat} {w : World} {p q : Nat} {O : Nat → Option Nat} {S : Nt} {C : Array Value} {j : Nat} (h : NetP B w p q O S C j) {b : Nat} (hb : FpC p q O b) : b < w.heap.size := by
  rcases hb with rfl | rfl | hb
  · exact h.net.lt
  · exact h.row.lt
  · obtain ⟨j, hj⟩ := Option.ne_none_iff_exists'.1 hb
    exact (h.bO b j hj).2.1
theorem NetP.ge {B : Nat} {w w' : World} {p q : Nat} {O : Nat → Option Nat} {S : Nt} {C : Array Value} {j : Nat} (h : NetP B w p q O S C j) (g : Ge w w') : NetP B w' p q O S C j :=
  h.keep (g.kp B) (g.block p (h.lt (.inl rfl))) (g.block q (h.lt (.inr (.inl rfl)))) (fun b i hb _ => g.block b (h.lt (.inr (.inr (by rw [hb]; simp)))))
theorem kp_set87 {B : Nat} {w : World} {q : Nat} {C : Array Value} (h : Bx w q 87 C) (hb : B ≤ q) (k : Nat) (v : Value) : Kp B w (w.setCell ⟨q, k, none⟩ v) := Kp.set h rfl hb k v
/-- a store into link j -/
theorem NetP.store {B : Nat} {w : World} {p q : Nat} {O : Nat → Option Nat} {S : Nt} {C : Array Value} {j : Nat} (h : NetP B w p q O S C j) (hj : j < S.k * S.k) (i : Nat) (hi : i < 3) (v v0 : Value) (r : Lk) (hl : r.l.length ≤ 64)
    (e0 : (C.setIfInBounds (j * 3 + i) v)[j * 3]? = some v0) (e1 : (C.setIfInBounds (j * 3 + i) v)[j * 3 + 1]? = some (.int .i64 r.sent)) (e2 : (C.setIfInBounds (j * 3 + i) v)[j * 3 + 2]? = some (.int .i64 r.taken)) (hr : RowAt B w v0 r.l (fun g => O g = some j)) :
    NetC B (w.setCell ⟨q, j * 3 + i, none⟩ v) p q O { S with rows := S.rows.set j r } (C.setIfInBounds (j * 3 + i) v) := by
  have hpq : p ≠ q := by
    intro e
    have h1 := h.net
    have h2 := h.row
    unfold Bx at h1 h2
    rw [e, h2] at h1
    simp at h1
  have hkp := kp_set87 h.row h.bq (j * 3 + i) v
  refine ⟨h.net.set_ne _ _ hpq, ⟨h.ok.k1, h.ok.k2, h.ok.r1, h.ok.r2, by simp [h.ok.len], ?_⟩, h.bp, h.bq, fun b i' hb => ?_, h.row.set _ _, by simp [h.sz], fun i' r' hr' => ?_⟩
  · intro r' hr'
    rcases List.mem_or_eq_of_mem_set hr' with h1 | rfl
    · exact h.ok.small r' h1
    · exact hl
  · obtain ⟨a, b1, c, d⟩ := h.bO b i' hb
    exact ⟨a, Nat.lt_of_lt_of_le b1 hkp.size, c, d⟩
  · have hkeep : ∀ b i'', O b = some i'' → (w.setCell ⟨q, j * 3 + i, none⟩ v).heap[b]? = w.heap[b]? := fun b i'' hb => Below.heap_setCell _ _ _ _ (fun e => (h.bO b i'' hb).2.2.2 e)
    by_cases hij : i' = j
    · subst hij
      rw [List.getElem?_set_self (by rw [h.ok.len]; exact hj)] at hr'
      cases hr'
      exact ⟨v0, e0, e1, e2, hr.keep hkp (fun g hg => hkeep g _ hg) (fun _ h => h)⟩
    · rw [List.getElem?_set_ne (Ne.symm hij)] at hr'
      obtain ⟨v1, a0, a1, a2, a3⟩ := h.rows i' r' hij hr'
      refine ⟨v1, ?_, ?_, ?_, a3.keep hkp (fun g hg => hkeep g _ hg) (fun _ h => h)⟩
      · rw [Array.getElem?_setIfInBounds_ne (by omega)]; exact a0
      · rw [Array.getElem?_setIfInBounds_ne (by omega)]; exact a1
      · rw [Array.getElem?_setIfInBounds_ne (by omega)]; exact a2

/-- all but the blocks of F stays, and all data -/
structure Nx (B : Nat) (F : Nat → Prop) (w w' : World) : Prop where
  kp : Kp B w w'
  block : ∀ b, b < w.heap.size → ¬ F b → w'.heap[b]? = w.heap[b]?
  bel : Below 0 w w'
theorem Nx.of_ge {B : Nat} {F : Nat → Prop} {w w' : World} (g : Ge w w') : Nx B F w w' := ⟨g.kp B, fun b hb _ => g.block b hb, g.mono (Nat.zero_le _)⟩
theorem Nx.trans {B : Nat} {F F' : Nat → Prop} {a b c : World} (h : Nx B F a b) (k : Nx B F' b c) (hF : ∀ x, x < a.heap.size → F' x → F x) : Nx B F a c :=
  ⟨h.kp.trans k.kp, fun x hx hn => (k.block x (Nat.lt_of_lt_of_le hx h.kp.size) (fun hf => hn (hF x hx hf))).trans (h.block x hx hn), h.bel.trans k.bel⟩
/-- where all that may turn was made behind n -/
theorem Nx.below {B n : Nat} {F : Nat → Prop} {w w' : World} (h : Nx B F w w') (hF : ∀ b, F b → n ≤ b) (hn : n ≤ w.heap.size) : Below n w w' :=
  ⟨h.bel.os, h.bel.tape, h.bel.output, h.bel.size, fun k hk => h.block k (by omega) (fun hf => absurd (hF k hf) (by omega))⟩
theorem nx_set87 {B : Nat} {F : Nat → Prop} {w : World} {q : Nat} {C : Array Value} (h : Bx w q 87 C) (hb : B ≤ q) (hF : F q) (k : Nat) (v : Value) : Nx B F w (w.setCell ⟨q, k, none⟩ v) :=
  ⟨kp_set87 h hb k v, fun b _ hn => Below.heap_setCell _ _ _ b (fun e => hn (e ▸ hF)), Below.setCell (Below.refl 0 w) (Nat.zero_le _) v⟩

def Nt.idx (S : Nt) (f t : Int) : Option Nat := if 0 ≤ f ∧ f < S.k ∧ 0 ≤ t ∧ t < S.k ∧ f ≠ t then some (f.toNat * S.k + t.toNat) else none
theorem Nt.idx_lt {S : Nt} {f t : Int} {j : Nat} (h : S.idx f t = some j) : j < S.k * S.k := by
  unfold Nt.idx at h
  split at h
  · rename_i hc
    cases h
    obtain ⟨a, b, c, d, _⟩ := hc
    have h1 : f.toNat + 1 ≤ S.k := by omega
    have h2 : t.toNat < S.k := by omega
    have := Nat.mul_le_mul_right S.k h1
    rw [Nat.add_mul] at this
    omega
  · cases h
def rowP (q : Nat) : Option Nat → Option Addr
  | none => none
  | some j => some ⟨q, j * 3, none⟩
end Go.Proofs.YtmhibpmgnicolaaDoor
