/-
  A net that lies behind a world 'a', and that alone turns: what each call leaves of it.
-/
import Derived.Test.YtmhibpmgnicolaaDoorTake
import Derived.Test.YtmhibpmgnicolaaDoorLeft
namespace Go.Proofs.YtmhibpmgnicolaaDoor
open Go.RowKit

structure NS (a : World) (B p q : Nat) (S : Nt) (w : World) : Prop where
  out : ∃ O C, NetC B w p q O S C ∧ ∀ b, FpC p q O b → a.heap.size ≤ b
  ge : Ge a w
theorem NS.next {a : World} {B p q : Nat} {S : Nt} {w w' : World} (h : NS a B p q S w) (g : Ge w w') : NS a B p q S w' := by
  obtain ⟨⟨O, C, h1, h2⟩, h3⟩ := h
  exact ⟨⟨O, C, h1.ge g, h2⟩, h3.trans g⟩
theorem ns_send {a : World} (hT : Tabs a) {B p q : Nat} {S : Nt} {w : World} (h : NS a B p q S w) {f t : Int} {j : Nat} {r : Lk} (hi : S.idx f t = some j) (hr : S.rows[j]? = some r) {m : Msg} {s : Sls} (hs : SlAt B a s m) (hsm : Small m) (hc : chkM m = 0) (hroom : r.l.length < S.room) :
    Calls Tryd.prog 14 #[.pointer (some ⟨p, 0, none⟩), .int .i64 f, .int .i64 t, .agg (encG m s).toArray] w fun e w' => e = .returned (.int .i64 0) ∧ NS a B p q { S with rows := S.rows.set j (sentR r m) } w' := by
  obtain ⟨⟨O, C, h1, h2⟩, h3⟩ := h
  refine (send_ok (hT.ge h3) h1 hi hr (hs.ge h3) hsm hc hroom).mono ?_
  rintro e w' ⟨rfl, O', C', k1, k2, k3⟩
  refine ⟨rfl, ⟨O', C', k1, fun b hb => ?_⟩, Below.trans h3 (k2.below h2 h3.size)⟩
  rcases Nat.lt_or_ge b w.heap.size with hl | hl
  · exact h2 b (k3 b hl hb)
  · exact Nat.le_trans h3.size hl
theorem ns_full {a : World} (hT : Tabs a) {B p q : Nat} {S : Nt} {w : World} (h : NS a B p q S w) {f t : Int} {j : Nat} {r : Lk} (hi : S.idx f t = some j) (hr : S.rows[j]? = some r) {m : Msg} {s : Sls} (hs : SlAt B a s m) (hsm : Small m) (hc : chkM m = 0) (hfull : S.room ≤ r.l.length) :
    Calls Tryd.prog 14 #[.pointer (some ⟨p, 0, none⟩), .int .i64 f, .int .i64 t, .agg (encG m s).toArray] w fun e w' => e = .returned (.int .i64 7) ∧ NS a B p q S w' := by
  have hn := h
  obtain ⟨⟨O, C, h1, h2⟩, h3⟩ := h
  refine (send_full (hT.ge h3) h1 hi hr (hs.ge h3) hsm hc hfull).mono ?_
  rintro e w' ⟨rfl, g⟩
  exact ⟨rfl, hn.next g⟩
theorem ns_take {a : World} {B p q : Nat} {S : Nt} {w : World} (h : NS a B p q S w) {f t : Int} {j : Nat} {r : Lk} {m : Msg} {l : List Msg} (hi : S.idx f t = some j) (hr : S.rows[j]? = some r) (hl : r.l = m :: l) :
    Calls Tryd.prog 13 #[.pointer (some ⟨p, 0, none⟩), .int .i64 f, .int .i64 t] w fun e w' => (∃ s', e = .returned (.tuple #[.agg (encG m s').toArray, .int .i64 0]) ∧ SlAt B w' s' m) ∧ NS a B p q { S with rows := S.rows.set j (takenR r l) } w' := by
  obtain ⟨⟨O, C, h1, h2⟩, h3⟩ := h
  refine (take_ok h1 hi hr hl).mono ?_
  rintro e w' ⟨k1, ⟨C', k2⟩, k3⟩
  exact ⟨k1, ⟨O, C', k2, h2⟩, Below.trans h3 (k3.below h2 h3.size)⟩
theorem ns_left {a : World} {B p q : Nat} {S : Nt} {w : World} (h : NS a B p q S w) :
    Calls Tryd.prog 23 #[.pointer (some ⟨p, 0, none⟩)] w fun e w' => e = .returned (.int .i64 ((lens S.rows : Nat) : Int)) ∧ NS a B p q S w' := by
  have hn := h
  obtain ⟨⟨O, C, h1, h2⟩, h3⟩ := h
  refine (left_any h1).mono ?_
  rintro e w' ⟨rfl, g⟩
  exact ⟨rfl, hn.next g⟩

/-! ### Two workers, one link in use -/
def SA (kk : Nat) (r : Lk) : Nt := ⟨2, kk, [⟨[], 0, 0⟩, ⟨[], 0, 0⟩, r, ⟨[], 0, 0⟩]⟩
structure NR (a : World) (B p kk : Nat) (l : List Msg) (w : World) : Prop where
  out : ∃ q s t, NS a B p q (SA kk ⟨l, s, t⟩) w
theorem NR.ge {a : World} {B p kk : Nat} {l : List Msg} {w : World} (h : NR a B p kk l w) : Ge a w := by
  obtain ⟨q, s, t, h⟩ := h
  exact h.ge
theorem NR.next {a : World} {B p kk : Nat} {l : List Msg} {w w' : World} (h : NR a B p kk l w) (g : Ge w w') : NR a B p kk l w' := by
  obtain ⟨q, s, t, h⟩ := h
  exact ⟨q, s, t, h.next g⟩
theorem nr_new {a w : World} {B kk : Nat} (hB : B ≤ a.heap.size) (hg : Ge a w) (r1 : 1 ≤ kk) (r2 : kk ≤ 64) :
    Calls Tryd.prog 9 #[.int .i64 2, .int .i64 (kk : Int)] w fun e w' => ∃ p, e = .returned (.tuple #[.pointer (some ⟨p, 0, none⟩), .int .i64 0]) ∧ NR a B p kk [] w' := by
  refine (show Calls Tryd.prog 9 #[.int .i64 2, .int .i64 (kk : Int)] w _ from new_ok (B := B) (Nat.le_trans hB hg.size) (k := 2) (room := kk) (by omega) (by omega) r1 r2).mono ?_
  rintro e w' ⟨p, q, C, rfl, h1, h2, h3, h4⟩
  refine ⟨p, rfl, q, 0, 0, ⟨fun _ => none, C, h1, fun b hb => ?_⟩, hg.trans h2⟩
  have := hg.size
  rcases hb with rfl | rfl | hb
  · omega
  · omega
  · exact absurd rfl hb
theorem nr_send {a : World} (hT : Tabs a) {B p kk : Nat} {l : List Msg} {w : World} (h : NR a B p kk l w) {m : Msg} {s : Sls} (hs : SlAt B a s m) (hsm : Small m) (hc : chkM m = 0) (hl : l.length < kk) :
    Calls Tryd.prog 14 #[.pointer (some ⟨p, 0, none⟩), .int .i64 1, .int .i64 0, .agg (encG m s).toArray] w fun e w' => e = .returned (.int .i64 0) ∧ NR a B p kk (l ++ [m]) w' := by
  obtain ⟨q, sn, t, h⟩ := h
  refine (ns_send hT h (f := 1) (t := 0) (j := 2) (r := ⟨l, sn, t⟩) rfl rfl hs hsm hc hl).mono ?_
  rintro e w' ⟨rfl, k⟩
  exact ⟨rfl, q, _, t, k⟩
theorem nr_full {a : World} (hT : Tabs a) {B p kk : Nat} {l : List Msg} {w : World} (h : NR a B p kk l w) {m : Msg} {s : Sls} (hs : SlAt B a s m) (hsm : Small m) (hc : chkM m = 0) (hl : kk ≤ l.length) :
    Calls Tryd.prog 14 #[.pointer (some ⟨p, 0, none⟩), .int .i64 1, .int .i64 0, .agg (encG m s).toArray] w fun e w' => e = .returned (.int .i64 7) ∧ NR a B p kk l w' := by
  obtain ⟨q, sn, t, h⟩ := h
  refine (ns_full hT h (f := 1) (t := 0) (j := 2) (r := ⟨l, sn, t⟩) rfl rfl hs hsm hc hl).mono ?_
  rintro e w' ⟨rfl, k⟩
  exact ⟨rfl, q, _, t, k⟩
theorem nr_take {a : World} {B p kk : Nat} {m : Msg} {l : List Msg} {w : World} (h : NR a B p kk (m :: l) w) :
    Calls Tryd.prog 13 #[.pointer (some ⟨p, 0, none⟩), .int .i64 1, .int .i64 0] w fun e w' => (∃ s', e = .returned (.tuple #[.agg (encG m s').toArray, .int .i64 0]) ∧ SlAt B w' s' m) ∧ NR a B p kk l w' := by
  obtain ⟨q, sn, t, h⟩ := h
  refine (ns_take h (f := 1) (t := 0) (j := 2) (r := ⟨m :: l, sn, t⟩) rfl rfl rfl).mono ?_
  rintro e w' ⟨k1, k⟩
  exact ⟨k1, q, sn, _, k⟩
theorem nr_left {a : World} {B p kk : Nat} {l : List Msg} {w : World} (h : NR a B p kk l w) :
    Calls Tryd.prog 23 #[.pointer (some ⟨p, 0, none⟩)] w fun e w' => e = .returned (.int .i64 (l.length : Int)) ∧ NR a B p kk l w' := by
  obtain ⟨q, sn, t, h⟩ := h
  refine (ns_left h).mono ?_
  rintro e w' ⟨rfl, k⟩
  refine ⟨?_, q, sn, t, k⟩
  have : lens (SA kk ⟨l, sn, t⟩).rows = l.length := by simp [lens, SA]
  rw [this]
end Go.Proofs.YtmhibpmgnicolaaDoor
