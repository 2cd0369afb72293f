/-
  A net and two rows beside it: what each call, and each append, leaves of them.
-/
import Derived.Test.YtmhibpmgnicolaaDoorNS
import Derived.Test.YtmhibpmgnicolaaDoorMsgIn
import Derived.Test.YtmhibpmgnicolaaDoorOpenD
namespace Go.Proofs.YtmhibpmgnicolaaDoor
open Go.RowKit

structure Apart (n0 n : Nat) (P F G7 G8 : Nat → Prop) : Prop where
  f : ∀ b, F b → n0 ≤ b ∧ ¬ G7 b ∧ ¬ G8 b ∧ ¬ P b
  g7 : ∀ b, G7 b → n0 ≤ b ∧ b < n ∧ ¬ G8 b ∧ ¬ P b
  g8 : ∀ b, G8 b → n0 ≤ b ∧ b < n ∧ ¬ P b
  p : ∀ b, P b → b < n
structure OS (w0 : World) (P : Nat → Prop) (p kk : Nat) (v7 v8 : Value) (sent taken l : List Msg) (w : World) : Prop where
  out : ∃ q O S C G7 G8, NetC w0.heap.size w p q O S C ∧ S.k = 3 ∧ S.room = kk ∧ (∃ sn tk, S.rows[1]? = some ⟨l, sn, tk⟩) ∧
    RowAt w0.heap.size w v7 sent G7 ∧ RowAt w0.heap.size w v8 taken G8 ∧ Apart w0.heap.size w.heap.size P (FpC p q O) G7 G8
  ge : Ge w0 w
variable {w0 : World} {P : Nat → Prop} {p kk : Nat} {v7 v8 : Value} {sent taken l : List Msg} {w w' : World}
theorem Apart.size {n0 n n' : Nat} {P F G7 G8 : Nat → Prop} (h : Apart n0 n P F G7 G8) (hn : n ≤ n') : Apart n0 n' P F G7 G8 :=
  ⟨h.f, fun b hb => by obtain ⟨a, b, c⟩ := h.g7 b hb; exact ⟨a, by omega, c⟩, fun b hb => by obtain ⟨a, b, c⟩ := h.g8 b hb; exact ⟨a, by omega, c⟩, fun b hb => by have := h.p b hb; omega⟩
theorem RowAt.ge {B : Nat} {w w' : World} {v : Value} {l : List Msg} {G : Nat → Prop} (h : RowAt B w v l G) (g : Ge w w') (hG : ∀ b, G b → b < w.heap.size) : RowAt B w' v l G :=
  h.keep (g.kp B) (fun b hb => g.block b (hG b hb)) (fun _ h => h)
theorem OS.next (h : OS w0 P p kk v7 v8 sent taken l w) (g : Ge w w') : OS w0 P p kk v7 v8 sent taken l w' := by
  obtain ⟨⟨q, O, S, C, G7, G8, h1, h2, h3, h4, h5, h6, h7⟩, h8⟩ := h
  exact ⟨⟨q, O, S, C, G7, G8, h1.ge g, h2, h3, h4, h5.ge g (fun b hb => (h7.g7 b hb).2.1), h6.ge g (fun b hb => (h7.g8 b hb).2.1), h7.size g.size⟩, h8.trans g⟩
theorem OS.free (h : OS w0 P p kk v7 v8 sent taken l w) : OS w0 (fun _ => False) p kk v7 v8 sent taken l w := by
  obtain ⟨⟨q, O, S, C, G7, G8, h1, h2, h3, h4, h5, h6, h7⟩, h8⟩ := h
  exact ⟨⟨q, O, S, C, G7, G8, h1, h2, h3, h4, h5, h6, ⟨fun b hb => ⟨(h7.f b hb).1, (h7.f b hb).2.1, (h7.f b hb).2.2.1, fun h => h⟩, fun b hb => ⟨(h7.g7 b hb).1, (h7.g7 b hb).2.1, (h7.g7 b hb).2.2.1, fun h => h⟩, fun b hb => ⟨(h7.g8 b hb).1, (h7.g8 b hb).2.1, fun h => h⟩, fun b hb => hb.elim⟩⟩, h8⟩
/-- a block that was made just now is none of theirs -/
theorem OS.fresh (h : OS w0 P p kk v7 v8 sent taken l w) (g : Ge w w') (hlt : w.heap.size < w'.heap.size) : OS w0 (fun b => b = w.heap.size) p kk v7 v8 sent taken l w' := by
  obtain ⟨⟨q, O, S, C, G7, G8, h1, h2, h3, h4, h5, h6, h7⟩, h8⟩ := h
  refine ⟨⟨q, O, S, C, G7, G8, h1.ge g, h2, h3, h4, h5.ge g (fun b hb => (h7.g7 b hb).2.1), h6.ge g (fun b hb => (h7.g8 b hb).2.1), ⟨fun b hb => ⟨(h7.f b hb).1, (h7.f b hb).2.1, (h7.f b hb).2.2.1, fun e => ?_⟩, fun b hb => ⟨(h7.g7 b hb).1, ?_, (h7.g7 b hb).2.2.1, fun e => ?_⟩, fun b hb => ⟨(h7.g8 b hb).1, ?_, fun e => ?_⟩, fun b hb => by omega⟩⟩, h8.trans g⟩
  · have := h1.lt hb
    omega
  · have := (h7.g7 b hb).2.1
    omega
  · have := (h7.g7 b hb).2.1
    omega
  · have := (h7.g8 b hb).2.1
    omega
  · have := (h7.g8 b hb).2.1
    omega
theorem OS.form7 (h : OS w0 P p kk v7 v8 sent taken l w) : ∃ A c, v7 = .slice A sent.length c ∧ sent.length ≤ c ∧ (A = none → c = 0) := by
  obtain ⟨⟨q, O, S, C, G7, G8, h1, h2, h3, h4, ⟨A, c, e, hle, h0, hc⟩, h6, h7⟩, h8⟩ := h
  refine ⟨A, c, e, hle, fun hA => ?_⟩
  rcases Nat.eq_zero_or_pos c with h | h
  · exact h
  · obtain ⟨g, off, cs, e', _⟩ := hc h
    rw [hA] at e'
    cases e'
theorem OS.form8 (h : OS w0 P p kk v7 v8 sent taken l w) : ∃ A c, v8 = .slice A taken.length c ∧ taken.length ≤ c := by
  obtain ⟨⟨q, O, S, C, G7, G8, h1, h2, h3, h4, h5, ⟨A, c, e, hle, h0, hc⟩, h7⟩, h8⟩ := h
  exact ⟨A, c, e, hle⟩

/-- behind a call that turned the net alone -/
theorem os_after {q : Nat} {O O' : Nat → Option Nat} {C' : Array Value} {S' : Nt} {G7 G8 : Nat → Prop} {l' : List Msg} (h5 : RowAt w0.heap.size w v7 sent G7) (h6 : RowAt w0.heap.size w v8 taken G8) (h7 : Apart w0.heap.size w.heap.size P (FpC p q O) G7 G8) (h8 : Ge w0 w)
    (k1 : NetC w0.heap.size w' p q O' S' C') (k2 : Nx w0.heap.size (FpC p q O) w w') (k3 : ∀ b, b < w.heap.size → FpC p q O' b → FpC p q O b) (e2 : S'.k = 3) (e3 : S'.room = kk) (e4 : ∃ sn tk, S'.rows[1]? = some ⟨l', sn, tk⟩) :
    OS w0 P p kk v7 v8 sent taken l' w' ∧ ∀ b, P b → w'.heap[b]? = w.heap[b]? := by
  have hsz := k2.kp.size
  refine ⟨⟨⟨q, O', S', C', G7, G8, k1, e2, e3, e4, h5.keep k2.kp (fun b hb => k2.block b (h7.g7 b hb).2.1 (fun hf => (h7.f b hf).2.1 hb)) (fun _ h => h), h6.keep k2.kp (fun b hb => k2.block b (h7.g8 b hb).2.1 (fun hf => (h7.f b hf).2.2.1 hb)) (fun _ h => h), ⟨fun b hb => ?_, fun b hb => ⟨(h7.g7 b hb).1, Nat.lt_of_lt_of_le (h7.g7 b hb).2.1 hsz, (h7.g7 b hb).2.2⟩, fun b hb => ⟨(h7.g8 b hb).1, Nat.lt_of_lt_of_le (h7.g8 b hb).2.1 hsz, (h7.g8 b hb).2.2⟩, fun b hb => Nat.lt_of_lt_of_le (h7.p b hb) hsz⟩⟩,
    Below.trans h8 (k2.below (fun b hb => (h7.f b hb).1) h8.size)⟩, fun b hb => k2.block b (h7.p b hb) (fun hf => (h7.f b hf).2.2.2 hb)⟩
  rcases Nat.lt_or_ge b w.heap.size with hl | hl
  · exact h7.f b (k3 b hl hb)
  · have := h8.size
    exact ⟨by omega, fun hg => absurd (h7.g7 b hg).2.1 (by omega), fun hg => absurd (h7.g8 b hg).2.1 (by omega), fun hg => absurd (h7.p b hg) (by omega)⟩
theorem idx3 {S : Nt} (hk : S.k = 3) {f t : Int} {j : Nat} (h : S.idx f t = some j) : j = 1 ↔ f = 0 ∧ t = 1 := by
  unfold Nt.idx at h
  rw [hk] at h
  split at h
  · cases h
    omega
  · cases h
theorem idx3_none {S : Nt} (hk : S.k = 3) {f t : Int} (h : S.idx f t = none) : ¬ (f = 0 ∧ t = 1) := by
  rintro ⟨rfl, rfl⟩
  unfold Nt.idx at h
  rw [hk] at h
  simp at h
theorem idx3_01 {S : Nt} (hk : S.k = 3) : S.idx 0 1 = some 1 := by
  unfold Nt.idx
  rw [hk]
  rfl

theorem os_send (hT : Tabs w0) (h : OS w0 P p kk v7 v8 sent taken l w) (f t : Int) {m : Msg} {s : Sls} (hs : SlAt w0.heap.size w0 s m) (hsm : Small m) :
    Calls Tryd.prog 14 #[.pointer (some ⟨p, 0, none⟩), .int .i64 f, .int .i64 t, .agg (encG m s).toArray] w fun e w' => ∃ (c : Int) (l' : List Msg), e = .returned (.int .i64 c) ∧ OS w0 P p kk v7 v8 sent taken l' w' ∧ (∀ b, P b → w'.heap[b]? = w.heap[b]?) ∧
      ((f = 0 ∧ t = 1 ∧ c = 0) → l' = l ++ [m] ∧ l.length < kk) ∧ (¬ (f = 0 ∧ t = 1 ∧ c = 0) → l' = l) := by
  have hos := h
  obtain ⟨⟨q, O, S, C, G7, G8, h1, h2, h3, ⟨sn, tk, h4⟩, h5, h6, h7⟩, h8⟩ := h
  have quiet : ∀ (c : Int), ¬ (f = 0 ∧ t = 1 ∧ c = 0) → ∀ (e : Ending) (w' : World), (e = .returned (.int .i64 c) ∧ Ge w w') → ∃ (c : Int) (l' : List Msg), e = .returned (.int .i64 c) ∧ OS w0 P p kk v7 v8 sent taken l' w' ∧ (∀ b, P b → w'.heap[b]? = w.heap[b]?) ∧
      ((f = 0 ∧ t = 1 ∧ c = 0) → l' = l ++ [m] ∧ l.length < kk) ∧ (¬ (f = 0 ∧ t = 1 ∧ c = 0) → l' = l) :=
    fun c hc e w' ⟨he, g⟩ => ⟨c, l, he, hos.next g, fun b hb => g.block b (h7.p b hb), fun h => absurd h hc, fun _ => rfl⟩
  rcases hi : S.idx f t with _ | j
  · exact (send_none h1 hi m s).mono (quiet 1 (by omega))
  rcases chk_two m with hc | hc
  rotate_left
  · exact (send_bad (hT.ge h8) h1 hi (hs.ge h8) hsm hc).mono (quiet 130 (by omega))
  obtain ⟨r, hr⟩ : ∃ r, S.rows[j]? = some r := ⟨_, List.getElem?_eq_getElem (by rw [h1.ok.len]; exact Nt.idx_lt hi)⟩
  by_cases hf : r.l.length < S.room
  rotate_left
  · exact (send_full (hT.ge h8) h1 hi hr (hs.ge h8) hsm hc (by omega)).mono (quiet 7 (by omega))
  refine (send_ok (hT.ge h8) h1 hi hr (hs.ge h8) hsm hc hf).mono ?_
  rintro e w' ⟨rfl, O', C', k1, k2, k3⟩
  by_cases hj : j = 1
  · subst hj
    obtain rfl : r = ⟨l, sn, tk⟩ := by rw [h4] at hr; exact (Option.some.inj hr).symm
    obtain ⟨a1, a2⟩ := os_after (l' := l ++ [m]) h5 h6 h7 h8 k1 k2 k3 h2 h3 ⟨_, _, List.getElem?_set_self (by rw [h1.ok.len]; exact Nt.idx_lt hi)⟩
    refine ⟨0, l ++ [m], rfl, a1, a2, fun _ => ⟨rfl, by rw [← h3]; exact hf⟩, fun hn => absurd ?_ hn⟩
    have := (idx3 h2 hi).1 rfl
    exact ⟨this.1, this.2, rfl⟩
  · obtain ⟨a1, a2⟩ := os_after (l' := l) h5 h6 h7 h8 k1 k2 k3 h2 h3 ⟨sn, tk, by show (S.rows.set j _)[1]? = _; rw [List.getElem?_set_ne hj]; exact h4⟩
    exact ⟨0, l, rfl, a1, a2, fun hh => absurd ((idx3 h2 hi).2 ⟨hh.1, hh.2.1⟩) hj, fun _ => rfl⟩

theorem mzero_at (B : Nat) (w : World) : SlAt B w nilS mzero := nilS_at B w mzero
theorem os_take (h : OS w0 P p kk v7 v8 sent taken l w) (f t : Int) :
    Calls Tryd.prog 13 #[.pointer (some ⟨p, 0, none⟩), .int .i64 f, .int .i64 t] w fun e w' => ∃ (c : Int) (m : Msg) (s' : Sls) (l' : List Msg), e = .returned (.tuple #[.agg (encG m s').toArray, .int .i64 c]) ∧ SlAt w0.heap.size w' s' m ∧ OS w0 P p kk v7 v8 sent taken l' w' ∧ (∀ b, P b → w'.heap[b]? = w.heap[b]?) ∧
      ((f = 0 ∧ t = 1 ∧ c = 0) → l = m :: l') ∧ (¬ (f = 0 ∧ t = 1 ∧ c = 0) → l' = l) := by
  have hos := h
  obtain ⟨⟨q, O, S, C, G7, G8, h1, h2, h3, ⟨sn, tk, h4⟩, h5, h6, h7⟩, h8⟩ := h
  have quiet : ∀ (c : Int), ¬ (f = 0 ∧ t = 1 ∧ c = 0) → ∀ (e : Ending) (w' : World), (e = .returned (.tuple #[.agg (encG mzero nilS).toArray, .int .i64 c]) ∧ Ge w w') → ∃ (c : Int) (m : Msg) (s' : Sls) (l' : List Msg), e = .returned (.tuple #[.agg (encG m s').toArray, .int .i64 c]) ∧ SlAt w0.heap.size w' s' m ∧ OS w0 P p kk v7 v8 sent taken l' w' ∧ (∀ b, P b → w'.heap[b]? = w.heap[b]?) ∧
      ((f = 0 ∧ t = 1 ∧ c = 0) → l = m :: l') ∧ (¬ (f = 0 ∧ t = 1 ∧ c = 0) → l' = l) :=
    fun c hc e w' ⟨he, g⟩ => ⟨c, mzero, nilS, l, he, mzero_at _ _, hos.next g, fun b hb => g.block b (h7.p b hb), fun h => absurd h hc, fun _ => rfl⟩
  rcases hi : S.idx f t with _ | j
  · exact (take_none h1 hi).mono (quiet 1 (by omega))
  obtain ⟨r, hr⟩ : ∃ r, S.rows[j]? = some r := ⟨_, List.getElem?_eq_getElem (by rw [h1.ok.len]; exact Nt.idx_lt hi)⟩
  rcases hl : r.l with _ | ⟨m, l1⟩
  · exact (take_empty h1 hi hr hl).mono (quiet 4 (by omega))
  refine (take_ok h1 hi hr hl).mono ?_
  rintro e w' ⟨⟨s', rfl, hsl⟩, ⟨C', k1⟩, k2⟩
  by_cases hj : j = 1
  · subst hj
    obtain rfl : r = ⟨l, sn, tk⟩ := by rw [h4] at hr; exact (Option.some.inj hr).symm
    obtain ⟨a1, a2⟩ := os_after (l' := l1) h5 h6 h7 h8 k1 k2 (fun _ _ h => h) h2 h3 ⟨_, _, List.getElem?_set_self (by rw [h1.ok.len]; exact Nt.idx_lt hi)⟩
    refine ⟨0, m, s', l1, rfl, hsl, a1, a2, fun _ => hl, fun hn => absurd ?_ hn⟩
    have := (idx3 h2 hi).1 rfl
    exact ⟨this.1, this.2, rfl⟩
  · obtain ⟨a1, a2⟩ := os_after (l' := l) h5 h6 h7 h8 k1 k2 (fun _ _ h => h) h2 h3 ⟨sn, tk, by show (S.rows.set j _)[1]? = _; rw [List.getElem?_set_ne hj]; exact h4⟩
    exact ⟨0, m, s', l, rfl, hsl, a1, a2, fun hh => absurd ((idx3 h2 hi).2 ⟨hh.1, hh.2.1⟩) hj, fun _ => rfl⟩
theorem os_take1 {m : Msg} (h : OS w0 P p kk v7 v8 sent taken (m :: l) w) :
    Calls Tryd.prog 13 #[.pointer (some ⟨p, 0, none⟩), .int .i64 0, .int .i64 1] w fun e w' => ∃ (s' : Sls), e = .returned (.tuple #[.agg (encG m s').toArray, .int .i64 0]) ∧ SlAt w0.heap.size w' s' m ∧ OS w0 P p kk v7 v8 sent taken l w' := by
  obtain ⟨⟨q, O, S, C, G7, G8, h1, h2, h3, ⟨sn, tk, h4⟩, h5, h6, h7⟩, h8⟩ := h
  refine (take_ok h1 (idx3_01 h2) h4 rfl).mono ?_
  rintro e w' ⟨⟨s', rfl, hsl⟩, ⟨C', k1⟩, k2⟩
  obtain ⟨a1, a2⟩ := os_after (l' := l) h5 h6 h7 h8 k1 k2 (fun _ _ h => h) h2 h3 ⟨_, _, List.getElem?_set_self (by rw [h1.ok.len]; exact Nt.idx_lt (idx3_01 h2))⟩
  exact ⟨s', rfl, hsl, a1⟩
theorem os_take0 (h : OS w0 P p kk v7 v8 sent taken [] w) :
    Calls Tryd.prog 13 #[.pointer (some ⟨p, 0, none⟩), .int .i64 0, .int .i64 1] w fun e w' => e = .returned (.tuple #[.agg (encG mzero nilS).toArray, .int .i64 4]) ∧ Ge w w' := by
  obtain ⟨⟨q, O, S, C, G7, G8, h1, h2, h3, ⟨sn, tk, h4⟩, h5, h6, h7⟩, h8⟩ := h
  exact take_empty h1 (idx3_01 h2) h4 rfl
theorem os_room (h : OS w0 P p kk v7 v8 sent taken l w) :
    Calls Tryd.prog 22 #[.pointer (some ⟨p, 0, none⟩), .int .i64 0, .int .i64 1] w fun e w' => e = .returned (.int .i64 ((kk : Int) - (l.length : Int))) ∧ Ge w w' := by
  obtain ⟨⟨q, O, S, C, G7, G8, h1, h2, h3, ⟨sn, tk, h4⟩, h5, h6, h7⟩, h8⟩ := h
  have := room_some h1 (idx3_01 h2) h4
  rwa [h3] at this
theorem os_new (kk : Nat) (r1 : 1 ≤ kk) (r2 : kk ≤ 64) (hg : Ge w0 w) :
    Calls Tryd.prog 9 #[.int .i64 3, .int .i64 (kk : Int)] w fun e w' => ∃ p, e = .returned (.tuple #[.pointer (some ⟨p, 0, none⟩), .int .i64 0]) ∧ OS w0 (fun _ => False) p kk (.slice none 0 0) (.slice none 0 0) [] [] [] w' := by
  refine (show Calls Tryd.prog 9 #[.int .i64 3, .int .i64 (kk : Int)] w _ from new_ok (B := w0.heap.size) hg.size (k := 3) (room := kk) (by omega) (by omega) r1 r2).mono ?_
  rintro e w' ⟨p, q, C, rfl, h1, h2, h3, h4⟩
  have := hg.size
  refine ⟨p, rfl, ⟨q, _, _, C, fun _ => False, fun _ => False, h1, rfl, rfl, ⟨0, 0, rfl⟩, RowAt.nil _ _ _, RowAt.nil _ _ _, ⟨fun b hb => ⟨?_, fun h => h, fun h => h, fun h => h⟩, fun b hb => hb.elim, fun b hb => hb.elim, fun b hb => hb.elim⟩⟩, hg.trans h2⟩
  rcases hb with rfl | rfl | hb
  · omega
  · omega
  · exact absurd rfl hb

/-- an append, behind which all else is as it was -/
theorem ge_app {G : Nat → Prop} (h8 : Ge w0 w) (hG : ∀ b, G b → w0.heap.size ≤ b) (hb : ∀ b, b < w.heap.size → ¬ G b → w'.heap[b]? = w.heap[b]?) (hbl : Below 0 w w') : Ge w0 w' := by
  have hs := h8.size
  exact Below.trans h8 ⟨hbl.os, hbl.tape, hbl.output, hbl.size, fun k hk => hb k (by omega) (fun hg => absurd (hG k hg) (by omega))⟩
theorem os_app7 (h : OS w0 P p kk v7 v8 sent taken l w) (hl : sent.length ≤ 1000000) (b1 : Nat) (m : Msg) (s : Sls) (hb1 : Bx w b1 45 (encG m s).toArray) (hs : SlAt w0.heap.size w s m) (ty : TypeId) :
    ∃ v' w', (Builtin.append_ #[72, 72] ty #[v7, .slice (some ⟨b1, 0, none⟩) 1 1]).run Tryd.prog w = .ok v' w' ∧ OS w0 P p kk v' v8 (sent ++ [m]) taken l w' := by
  obtain ⟨⟨q, O, S, C, G7, G8, h1, h2, h3, h4, h5, h6, h7⟩, h8⟩ := h
  have h0 := h8.size
  obtain ⟨v', w', hr, k1, k2, k3, k4, k5⟩ := app_row h5 (fun g hg => ⟨(h7.g7 g hg).1, (h7.g7 g hg).2.1⟩) hl b1 m s hb1 hs ty
  have hsz := k3.size
  refine ⟨v', w', hr, ⟨q, O, S, C, _, G8, h1.keep k3 (fun b hb => k2 b (h1.lt hb) (h7.f b hb).2.1), h2, h3, h4, k1, h6.keep k3 (fun b hb => k2 b (h7.g8 b hb).2.1 (fun hg => (h7.g7 b hg).2.2.1 hb)) (fun _ h => h), ⟨fun b hb => ?_, fun b hb => ?_, fun b hb => ⟨(h7.g8 b hb).1, Nat.lt_of_lt_of_le (h7.g8 b hb).2.1 hsz, (h7.g8 b hb).2.2⟩, fun b hb => Nat.lt_of_lt_of_le (h7.p b hb) hsz⟩⟩, ge_app h8 (fun b hb => (h7.g7 b hb).1) k2 k4⟩
  · have := h1.lt hb
    exact ⟨(h7.f b hb).1, fun hg => hg.elim (h7.f b hb).2.1 (fun hg => by omega), (h7.f b hb).2.2⟩
  · rcases hb with hb | hb
    · exact ⟨(h7.g7 b hb).1, Nat.lt_of_lt_of_le (h7.g7 b hb).2.1 hsz, (h7.g7 b hb).2.2⟩
    · exact ⟨by omega, hb.2, fun hg => absurd (h7.g8 b hg).2.1 (by omega), fun hg => absurd (h7.p b hg) (by omega)⟩
theorem os_app8 (h : OS w0 P p kk v7 v8 sent taken l w) (hl : taken.length ≤ 1000000) (b1 : Nat) (m : Msg) (s : Sls) (hb1 : Bx w b1 45 (encG m s).toArray) (hs : SlAt w0.heap.size w s m) (ty : TypeId) :
    ∃ v' w', (Builtin.append_ #[72, 72] ty #[v8, .slice (some ⟨b1, 0, none⟩) 1 1]).run Tryd.prog w = .ok v' w' ∧ OS w0 P p kk v7 v' sent (taken ++ [m]) l w' := by
  obtain ⟨⟨q, O, S, C, G7, G8, h1, h2, h3, h4, h5, h6, h7⟩, h8⟩ := h
  have h0 := h8.size
  obtain ⟨v', w', hr, k1, k2, k3, k4, k5⟩ := app_row h6 (fun g hg => ⟨(h7.g8 g hg).1, (h7.g8 g hg).2.1⟩) hl b1 m s hb1 hs ty
  have hsz := k3.size
  refine ⟨v', w', hr, ⟨q, O, S, C, G7, _, h1.keep k3 (fun b hb => k2 b (h1.lt hb) (h7.f b hb).2.2.1), h2, h3, h4, h5.keep k3 (fun b hb => k2 b (h7.g7 b hb).2.1 (h7.g7 b hb).2.2.1) (fun _ h => h), k1, ⟨fun b hb => ?_, fun b hb => ?_, fun b hb => ?_, fun b hb => Nat.lt_of_lt_of_le (h7.p b hb) hsz⟩⟩, ge_app h8 (fun b hb => (h7.g8 b hb).1) k2 k4⟩
  · have := h1.lt hb
    exact ⟨(h7.f b hb).1, (h7.f b hb).2.1, fun hg => hg.elim (h7.f b hb).2.2.1 (fun hg => by omega), (h7.f b hb).2.2.2⟩
  · have := (h7.g7 b hb).2.1
    exact ⟨(h7.g7 b hb).1, by omega, fun hg => hg.elim (h7.g7 b hb).2.2.1 (fun hg => by omega), (h7.g7 b hb).2.2.2⟩
  · rcases hb with hb | hb
    · exact ⟨(h7.g8 b hb).1, Nat.lt_of_lt_of_le (h7.g8 b hb).2.1 hsz, (h7.g8 b hb).2.2⟩
    · exact ⟨by omega, hb.2, fun hg => absurd (h7.p b hg) (by omega)⟩
theorem row_at {B : Nat} {A : Option Addr} {n c : Nat} {l : List Msg} {G : Nat → Prop} (h : RowAt B w (.slice A n c) l G) (hG : ∀ b, G b → b < w.heap.size) {j : Nat} {m : Msg} (hj : l[j]? = some m) :
    ∃ g off s, A = some ⟨g, off, none⟩ ∧ g < w.heap.size ∧ SlAt B w s m ∧ ∀ w', Ge w w' → w'.rangeAt g (off + j * 19) (encG m s) := by
  obtain ⟨A', c', e, hle, h0, hc⟩ := h
  cases e
  have hjl := (List.getElem?_eq_some_iff.1 hj).1
  obtain ⟨g, off, cs, rfl, hg, hx, hs, hm⟩ := hc (by omega)
  obtain ⟨s, h1, h2⟩ := hm j m hj
  exact ⟨g, off, s, rfl, hG g hg, h1, fun w' gw i u hu => ((hx.ge gw).cell _).trans (h2 i u hu)⟩
theorem OS.at7 {A : Option Addr} {n c : Nat} (h : OS w0 P p kk (.slice A n c) v8 sent taken l w) {j : Nat} {m : Msg} (hj : sent[j]? = some m) :
    ∃ g off s, A = some ⟨g, off, none⟩ ∧ g < w.heap.size ∧ SlAt w0.heap.size w s m ∧ ∀ w', Ge w w' → w'.rangeAt g (off + j * 19) (encG m s) := by
  obtain ⟨⟨q, O, S, C, G7, G8, h1, h2, h3, h4, h5, h6, h7⟩, h8⟩ := h
  exact row_at h5 (fun b hb => (h7.g7 b hb).2.1) hj
theorem OS.at8 {A : Option Addr} {n c : Nat} (h : OS w0 P p kk v7 (.slice A n c) sent taken l w) {j : Nat} {m : Msg} (hj : taken[j]? = some m) :
    ∃ g off s, A = some ⟨g, off, none⟩ ∧ g < w.heap.size ∧ SlAt w0.heap.size w s m ∧ ∀ w', Ge w w' → w'.rangeAt g (off + j * 19) (encG m s) := by
  obtain ⟨⟨q, O, S, C, G7, G8, h1, h2, h3, h4, h5, h6, h7⟩, h8⟩ := h
  exact row_at h6 (fun b hb => (h7.g8 b hb).2.1) hj
end Go.Proofs.YtmhibpmgnicolaaDoor
