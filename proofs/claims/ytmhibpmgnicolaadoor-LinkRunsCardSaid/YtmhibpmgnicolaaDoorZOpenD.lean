/-
  What is done to links, as it came in.
  A net and two rows beside it: what each call, and each append, leaves of them.
  Steps of LinkOrder's walk: one message in a row, an append, a whole 'Do', a whole load in a drawn region.
-/
import Derived.Test.YtmhibpmgnicolaaDoorOpenM
import Derived.Test.YtmhibpmgnicolaaDoorOpen
import Derived.Test.YtmhibpmgnicolaaDoorZTake
import Derived.Test.YtmhibpmgnicolaaDoorZChain
import Derived.Test.YtmhibpmgnicolaaDoorCheckM
namespace Go.Proofs.YtmhibpmgnicolaaDoor
open Go.ChangeShapes Go.WideShapes Go.ChangeAt Go.RowKit Go.Deep

structure Dor where
  kind : Int
  from' : Int
  to' : Int
  m : Msg
  s : Sls
def encD (d : Dor) : List Value := .int .i64 d.kind :: .int .i64 d.from' :: .int .i64 d.to' :: encG d.m d.s
def eD : Elem Dor where
  S := 22
  T := 47
  k := 22
  bytes := 272
  enc := encD
  z := .agg #[.int .i64 0, .int .i64 0, .int .i64 0, .int .i64 0, .int .i64 0, .int .i64 0, .int .i64 0, .int .i64 0, .int .i64 0, .int .i64 0, .int .i64 0, .int .i64 0, .int .i64 0, .slice none 0 0, .slice none 0 0, .slice none 0 0, .slice none 0 0, .slice none 0 0, .int .i64 0, .slice none 0 0, .bool false, .int .i64 0]
  hS := Tryd.underlying22
  info := by kernel_rfl
  hzs := rfl
  hk := by decide
  hb := by decide
  hlen := fun _ => rfl

variable {H : Type} {enc : TypeId × Value → H} {W : World}
set_option maxRecDepth 100000 in
theorem decD (cs : List Value) (n : Nat) (y : DataW H × List MemPlace) (h : DataW.trod enc Tryd.prog W 0 (fun _ => true) true n eD.T cs = some y) (hl : cs.length = eD.k) : ∃ a : Dor, cs = eD.enc a ∧ SlAt W.heap.size W a.s a.m := by
  obtain ⟨z0, g0⟩ := leaf_int (n := 6) (i := 0) (k := .i64) (by kernel_rfl) h
  obtain ⟨z1, g1⟩ := leaf_int (n := 6) (i := 1) (k := .i64) (by kernel_rfl) h
  obtain ⟨z2, g2⟩ := leaf_int (n := 6) (i := 2) (k := .i64) (by kernel_rfl) h
  obtain ⟨xs, m', _, _, hll, hxl, hfs⟩ := DataW.trod_struct Tryd.underlying47 h
  have h3 : DataW.trod enc Tryd.prog W 0 (fun _ => true) true m' 45 ((cs.drop 3).take (Tryd.prog.cellsOf 45)) = xs[3]? := hfs 3 _ rfl
  have hx : 3 < xs.length := by rw [hxl]; decide
  clear hxl hfs
  obtain ⟨m, s, e, hs⟩ := cells_msg (h3.trans (List.getElem?_eq_getElem hx)) (by
    rw [List.length_take, List.length_drop, hl]
    have : Tryd.prog.cellsOf 45 = 19 := by kernel_rfl
    show min (Tryd.prog.cellsOf 45) (22 - 3) = 19
    rw [this]
    rfl)
  refine ⟨⟨z0, z1, z2, m, s⟩, ?_, hs⟩
  have h19 : Tryd.prog.cellsOf 45 = 19 := by kernel_rfl
  match cs, hl with
  | u0 :: u1 :: u2 :: rest, hl =>
    simp at g0 g1 g2
    subst g0 g1 g2
    have hr : rest.length = 19 := by
      have : rest.length + 3 = 22 := hl
      omega
    have e' : (rest).take (Tryd.prog.cellsOf 45) = encG m s := e
    rw [h19, List.take_of_length_le (by omega)] at e'
    show _ = encD _
    rw [e']
    rfl

set_option maxRecDepth 100000 in
theorem do_open {base : Nat} {v : Value} {d : DataW H} {p : List MemPlace} (hv : Value.okWide Tryd.prog W .any base 47 v) (h : DataW.Trod enc Tryd.prog W 0 (fun _ => true) true 47 v d p) : ∃ a : Dor, v = .agg (encD a).toArray ∧ SlAt W.heap.size W a.s a.m := by
  obtain ⟨cs, rfl⟩ : ∃ cs, v = .agg cs := by
    unfold Value.okWide at hv
    rw [Tryd.underlying47] at hv
    obtain ⟨cs, e, _⟩ := hv
    exact ⟨cs, e⟩
  obtain ⟨fuel, hf⟩ := h
  obtain ⟨xs, n, _, _, hl, _⟩ := DataW.trod_struct Tryd.underlying47 hf
  rw [show Tryd.prog.cellsOf 47 = 22 by kernel_rfl] at hl
  obtain ⟨a, e, hs⟩ := decD _ _ _ hf hl
  have e' : (Value.cells (.agg cs)).toList = encD a := e
  refine ⟨a, ?_, hs⟩
  rw [← e']
  simp [Value.cells]
theorem dos_open {v : Value} {d : DataW H} {p : List MemPlace} (h : DataW.Trod enc Tryd.prog W 0 (fun _ => true) true 22 v d p) (hv : ∃ A n c, v = .slice A n c) : ∃ xs, LAt eD W.heap.size W v xs ∧ ∀ a ∈ xs, SlAt W.heap.size W a.s a.m := by
  obtain ⟨A, n, c, rfl⟩ := hv
  obtain ⟨fuel, hf⟩ := h
  exact list_open eD (by kernel_rfl) _ (show DataW.trod enc Tryd.prog W 0 (fun _ => true) true fuel 22 [Value.slice A n c] = some (d, p) by simpa [Value.cells] using hf) decD
set_option maxRecDepth 100000 in
theorem u8_open {W : World} {base : Nat} {v : Value} (h : Value.okWide Tryd.prog W .any base 5 v) : ∃ n : Nat, v = .int .u8 (n : Int) ∧ n ≤ 255 := by
  unfold Value.okWide at h
  rw [Tryd.underlying5] at h
  obtain ⟨n, rfl, hn⟩ := okCell_int Tryd.underlying5 h
  simp [IntKind.has, IntKind.min, IntKind.max, IntKind.signed, IntKind.bits] at hn
  obtain ⟨k, rfl⟩ : ∃ k : Nat, n = (k : Int) := ⟨n.toNat, by omega⟩
  exact ⟨k, rfl, by omega⟩
set_option maxRecDepth 100000 in
theorem script_open {base : Nat} {v : Value} {d : DataW H} {p : List MemPlace} (hv : Value.okWide Tryd.prog W .any base 22 v) (h : DataW.Trod enc Tryd.prog W 0 (fun _ => true) true 22 v d p) : ∃ xs, LAt eD W.heap.size W v xs ∧ ∀ a ∈ xs, SlAt W.heap.size W a.s a.m :=
  dos_open h (okWide_slice Tryd.underlying22 hv)
end Go.Proofs.YtmhibpmgnicolaaDoor

namespace Go.Proofs.YtmhibpmgnicolaaDoor
open Go.RowKit

structure Apart (n0 n : Nat) (P F G7 G8 : Nat → Prop) : Prop where
  f : ∀ b, F b → n0 ≤ b ∧ ¬ G7 b ∧ ¬ G8 b ∧ ¬ P b
  g7 : ∀ b, G7 b → n0 ≤ b ∧ b < n ∧ ¬ G8 b ∧ ¬ P b
  g8 : ∀ b, G8 b → n0 ≤ b ∧ b < n ∧ ¬ P b
  p : ∀ b, P b → b < n
structure OS (w0 : World) (P : Nat → Prop) (p kk : Nat) (v7 v8 : Value) (sent taken l : List Msg) (w : World) : Prop where
  out : ∃ q O S C G7 G8, NetC w0.heap.size w p q O S C ∧ S.k = 3 ∧ S.room = kk ∧ (∃ sn tk, S.rows[1]? = some ⟨l, sn, tk⟩) ∧
    RowAt w0.heap.size w v7 sent G7 ∧ RowAt w0.heap.size w v8 taken G8 ∧ Apart w0.heap.size w.heap.size P (FpC p q O) G7 G8
  ge : Ge w0 w
variable {w0 : World} {P : Nat → Prop} {p kk : Nat} {v7 v8 : Value} {sent taken l : List Msg} {w w' : World}
theorem Apart.size {n0 n n' : Nat} {P F G7 G8 : Nat → Prop} (h : Apart n0 n P F G7 G8) (hn : n ≤ n') : Apart n0 n' P F G7 G8 :=
  ⟨h.f, fun b hb => by obtain ⟨a, b, c⟩ := h.g7 b hb; exact ⟨a, by omega, c⟩, fun b hb => by obtain ⟨a, b, c⟩ := h.g8 b hb; exact ⟨a, by omega, c⟩, fun b hb => by have := h.p b hb; omega⟩
theorem RowAt.ge {B : Nat} {w w' : World} {v : Value} {l : List Msg} {G : Nat → Prop} (h : RowAt B w v l G) (g : Ge w w') (hG : ∀ b, G b → b < w.heap.size) : RowAt B w' v l G :=
  h.keep (g.kp B) (fun b hb => g.block b (hG b hb)) (fun _ h => h)
theorem OS.next (h : OS w0 P p kk v7 v8 sent taken l w) (g : Ge w w') : OS w0 P p kk v7 v8 sent taken l w' := by
  obtain ⟨⟨q, O, S, C, G7, G8, h1, h2, h3, h4, h5, h6, h7⟩, h8⟩ := h
  exact ⟨⟨q, O, S, C, G7, G8, h1.ge g, h2, h3, h4, h5.ge g (fun b hb => (h7.g7 b hb).2.1), h6.ge g (fun b hb => (h7.g8 b hb).2.1), h7.size g.size⟩, h8.trans g⟩
theorem OS.free (h : OS w0 P p kk v7 v8 sent taken l w) : OS w0 (fun _ => False) p kk v7 v8 sent taken l w := by
  obtain ⟨⟨q, O, S, C, G7, G8, h1, h2, h3, h4, h5, h6, h7⟩, h8⟩ := h
  exact ⟨⟨q, O, S, C, G7, G8, h1, h2, h3, h4, h5, h6, ⟨fun b hb => ⟨(h7.f b hb).1, (h7.f b hb).2.1, (h7.f b hb).2.2.1, fun h => h⟩, fun b hb => ⟨(h7.g7 b hb).1, (h7.g7 b hb).2.1, (h7.g7 b hb).2.2.1, fun h => h⟩, fun b hb => ⟨(h7.g8 b hb).1, (h7.g8 b hb).2.1, fun h => h⟩, fun b hb => hb.elim⟩⟩, h8⟩
/-- a block that was made just now is none of theirs -/
theorem OS.fresh (h : OS w0 P p kk v7 v8 sent taken l w) (g : Ge w w') (hlt : w.heap.size < w'.heap.size) : OS w0 (fun b => b = w.heap.size) p kk v7 v8 sent taken l w' := by
  obtain ⟨⟨q, O, S, C, G7, G8, h1, h2, h3, h4, h5, h6, h7⟩, h8⟩ := h
  refine ⟨⟨q, O, S, C, G7, G8, h1.ge g, h2, h3, h4, h5.ge g (fun b hb => (h7.g7 b hb).2.1), h6.ge g (fun b hb => (h7.g8 b hb).2.1), ⟨fun b hb => ⟨(h7.f b hb).1, (h7.f b hb).2.1, (h7.f b hb).2.2.1, fun e => ?_⟩, fun b hb => ⟨(h7.g7 b hb).1, ?_, (h7.g7 b hb).2.2.1, fun e => ?_⟩, fun b hb => ⟨(h7.g8 b hb).1, ?_, fun e => ?_⟩, fun b hb => by omega⟩⟩, h8.trans g⟩
  · have := h1.lt hb
    omega
  · have := (h7.g7 b hb).2.1
    omega
  · have := (h7.g7 b hb).2.1
    omega
  · have := (h7.g8 b hb).2.1
    omega
  · have := (h7.g8 b hb).2.1
    omega
theorem OS.form7 (h : OS w0 P p kk v7 v8 sent taken l w) : ∃ A c, v7 = .slice A sent.length c ∧ sent.length ≤ c ∧ (A = none → c = 0) := by
  obtain ⟨⟨q, O, S, C, G7, G8, h1, h2, h3, h4, ⟨A, c, e, hle, h0, hc⟩, h6, h7⟩, h8⟩ := h
  refine ⟨A, c, e, hle, fun hA => ?_⟩
  rcases Nat.eq_zero_or_pos c with h | h
  · exact h
  · obtain ⟨g, off, cs, e', _⟩ := hc h
    rw [hA] at e'
    cases e'
theorem OS.form8 (h : OS w0 P p kk v7 v8 sent taken l w) : ∃ A c, v8 = .slice A taken.length c ∧ taken.length ≤ c := by
  obtain ⟨⟨q, O, S, C, G7, G8, h1, h2, h3, h4, h5, ⟨A, c, e, hle, h0, hc⟩, h7⟩, h8⟩ := h
  exact ⟨A, c, e, hle⟩

/-- behind a call that turned the net alone -/
theorem os_after {q : Nat} {O O' : Nat → Option Nat} {C' : Array Value} {S' : Nt} {G7 G8 : Nat → Prop} {l' : List Msg} (h5 : RowAt w0.heap.size w v7 sent G7) (h6 : RowAt w0.heap.size w v8 taken G8) (h7 : Apart w0.heap.size w.heap.size P (FpC p q O) G7 G8) (h8 : Ge w0 w)
    (k1 : NetC w0.heap.size w' p q O' S' C') (k2 : Nx w0.heap.size (FpC p q O) w w') (k3 : ∀ b, b < w.heap.size → FpC p q O' b → FpC p q O b) (e2 : S'.k = 3) (e3 : S'.room = kk) (e4 : ∃ sn tk, S'.rows[1]? = some ⟨l', sn, tk⟩) :
    OS w0 P p kk v7 v8 sent taken l' w' ∧ ∀ b, P b → w'.heap[b]? = w.heap[b]? := by
  have hsz := k2.kp.size
  refine ⟨⟨⟨q, O', S', C', G7, G8, k1, e2, e3, e4, h5.keep k2.kp (fun b hb => k2.block b (h7.g7 b hb).2.1 (fun hf => (h7.f b hf).2.1 hb)) (fun _ h => h), h6.keep k2.kp (fun b hb => k2.block b (h7.g8 b hb).2.1 (fun hf => (h7.f b hf).2.2.1 hb)) (fun _ h => h), ⟨fun b hb => ?_, fun b hb => ⟨(h7.g7 b hb).1, Nat.lt_of_lt_of_le (h7.g7 b hb).2.1 hsz, (h7.g7 b hb).2.2⟩, fun b hb => ⟨(h7.g8 b hb).1, Nat.lt_of_lt_of_le (h7.g8 b hb).2.1 hsz, (h7.g8 b hb).2.2⟩, fun b hb => Nat.lt_of_lt_of_le (h7.p b hb) hsz⟩⟩,
    Below.trans h8 (k2.below (fun b hb => (h7.f b hb).1) h8.size)⟩, fun b hb => k2.block b (h7.p b hb) (fun hf => (h7.f b hf).2.2.2 hb)⟩
  rcases Nat.lt_or_ge b w.heap.size with hl | hl
  · exact h7.f b (k3 b hl hb)
  · have := h8.size
    exact ⟨by omega, fun hg => absurd (h7.g7 b hg).2.1 (by omega), fun hg => absurd (h7.g8 b hg).2.1 (by omega), fun hg => absurd (h7.p b hg) (by omega)⟩
theorem idx3 {S : Nt} (hk : S.k = 3) {f t : Int} {j : Nat} (h : S.idx f t = some j) : j = 1 ↔ f = 0 ∧ t = 1 := by
  unfold Nt.idx at h
  rw [hk] at h
  split at h
  · cases h
    omega
  · cases h
theorem idx3_none {S : Nt} (hk : S.k = 3) {f t : Int} (h : S.idx f t = none) : ¬ (f = 0 ∧ t = 1) := by
  rintro ⟨rfl, rfl⟩
  unfold Nt.idx at h
  rw [hk] at h
  simp at h
theorem idx3_01 {S : Nt} (hk : S.k = 3) : S.idx 0 1 = some 1 := by
  unfold Nt.idx
  rw [hk]
  rfl

theorem os_send (hT : Tabs w0) (h : OS w0 P p kk v7 v8 sent taken l w) (f t : Int) {m : Msg} {s : Sls} (hs : SlAt w0.heap.size w0 s m) (hsm : Small m) :
    Calls Tryd.prog 14 #[.pointer (some ⟨p, 0, none⟩), .int .i64 f, .int .i64 t, .agg (encG m s).toArray] w fun e w' => ∃ (c : Int) (l' : List Msg), e = .returned (.int .i64 c) ∧ OS w0 P p kk v7 v8 sent taken l' w' ∧ (∀ b, P b → w'.heap[b]? = w.heap[b]?) ∧
      ((f = 0 ∧ t = 1 ∧ c = 0) → l' = l ++ [m] ∧ l.length < kk) ∧ (¬ (f = 0 ∧ t = 1 ∧ c = 0) → l' = l) := by
  have hos := h
  obtain ⟨⟨q, O, S, C, G7, G8, h1, h2, h3, ⟨sn, tk, h4⟩, h5, h6, h7⟩, h8⟩ := h
  have quiet : ∀ (c : Int), ¬ (f = 0 ∧ t = 1 ∧ c = 0) → ∀ (e : Ending) (w' : World), (e = .returned (.int .i64 c) ∧ Ge w w') → ∃ (c : Int) (l' : List Msg), e = .returned (.int .i64 c) ∧ OS w0 P p kk v7 v8 sent taken l' w' ∧ (∀ b, P b → w'.heap[b]? = w.heap[b]?) ∧
      ((f = 0 ∧ t = 1 ∧ c = 0) → l' = l ++ [m] ∧ l.length < kk) ∧ (¬ (f = 0 ∧ t = 1 ∧ c = 0) → l' = l) :=
    fun c hc e w' ⟨he, g⟩ => ⟨c, l, he, hos.next g, fun b hb => g.block b (h7.p b hb), fun h => absurd h hc, fun _ => rfl⟩
  rcases hi : S.idx f t with _ | j
  · exact (send_none h1 hi m s).mono (quiet 1 (by omega))
  rcases chk_two m with hc | hc
  rotate_left
  · exact (send_bad (hT.ge h8) h1 hi (hs.ge h8) hsm hc).mono (quiet 130 (by omega))
  obtain ⟨r, hr⟩ : ∃ r, S.rows[j]? = some r := ⟨_, List.getElem?_eq_getElem (by rw [h1.ok.len]; exact Nt.idx_lt hi)⟩
  by_cases hf : r.l.length < S.room
  rotate_left
  · exact (send_full (hT.ge h8) h1 hi hr (hs.ge h8) hsm hc (by omega)).mono (quiet 7 (by omega))
  refine (send_ok (hT.ge h8) h1 hi hr (hs.ge h8) hsm hc hf).mono ?_
  rintro e w' ⟨rfl, O', C', k1, k2, k3⟩
  by_cases hj : j = 1
  · subst hj
    obtain rfl : r = ⟨l, sn, tk⟩ := by rw [h4] at hr; exact (Option.some.inj hr).symm
    obtain ⟨a1, a2⟩ := os_after (l' := l ++ [m]) h5 h6 h7 h8 k1 k2 k3 h2 h3 ⟨_, _, List.getElem?_set_self (by rw [h1.ok.len]; exact Nt.idx_lt hi)⟩
    refine ⟨0, l ++ [m], rfl, a1, a2, fun _ => ⟨rfl, by rw [← h3]; exact hf⟩, fun hn => absurd ?_ hn⟩
    have := (idx3 h2 hi).1 rfl
    exact ⟨this.1, this.2, rfl⟩
  · obtain ⟨a1, a2⟩ := os_after (l' := l) h5 h6 h7 h8 k1 k2 k3 h2 h3 ⟨sn, tk, by show (S.rows.set j _)[1]? = _; rw [List.getElem?_set_ne hj]; exact h4⟩
    exact ⟨0, l, rfl, a1, a2, fun hh => absurd ((idx3 h2 hi).2 ⟨hh.1, hh.2.1⟩) hj, fun _ => rfl⟩

theorem mzero_at (B : Nat) (w : World) : SlAt B w nilS mzero := nilS_at B w mzero
theorem os_take (h : OS w0 P p kk v7 v8 sent taken l w) (f t : Int) :
    Calls Tryd.prog 13 #[.pointer (some ⟨p, 0, none⟩), .int .i64 f, .int .i64 t] w fun e w' => ∃ (c : Int) (m : Msg) (s' : Sls) (l' : List Msg), e = .returned (.tuple #[.agg (encG m s').toArray, .int .i64 c]) ∧ SlAt w0.heap.size w' s' m ∧ OS w0 P p kk v7 v8 sent taken l' w' ∧ (∀ b, P b → w'.heap[b]? = w.heap[b]?) ∧
      ((f = 0 ∧ t = 1 ∧ c = 0) → l = m :: l') ∧ (¬ (f = 0 ∧ t = 1 ∧ c = 0) → l' = l) := by
  have hos := h
  obtain ⟨⟨q, O, S, C, G7, G8, h1, h2, h3, ⟨sn, tk, h4⟩, h5, h6, h7⟩, h8⟩ := h
  have quiet : ∀ (c : Int), ¬ (f = 0 ∧ t = 1 ∧ c = 0) → ∀ (e : Ending) (w' : World), (e = .returned (.tuple #[.agg (encG mzero nilS).toArray, .int .i64 c]) ∧ Ge w w') → ∃ (c : Int) (m : Msg) (s' : Sls) (l' : List Msg), e = .returned (.tuple #[.agg (encG m s').toArray, .int .i64 c]) ∧ SlAt w0.heap.size w' s' m ∧ OS w0 P p kk v7 v8 sent taken l' w' ∧ (∀ b, P b → w'.heap[b]? = w.heap[b]?) ∧
      ((f = 0 ∧ t = 1 ∧ c = 0) → l = m :: l') ∧ (¬ (f = 0 ∧ t = 1 ∧ c = 0) → l' = l) :=
    fun c hc e w' ⟨he, g⟩ => ⟨c, mzero, nilS, l, he, mzero_at _ _, hos.next g, fun b hb => g.block b (h7.p b hb), fun h => absurd h hc, fun _ => rfl⟩
  rcases hi : S.idx f t with _ | j
  · exact (take_none h1 hi).mono (quiet 1 (by omega))
  obtain ⟨r, hr⟩ : ∃ r, S.rows[j]? = some r := ⟨_, List.getElem?_eq_getElem (by rw [h1.ok.len]; exact Nt.idx_lt hi)⟩
  rcases hl : r.l with _ | ⟨m, l1⟩
  · exact (take_empty h1 hi hr hl).mono (quiet 4 (by omega))
  refine (take_ok h1 hi hr hl).mono ?_
  rintro e w' ⟨⟨s', rfl, hsl⟩, ⟨C', k1⟩, k2⟩
  by_cases hj : j = 1
  · subst hj
    obtain rfl : r = ⟨l, sn, tk⟩ := by rw [h4] at hr; exact (Option.some.inj hr).symm
    obtain ⟨a1, a2⟩ := os_after (l' := l1) h5 h6 h7 h8 k1 k2 (fun _ _ h => h) h2 h3 ⟨_, _, List.getElem?_set_self (by rw [h1.ok.len]; exact Nt.idx_lt hi)⟩
    refine ⟨0, m, s', l1, rfl, hsl, a1, a2, fun _ => hl, fun hn => absurd ?_ hn⟩
    have := (idx3 h2 hi).1 rfl
    exact ⟨this.1, this.2, rfl⟩
  · obtain ⟨a1, a2⟩ := os_after (l' := l) h5 h6 h7 h8 k1 k2 (fun _ _ h => h) h2 h3 ⟨sn, tk, by show (S.rows.set j _)[1]? = _; rw [List.getElem?_set_ne hj]; exact h4⟩
    exact ⟨0, m, s', l, rfl, hsl, a1, a2, fun hh => absurd ((idx3 h2 hi).2 ⟨hh.1, hh.2.1⟩) hj, fun _ => rfl⟩
theorem os_take1 {m : Msg} (h : OS w0 P p kk v7 v8 sent taken (m :: l) w) :
    Calls Tryd.prog 13 #[.pointer (some ⟨p, 0, none⟩), .int .i64 0, .int .i64 1] w fun e w' => ∃ (s' : Sls), e = .returned (.tuple #[.agg (encG m s').toArray, .int .i64 0]) ∧ SlAt w0.heap.size w' s' m ∧ OS w0 P p kk v7 v8 sent taken l w' := by
  obtain ⟨⟨q, O, S, C, G7, G8, h1, h2, h3, ⟨sn, tk, h4⟩, h5, h6, h7⟩, h8⟩ := h
  refine (take_ok h1 (idx3_01 h2) h4 rfl).mono ?_
  rintro e w' ⟨⟨s', rfl, hsl⟩, ⟨C', k1⟩, k2⟩
  obtain ⟨a1, a2⟩ := os_after (l' := l) h5 h6 h7 h8 k1 k2 (fun _ _ h => h) h2 h3 ⟨_, _, List.getElem?_set_self (by rw [h1.ok.len]; exact Nt.idx_lt (idx3_01 h2))⟩
  exact ⟨s', rfl, hsl, a1⟩
theorem os_take0 (h : OS w0 P p kk v7 v8 sent taken [] w) :
    Calls Tryd.prog 13 #[.pointer (some ⟨p, 0, none⟩), .int .i64 0, .int .i64 1] w fun e w' => e = .returned (.tuple #[.agg (encG mzero nilS).toArray, .int .i64 4]) ∧ Ge w w' := by
  obtain ⟨⟨q, O, S, C, G7, G8, h1, h2, h3, ⟨sn, tk, h4⟩, h5, h6, h7⟩, h8⟩ := h
  exact take_empty h1 (idx3_01 h2) h4 rfl
theorem os_room (h : OS w0 P p kk v7 v8 sent taken l w) :
    Calls Tryd.prog 22 #[.pointer (some ⟨p, 0, none⟩), .int .i64 0, .int .i64 1] w fun e w' => e = .returned (.int .i64 ((kk : Int) - (l.length : Int))) ∧ Ge w w' := by
  obtain ⟨⟨q, O, S, C, G7, G8, h1, h2, h3, ⟨sn, tk, h4⟩, h5, h6, h7⟩, h8⟩ := h
  have := room_some h1 (idx3_01 h2) h4
  rwa [h3] at this
theorem os_new (kk : Nat) (r1 : 1 ≤ kk) (r2 : kk ≤ 64) (hg : Ge w0 w) :
    Calls Tryd.prog 9 #[.int .i64 3, .int .i64 (kk : Int)] w fun e w' => ∃ p, e = .returned (.tuple #[.pointer (some ⟨p, 0, none⟩), .int .i64 0]) ∧ OS w0 (fun _ => False) p kk (.slice none 0 0) (.slice none 0 0) [] [] [] w' := by
  refine (show Calls Tryd.prog 9 #[.int .i64 3, .int .i64 (kk : Int)] w _ from new_ok (B := w0.heap.size) hg.size (k := 3) (room := kk) (by omega) (by omega) r1 r2).mono ?_
  rintro e w' ⟨p, q, C, rfl, h1, h2, h3, h4⟩
  have := hg.size
  refine ⟨p, rfl, ⟨q, _, _, C, fun _ => False, fun _ => False, h1, rfl, rfl, ⟨0, 0, rfl⟩, RowAt.nil _ _ _, RowAt.nil _ _ _, ⟨fun b hb => ⟨?_, fun h => h, fun h => h, fun h => h⟩, fun b hb => hb.elim, fun b hb => hb.elim, fun b hb => hb.elim⟩⟩, hg.trans h2⟩
  rcases hb with rfl | rfl | hb
  · omega
  · omega
  · exact absurd rfl hb

/-- an append, behind which all else is as it was -/
theorem ge_app {G : Nat → Prop} (h8 : Ge w0 w) (hG : ∀ b, G b → w0.heap.size ≤ b) (hb : ∀ b, b < w.heap.size → ¬ G b → w'.heap[b]? = w.heap[b]?) (hbl : Below 0 w w') : Ge w0 w' := by
  have hs := h8.size
  exact Below.trans h8 ⟨hbl.os, hbl.tape, hbl.output, hbl.size, fun k hk => hb k (by omega) (fun hg => absurd (hG k hg) (by omega))⟩
theorem os_app7 (h : OS w0 P p kk v7 v8 sent taken l w) (hl : sent.length ≤ 1000000) (b1 : Nat) (m : Msg) (s : Sls) (hb1 : Bx w b1 45 (encG m s).toArray) (hs : SlAt w0.heap.size w s m) (ty : TypeId) :
    ∃ v' w', (Builtin.append_ #[72, 72] ty #[v7, .slice (some ⟨b1, 0, none⟩) 1 1]).run Tryd.prog w = .ok v' w' ∧ OS w0 P p kk v' v8 (sent ++ [m]) taken l w' := by
  obtain ⟨⟨q, O, S, C, G7, G8, h1, h2, h3, h4, h5, h6, h7⟩, h8⟩ := h
  have h0 := h8.size
  obtain ⟨v', w', hr, k1, k2, k3, k4, k5⟩ := app_row h5 (fun g hg => ⟨(h7.g7 g hg).1, (h7.g7 g hg).2.1⟩) hl b1 m s hb1 hs ty
  have hsz := k3.size
  refine ⟨v', w', hr, ⟨q, O, S, C, _, G8, h1.keep k3 (fun b hb => k2 b (h1.lt hb) (h7.f b hb).2.1), h2, h3, h4, k1, h6.keep k3 (fun b hb => k2 b (h7.g8 b hb).2.1 (fun hg => (h7.g7 b hg).2.2.1 hb)) (fun _ h => h), ⟨fun b hb => ?_, fun b hb => ?_, fun b hb => ⟨(h7.g8 b hb).1, Nat.lt_of_lt_of_le (h7.g8 b hb).2.1 hsz, (h7.g8 b hb).2.2⟩, fun b hb => Nat.lt_of_lt_of_le (h7.p b hb) hsz⟩⟩, ge_app h8 (fun b hb => (h7.g7 b hb).1) k2 k4⟩
  · have := h1.lt hb
    exact ⟨(h7.f b hb).1, fun hg => hg.elim (h7.f b hb).2.1 (fun hg => by omega), (h7.f b hb).2.2⟩
  · rcases hb with hb | hb
    · exact ⟨(h7.g7 b hb).1, Nat.lt_of_lt_of_le (h7.g7 b hb).2.1 hsz, (h7.g7 b hb).2.2⟩
    · exact ⟨by omega, hb.2, fun hg => absurd (h7.g8 b hg).2.1 (by omega), fun hg => absurd (h7.p b hg) (by omega)⟩
theorem os_app8 (h : OS w0 P p kk v7 v8 sent taken l w) (hl : taken.length ≤ 1000000) (b1 : Nat) (m : Msg) (s : Sls) (hb1 : Bx w b1 45 (encG m s).toArray) (hs : SlAt w0.heap.size w s m) (ty : TypeId) :
    ∃ v' w', (Builtin.append_ #[72, 72] ty #[v8, .slice (some ⟨b1, 0, none⟩) 1 1]).run Tryd.prog w = .ok v' w' ∧ OS w0 P p kk v7 v' sent (taken ++ [m]) l w' := by
  obtain ⟨⟨q, O, S, C, G7, G8, h1, h2, h3, h4, h5, h6, h7⟩, h8⟩ := h
  have h0 := h8.size
  obtain ⟨v', w', hr, k1, k2, k3, k4, k5⟩ := app_row h6 (fun g hg => ⟨(h7.g8 g hg).1, (h7.g8 g hg).2.1⟩) hl b1 m s hb1 hs ty
  have hsz := k3.size
  refine ⟨v', w', hr, ⟨q, O, S, C, G7, _, h1.keep k3 (fun b hb => k2 b (h1.lt hb) (h7.f b hb).2.2.1), h2, h3, h4, h5.keep k3 (fun b hb => k2 b (h7.g7 b hb).2.1 (h7.g7 b hb).2.2.1) (fun _ h => h), k1, ⟨fun b hb => ?_, fun b hb => ?_, fun b hb => ?_, fun b hb => Nat.lt_of_lt_of_le (h7.p b hb) hsz⟩⟩, ge_app h8 (fun b hb => (h7.g8 b hb).1) k2 k4⟩
  · have := h1.lt hb
    exact ⟨(h7.f b hb).1, (h7.f b hb).2.1, fun hg => hg.elim (h7.f b hb).2.2.1 (fun hg => by omega), (h7.f b hb).2.2.2⟩
  · have := (h7.g7 b hb).2.1
    exact ⟨(h7.g7 b hb).1, by omega, fun hg => hg.elim (h7.g7 b hb).2.2.1 (fun hg => by omega), (h7.g7 b hb).2.2.2⟩
  · rcases hb with hb | hb
    · exact ⟨(h7.g8 b hb).1, Nat.lt_of_lt_of_le (h7.g8 b hb).2.1 hsz, (h7.g8 b hb).2.2⟩
    · exact ⟨by omega, hb.2, fun hg => absurd (h7.p b hg) (by omega)⟩
theorem row_at {B : Nat} {A : Option Addr} {n c : Nat} {l : List Msg} {G : Nat → Prop} (h : RowAt B w (.slice A n c) l G) (hG : ∀ b, G b → b < w.heap.size) {j : Nat} {m : Msg} (hj : l[j]? = some m) :
    ∃ g off s, A = some ⟨g, off, none⟩ ∧ g < w.heap.size ∧ SlAt B w s m ∧ ∀ w', Ge w w' → w'.rangeAt g (off + j * 19) (encG m s) := by
  obtain ⟨A', c', e, hle, h0, hc⟩ := h
  cases e
  have hjl := (List.getElem?_eq_some_iff.1 hj).1
  obtain ⟨g, off, cs, rfl, hg, hx, hs, hm⟩ := hc (by omega)
  obtain ⟨s, h1, h2⟩ := hm j m hj
  exact ⟨g, off, s, rfl, hG g hg, h1, fun w' gw i u hu => ((hx.ge gw).cell _).trans (h2 i u hu)⟩
theorem OS.at7 {A : Option Addr} {n c : Nat} (h : OS w0 P p kk (.slice A n c) v8 sent taken l w) {j : Nat} {m : Msg} (hj : sent[j]? = some m) :
    ∃ g off s, A = some ⟨g, off, none⟩ ∧ g < w.heap.size ∧ SlAt w0.heap.size w s m ∧ ∀ w', Ge w w' → w'.rangeAt g (off + j * 19) (encG m s) := by
  obtain ⟨⟨q, O, S, C, G7, G8, h1, h2, h3, h4, h5, h6, h7⟩, h8⟩ := h
  exact row_at h5 (fun b hb => (h7.g7 b hb).2.1) hj
theorem OS.at8 {A : Option Addr} {n c : Nat} (h : OS w0 P p kk v7 (.slice A n c) sent taken l w) {j : Nat} {m : Msg} (hj : taken[j]? = some m) :
    ∃ g off s, A = some ⟨g, off, none⟩ ∧ g < w.heap.size ∧ SlAt w0.heap.size w s m ∧ ∀ w', Ge w w' → w'.rangeAt g (off + j * 19) (encG m s) := by
  obtain ⟨⟨q, O, S, C, G7, G8, h1, h2, h3, h4, h5, h6, h7⟩, h8⟩ := h
  exact row_at h6 (fun b hb => (h7.g8 b hb).2.1) hj
end Go.Proofs.YtmhibpmgnicolaaDoor

namespace Go.Proofs.YtmhibpmgnicolaaDoor
open Go.RowKit
attribute [local go_sem] Dr.upT

section
variable {ops : Array Oper} {Q : Exit → Act → World → Prop} {a : Act} {w : World} {rest : List Oper} {o : Oper}
theorem wpList_one (hgd : o.guard = none) (x : Operand) (ho : o.op = .buildSlice 72 1 #[(0, x)]) (CE : Array Value) (hx : a.eval x = .agg CE) (hs : CE.size = 19)
    (h : wpList Tryd.prog ops Q rest (a.put o.dst (.slice (some ⟨w.heap.size, 0, none⟩) 1 1)) (w.alloc (.cells CE 45))) : wpList Tryd.prog ops Q (o :: rest) a w := by
  refine wpList_plain hgd fun K hK => ?_
  have hr := run_one w CE hs
  unfold Oper.wp execOp
  simp only [ho, List.map_toArray, List.map_cons, List.map_nil, hx, Sem.run_bind, hr, Result.andThen_ok]
  exact hK _ _ h
theorem wpList_app72 (hgd : o.guard = none) (s x : Operand) (ho : o.op = .call { callee := .builtin .append, args := #[s, x], argTypes := #[72, 72] }) (v sv v' : Value) (w' : World) (hs : a.eval s = v) (hx : a.eval x = sv)
    (hrun : (Builtin.append_ #[72, 72] o.type #[v, sv]).run Tryd.prog w = .ok v' w') (h : wpList Tryd.prog ops Q rest (a.put o.dst v') w') : wpList Tryd.prog ops Q (o :: rest) a w := by
  refine wpList_plain hgd fun K hK => ?_
  unfold Oper.wp execOp
  simp only [ho, resolve, invoke, builtin, Sem.run_bind, Sem.run_pure, Result.andThen_ok, List.map_toArray, List.map_cons, List.map_nil, hs, hx, hrun]
  exact hK _ _ h
theorem i47 : (Tryd.prog.info? 47).map (·.size) = some 22 := by kernel_rfl
theorem wpList_load_do (hgd : o.guard = none) (x : Operand) (ho : o.op = .load 47 x) (g k : Nat) (hx : a.eval x = .pointer (some ⟨g, k, none⟩)) (cs : List Value) (hg : w.rangeAt g k cs) (hs : cs.length = 22)
    (h : wpList Tryd.prog ops Q rest (a.put o.dst (.agg cs.toArray)) w) : wpList Tryd.prog ops Q (o :: rest) a w :=
  wpList_load_mid hgd 47 x ho g k hx cs _ hg Tryd.underlying47 rfl (by rw [hs]; exact i47) h
theorem wpList_store_do (hgd : o.guard = none) (x y : Operand) (ho : o.op = .store 47 x y) (b : Nat) (cells : Array Value) (hx : a.eval x = .pointer (some ⟨b, 0, none⟩)) (hy : a.eval y = .agg cells)
    {cs0 : Array Value} (hb : Bx w b 47 cs0) (h0 : cs0.size = 22) (hs : cells.size = 22) (h1 : ∀ u ∈ cells.toList, u.oneCell' = true) {w0 : World} (hB : w0.heap.size ≤ b) (hg : Ge w0 w)
    (h : ∀ w', Bx w' b 47 cells → Ge w0 w' → wpList Tryd.prog ops Q rest (a.put o.dst undef) w') : wpList Tryd.prog ops Q (o :: rest) a w :=
  wpList_store_mid hgd 47 x y ho b 0 cells hx hy (by rw [hs, ← h0]; exact hb.there) (by rw [hs]; exact i47) (Array.all_eq_true_iff_forall_mem.2 (fun v hv => h1 v (by simpa using hv)))
    (h _ (by simpa using hb.fill cells.toList (by simp [h0, hs])) (below_sets hB _ _ _ hg))
end
theorem encD_one {B : Nat} {w : World} {d : Dor} (h : SlAt B w d.s d.m) : ∀ u ∈ encD d, u.oneCell' = true := by
  intro u hu
  simp only [encD, List.mem_cons] at hu
  rcases hu with rfl | rfl | rfl | hu
  · rfl
  · rfl
  · rfl
  · exact encG_one h u hu
theorem wpT_msg_at {ops : Array Oper} {K : Act → World → Prop} {w0 : World} {j : Nat} {o : Oper} {rest : List Oper} {fr : (Nat → Value) → Act} {F : Nat → (Nat → Value) → World → Prop} (x : Operand) (b k : Nat) (cs : List Value)
    (ho : o.op = .load 45 x) (hx : ∀ u, (fr u).eval x = .pointer (some ⟨b, k, none⟩)) (hB : ∀ w, Ge w0 w → w.rangeAt b k cs) (hs : cs.length = 19) (hw : ∀ u, Region.wanted o (yielded ops (fr u).tmps) = true)
    (h2 : Dr.wpT Tryd.prog ops K w0 (j + 1) rest (fun u => (fr u).put o.dst (.agg cs.toArray)) (fun k u w => if k = j then True else F k u w)) :
    Dr.wpT Tryd.prog ops K w0 j (o :: rest) fr F := by
  refine Dr.wpT_det (.agg cs.toArray) (fun u w hg _ => ?_) h2
  rw [if_pos (hw u)]
  have hl := run_loadAt_mid (P := Tryd.prog) w b k 45 cs _ (hB w hg) Tryd.underlying45 rfl (by rw [hs]; exact i45)
  unfold execOp
  simp only [ho, hx, hl, Sem.run_bind, Sem.run_pure, Result.andThen_ok]
  exact ⟨Ge.refl _, rfl⟩

/-- the end of a row, from k on -/
theorem run_tail (w : World) (A : Option Addr) (n c k : Nat) (hA : A = none → c = 0) (hk : k ≤ n) (hc : n ≤ c) : ∃ A', (Instr.sliceAt 72 (.slice A n c) (some (.int .i64 (k : Int))) none none).run Tryd.prog w = .ok (.slice A' (n - k) (c - k)) w := by
  rcases A with _ | ad
  · obtain rfl := hA rfl
    obtain rfl : n = 0 := by omega
    obtain rfl : k = 0 := by omega
    refine ⟨none, ?_⟩
    kernel_rfl
  · have h1 : (k : Int) ≤ (n : Int) := by omega
    have h2 : (n : Int) ≤ (c : Int) := by omega
    have h3 : (k : Int) ≤ (c : Int) := by omega
    have h4 : (0 : Int) ≤ (k : Int) := by omega
    go_simp
theorem wpList_tail {ops : Array Oper} {Q : Exit → Act → World → Prop} {a : Act} {w : World} {rest : List Oper} {o : Oper} (hgd : o.guard = none) (x y : Operand) (ho : o.op = .slice 72 x (some y) none none) (A : Option Addr) (n c k : Nat)
    (hx : a.eval x = .slice A n c) (hy : a.eval y = .int .i64 (k : Int)) (hA : A = none → c = 0) (hk : k ≤ n) (hc : n ≤ c) (h : ∀ A', wpList Tryd.prog ops Q rest (a.put o.dst (.slice A' (n - k) (c - k))) w) : wpList Tryd.prog ops Q (o :: rest) a w := by
  refine wpList_plain hgd fun K hK => ?_
  obtain ⟨A', hr⟩ := run_tail w A n c k hA hk hc
  unfold Oper.wp execOp
  simp only [ho, Option.map_some, Option.map_none, hx, hy, Sem.run_bind, hr, Result.andThen_ok, Sem.run_pure]
  exact hK _ _ (h A')
end Go.Proofs.YtmhibpmgnicolaaDoor
