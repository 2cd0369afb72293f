/-
  The reference's net in memory; which link: at, Counts, Room, Left, All.
  The reference's net: at, Counts, Room, Left, All.
  The reference's New.
-/
import Derived.Test.YtmhibpmgnicolaaDoorZNet
import Derived.BigQuiet
import Derived.BigRegion
namespace Go.Proofs.YtmhibpmgnicolaaDoor
open Go.RowKit

def LinkR (B : Nat) (w : World) (O : Nat → Option Nat) (CL CG CT : Array Value) (i : Nat) (r : Lk) : Prop :=
  ∃ v, CL[i]? = some v ∧ CG[i]? = some (.int .i64 r.sent) ∧ CT[i]? = some (.int .i64 r.taken) ∧ RowAt B w v r.l (fun g => O g = some i)
/-- the reference's net, but for the links of X -/
structure NetX (X : Nat → Prop) (B : Nat) (w : World) (p qL qG qT : Nat) (O : Nat → Option Nat) (S : Nt) (CL CG CT : Array Value) : Prop where
  net : Bx w p 78 #[.int .i64 S.k, .int .i64 S.room, .slice (some ⟨qL, 0, none⟩) (S.k * S.k) (S.k * S.k), .slice (some ⟨qG, 0, none⟩) (S.k * S.k) (S.k * S.k), .slice (some ⟨qT, 0, none⟩) (S.k * S.k) (S.k * S.k)]
  ok : S.Ok
  bp : B ≤ p
  bL : B ≤ qL
  bG : B ≤ qG
  bT : B ≤ qT
  ne : qG ≠ qT
  bO : ∀ b j, O b = some j → B ≤ b ∧ b < w.heap.size ∧ b ≠ p ∧ b ≠ qL ∧ b ≠ qG ∧ b ≠ qT
  L : Bx w qL 72 CL
  G : Bx w qG 2 CG
  T : Bx w qT 2 CT
  sL : CL.size = S.k * S.k
  sG : CG.size = S.k * S.k
  sT : CT.size = S.k * S.k
  rows : ∀ (i : Nat) (r : Lk), ¬ X i → S.rows[i]? = some r → LinkR B w O CL CG CT i r
abbrev NetR := NetX (fun _ => False)
def FpR (p qL qG qT : Nat) (O : Nat → Option Nat) (b : Nat) : Prop := b = p ∨ b = qL ∨ b = qG ∨ b = qT ∨ O b ≠ none
theorem bx_ne {w : World} {a b : Nat} {t t' : TypeId} {cs cs' : Array Value} (h : Bx w a t cs) (h' : Bx w b t' cs') (ht : t ≠ t') : a ≠ b := by
  rintro rfl
  unfold Bx at h h'
  rw [h'] at h
  cases h
  exact ht rfl
variable {X : Nat → Prop} {B : Nat} {w w' : World} {p qL qG qT : Nat} {O : Nat → Option Nat} {S : Nt} {CL CG CT : Array Value}
theorem NetX.lt (h : NetX X B w p qL qG qT O S CL CG CT) {b : Nat} (hb : FpR p qL qG qT O b) : b < w.heap.size := by
  rcases hb with rfl | rfl | rfl | rfl | hb
  · exact h.net.lt
  · exact h.L.lt
  · exact h.G.lt
  · exact h.T.lt
  · obtain ⟨j, hj⟩ := Option.ne_none_iff_exists'.1 hb
    exact (h.bO b j hj).2.1
theorem NetX.keep (h : NetX X B w p qL qG qT O S CL CG CT) (k : Kp B w w') (h1 : w'.heap[p]? = w.heap[p]?) (h2 : w'.heap[qL]? = w.heap[qL]?) (h3 : w'.heap[qG]? = w.heap[qG]?) (h4 : w'.heap[qT]? = w.heap[qT]?) (hb : ∀ b i, O b = some i → ¬ X i → w'.heap[b]? = w.heap[b]?) : NetX X B w' p qL qG qT O S CL CG CT := by
  refine ⟨h1.trans h.net, h.ok, h.bp, h.bL, h.bG, h.bT, h.ne, fun b j hj => ?_, h2.trans h.L, h3.trans h.G, h4.trans h.T, h.sL, h.sG, h.sT, fun i r hx hr => ?_⟩
  · obtain ⟨a, b1, c⟩ := h.bO b j hj
    exact ⟨a, Nat.lt_of_lt_of_le b1 k.size, c⟩
  · obtain ⟨v, e1, e2, e3, e4⟩ := h.rows i r hx hr
    exact ⟨v, e1, e2, e3, e4.keep k (fun g hg => hb g i hg hx) (fun _ h => h)⟩
theorem NetX.keepF (h : NetX X B w p qL qG qT O S CL CG CT) (k : Kp B w w') (hb : ∀ b, FpR p qL qG qT O b → w'.heap[b]? = w.heap[b]?) : NetX X B w' p qL qG qT O S CL CG CT :=
  h.keep k (hb p (.inl rfl)) (hb qL (.inr (.inl rfl))) (hb qG (.inr (.inr (.inl rfl)))) (hb qT (.inr (.inr (.inr (.inl rfl))))) (fun b i e _ => hb b (.inr (.inr (.inr (.inr (by rw [e]; simp))))))
theorem NetX.ge (h : NetX X B w p qL qG qT O S CL CG CT) (g : Ge w w') : NetX X B w' p qL qG qT O S CL CG CT := h.keepF (g.kp B) (fun b hb => g.block b (h.lt hb))
theorem NetX.weak {X' : Nat → Prop} (h : NetX X B w p qL qG qT O S CL CG CT) (hX : ∀ i, X i → X' i) : NetX X' B w p qL qG qT O S CL CG CT :=
  ⟨h.net, h.ok, h.bp, h.bL, h.bG, h.bT, h.ne, h.bO, h.L, h.G, h.T, h.sL, h.sG, h.sT, fun i r hx hr => h.rows i r (fun h => hx (hX i h)) hr⟩
theorem Nt.Ok.set {j : Nat} {r : Lk} (h : S.Ok) (hl : r.l.length ≤ 64) : Nt.Ok { S with rows := S.rows.set j r } := by
  refine ⟨h.k1, h.k2, h.r1, h.r2, by simp [h.len], fun r' hr' => ?_⟩
  rcases List.mem_or_eq_of_mem_set hr' with h1 | rfl
  · exact h.small r' h1
  · exact hl
theorem NetX.storeL {j : Nat} (h : NetX (· = j) B w p qL qG qT O S CL CG CT) (hj : j < S.k * S.k) {v : Value} {r : Lk} (hl : r.l.length ≤ 64) (e1 : CG[j]? = some (.int .i64 r.sent)) (e2 : CT[j]? = some (.int .i64 r.taken)) (hr : RowAt B w v r.l (fun g => O g = some j)) :
    NetR B (w.setCell ⟨qL, j, none⟩ v) p qL qG qT O { S with rows := S.rows.set j r } (CL.setIfInBounds j v) CG CT := by
  have k := Kp.set h.L rfl h.bL j v
  have n1 := bx_ne h.net h.L (by decide)
  have n2 := bx_ne h.G h.L (by decide)
  have n3 := bx_ne h.T h.L (by decide)
  have hk : ∀ b, b ≠ qL → (w.setCell ⟨qL, j, none⟩ v).heap[b]? = w.heap[b]? := fun b hb => Below.heap_setCell _ _ _ b hb
  refine ⟨h.net.set_ne _ _ n1, h.ok.set hl, h.bp, h.bL, h.bG, h.bT, h.ne, fun b i hb => ?_, h.L.set _ _, h.G.set_ne _ _ n2, h.T.set_ne _ _ n3, by simp [h.sL], h.sG, h.sT, fun i r' _ hr' => ?_⟩
  · obtain ⟨a, b1, c⟩ := h.bO b i hb
    exact ⟨a, Nat.lt_of_lt_of_le b1 k.size, c⟩
  · by_cases hij : i = j
    · subst hij
      rw [List.getElem?_set_self (by rw [h.ok.len]; exact hj)] at hr'
      cases hr'
      exact ⟨v, by simp [h.sL, hj], e1, e2, hr.keep k (fun g hg => hk g (h.bO g _ hg).2.2.2.1) (fun _ h => h)⟩
    · rw [List.getElem?_set_ne (Ne.symm hij)] at hr'
      obtain ⟨v', a1, a2, a3, a4⟩ := h.rows i r' hij hr'
      exact ⟨v', by rw [Array.getElem?_setIfInBounds_ne (by omega)]; exact a1, a2, a3, a4.keep k (fun g hg => hk g (h.bO g _ hg).2.2.2.1) (fun _ h => h)⟩
theorem NetX.storeG {j : Nat} (h : NetR B w p qL qG qT O S CL CG CT) {r : Lk} (hr : S.rows[j]? = some r) (x : Int) :
    NetR B (w.setCell ⟨qG, j, none⟩ (.int .i64 x)) p qL qG qT O { S with rows := S.rows.set j ⟨r.l, x, r.taken⟩ } CL (CG.setIfInBounds j (.int .i64 x)) CT := by
  have k := Kp.set h.G rfl h.bG j (.int .i64 x)
  have hj := (List.getElem?_eq_some_iff.1 hr).1
  have n1 := bx_ne h.net h.G (by decide)
  have n2 := bx_ne h.L h.G (by decide)
  have hk : ∀ b, b ≠ qG → (w.setCell ⟨qG, j, none⟩ (.int .i64 x)).heap[b]? = w.heap[b]? := fun b hb => Below.heap_setCell _ _ _ b hb
  refine ⟨h.net.set_ne _ _ n1, h.ok.set (h.ok.small r (List.mem_of_getElem? hr)), h.bp, h.bL, h.bG, h.bT, h.ne, fun b i hb => ?_, h.L.set_ne _ _ n2, h.G.set _ _, h.T.set_ne _ _ h.ne.symm, h.sL, by simp [h.sG], h.sT, fun i r' _ hr' => ?_⟩
  · obtain ⟨a, b1, c⟩ := h.bO b i hb
    exact ⟨a, Nat.lt_of_lt_of_le b1 k.size, c⟩
  · by_cases hij : i = j
    · subst hij
      rw [List.getElem?_set_self hj] at hr'
      cases hr'
      obtain ⟨v', a1, a2, a3, a4⟩ := h.rows i r (fun h => h) hr
      have hjs : i < CG.size := by rw [h.sG, ← h.ok.len]; exact hj
      exact ⟨v', a1, by simp [hjs], a3, a4.keep k (fun g hg => hk g (h.bO g _ hg).2.2.2.2.1) (fun _ h => h)⟩
    · rw [List.getElem?_set_ne (Ne.symm hij)] at hr'
      obtain ⟨v', a1, a2, a3, a4⟩ := h.rows i r' (fun h => h) hr'
      exact ⟨v', a1, by rw [Array.getElem?_setIfInBounds_ne (by omega)]; exact a2, a3, a4.keep k (fun g hg => hk g (h.bO g _ hg).2.2.2.2.1) (fun _ h => h)⟩
theorem NetX.storeT {j : Nat} (h : NetR B w p qL qG qT O S CL CG CT) {r : Lk} (hr : S.rows[j]? = some r) (x : Int) :
    NetR B (w.setCell ⟨qT, j, none⟩ (.int .i64 x)) p qL qG qT O { S with rows := S.rows.set j ⟨r.l, r.sent, x⟩ } CL CG (CT.setIfInBounds j (.int .i64 x)) := by
  have k := Kp.set h.T rfl h.bT j (.int .i64 x)
  have hj := (List.getElem?_eq_some_iff.1 hr).1
  have n1 := bx_ne h.net h.T (by decide)
  have n2 := bx_ne h.L h.T (by decide)
  have hk : ∀ b, b ≠ qT → (w.setCell ⟨qT, j, none⟩ (.int .i64 x)).heap[b]? = w.heap[b]? := fun b hb => Below.heap_setCell _ _ _ b hb
  refine ⟨h.net.set_ne _ _ n1, h.ok.set (h.ok.small r (List.mem_of_getElem? hr)), h.bp, h.bL, h.bG, h.bT, h.ne, fun b i hb => ?_, h.L.set_ne _ _ n2, h.G.set_ne _ _ h.ne, h.T.set _ _, h.sL, h.sG, by simp [h.sT], fun i r' _ hr' => ?_⟩
  · obtain ⟨a, b1, c⟩ := h.bO b i hb
    exact ⟨a, Nat.lt_of_lt_of_le b1 k.size, c⟩
  · by_cases hij : i = j
    · subst hij
      rw [List.getElem?_set_self hj] at hr'
      cases hr'
      obtain ⟨v', a1, a2, a3, a4⟩ := h.rows i r (fun h => h) hr
      have hjs : i < CT.size := by rw [h.sT, ← h.ok.len]; exact hj
      exact ⟨v', a1, a2, by simp [hjs], a4.keep k (fun g hg => hk g (h.bO g _ hg).2.2.2.2.2) (fun _ h => h)⟩
    · rw [List.getElem?_set_ne (Ne.symm hij)] at hr'
      obtain ⟨v', a1, a2, a3, a4⟩ := h.rows i r' (fun h => h) hr'
      exact ⟨v', a1, a2, by rw [Array.getElem?_setIfInBounds_ne (by omega)]; exact a3, a4.keep k (fun g hg => hk g (h.bO g _ hg).2.2.2.2.2) (fun _ h => h)⟩

def atV : Option Nat → Int
  | none => -1
  | some j => (j : Int)
end Go.Proofs.YtmhibpmgnicolaaDoor

namespace Go.Proofs.YtmhibpmgnicolaaDoor
open Go.RowKit

variable {B : Nat} {w w' : World} {p qL qG qT : Nat} {O : Nat → Option Nat} {S : Nt} {CL CG CT : Array Value}
set_option maxHeartbeats 4000000 in
theorem at_any (h : NetR B w p qL qG qT O S CL CG CT) (f t : Int) :
    Calls Tryd.prog 32 #[.pointer (some ⟨p, 0, none⟩), .int .i64 f, .int .i64 t] w fun e w' => e = .returned (.int .i64 (atV (S.idx f t))) ∧ Ge w w' := by
  have c0 := h.net.cell
  have n0 := h.net.lt
  have hk2 := h.ok.k2
  have hlt : ∀ (j : Nat), S.idx f t = some j → j < S.k * S.k := fun j hj => Nt.idx_lt hj
  have hdef : S.idx f t = if 0 ≤ f ∧ f < S.k ∧ 0 ≤ t ∧ t < S.k ∧ f ≠ t then some (f.toNat * S.k + t.toNat) else none := rfl
  generalize S.idx f t = r at *
  generalize S.k * S.k = kk at *
  generalize S.k = k at *
  clear h
  by_cases h1 : f < 0
  · have hr : r = none := by rw [hdef, if_neg (by omega)]
    subst hr
    have u1 : decide (f < 0) = true := decide_eq_true h1
    clear hlt hdef h1
    go_enter Tryd.func32, Tryd.ntmps32
    go_wp2
    go_returns
    exact ⟨rfl, Ge.refl _⟩
  have u1 : decide (f < 0) = false := decide_eq_false h1
  by_cases h2 : (k : Int) ≤ f
  · have hr : r = none := by rw [hdef, if_neg (by omega)]
    subst hr
    have u2 : decide ((k : Int) ≤ f) = true := decide_eq_true h2
    clear hlt hdef h1 h2
    go_enter Tryd.func32, Tryd.ntmps32
    go_wp2
    go_returns
    exact ⟨rfl, Ge.refl _⟩
  have u2 : decide ((k : Int) ≤ f) = false := decide_eq_false h2
  by_cases h3 : t < 0
  · have hr : r = none := by rw [hdef, if_neg (by omega)]
    subst hr
    have u3 : decide (t < 0) = true := decide_eq_true h3
    clear hlt hdef h1 h2 h3
    go_enter Tryd.func32, Tryd.ntmps32
    go_wp2
    go_returns
    exact ⟨rfl, Ge.refl _⟩
  have u3 : decide (t < 0) = false := decide_eq_false h3
  by_cases h4 : (k : Int) ≤ t
  · have hr : r = none := by rw [hdef, if_neg (by omega)]
    subst hr
    have u4 : decide ((k : Int) ≤ t) = true := decide_eq_true h4
    clear hlt hdef h1 h2 h3 h4
    go_enter Tryd.func32, Tryd.ntmps32
    go_wp2
    go_returns
    exact ⟨rfl, Ge.refl _⟩
  have u4 : decide ((k : Int) ≤ t) = false := decide_eq_false h4
  by_cases h5 : f = t
  · have hr : r = none := by rw [hdef, if_neg (by omega)]
    subst hr
    have u5 : (f == t) = true := by simpa using h5
    clear hlt hdef h1 h2 h3 h4 h5
    go_enter Tryd.func32, Tryd.ntmps32
    go_wp2
    go_returns
    exact ⟨rfl, Ge.refl _⟩
  have u5 : (f == t) = false := by simpa using h5
  rw [if_pos (by omega)] at hdef
  have hjk := hlt _ hdef
  obtain ⟨fn, rfl⟩ : ∃ fn : Nat, f = fn := ⟨f.toNat, by omega⟩
  obtain ⟨tn, rfl⟩ : ∃ tn : Nat, t = tn := ⟨t.toNat, by omega⟩
  simp only [Int.toNat_natCast] at hdef hjk
  have hfk : fn * k ≤ 16 * 16 := Nat.mul_le_mul (by omega) (by omega)
  have e1 : IntKind.i64.wrap ((fn : Int) * (k : Int)) = ((fn * k : Nat) : Int) := by
    rw [← Int.natCast_mul]
    exact IntWalk.i64_in _ (by omega)
  have e2 : IntKind.i64.wrap (((fn * k : Nat) : Int) + (tn : Int)) = ((fn * k + tn : Nat) : Int) := by
    rw [IntWalk.i64_in _ (by omega)]
    omega
  have w2 : decide (k ≤ fn) = false := decide_eq_false (by omega)
  have w4 : decide (k ≤ tn) = false := decide_eq_false (by omega)
  generalize fn * k = fk at *
  generalize hj : fk + tn = j at *
  clear hlt h1 h2 h3 h4 h5 hfk hj hjk hk2
  subst hdef
  go_enter Tryd.func32, Tryd.ntmps32
  go_wp2
  go_returns
  exact ⟨rfl, Ge.refl _⟩

theorem rcounts (h : NetR B w p qL qG qT O S CL CG CT) (f t : Int) : Calls Tryd.prog 38 #[.pointer (some ⟨p, 0, none⟩), .int .i64 f, .int .i64 t] w fun e w' =>
    e = .returned (match (S.idx f t).bind (S.rows[·]?) with | none => .tuple #[.int .i64 0, .int .i64 0] | some r => .tuple #[.int .i64 r.sent, .int .i64 r.taken]) ∧ Ge w w' := by
  have HA := at_any h f t
  rcases hi : S.idx f t with _ | j
  · rw [hi] at HA
    have HA := Lib.hid HA
    clear h hi
    show Calls Tryd.prog 38 _ w fun e w' => e = .returned (.tuple #[.int .i64 0, .int .i64 0]) ∧ Ge w w'
    go_enter Tryd.func38, Tryd.ntmps38
    go_wp2_with fail
    refine HA.out.mono ?_
    rintro e w1 ⟨rfl, g1⟩
    have HG := Lib.hid g1
    clear g1
    unfold atV
    go_wp2
    go_returns
    exact ⟨rfl, HG.out⟩
  · rw [hi] at HA
    have HA := Lib.hid HA
    have hj := Nt.idx_lt hi
    obtain ⟨r, hr⟩ : ∃ r, S.rows[j]? = some r := ⟨_, List.getElem?_eq_getElem (by rw [h.ok.len]; exact hj)⟩
    obtain ⟨v, x0, x1, x2, _⟩ := h.rows j r (fun h => h) hr
    have e0 : (some j).bind (S.rows[·]?) = some r := hr
    rw [e0]
    show Calls Tryd.prog 38 _ w fun e w' => e = .returned (.tuple #[.int .i64 r.sent, .int .i64 r.taken]) ∧ Ge w w'
    have HX1 := Lib.hid (fun w' (g : Ge w w') => ((h.G.ge g).cell _).trans x1)
    have HX2 := Lib.hid (fun w' (g : Ge w w') => ((h.T.ge g).cell _).trans x2)
    have HLG := Lib.hid (fun w' (g : Ge w w') => (h.G.ge g).lt)
    have HLT := Lib.hid (fun w' (g : Ge w w') => (h.T.ge g).lt)
    have HN := Lib.hid (fun w' (g : Ge w w') => (h.net.ge g).cell)
    have HNL := Lib.hid (fun w' (g : Ge w w') => (h.net.ge g).lt)
    clear h hi hr x0 x1 x2 e0
    generalize S.k * S.k = kk at *
    have i1 : (0 : Int) ≤ (j : Int) := by omega
    have i2 : (j : Int) < (kk : Int) := by omega
    have u1 : decide ((j : Int) < 0) = false := by simp
    go_enter Tryd.func38, Tryd.ntmps38
    go_wp2_with fail
    refine HA.out.mono ?_
    rintro e w1 ⟨rfl, g1⟩
    have HG := Lib.hid g1
    have x1 := HX1.out w1 g1
    have x2 := HX2.out w1 g1
    have n1 := HLG.out w1 g1
    have n2 := HLT.out w1 g1
    have c0 := HN.out w1 g1
    have n0 := HNL.out w1 g1
    clear g1
    unfold atV
    go_wp2
    go_quiet (fail)
    go_wp2
    go_returns
    exact ⟨rfl, HG.out.drewN _⟩

theorem rroom (h : NetR B w p qL qG qT O S CL CG CT) (f t : Int) : Calls Tryd.prog 41 #[.pointer (some ⟨p, 0, none⟩), .int .i64 f, .int .i64 t] w fun e w' =>
    e = .returned (match (S.idx f t).bind (S.rows[·]?) with | none => .int .i64 0 | some r => .int .i64 ((S.room : Int) - (r.l.length : Int))) ∧ Ge w w' := by
  have HA := at_any h f t
  rcases hi : S.idx f t with _ | j
  · rw [hi] at HA
    have HA := Lib.hid HA
    clear h hi
    show Calls Tryd.prog 41 _ w fun e w' => e = .returned (.int .i64 0) ∧ Ge w w'
    go_enter Tryd.func41, Tryd.ntmps41
    go_wp2_with fail
    refine HA.out.mono ?_
    rintro e w1 ⟨rfl, g1⟩
    have HG := Lib.hid g1
    clear g1
    unfold atV
    go_wp2
    go_returns
    exact ⟨rfl, HG.out⟩
  · rw [hi] at HA
    have HA := Lib.hid HA
    have hj := Nt.idx_lt hi
    obtain ⟨r, hr⟩ : ∃ r, S.rows[j]? = some r := ⟨_, List.getElem?_eq_getElem (by rw [h.ok.len]; exact hj)⟩
    obtain ⟨v, x0, x1, x2, hrow⟩ := h.rows j r (fun h => h) hr
    obtain ⟨A, cap, rfl, _⟩ := hrow
    have e0 : (some j).bind (S.rows[·]?) = some r := hr
    rw [e0]
    show Calls Tryd.prog 41 _ w fun e w' => e = .returned (.int .i64 ((S.room : Int) - (r.l.length : Int))) ∧ Ge w w'
    have HX0 := Lib.hid (fun w' (g : Ge w w') => ((h.L.ge g).cell _).trans x0)
    have HLL := Lib.hid (fun w' (g : Ge w w') => (h.L.ge g).lt)
    have HN := Lib.hid (fun w' (g : Ge w w') => (h.net.ge g).cell)
    have HNL := Lib.hid (fun w' (g : Ge w w') => (h.net.ge g).lt)
    have b1 := h.ok.r2
    have b2 := h.ok.small r (List.mem_of_getElem? hr)
    have es : wrap64 ((S.room : Int) - (r.l.length : Int)) = (S.room : Int) - (r.l.length : Int) := by unfold wrap64; omega
    clear h hi hr x0 x1 x2 e0
    generalize S.k * S.k = kk at *
    generalize S.room = room at *
    generalize r.l.length = n at *
    have i1 : (0 : Int) ≤ (j : Int) := by omega
    have i2 : (j : Int) < (kk : Int) := by omega
    have u1 : decide ((j : Int) < 0) = false := by simp
    go_enter Tryd.func41, Tryd.ntmps41
    go_wp2_with fail
    refine HA.out.mono ?_
    rintro e w1 ⟨rfl, g1⟩
    have HG := Lib.hid g1
    have x0 := HX0.out w1 g1
    have n1 := HLL.out w1 g1
    have c0 := HN.out w1 g1
    have n0 := HNL.out w1 g1
    clear g1
    unfold atV
    go_wp2
    go_quiet (fail)
    go_wp2
    go_returns
    exact ⟨rfl, HG.out.drewN _⟩

theorem rall (h : NetR B w p qL qG qT O S CL CG CT) (f t : Int) : Calls Tryd.prog 40 #[.pointer (some ⟨p, 0, none⟩), .int .i64 f, .int .i64 t] w fun e w' =>
    (∃ v, e = .returned v ∧ RowAt B w' v (match (S.idx f t).bind (S.rows[·]?) with | none => [] | some r => r.l) (fun b => O b ≠ none)) ∧ Ge w w' := by
  have HA := at_any h f t
  rcases hi : S.idx f t with _ | j
  · rw [hi] at HA
    have HA := Lib.hid HA
    clear h hi
    show Calls Tryd.prog 40 _ w fun e w' => (∃ v, e = .returned v ∧ RowAt B w' v [] (fun b => O b ≠ none)) ∧ Ge w w'
    go_enter Tryd.func40, Tryd.ntmps40
    go_wp2_with fail
    refine HA.out.mono ?_
    rintro e w1 ⟨rfl, g1⟩
    have HG := Lib.hid g1
    clear g1
    unfold atV
    go_wp2
    go_returns
    exact ⟨⟨_, rfl, RowAt.nil _ _ _⟩, HG.out⟩
  · rw [hi] at HA
    have HA := Lib.hid HA
    have hj := Nt.idx_lt hi
    obtain ⟨r, hr⟩ : ∃ r, S.rows[j]? = some r := ⟨_, List.getElem?_eq_getElem (by rw [h.ok.len]; exact hj)⟩
    obtain ⟨v, x0, x1, x2, hrow⟩ := h.rows j r (fun h => h) hr
    have HROW := Lib.hid (fun w' (g : Ge w w') => (hrow.keep (g.kp B) (fun b hb => g.block b (h.bO b j hb).2.1) (fun b hb => (by rw [hb]; simp : O b ≠ none))))
    obtain ⟨A, cap, rfl, _⟩ := hrow
    have e0 : (some j).bind (S.rows[·]?) = some r := hr
    rw [e0]
    show Calls Tryd.prog 40 _ w fun e w' => (∃ v, e = .returned v ∧ RowAt B w' v r.l (fun b => O b ≠ none)) ∧ Ge w w'
    have HX0 := Lib.hid (fun w' (g : Ge w w') => ((h.L.ge g).cell _).trans x0)
    have HLL := Lib.hid (fun w' (g : Ge w w') => (h.L.ge g).lt)
    have HN := Lib.hid (fun w' (g : Ge w w') => (h.net.ge g).cell)
    have HNL := Lib.hid (fun w' (g : Ge w w') => (h.net.ge g).lt)
    clear h hi hr x0 x1 x2 e0
    generalize S.k * S.k = kk at *
    generalize S.room = room at *
    have i1 : (0 : Int) ≤ (j : Int) := by omega
    have i2 : (j : Int) < (kk : Int) := by omega
    have u1 : decide ((j : Int) < 0) = false := by simp
    go_enter Tryd.func40, Tryd.ntmps40
    go_wp2_with fail
    refine HA.out.mono ?_
    rintro e w1 ⟨rfl, g1⟩
    have HG := Lib.hid g1
    have x0 := HX0.out w1 g1
    have n1 := HLL.out w1 g1
    have c0 := HN.out w1 g1
    have n0 := HNL.out w1 g1
    clear g1
    unfold atV
    go_wp2
    go_returns
    exact ⟨⟨_, rfl, HROW.out _ HG.out⟩, HG.out⟩

set_option maxRecDepth 100000 in
set_option maxHeartbeats 4000000 in
theorem rleft (h : NetR B w p qL qG qT O S CL CG CT) :
    Calls Tryd.prog 42 #[.pointer (some ⟨p, 0, none⟩)] w fun e w' => e = .returned (.int .i64 ((lens S.rows : Nat) : Int)) ∧ Ge w w' := by
  have HN := Lib.hid (fun w' (g : Ge w w') => (h.net.ge g).cell)
  have HNL := Lib.hid (fun w' (g : Ge w w') => (h.net.ge g).lt)
  have HC := Lib.hid (fun w' (g : Ge w w') => h.L.ge g)
  have HR := Lib.hid (fun i r => h.rows i r (fun h => h))
  have hlen := h.ok.len
  have hsm := h.ok.small
  have hkk : S.k * S.k ≤ 16 * 16 := Nat.mul_le_mul h.ok.k2 h.ok.k2
  clear h
  generalize S.rows = R at *
  generalize S.k * S.k = kk at *
  generalize S.k = k at *
  generalize S.room = room at *
  have HLEN := Lib.hid hlen
  have HSM := Lib.hid (show ∀ m, lens (R.take m) ≤ 16384 from fun m => by
    have h1 := lens_bound (R.take m) (fun r hr => hsm r (List.mem_of_mem_take hr))
    have h2 : (R.take m).length ≤ 256 := by rw [List.length_take]; omega
    omega)
  clear hlen hsm
  go_enter Tryd.func42, Tryd.ntmps42
  go_upto_region 3 with (fail)
  go_loopw [3, 4] (fun s i wr => ∃ m : Nat, m ≤ kk ∧ i = .int .i64 (m : Int) ∧ s = .int .i64 ((lens (R.take m) : Nat) : Int) ∧ Ge w wr) (fun _ i _ => kk - (intOf i).toNat)
  case atStart => exact ⟨0, by omega, rfl, rfl, Ge.refl _⟩
  case round =>
    obtain ⟨m, hm, rfl, rfl, hgw⟩ := hrel
    have HG := Lib.hid hgw
    have c0 := HN.out wr hgw
    have n0 := HNL.out wr hgw
    have hlR := HLEN.out
    by_cases hlt : m < kk
    · obtain ⟨r, hr⟩ : ∃ r, R[m]? = some r := ⟨_, List.getElem?_eq_getElem (by omega)⟩
      obtain ⟨v, y0, y1, y2, A, cap, rfl, _⟩ := HR.out m r hr
      have hX := HC.out wr HG.out
      have x0 := (hX.cell _).trans y0
      have hlb := hX.lt
      have hsn : R.take (m + 1) = R.take m ++ [r] := by
        rw [List.take_succ_eq_append_getElem (by omega)]
        rw [List.getElem?_eq_getElem (by omega)] at hr
        rw [Option.some.inj hr]
      have e0 := lens_snoc (R.take m) r
      rw [← hsn] at e0
      have b1 := HSM.out (m + 1)
      have HE := Lib.hid (show wrap64 (((lens (R.take m) : Nat) : Int) + (r.l.length : Int)) = ((lens (R.take (m + 1)) : Nat) : Int) by
        rw [e0]
        rw [e0] at b1
        unfold wrap64
        omega)
      have i1 : (0 : Int) ≤ (m : Int) := by omega
      have i2 : (m : Int) < (kk : Int) := by omega
      generalize lens (R.take m) = ls at *
      clear hr y0 y1 y2 hX hsn e0 b1 hgw hlR
      go_wp2
      go_roundw
      case rel => exact ⟨m + 1, by omega, by go_num, by rw [HE.out], HG.out⟩
      case measure => simp [intOf]; omega
    · have hml : m = kk := by omega
      have RES := Lib.hid (show R.take m = R by rw [List.take_of_length_le]; omega)
      have hdm : decide ((m : Int) < (kk : Int)) = false := by simp; omega
      clear hml hgw
      go_wp2
      go_returns
      exact ⟨by rw [RES.out]; rfl, HG.out⟩
end Go.Proofs.YtmhibpmgnicolaaDoor

namespace Go.Proofs.YtmhibpmgnicolaaDoor
open Go.RowKit

theorem rnew_bad {w : World} {k room : Int} (h : k < 1 ∨ 16 < k ∨ room < 1 ∨ 64 < room) :
    Calls Tryd.prog 10 #[.int .i64 k, .int .i64 room] w fun e w' => e = .returned (.tuple #[.pointer none, .int .i64 1]) ∧ Ge w w' := by
  by_cases h1 : k < 1
  · have u1 : decide (k < 1) = true := decide_eq_true h1
    clear h h1
    go_enter Tryd.func10, Tryd.ntmps10
    go_wp2
    go_returns
    exact ⟨rfl, Ge.refl _⟩
  have u1 : decide (k < 1) = false := decide_eq_false h1
  by_cases h2 : 16 < k
  · have u2 : decide (16 < k) = true := decide_eq_true h2
    clear h h1 h2
    go_enter Tryd.func10, Tryd.ntmps10
    go_wp2
    go_returns
    exact ⟨rfl, Ge.refl _⟩
  have u2 : decide (16 < k) = false := decide_eq_false h2
  by_cases h3 : room < 1
  · have u3 : decide (room < 1) = true := decide_eq_true h3
    clear h h1 h2 h3
    go_enter Tryd.func10, Tryd.ntmps10
    go_wp2
    go_returns
    exact ⟨rfl, Ge.refl _⟩
  have u3 : decide (room < 1) = false := decide_eq_false h3
  have u4 : decide (64 < room) = true := decide_eq_true (by omega)
  clear h h1 h2 h3
  go_enter Tryd.func10, Tryd.ntmps10
  go_wp2
  go_returns
  exact ⟨rfl, Ge.refl _⟩


theorem info72 : (Tryd.prog.info? 72).map (fun i => (i.zero, i.size, i.bytes)) = some (some (.slice none 0 0), 1, 24) := by kernel_rfl
theorem info2 : (Tryd.prog.info? 2).map (fun i => (i.zero, i.size, i.bytes)) = some (some (.int .i64 0), 1, 8) := by kernel_rfl

theorem alloc_top (w : World) (o : Obj) : (w.alloc o).heap[w.heap.size]? = some o := by show (w.heap.push o)[w.heap.size]? = _; simp
theorem alloc_len (w : World) (o : Obj) : (w.alloc o).heap.size = w.heap.size + 1 := by show (w.heap.push o).size = _; simp
theorem alloc4 (w : World) (o0 o1 o2 o3 : Obj) : ((((w.alloc o0).alloc o1).alloc o2).alloc o3).drew.heap[w.heap.size]? = some o0 ∧ ((((w.alloc o0).alloc o1).alloc o2).alloc o3).drew.heap[w.heap.size + 1]? = some o1 ∧
    ((((w.alloc o0).alloc o1).alloc o2).alloc o3).drew.heap[w.heap.size + 1 + 1]? = some o2 ∧ ((((w.alloc o0).alloc o1).alloc o2).alloc o3).drew.heap[w.heap.size + 1 + 1 + 1]? = some o3 ∧ Ge w ((((w.alloc o0).alloc o1).alloc o2).alloc o3).drew := by
  have e : ((((w.alloc o0).alloc o1).alloc o2).alloc o3).drew.heap = ((((w.alloc o0).alloc o1).alloc o2).alloc o3).heap := rfl
  have n0 := alloc_top w o0
  have n1 := alloc_top (w.alloc o0) o1
  have n2 := alloc_top ((w.alloc o0).alloc o1) o2
  have n3 := alloc_top (((w.alloc o0).alloc o1).alloc o2) o3
  simp only [alloc_len] at n1 n2 n3
  refine ⟨?_, ?_, ?_, ?_, ?_⟩
  · rw [e, Below.heap_alloc _ _ _ (by simp only [alloc_len]; omega), Below.heap_alloc _ _ _ (by simp only [alloc_len]; omega), Below.heap_alloc _ _ _ (by simp only [alloc_len]; omega)]; exact n0
  · rw [e, Below.heap_alloc _ _ _ (by simp only [alloc_len]; omega), Below.heap_alloc _ _ _ (by simp only [alloc_len]; omega)]; exact n1
  · rw [e, Below.heap_alloc _ _ _ (by simp only [alloc_len]; omega)]; exact n2
  · rw [e]; exact n3
  · exact ((((Ge.refl w).alloc o0).alloc o1).alloc o2).alloc o3 |>.drewN 1
theorem made_get (z : Value) (n i : Nat) (h : i < n) : (madeCells #[z] n)[i]? = some z := by
  unfold madeCells
  rw [Array.getElem?_map, Array.getElem?_range, if_pos h]
  simp [Nat.mod_one]
theorem made_size (z : Value) (n : Nat) : (madeCells #[z] n).size = n := by simp [madeCells]
theorem rnew_done {B : Nat} {w w' : World} (hB : B ≤ w.heap.size) {k room : Nat} (hk : 1 ≤ k ∧ k ≤ 16 ∧ 1 ≤ room ∧ room ≤ 64) {p a b c : Nat}
    (hp : Bx w' p 78 #[.int .i64 k, .int .i64 room, .slice (some ⟨a, 0, none⟩) (k * k) (k * k), .slice (some ⟨b, 0, none⟩) (k * k) (k * k), .slice (some ⟨c, 0, none⟩) (k * k) (k * k)])
    (ha : Bx w' a 72 (madeCells #[.slice none 0 0] (k * k))) (hb : Bx w' b 2 (madeCells #[.int .i64 0] (k * k))) (hc : Bx w' c 2 (madeCells #[.int .i64 0] (k * k))) (hne : b ≠ c) (hg : Ge w w')
    (lp : w.heap.size ≤ p) (la : w.heap.size ≤ a) (lb : w.heap.size ≤ b) (lc : w.heap.size ≤ c) :
    ∃ p' qL qG qT CL CG CT, Ending.returned (.tuple #[.pointer (some ⟨p, 0, none⟩), .int .i64 0]) = Ending.returned (.tuple #[.pointer (some ⟨p', 0, none⟩), .int .i64 0]) ∧ NetR B w' p' qL qG qT (fun _ => none) ⟨k, room, zRows k⟩ CL CG CT ∧ Ge w w' ∧ w.heap.size ≤ p' ∧ w.heap.size ≤ qL ∧ w.heap.size ≤ qG ∧ w.heap.size ≤ qT := by
  refine ⟨p, a, b, c, _, _, _, rfl, ⟨hp, ⟨hk.1, hk.2.1, hk.2.2.1, hk.2.2.2, by simp [zRows], fun r hr => by rw [List.eq_of_mem_replicate hr]; exact Nat.zero_le _⟩, by omega, by omega, by omega, by omega, hne, fun b j e => (by cases e), ha, hb, hc, made_size _ _, made_size _ _, made_size _ _, fun j r _ hj => ?_⟩, hg, lp, la, lb, lc⟩
  have hjl : j < k * k := by
    have := (List.getElem?_eq_some_iff.1 hj).1
    simpa [zRows] using this
  obtain rfl : r = ⟨[], 0, 0⟩ := List.eq_of_mem_replicate (List.mem_of_getElem? hj)
  exact ⟨.slice none 0 0, made_get _ _ _ hjl, made_get _ _ _ hjl, made_get _ _ _ hjl, RowAt.nil _ _ _⟩

set_option maxRecDepth 100000 in
set_option maxHeartbeats 8000000 in
theorem rnew_ok {B : Nat} {w : World} (hB : B ≤ w.heap.size) {k room : Nat} (k1 : 1 ≤ k) (k2 : k ≤ 16) (r1 : 1 ≤ room) (r2 : room ≤ 64) :
    Calls Tryd.prog 10 #[.int .i64 (k : Int), .int .i64 (room : Int)] w fun e w' => ∃ p qL qG qT CL CG CT, e = .returned (.tuple #[.pointer (some ⟨p, 0, none⟩), .int .i64 0]) ∧ NetR B w' p qL qG qT (fun _ => none) ⟨k, room, zRows k⟩ CL CG CT ∧ Ge w w' ∧ w.heap.size ≤ p ∧ w.heap.size ≤ qL ∧ w.heap.size ≤ qG ∧ w.heap.size ≤ qT := by
  have hkk : k * k ≤ 16 * 16 := Nat.mul_le_mul k2 k2
  have e1 : IntKind.i64.wrap ((k : Int) * (k : Int)) = ((k * k : Nat) : Int) := by
    rw [← Int.natCast_mul]
    exact IntWalk.i64_in _ (by omega)
  have u1 : decide ((k : Int) < 1) = false := decide_eq_false (by omega)
  have u2 : decide (16 < (k : Int)) = false := decide_eq_false (by omega)
  have u3 : decide ((room : Int) < 1) = false := decide_eq_false (by omega)
  have u4 : decide (64 < (room : Int)) = false := decide_eq_false (by omega)
  have mL : ∀ w : World, (Instr.makeSlice 75 (.int .i64 ((k : Int) * (k : Int))) (.int .i64 ((k : Int) * (k : Int)))).run Tryd.prog w = .ok (.slice (some ⟨w.heap.size, 0, none⟩) (k * k) (k * k)) (w.alloc (.cells (madeCells #[.slice none 0 0] (k * k)) 72)) := fun w => by
    have := run_make_row' (P := Tryd.prog) 75 72 (.slice none 0 0) 24 Tryd.underlying75 info72 rfl .i64 .i64 (k * k) (by omega) (by omega) w
    rwa [Int.natCast_mul] at this
  have mG : ∀ w : World, (Instr.makeSlice 76 (.int .i64 ((k : Int) * (k : Int))) (.int .i64 ((k : Int) * (k : Int)))).run Tryd.prog w = .ok (.slice (some ⟨w.heap.size, 0, none⟩) (k * k) (k * k)) (w.alloc (.cells (madeCells #[.int .i64 0] (k * k)) 2)) := fun w => by
    have := run_make_row' (P := Tryd.prog) 76 2 (.int .i64 0) 8 Tryd.underlying76 info2 rfl .i64 .i64 (k * k) (by omega) (by omega) w
    rwa [Int.natCast_mul] at this
  go_enter Tryd.func10, Tryd.ntmps10
  go_upto_region 3 with (fail)
  have HK := Lib.hid (show 1 ≤ k ∧ k ≤ 16 ∧ 1 ≤ room ∧ room ≤ 64 from ⟨k1, k2, r1, r2⟩)
  have HB := Lib.hid hB
  clear hkk k1 k2 r1 r2 hB
  go_region
  all_goals
    go_wp2
    go_returns
    apply rnew_done HB.out HK.out
    all_goals first | exact (alloc4 w _ _ _ _).1 | exact (alloc4 w _ _ _ _).2.1 | exact (alloc4 w _ _ _ _).2.2.1 | exact (alloc4 w _ _ _ _).2.2.2.1 | exact (alloc4 w _ _ _ _).2.2.2.2 | omega
end Go.Proofs.YtmhibpmgnicolaaDoor
