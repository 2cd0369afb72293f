/-
  The reference's Send.
  The reference's Take. Printed by gen_rtake.py.
  A net's Clone.
  Both nets beside each other: what each call leaves of them.
-/
import Derived.Test.YtmhibpmgnicolaaDoorZRHead
import Derived.Test.YtmhibpmgnicolaaDoorRCheck
import Derived.Test.YtmhibpmgnicolaaDoorZRNet
import Derived.Test.YtmhibpmgnicolaaDoorZSend
import Derived.BigQuiet
import Derived.Test.YtmhibpmgnicolaaDoorZTake
import Derived.Test.YtmhibpmgnicolaaDoorZChain
import Derived.Test.YtmhibpmgnicolaaDoorZSameW
namespace Go.Proofs.YtmhibpmgnicolaaDoor
open Go.RowKit
attribute [local go_sem] Dr.upT

variable {B : Nat} {w w' : World} {p qL qG qT : Nat} {O : Nat → Option Nat} {S : Nt} {CL CG CT : Array Value}
/-- what an append and the store behind it turn -/
def FpL (qL : Nat) (O : Nat → Option Nat) (b : Nat) : Prop := b = qL ∨ O b ≠ none
theorem FpL.fp {b : Nat} (h : FpL qL O b) : FpR p qL qG qT O b := h.elim (fun h => .inr (.inl h)) (fun h => .inr (.inr (.inr (.inr h))))
theorem Nx.mono {F F' : Nat → Prop} (h : Nx B F w w') (hF : ∀ b, F b → F' b) : Nx B F' w w' := ⟨h.kp, fun b hb hn => h.block b hb (fun hf => hn (hF b hf)), h.bel⟩

theorem rsend_none (h : NetR B w p qL qG qT O S CL CG CT) {f t : Int} (hi : S.idx f t = none) (m : Msg) (s : Sls) :
    Calls Tryd.prog 15 #[.pointer (some ⟨p, 0, none⟩), .int .i64 f, .int .i64 t, .agg (encG m s).toArray] w fun e w' => e = .returned (.int .i64 1) ∧ Ge w w' := by
  have HA := Lib.hid (fun w' (g : Ge w w') => at_any (h.ge g) f t)
  rw [hi] at HA
  generalize (encG m s).toArray = CS at *
  obtain ⟨W2, hW2⟩ : ∃ x, x = w.alloc (.cells CS 45) := ⟨_, rfl⟩
  have GW := Lib.hid (show Ge w W2 by rw [hW2]; exact (Ge.refl w).alloc _)
  clear h hi
  go_enter Tryd.func15, Tryd.ntmps15
  go_upto_region 1 with (fail)
  rw [← hW2]
  clear hW2
  go_wp2_with fail
  refine (HA.out _ GW.out).mono ?_
  rintro e w3 ⟨rfl, g3⟩
  have HG := Lib.hid (GW.out.trans g3)
  clear g3
  unfold atV
  go_wp2
  go_returns
  exact ⟨rfl, HG.out⟩

set_option maxHeartbeats 4000000 in
theorem rsend_bad (h : NetR B w p qL qG qT O S CL CG CT) {f t : Int} {j : Nat} (hi : S.idx f t = some j) {m : Msg} {s : Sls} (hs : SlAt B w s m) (hsm : Small m) (hc : chkM m = 130) :
    Calls Tryd.prog 15 #[.pointer (some ⟨p, 0, none⟩), .int .i64 f, .int .i64 t, .agg (encG m s).toArray] w fun e w' => e = .returned (.int .i64 130) ∧ Ge w w' := by
  have HA := Lib.hid (fun w' (g : Ge w w') => at_any (h.ge g) f t)
  rw [hi] at HA
  have HCK := Lib.hid (fun w' (g : Ge w w') => rcheck_msg (hs.ge g) hsm)
  rw [hc] at HCK
  have hCS : (encG m s).toArray.size = 19 := rfl
  clear hs
  generalize (encG m s).toArray = CS at *
  have HCS := Lib.hid hCS
  obtain ⟨W2, hW2⟩ : ∃ x, x = w.alloc (.cells CS 45) := ⟨_, rfl⟩
  have HX2 := Lib.hid (show Bx W2 w.heap.size 45 CS by rw [hW2]; exact Bx.new w 45 _ rfl)
  have GW := Lib.hid (show Ge w W2 by rw [hW2]; exact (Ge.refl w).alloc _)
  have u1 : decide ((j : Int) < 0) = false := by simp
  clear h hi hCS hc hsm
  go_enter Tryd.func15, Tryd.ntmps15
  go_upto_region 1 with (fail)
  rw [← hW2]
  clear hW2
  go_wp2_with fail
  refine (HA.out _ GW.out).mono ?_
  rintro e w3 ⟨rfl, g3⟩
  have HG := Lib.hid (GW.out.trans g3)
  have HX3 := Lib.hid (HX2.out.ge g3)
  clear g3
  unfold atV
  go_wp2_with (refine wpList_load_rowG (by go_simp) (.tmp 7) (by rfl) w.heap.size (by rfl) CS HX3.out HCS.out ?_)
  refine (HCK.out _ HG.out).mono ?_
  rintro e w4 ⟨rfl, g4⟩
  have HG4 := Lib.hid (HG.out.trans g4)
  clear g4
  go_wp2
  go_returns
  exact ⟨rfl, HG4.out⟩

set_option maxHeartbeats 4000000 in
theorem rsend_full (h : NetR B w p qL qG qT O S CL CG CT) {f t : Int} {j : Nat} {r : Lk} (hi : S.idx f t = some j) (hr : S.rows[j]? = some r) {m : Msg} {s : Sls} (hs : SlAt B w s m) (hsm : Small m) (hc : chkM m = 0) (hfull : r.l.length = S.room) :
    Calls Tryd.prog 15 #[.pointer (some ⟨p, 0, none⟩), .int .i64 f, .int .i64 t, .agg (encG m s).toArray] w fun e w' => e = .returned (.int .i64 7) ∧ Ge w w' := by
  have HA := Lib.hid (fun w' (g : Ge w w') => at_any (h.ge g) f t)
  rw [hi] at HA
  have HCK := Lib.hid (fun w' (g : Ge w w') => rcheck_msg (hs.ge g) hsm)
  rw [hc] at HCK
  have hjl := Nt.idx_lt hi
  obtain ⟨v, x0, x1, x2, hrow⟩ := h.rows j r (fun h => h) hr
  obtain ⟨A, cap, rfl, _⟩ := hrow
  rw [hfull] at x0
  have HX0 := Lib.hid (fun w' (g : Ge w w') => ((h.L.ge g).cell _).trans x0)
  have HLL := Lib.hid (fun w' (g : Ge w w') => (h.L.ge g).lt)
  have HN := Lib.hid (fun w' (g : Ge w w') => (h.net.ge g).cell)
  have HNL := Lib.hid (fun w' (g : Ge w w') => (h.net.ge g).lt)
  have hCS : (encG m s).toArray.size = 19 := rfl
  clear hs
  generalize (encG m s).toArray = CS at *
  have HCS := Lib.hid hCS
  obtain ⟨W2, hW2⟩ : ∃ x, x = w.alloc (.cells CS 45) := ⟨_, rfl⟩
  have HX2 := Lib.hid (show Bx W2 w.heap.size 45 CS by rw [hW2]; exact Bx.new w 45 _ rfl)
  have GW := Lib.hid (show Ge w W2 by rw [hW2]; exact (Ge.refl w).alloc _)
  generalize S.k * S.k = kk at *
  generalize S.k = k at *
  generalize S.room = room at *
  have u1 : decide ((j : Int) < 0) = false := by simp
  have i1 : (0 : Int) ≤ (j : Int) := by omega
  have i2 : (j : Int) < (kk : Int) := by omega
  clear h hi hCS hc hsm x0 x1 x2 hr hfull
  go_enter Tryd.func15, Tryd.ntmps15
  go_upto_region 1 with (fail)
  rw [← hW2]
  clear hW2
  go_wp2_with fail
  refine (HA.out _ GW.out).mono ?_
  rintro e w3 ⟨rfl, g3⟩
  have HG := Lib.hid (GW.out.trans g3)
  have HX3 := Lib.hid (HX2.out.ge g3)
  clear g3
  unfold atV
  go_wp2_with (refine wpList_load_rowG (by go_simp) (.tmp 7) (by rfl) w.heap.size (by rfl) CS HX3.out HCS.out ?_)
  refine (HCK.out _ HG.out).mono ?_
  rintro e w4 ⟨rfl, g4⟩
  have HG4 := Lib.hid (HG.out.trans g4)
  have x0 := HX0.out w4 HG4.out
  have n1 := HLL.out w4 HG4.out
  have c0 := HN.out w4 HG4.out
  have n0 := HNL.out w4 HG4.out
  clear g4
  go_wp2
  go_quiet (fail)
  go_wp2
  go_returns
  exact ⟨rfl, HG4.out.drewN _⟩

/-- between the append and the store -/
structure MidR (B : Nat) (n0 p qL qG qT : Nat) (O : Nat → Option Nat) (S : Nt) (CL CG CT : Array Value) (j : Nat) (l : List Msg) (v : Value) (w : World) : Prop where
  out : ∃ O', NetX (· = j) B w p qL qG qT O' S CL CG CT ∧ RowAt B w v l (fun g => O' g = some j) ∧ (∃ A n c, v = .slice A n c) ∧ ∀ b, b < n0 → O' b ≠ none → O b ≠ none
theorem MidR.ge {n0 j : Nat} {l : List Msg} {v : Value} (h : MidR B n0 p qL qG qT O S CL CG CT j l v w) (g : Ge w w') : MidR B n0 p qL qG qT O S CL CG CT j l v w' := by
  obtain ⟨O', h1, h2, h3, h4⟩ := h
  exact ⟨O', h1.ge g, h2.keep (g.kp B) (fun b hb => g.block b (h1.bO b j hb).2.1) (fun _ h => h), h3, h4⟩
theorem midr_app {n0 j : Nat} {l : List Msg} {v : Value} (hS : NetR B w p qL qG qT O S CL CG CT)
    (hrow : RowAt B w' v l (fun g => O g = some j ∨ (w.heap.size ≤ g ∧ g < w'.heap.size))) (hb : ∀ b, b < w.heap.size → ¬ O b = some j → w'.heap[b]? = w.heap[b]?) (k : Kp B w w') (hv : ∃ A n c, v = .slice A n c) (hn0 : n0 ≤ w.heap.size) :
    MidR B n0 p qL qG qT O S CL CG CT j l v w' := by
  have same : ∀ b, b < w.heap.size → (∀ i, O b = some i → b ≠ p ∧ b ≠ qL ∧ b ≠ qG ∧ b ≠ qT) → (b = p ∨ b = qL ∨ b = qG ∨ b = qT) → w'.heap[b]? = w.heap[b]? := fun b hbl hne hor => hb b hbl (fun e => by
    obtain ⟨a1, a2, a3, a4⟩ := hne j e
    rcases hor with h | h | h | h
    · exact a1 h
    · exact a2 h
    · exact a3 h
    · exact a4 h)
  have hO2 : ∀ b i, O b = some i → b ≠ p ∧ b ≠ qL ∧ b ≠ qG ∧ b ≠ qT := fun b i e => (hS.bO b i e).2.2
  have hpl := hS.lt (.inl rfl)
  obtain ⟨O', hO⟩ : ∃ O' : Nat → Option Nat, O' = fun b => if w.heap.size ≤ b then (if b < w'.heap.size then some j else none) else O b := ⟨_, rfl⟩
  have hlo : ∀ b, b < w.heap.size → O' b = O b := fun b hbl => by rw [hO]; exact if_neg (by omega)
  have hhi : ∀ b, w.heap.size ≤ b → b < w'.heap.size → O' b = some j := fun b h1 h2 => by rw [hO]; simp [h1, h2]
  have l1 := hS.net.lt
  have l2 := hS.L.lt
  have l3 := hS.G.lt
  have l4 := hS.T.lt
  refine ⟨O', ⟨(same p l1 (hO2 p) (.inl rfl)).trans hS.net, hS.ok, hS.bp, hS.bL, hS.bG, hS.bT, hS.ne, fun b i hbi => ?_, (same qL l2 (hO2 qL) (.inr (.inl rfl))).trans hS.L, (same qG l3 (hO2 qG) (.inr (.inr (.inl rfl)))).trans hS.G, (same qT l4 (hO2 qT) (.inr (.inr (.inr rfl)))).trans hS.T, hS.sL, hS.sG, hS.sT, fun i r hne hr => ?_⟩,
    hrow.keep (Kp.refl B _) (fun _ _ => rfl) (fun g hg => ?_), hv, fun b hbn hne => ?_⟩
  · rcases Nat.lt_or_ge b w.heap.size with h1 | h1
    · rw [hlo b h1] at hbi
      obtain ⟨a1, a2, a3⟩ := hS.bO b i hbi
      exact ⟨a1, Nat.lt_of_lt_of_le a2 k.size, a3⟩
    · have h2 : b < w'.heap.size := by
        rcases Nat.lt_or_ge b w'.heap.size with h2 | h2
        · exact h2
        · rw [hO] at hbi
          simp only [h1, if_true, if_neg (Nat.not_lt.2 h2)] at hbi
          cases hbi
      have := hS.bp
      exact ⟨by omega, h2, by omega, by omega, by omega, by omega⟩
  · obtain ⟨v', e1, e2, e3, e4⟩ := hS.rows i r (fun h => h) hr
    refine ⟨v', e1, e2, e3, e4.keep k (fun g hg => ?_) (fun g hg => ?_)⟩
    · exact hb g (hS.bO g i hg).2.1 (fun e' => hne (by rw [hg] at e'; exact Option.some.inj e'))
    · show O' g = some i
      rw [hlo g (hS.bO g i hg).2.1]
      exact hg
  · rcases hg with hg | ⟨h1, h2⟩
    · show O' g = some j
      rw [hlo g (hS.bO g j hg).2.1]
      exact hg
    · exact hhi g h1 h2
  · rw [hlo b (by omega)] at hne
    exact hne
/-- behind the store -/
structure PostR (B n0 p qL qG qT : Nat) (O : Nat → Option Nat) (S : Nt) (CG CT : Array Value) (w : World) : Prop where
  out : ∃ O' CL', NetR B w p qL qG qT O' S CL' CG CT ∧ ∀ b, b < n0 → FpR p qL qG qT O' b → FpR p qL qG qT O b
theorem PostR.ge {n0 : Nat} (h : PostR B n0 p qL qG qT O S CG CT w) (g : Ge w w') : PostR B n0 p qL qG qT O S CG CT w' := by
  obtain ⟨O', C', h1, h2⟩ := h
  exact ⟨O', C', h1.ge g, h2⟩

set_option maxRecDepth 100000 in
set_option maxHeartbeats 8000000 in
theorem rsend_ok (h : NetR B w p qL qG qT O S CL CG CT) {f t : Int} {j : Nat} {r : Lk} (hi : S.idx f t = some j) (hr : S.rows[j]? = some r) {m : Msg} {s : Sls} (hs : SlAt B w s m) (hsm : Small m) (hc : chkM m = 0) (hroom : r.l.length < S.room) :
    Calls Tryd.prog 15 #[.pointer (some ⟨p, 0, none⟩), .int .i64 f, .int .i64 t, .agg (encG m s).toArray] w fun e w' => e = .returned (.int .i64 0) ∧
      ∃ O' CL' CG', NetR B w' p qL qG qT O' { S with rows := S.rows.set j (sentR r m) } CL' CG' CT ∧ Nx B (FpR p qL qG qT O) w w' ∧ ∀ b, b < w.heap.size → FpR p qL qG qT O' b → FpR p qL qG qT O b := by
  have HA := Lib.hid (fun w' (g : Ge w w') => at_any (h.ge g) f t)
  rw [hi] at HA
  have hjl := Nt.idx_lt hi
  have hBw : B ≤ w.heap.size := Nat.le_trans h.bp (Nat.le_of_lt h.net.lt)
  have HCK := Lib.hid (fun w' (g : Ge w w') => rcheck_msg (hs.ge g) hsm)
  rw [hc] at HCK
  have HCL := Lib.hid (fun w' (k : Kp B w w') => rclone_any (hs.kp k) hsm (Nat.le_trans hBw k.size))
  have hl64 := h.ok.small r (List.mem_of_getElem? hr)
  have hr64 := h.ok.r2
  obtain ⟨v, x0, x1, x2, hrow⟩ := h.rows j r (fun h => h) hr
  obtain ⟨A, cap, rfl, _⟩ := hrow
  have HX0 := Lib.hid x0
  have HX1 := Lib.hid x1
  have HX2' := Lib.hid x2
  have HH := Lib.hid (fun w' (g : Ge w w') => h.ge g)
  have HFL := Lib.hid (fun b (hb : FpR p qL qG qT O b) => h.lt hb)
  have HN := Lib.hid (fun w' (g : Ge w w') => (h.net.ge g).cell)
  have HNL := Lib.hid (fun w' (g : Ge w w') => (h.net.ge g).lt)
  have HPF := Lib.hid (show ¬ FpL qL O p from fun hb => hb.elim (fun e => bx_ne h.net h.L (by decide) e) (fun e => by
    obtain ⟨i, hi⟩ := Option.ne_none_iff_exists'.1 e
    exact (h.bO p i hi).2.2.1 rfl))
  have HR := Lib.hid hr
  have HJ := Lib.hid hjl
  have HBW := Lib.hid hBw
  have u0 : ((r.l.length : Int) == (S.room : Int)) = false := by simp; omega
  have HL64 := Lib.hid (show r.l.length + 1 ≤ 64 by omega)
  have HENC := Lib.hid (show (encG m s).toArray.size = 19 from rfl)
  clear hs
  generalize (encG m s).toArray = CS at *
  obtain ⟨W2, hW2⟩ : ∃ x, x = w.alloc (.cells CS 45) := ⟨_, rfl⟩
  have HB2 := Lib.hid (show Bx W2 w.heap.size 45 CS by rw [hW2]; exact Bx.new w 45 _ rfl)
  have GW := Lib.hid (show Ge w W2 by rw [hW2]; exact (Ge.refl w).alloc _)
  have u1 : decide ((j : Int) < 0) = false := by simp
  have i1 : (0 : Int) ≤ (j : Int) := by omega
  have i2 : (j : Int) < ((S.k * S.k : Nat) : Int) := by omega
  clear h hc hsm hBw hr x0 x1 x2 hroom hl64 hr64 hjl hi
  generalize hkk : S.k * S.k = kk at *
  have HKK := Lib.hid hkk
  clear hkk
  go_enter Tryd.func15, Tryd.ntmps15
  go_upto_region 1 with (fail)
  rw [← hW2]
  clear hW2
  go_wp2_with fail
  refine (HA.out _ GW.out).mono ?_
  rintro e w3 ⟨rfl, g3⟩
  have HG := Lib.hid (GW.out.trans g3)
  have HB3 := Lib.hid (HB2.out.ge g3)
  clear g3
  unfold atV
  go_wp2_with (refine wpList_load_rowG (by go_simp) (.tmp 7) (by rfl) w.heap.size (by rfl) CS HB3.out HENC.out ?_)
  refine (HCK.out _ HG.out).mono ?_
  rintro e w4 ⟨rfl, g4⟩
  have HG4 := Lib.hid (HG.out.trans g4)
  have HB4 := Lib.hid (HB3.out.ge g4)
  have x0 : w4.cell? ⟨qL, j, none⟩ = _ := ((HH.out w4 HG4.out).L.cell _).trans HX0.out
  have n1 := (HH.out w4 HG4.out).L.lt
  have c0 := HN.out w4 HG4.out
  have n0 := HNL.out w4 HG4.out
  clear g4
  go_wp2
  go_quiet (fail)
  rename_i nq
  have HG5 := Lib.hid (HG4.out.drewN nq)
  have HB5 := Lib.hid (show Bx (w4.drewN nq) w.heap.size 45 CS from HB4.out)
  generalize w4.drewN nq = w5 at *
  clear x0 n1 c0 n0
  go_wp2
  have HNB := Lib.hid (show ¬ FpL qL O w.heap.size from fun hb => absurd (HFL.out _ hb.fp) (by omega))
  have HF5 := Lib.hid (show ∀ b, w5.heap.size ≤ b → ¬ FpL qL O b from fun b h hb => absurd (HFL.out b hb.fp) (by have := HG5.out.size; omega))
  have HP5 := Lib.hid (HH.out w5 HG5.out).net
  rw [HKK.out] at HP5
  refine Dr.wp_region_C (Nx B (FpL qL O)) [11, 15, 17] (fun w => NetR B w p qL qG qT O S CL CG CT) (rel_nx _ _) (by kernel_rfl) (by kernel_rfl) (by kernel_rfl) (fun _ _ g h => h.ge g) (HH.out _ HG5.out) ?_
  iterate 11 (apply Dr.wpC_det (hc := by rfl); · (intro u w7 hw hF; clear hF; have c0 := (HP5.out.nx hw HPF.out).cell; go_simp; first | exact ⟨Ge.refl _, rfl⟩ | exact Ge.refl _ | rfl))
  refine Dr.wpC_chain (.slice A r.l.length cap) (fun w => NetR B w p qL qG qT O S CL CG CT) (by rfl) (fun _ _ g h => h.ge g) ?_ ?_
  · intro u w7 hw hF hS
    clear hF
    have x0 : w7.cell? ⟨qL, j, none⟩ = some (.slice A r.l.length cap) := (hS.L.cell _).trans HX0.out
    have HS := Lib.hid hS
    clear hS
    go_simp
    exact ⟨Nx.of_ge (Ge.refl _), HS.out⟩
  refine wpC_msg (.tmp 7) w.heap.size CS (by rfl) (by rfl) (by intro u; go_simp) (fun _ n => HB5.out.nx n HNB.out) HENC.out (by intro u; go_simp) ?_
  refine Dr.wpC_non (fun v w => ∃ s', v = .agg (encG m s').toArray ∧ SlAt B w s' m) (by rfl) (fun v w w' g h => by obtain ⟨s', e, h⟩ := h; exact ⟨s', e, h.kp g.kp⟩) ?_ ?_
  · intro u w7 hw hF
    clear hF
    go_simp
    refine (HCL.out w7 ((HG5.out.kp B).trans hw.kp)).mono ?_
    rintro e w8 ⟨s', rfl, h1, h2⟩
    exact ⟨_, rfl, h2, s', rfl, h1⟩
  refine Dr.wpC_non (fun v w => ∃ b1 s', v = .slice (some ⟨b1, 0, none⟩) 1 1 ∧ Bx w b1 45 (encG m s').toArray ∧ SlAt B w s' m ∧ ¬ FpL qL O b1) (by rfl) (fun v w w' g h => by obtain ⟨b1, s', e, h1, h2, h3⟩ := h; exact ⟨b1, s', e, h1.nx g h3, h2.kp g.kp, h3⟩) ?_ ?_
  · intro u w7 hw hF
    obtain ⟨s', e6, hsl⟩ : ∃ s', u 13 = .agg (encG m s').toArray ∧ SlAt B w7 s' m := hF 13 (by kernel_rfl)
    clear hF
    rw [if_pos (by rfl)]
    refine exec_one (x := .tmp 48) (by rfl) (CE := (encG m s').toArray) ?_ rfl ?_
    · go_simp
      all_goals exact e6
    · exact ⟨(Ge.refl _).alloc _, _, s', rfl, Bx.new _ _ _ rfl, hsl.ge ((Ge.refl _).alloc _), HF5.out _ hw.kp.size⟩
  refine Dr.wpC_chainV (fun v w' => MidR B w.heap.size p qL qG qT O S CL CG CT j (r.l ++ [m]) v w') (by rfl) (fun _ _ _ g h => h.ge g) ?_ ?_
  · intro u w7 hw hF hS
    obtain ⟨b1, s', e7, hb1, hsl, hnb⟩ : ∃ b1 s', u 14 = .slice (some ⟨b1, 0, none⟩) 1 1 ∧ Bx w7 b1 45 (encG m s').toArray ∧ SlAt B w7 s' m ∧ ¬ FpL qL O b1 := hF 14 (by kernel_rfl)
    clear hF
    have hrow7 : RowAt B w7 (.slice A r.l.length cap) r.l (fun g => O g = some j) := by
      obtain ⟨v', y0, _, _, hrw⟩ := hS.rows j r (fun h => h) HR.out
      have e := HX0.out
      rw [y0] at e
      cases e
      exact hrw
    rw [if_pos (by rfl)]
    obtain ⟨v', w', hrun, h1, h2, h3, hbl, h4⟩ := app_row hrow7 (fun g hg => ⟨(hS.bO g j hg).1, (hS.bO g j hg).2.1⟩) (by have := HL64.out; omega) b1 m s' hb1 hsl 72
    refine exec_app (s := .tmp 46) (x := .tmp 49) (by rfl) (v := .slice A r.l.length cap) (sv := .slice (some ⟨b1, 0, none⟩) 1 1) ?_ ?_ hrun ⟨?_, ?_⟩
    · go_simp
    · go_simp
      all_goals exact e7
    · exact ⟨h3, fun b hb hn => h2 b hb (fun hg => hn (.inr (by rw [hg]; simp))), hbl⟩
    · exact midr_app hS h1 h2 h3 h4 (by have := HG5.out.size; have := hw.kp.size; omega)
  iterate 1 (apply Dr.wpC_det (hc := by rfl); · (intro u w7 hw hF; clear hF; go_simp; first | exact ⟨Ge.refl _, rfl⟩ | exact Ge.refl _ | rfl))
  obtain ⟨S1, hS1⟩ : ∃ S1 : Nt, S1 = { S with rows := S.rows.set j ⟨r.l ++ [m], r.sent, r.taken⟩ } := ⟨_, rfl⟩
  have HS1 := Lib.hid hS1
  clear hS1
  refine wpC_store72 (.tmp 51) (.tmp 50) qL j 15 (PostR B w.heap.size p qL qG qT O S1 CG CT) (by rfl) (fun _ _ g h => h.ge g) (by rfl) (by rfl) (by intro u; go_simp) (by intro u; go_simp) ?_ ?_
  · intro u w7 hw hS
    obtain ⟨O', h1, h2, ⟨A', n', c', e8⟩, h4⟩ : MidR B w.heap.size p qL qG qT O S CL CG CT j (r.l ++ [m]) (u 15) w7 := hS
    have x0 : w7.cell? ⟨qL, j, none⟩ = some (.slice A r.l.length cap) := (h1.L.cell _).trans HX0.out
    have f0 := h1.L.frozen j
    have hst := h1.storeL (by rw [HKK.out]; exact HJ.out) (v := u 15) (r := ⟨r.l ++ [m], r.sent, r.taken⟩) (by simpa using HL64.out) HX1.out HX2'.out h2
    have hkp : Nx B (FpL qL O) w7 (w7.setCell ⟨qL, j, none⟩ (u 15)) := ⟨Kp.set h1.L rfl h1.bL j (u 15), fun b _ hn => Below.heap_setCell _ _ _ b (fun e => hn (e ▸ .inl rfl)), Below.setCell (Below.refl 0 w7) (Nat.zero_le _) (u 15)⟩
    rw [← HS1.out] at hst
    have HT := Lib.hid (show PostR B w.heap.size p qL qG qT O S1 CG CT (w7.setCell ⟨qL, j, none⟩ (u 15)) from
      ⟨O', _, hst, fun b hb hf => by
        rcases hf with hf | hf | hf | hf | hf
        · exact .inl hf
        · exact .inr (.inl hf)
        · exact .inr (.inr (.inl hf))
        · exact .inr (.inr (.inr (.inl hf)))
        · exact .inr (.inr (.inr (.inr (h4 b hb hf))))⟩)
    have HNX := Lib.hid hkp
    clear hst hkp h1 h2 h4
    rw [e8] at HT HNX
    exact ⟨A', n', c', _, e8, x0, f0, HNX.out, HT.out⟩
  intro u w7 hw hF hS
  clear hF
  have HNX := Lib.hid (show Nx B (FpR p qL qG qT O) w w7 from (Nx.of_ge HG5.out).trans (F' := FpL qL O) hw (fun _ _ h => h.fp))
  obtain ⟨O', CL', hn, hfp⟩ := hS
  rw [HS1.out] at hn
  have hj7 : ({ S with rows := S.rows.set j ⟨r.l ++ [m], r.sent, r.taken⟩ } : Nt).rows[j]? = some ⟨r.l ++ [m], r.sent, r.taken⟩ := List.getElem?_set_self (List.getElem?_eq_some_iff.1 HR.out).1
  have x1 : w7.cell? ⟨qG, j, none⟩ = some (.int .i64 r.sent) := (hn.G.cell _).trans HX1.out
  have f1 := hn.G.frozen j
  have n1 := hn.G.lt
  have c0 := hn.net.cell
  have n0 := hn.net.lt
  rw [HKK.out] at c0
  have hst := hn.storeG hj7 (wrap64 (r.sent + 1))
  have hkp : Nx B (FpR p qL qG qT O) w7 (w7.setCell ⟨qG, j, none⟩ (.int .i64 (wrap64 (r.sent + 1)))) := ⟨Kp.set hn.G rfl hn.bG j _, fun b _ hb => Below.heap_setCell _ _ _ b (fun e => hb (e ▸ .inr (.inr (.inl rfl)))), Below.setCell (Below.refl 0 w7) (Nat.zero_le _) _⟩
  have HST := Lib.hid (show NetR B (w7.setCell ⟨qG, j, none⟩ (.int .i64 (wrap64 (r.sent + 1)))) p qL qG qT O' { S with rows := S.rows.set j (sentR r m) } CL' _ CT by simpa [sentR] using hst)
  have HN2 := Lib.hid (show Nx B (FpR p qL qG qT O) w (w7.setCell ⟨qG, j, none⟩ (.int .i64 (wrap64 (r.sent + 1)))) from HNX.out.trans (F' := FpR p qL qG qT O) hkp (fun _ _ h => h))
  have HFP := Lib.hid hfp
  clear hn hfp hst hkp hw hj7
  simp only [Act.put, List.setIfInBounds_toArray, List.set_cons_zero, List.set_cons_succ]
  go_wp2
  go_returns
  exact ⟨rfl, O', ⟨_, _, HST.out⟩, HN2.out, HFP.out⟩
end Go.Proofs.YtmhibpmgnicolaaDoor

namespace Go.Proofs.YtmhibpmgnicolaaDoor
open Go.RowKit
attribute [local go_sem] Dr.upT

variable {B : Nat} {w w' : World} {p qL qG qT : Nat} {O : Nat → Option Nat} {S : Nt} {CL CG CT : Array Value}
theorem exec_tail1 {a : Act} {o : Oper} {x : Operand} (ho : o.op = .slice 72 x (some (.const (.int .i64 1))) none none) {g off n cap : Nat} (hx : a.eval x = .slice (some ⟨g, off, none⟩) n cap)
    (h1 : 1 ≤ n) (hle : n ≤ cap) {w : World} {R : Value → World → Prop} (hR : R (.slice (some ⟨g, (if cap = 1 then off else off + 19), none⟩) (n - 1) (cap - 1)) w) : Dr.upT Tryd.prog R ((execOp a.eval o).run Tryd.prog w) := by
  have i1 : (1 : Int) ≤ (n : Int) := by omega
  have i2 : (n : Int) ≤ (cap : Int) := by omega
  have i3 : (1 : Int) ≤ (cap : Int) := by omega
  by_cases h : cap = 1
  · subst h
    obtain rfl : n = 1 := by omega
    unfold execOp
    simp only [ho, Option.map_some, Option.map_none, hx]
    go_simp
    simpa using hR
  · rw [if_neg h] at hR
    unfold execOp
    simp only [ho, Option.map_some, Option.map_none, hx]
    go_simp
    simpa [Addr.add, h] using hR
theorem wpT_tail1 {ops : Array Oper} {K : Act → World → Prop} {w0 : World} {j : Nat} {o : Oper} {rest : List Oper} {fr : (Nat → Value) → Act} {F : Nat → (Nat → Value) → World → Prop} (x : Operand) (g off n cap : Nat)
    (ho : o.op = .slice 72 x (some (.const (.int .i64 1))) none none) (hgd : o.guard = none) (hx : ∀ u, (fr u).eval x = .slice (some ⟨g, off, none⟩) n cap) (h1 : 1 ≤ n) (hle : n ≤ cap)
    (h2 : Dr.wpT Tryd.prog ops K w0 (j + 1) rest (fun u => (fr u).put o.dst (.slice (some ⟨g, (if cap = 1 then off else off + 19), none⟩) (n - 1) (cap - 1))) (fun k u w => if k = j then True else F k u w)) :
    Dr.wpT Tryd.prog ops K w0 j (o :: rest) fr F := by
  refine Dr.wpT_det _ (fun u w hg _ => ?_) h2
  have hw : Region.wanted o (yielded ops (fr u).tmps) = true := by unfold Region.wanted; rw [hgd]
  rw [if_pos hw]
  exact exec_tail1 ho (hx u) h1 hle ⟨Ge.refl _, rfl⟩
theorem nx_set {F : Nat → Prop} {q k : Nat} {t : TypeId} {C : Array Value} {v : Value} (h : Bx w q t C) (ht : isD t = false) (hb : B ≤ q) (hF : F q) : Nx B F w (w.setCell ⟨q, k, none⟩ v) :=
  ⟨Kp.set h ht hb k v, fun b _ hn => Below.heap_setCell _ _ _ b (fun e => hn (e ▸ hF)), Below.setCell (Below.refl 0 w) (Nat.zero_le _) v⟩

set_option maxRecDepth 100000 in
set_option maxHeartbeats 4000000 in
theorem rtake_none (h : NetR B w p qL qG qT O S CL CG CT) {f t : Int} (hi : S.idx f t = none) :
    Calls Tryd.prog 16 #[.pointer (some ⟨p, 0, none⟩), .int .i64 f, .int .i64 t] w fun e w' => e = .returned (.tuple #[.agg (encG mzero nilS).toArray, .int .i64 1]) ∧ Ge w w' := by
  rw [zero_msg]
  have HA := Lib.hid (fun w' (g : Ge w w') => at_any (h.ge g) f t)
  rw [hi] at HA
  obtain ⟨W2, hW2⟩ : ∃ x, x = w.alloc (.cells #[.int .i64 0, .int .i64 0, .int .i64 0, .int .i64 0, .int .i64 0, .int .i64 0, .int .i64 0, .int .i64 0, .int .i64 0, .int .i64 0, .slice none 0 0, .slice none 0 0, .slice none 0 0, .slice none 0 0, .slice none 0 0, .int .i64 0, .slice none 0 0, .bool false, .int .i64 0] 45) := ⟨_, rfl⟩
  have HX2 := Lib.hid (show Bx W2 w.heap.size 45 #[.int .i64 0, .int .i64 0, .int .i64 0, .int .i64 0, .int .i64 0, .int .i64 0, .int .i64 0, .int .i64 0, .int .i64 0, .int .i64 0, .slice none 0 0, .slice none 0 0, .slice none 0 0, .slice none 0 0, .slice none 0 0, .int .i64 0, .slice none 0 0, .bool false, .int .i64 0] by rw [hW2]; exact Bx.new w 45 _ rfl)
  have GW := Lib.hid (show Ge w W2 by rw [hW2]; exact (Ge.refl w).alloc _)
  clear h hi
  go_enter Tryd.func16, Tryd.ntmps16
  go_upto_region 1 with (fail)
  rw [← hW2]
  clear hW2
  go_wp2_with fail
  refine (HA.out _ GW.out).mono ?_
  rintro e w3 ⟨rfl, g3⟩
  have HG3 := Lib.hid (GW.out.trans g3)
  have HX3 := Lib.hid (HX2.out.ge g3)
  clear g3
  unfold atV
  go_wp2_with (refine wpList_store_msg (by rfl) (.tmp 6) (.tmp 16) (by rfl) w.heap.size #[.int .i64 0, .int .i64 0, .int .i64 0, .int .i64 0, .int .i64 0, .int .i64 0, .int .i64 0, .int .i64 0, .int .i64 0, .int .i64 0, .slice none 0 0, .slice none 0 0, .slice none 0 0, .slice none 0 0, .slice none 0 0, .int .i64 0, .slice none 0 0, .bool false, .int .i64 0] (by rfl) (by rfl) HX3.out rfl rfl (by simp [Value.oneCell']) (w0 := w) (Nat.le_refl _) HG3.out ?_; intro w5 x5 g5 f5; clear f5; have HX5 := Lib.hid x5; have HG5 := Lib.hid g5; clear x5 g5)
  refine bodyPost_ret (v := .tuple #[.agg #[.int .i64 0, .int .i64 0, .int .i64 0, .int .i64 0, .int .i64 0, .int .i64 0, .int .i64 0, .int .i64 0, .int .i64 0, .int .i64 0, .slice none 0 0, .slice none 0 0, .slice none 0 0, .slice none 0 0, .slice none 0 0, .int .i64 0, .slice none 0 0, .bool false, .int .i64 0], .int .i64 1]) (results_msg_tmp Tryd.results16 _ w5 w.heap.size _ _ rfl HX5.out rfl rfl) rfl ?_
  exact ⟨rfl, HG5.out⟩

set_option maxRecDepth 100000 in
set_option maxHeartbeats 4000000 in
theorem rtake_empty (h : NetR B w p qL qG qT O S CL CG CT) {f t : Int} {j : Nat} {r : Lk} (hi : S.idx f t = some j) (hr : S.rows[j]? = some r) (hl : r.l = []) :
    Calls Tryd.prog 16 #[.pointer (some ⟨p, 0, none⟩), .int .i64 f, .int .i64 t] w fun e w' => e = .returned (.tuple #[.agg (encG mzero nilS).toArray, .int .i64 4]) ∧ Ge w w' := by
  rw [zero_msg]
  have HA := Lib.hid (fun w' (g : Ge w w') => at_any (h.ge g) f t)
  rw [hi] at HA
  have hjl := Nt.idx_lt hi
  obtain ⟨v, x0, x1, x2, hrow⟩ := h.rows j r (fun h => h) hr
  rw [hl] at hrow
  obtain ⟨A, cap, rfl, _⟩ := hrow
  have HX0 := Lib.hid (fun w' (g : Ge w w') => ((h.L.ge g).cell _).trans x0)
  have HLL := Lib.hid (fun w' (g : Ge w w') => (h.L.ge g).lt)
  have HN := Lib.hid (fun w' (g : Ge w w') => (h.net.ge g).cell)
  have HNL := Lib.hid (fun w' (g : Ge w w') => (h.net.ge g).lt)
  generalize S.k * S.k = kk at *
  generalize S.k = k at *
  generalize S.room = room at *
  have i1 : (0 : Int) ≤ (j : Int) := by omega
  have i2 : (j : Int) < (kk : Int) := by omega
  have u1 : decide ((j : Int) < 0) = false := by simp
  clear x0 x1 x2 hr hl
  obtain ⟨W2, hW2⟩ : ∃ x, x = w.alloc (.cells #[.int .i64 0, .int .i64 0, .int .i64 0, .int .i64 0, .int .i64 0, .int .i64 0, .int .i64 0, .int .i64 0, .int .i64 0, .int .i64 0, .slice none 0 0, .slice none 0 0, .slice none 0 0, .slice none 0 0, .slice none 0 0, .int .i64 0, .slice none 0 0, .bool false, .int .i64 0] 45) := ⟨_, rfl⟩
  have HX2 := Lib.hid (show Bx W2 w.heap.size 45 #[.int .i64 0, .int .i64 0, .int .i64 0, .int .i64 0, .int .i64 0, .int .i64 0, .int .i64 0, .int .i64 0, .int .i64 0, .int .i64 0, .slice none 0 0, .slice none 0 0, .slice none 0 0, .slice none 0 0, .slice none 0 0, .int .i64 0, .slice none 0 0, .bool false, .int .i64 0] by rw [hW2]; exact Bx.new w 45 _ rfl)
  have GW := Lib.hid (show Ge w W2 by rw [hW2]; exact (Ge.refl w).alloc _)
  clear h hi
  go_enter Tryd.func16, Tryd.ntmps16
  go_upto_region 1 with (fail)
  rw [← hW2]
  clear hW2
  go_wp2_with fail
  refine (HA.out _ GW.out).mono ?_
  rintro e w3 ⟨rfl, g3⟩
  have HG3 := Lib.hid (GW.out.trans g3)
  have HX3 := Lib.hid (HX2.out.ge g3)
  clear g3
  unfold atV
  have x0 := HX0.out w3 HG3.out
  have n1 := HLL.out w3 HG3.out
  have c0 := HN.out w3 HG3.out
  have n0 := HNL.out w3 HG3.out
  go_wp2_with (refine wpList_store_msg (by rfl) (.tmp 6) (.tmp 26) (by rfl) w.heap.size #[.int .i64 0, .int .i64 0, .int .i64 0, .int .i64 0, .int .i64 0, .int .i64 0, .int .i64 0, .int .i64 0, .int .i64 0, .int .i64 0, .slice none 0 0, .slice none 0 0, .slice none 0 0, .slice none 0 0, .slice none 0 0, .int .i64 0, .slice none 0 0, .bool false, .int .i64 0] (by rfl) (by rfl) HX3.out rfl rfl (by simp [Value.oneCell']) (w0 := w) (Nat.le_refl _) HG3.out ?_; intro w5 x5 g5 f5; clear f5; have HX5 := Lib.hid x5; have HG5 := Lib.hid g5; clear x5 g5)
  refine bodyPost_ret (v := .tuple #[.agg #[.int .i64 0, .int .i64 0, .int .i64 0, .int .i64 0, .int .i64 0, .int .i64 0, .int .i64 0, .int .i64 0, .int .i64 0, .int .i64 0, .slice none 0 0, .slice none 0 0, .slice none 0 0, .slice none 0 0, .slice none 0 0, .int .i64 0, .slice none 0 0, .bool false, .int .i64 0], .int .i64 4]) (results_msg_tmp Tryd.results16 _ w5 w.heap.size _ _ rfl HX5.out rfl rfl) rfl ?_
  exact ⟨rfl, HG5.out⟩

set_option maxRecDepth 100000 in
set_option maxHeartbeats 8000000 in
theorem rtake_ok (h : NetR B w p qL qG qT O S CL CG CT) {f t : Int} {j : Nat} {r : Lk} {m : Msg} {l : List Msg} (hi : S.idx f t = some j) (hr : S.rows[j]? = some r) (hl : r.l = m :: l) :
    Calls Tryd.prog 16 #[.pointer (some ⟨p, 0, none⟩), .int .i64 f, .int .i64 t] w fun e w' => (∃ s', e = .returned (.tuple #[.agg (encG m s').toArray, .int .i64 0]) ∧ SlAt B w' s' m) ∧
      (∃ CL' CT', NetR B w' p qL qG qT O { S with rows := S.rows.set j (takenR r l) } CL' CG CT') ∧ Nx B (FpR p qL qG qT O) w w' := by
  have HA := Lib.hid (fun w' (g : Ge w w') => at_any (h.ge g) f t)
  rw [hi] at HA
  have hjl := Nt.idx_lt hi
  have hl64 := h.ok.small r (List.mem_of_getElem? hr)
  obtain ⟨v, x0, x1, x2, hrow⟩ := h.rows j r (fun h => h) hr
  rw [hl] at hrow hl64
  obtain ⟨A, cap, rfl, hle, _, hcap⟩ := hrow
  obtain ⟨g, off, cs, rfl, hg, hbx, hsz, hms⟩ := hcap (by simp at hle; omega)
  obtain ⟨s', hs', hcell⟩ := hms 0 m rfl
  rw [List.length_cons] at hle hl64 x0
  have HSL := Lib.hid hs'
  have HONE := Lib.hid (show ∀ u ∈ (encG m s').toArray.toList, u.oneCell' = true from fun u hu => encG_one hs' u (by simpa using hu))
  have HRA := Lib.hid (fun w' (gg : Ge w w') => show w'.rangeAt g off (encG m s') from fun i u hu => by
    rw [(hbx.ge gg).cell]
    have := hcell i u hu
    rwa [Nat.zero_mul, Nat.add_zero] at this)
  have HLEN := Lib.hid (show (encG m s').length = 19 from rfl)
  have HRW := Lib.hid (show ∀ w', Kp B w w' → (∀ b, O b = some j → w'.heap[b]? = w.heap[b]?) → RowAt B w' (.slice (some ⟨g, (if cap = 1 then off else off + 19), none⟩) (l.length + 1 - 1) (cap - 1)) l (fun g => O g = some j) from fun w' k hb => by
    refine ⟨_, cap - 1, by rw [Nat.add_sub_cancel], by omega, fun _ => .inr ⟨_, rfl⟩, fun hp => ⟨g, off + 19, cs, by rw [if_neg (by omega)], hg, (hb g hg).trans hbx, by omega, fun i m' hi' => ?_⟩⟩
    obtain ⟨s2, e1, e2⟩ := hms (i + 1) m' hi'
    refine ⟨s2, e1.kp k, fun i' u hu => ?_⟩
    have := e2 i' u hu
    rwa [show off + (i + 1) * 19 + i' = off + 19 + i * 19 + i' by omega] at this)
  have HX0 := Lib.hid (fun w' (gg : Ge w w') => ((h.L.ge gg).cell _).trans x0)
  have HX1 := Lib.hid x1
  have HX2 := Lib.hid x2
  have HLT := Lib.hid (fun w' (gg : Ge w w') => (h.L.ge gg).lt)
  have HGL := Lib.hid (fun w' (gg : Ge w w') => (hbx.ge gg).lt)
  have HN := Lib.hid (fun w' (gg : Ge w w') => (h.net.ge gg).cell)
  have HNL := Lib.hid (fun w' (gg : Ge w w') => (h.net.ge gg).lt)
  have HH := Lib.hid (fun w' (gg : Ge w w') => h.ge gg)
  have HJ := Lib.hid hjl
  have HR := Lib.hid hr
  have HFL := Lib.hid (fun b (hb : FpR p qL qG qT O b) => h.lt hb)
  have HNC := Lib.hid (show l.length + 1 ≤ cap ∧ l.length + 1 ≤ 64 from ⟨hle, hl64⟩)
  have i1 : (0 : Int) < ((l.length + 1 : Nat) : Int) := by omega
  have u0 : (((l.length + 1 : Nat) : Int) == 0) = false := by simp; omega
  have i2 : (0 : Int) ≤ (j : Int) := by omega
  have u1 : decide ((j : Int) < 0) = false := by simp
  clear h x0 x1 x2 hs' hcell hms hle hl64 hbx hsz hcap hi
  generalize hL : encG m s' = L at *
  have HLL := Lib.hid hL
  generalize hnn : l.length + 1 = n at *
  have HNN := Lib.hid hnn
  generalize hkk : S.k * S.k = kk at *
  have HKK := Lib.hid hkk
  have i3 : (j : Int) < (kk : Int) := by omega
  clear hL hnn hkk hjl
  obtain ⟨W2, hW2⟩ : ∃ x, x = w.alloc (.cells #[.int .i64 0, .int .i64 0, .int .i64 0, .int .i64 0, .int .i64 0, .int .i64 0, .int .i64 0, .int .i64 0, .int .i64 0, .int .i64 0, .slice none 0 0, .slice none 0 0, .slice none 0 0, .slice none 0 0, .slice none 0 0, .int .i64 0, .slice none 0 0, .bool false, .int .i64 0] 45) := ⟨_, rfl⟩
  have HB2 := Lib.hid (show Bx W2 w.heap.size 45 #[.int .i64 0, .int .i64 0, .int .i64 0, .int .i64 0, .int .i64 0, .int .i64 0, .int .i64 0, .int .i64 0, .int .i64 0, .int .i64 0, .slice none 0 0, .slice none 0 0, .slice none 0 0, .slice none 0 0, .slice none 0 0, .int .i64 0, .slice none 0 0, .bool false, .int .i64 0] by rw [hW2]; exact Bx.new w 45 _ rfl)
  have GW := Lib.hid (show Ge w W2 by rw [hW2]; exact (Ge.refl w).alloc _)
  have HLS := Lib.hid (show L.toArray.size = 19 from HLEN.out)
  go_enter Tryd.func16, Tryd.ntmps16
  go_upto_region 1 with (fail)
  rw [← hW2]
  clear hW2
  go_wp2_with fail
  refine (HA.out _ GW.out).mono ?_
  rintro e w3 ⟨rfl, g3⟩
  have HG3 := Lib.hid (GW.out.trans g3)
  have HB3 := Lib.hid (HB2.out.ge g3)
  have x0 := HX0.out w3 HG3.out
  have n1 := HLT.out w3 HG3.out
  have n2 := HGL.out w3 HG3.out
  have c0 := HN.out w3 HG3.out
  have n0 := HNL.out w3 HG3.out
  have HR3 := Lib.hid (HRA.out w3 HG3.out)
  clear g3
  unfold atV
  go_upto_region 7 with (first | (refine wpList_load_at (by go_simp) (.tmp 34) (by rfl) g off (by rfl) L HR3.out HLEN.out ?_) | (refine wpList_store_msg (by rfl) (.tmp 9) (.tmp 35) (by rfl) w3.heap.size L.toArray (by rfl) (by rfl) (Bx.new _ 45 _ rfl) rfl HLS.out HONE.out (w0 := w3) (Nat.le_refl _) ((Ge.refl _).alloc _) ?_; intro W5 x5 g5 f5; clear f5; have HZ5 := Lib.hid x5; have HB5 := Lib.hid (HB3.out.ge g5); have HG5 := Lib.hid (HG3.out.trans g5); clear x5 g5))
  clear x0 n1 n2 c0 n0
  have HN53 := Lib.hid (show w.heap.size < w3.heap.size from HB3.out.lt)
  refine Dr.wp_region_TU 14 (by kernel_rfl) (by kernel_rfl) (by decide) (by kernel_rfl) ?_
  iterate 12 (apply Dr.wpT_det; · (intro u w7 hw hF; clear hF; have x0 := HX0.out w7 (HG5.out.trans hw); have c0 := HN.out w7 (HG5.out.trans hw); go_simp; first | exact ⟨Ge.refl _, rfl⟩ | exact Ge.refl _ | rfl))
  refine wpT_tail1 (.tmp 47) g off n cap (by rfl) (by rfl) (by intro u; go_simp) (by have := HNN.out; omega) HNC.out.1 ?_
  iterate 1 (apply Dr.wpT_det; · (intro u w7 hw hF; clear hF; go_simp; first | exact ⟨Ge.refl _, rfl⟩ | exact Ge.refl _ | rfl))
  intro u w7 hw hF
  clear hF
  have HG7 := Lib.hid (HG5.out.trans hw)
  have hn7 := HH.out w7 HG7.out
  have x0 := HX0.out w7 HG7.out
  have f0 := hn7.L.frozen j
  have n1 := hn7.L.lt
  have HB7 := Lib.hid (HB5.out.ge hw)
  have HZ7 := Lib.hid (HZ5.out.ge hw)
  have hst := (hn7.weak (X' := (· = j)) (fun _ h => h.elim)).storeL (by rw [HKK.out]; omega) (v := .slice (some ⟨g, (if cap = 1 then off else off + 19), none⟩) (n - 1) (cap - 1)) (r := ⟨l, r.sent, r.taken⟩) (by have := HNC.out.2; have := HNN.out; show l.length ≤ 64; omega) HX1.out HX2.out
    (HRW.out w7 (HG7.out.kp B) (fun b hb => HG7.out.block b (HFL.out b (.inr (.inr (.inr (.inr (by rw [hb]; simp))))))))
  have hkp := nx_set (F := FpR p qL qG qT O) (k := j) (v := .slice (some ⟨g, (if cap = 1 then off else off + 19), none⟩) (n - 1) (cap - 1)) hn7.L rfl hn7.bL (.inr (.inl rfl))
  obtain ⟨W8, hW8⟩ : ∃ x, x = w7.setCell ⟨qL, j, none⟩ (.slice (some ⟨g, (if cap = 1 then off else off + 19), none⟩) (n - 1) (cap - 1)) := ⟨_, rfl⟩
  have hqw := HFL.out qL (.inr (.inl rfl))
  have h38 : w.heap.size < w3.heap.size := HN53.out
  have HST := Lib.hid (show ∃ CL', NetR B W8 p qL qG qT O { S with rows := S.rows.set j ⟨l, r.sent, r.taken⟩ } CL' CG CT from ⟨_, by rw [hW8]; exact hst⟩)
  have HNX := Lib.hid (show Nx B (FpR p qL qG qT O) w W8 from (Nx.of_ge HG7.out).trans (F' := FpR p qL qG qT O) (by rw [hW8]; exact hkp) (fun _ _ h => h))
  have HB8 := Lib.hid (show Bx W8 w.heap.size 45 #[.int .i64 0, .int .i64 0, .int .i64 0, .int .i64 0, .int .i64 0, .int .i64 0, .int .i64 0, .int .i64 0, .int .i64 0, .int .i64 0, .slice none 0 0, .slice none 0 0, .slice none 0 0, .slice none 0 0, .slice none 0 0, .int .i64 0, .slice none 0 0, .bool false, .int .i64 0] from by rw [hW8]; exact HB7.out.set_ne _ _ (by omega))
  have HZ8 := Lib.hid (show Bx W8 w3.heap.size 45 L.toArray from by rw [hW8]; exact HZ7.out.set_ne _ _ (by omega))
  have HW8 := Lib.hid hW8
  clear hst hkp hn7 hw hqw h38 hW8
  simp only [Act.put, List.setIfInBounds_toArray, List.set_cons_zero, List.set_cons_succ]
  go_upto_region 8 with (fail)
  rw [← HW8.out]
  clear x0 f0 n1
  obtain ⟨CL8, hn8⟩ := HST.out
  have hj8 : ({ S with rows := S.rows.set j ⟨l, r.sent, r.taken⟩ } : Nt).rows[j]? = some ⟨l, r.sent, r.taken⟩ := List.getElem?_set_self (List.getElem?_eq_some_iff.1 HR.out).1
  have x2 : W8.cell? ⟨qT, j, none⟩ = some (.int .i64 r.taken) := (hn8.T.cell _).trans HX2.out
  have f2 := hn8.T.frozen j
  have n2 := hn8.T.lt
  have c8 := hn8.net.cell
  have n8 := hn8.net.lt
  rw [HKK.out] at c8
  have hst := hn8.storeT hj8 (wrap64 (r.taken + 1))
  have hkp := nx_set (F := FpR p qL qG qT O) (k := j) (v := .int .i64 (wrap64 (r.taken + 1))) hn8.T rfl hn8.bT (.inr (.inr (.inr (.inl rfl))))
  obtain ⟨W9, hW9⟩ : ∃ x, x = W8.setCell ⟨qT, j, none⟩ (.int .i64 (wrap64 (r.taken + 1))) := ⟨_, rfl⟩
  have hqw := HFL.out qT (.inr (.inr (.inr (.inl rfl))))
  have h38 : w.heap.size < w3.heap.size := HN53.out
  have HST9 := Lib.hid (show ∃ CL' CT', NetR B W9 p qL qG qT O { S with rows := S.rows.set j (takenR r l) } CL' CG CT' from ⟨_, _, by rw [hW9]; simpa [takenR] using hst⟩)
  have HNX9 := Lib.hid (show Nx B (FpR p qL qG qT O) w W9 from HNX.out.trans (F' := FpR p qL qG qT O) (by rw [hW9]; exact hkp) (fun _ _ h => h))
  have HB9 := Lib.hid (show Bx W9 w.heap.size 45 #[.int .i64 0, .int .i64 0, .int .i64 0, .int .i64 0, .int .i64 0, .int .i64 0, .int .i64 0, .int .i64 0, .int .i64 0, .int .i64 0, .slice none 0 0, .slice none 0 0, .slice none 0 0, .slice none 0 0, .slice none 0 0, .int .i64 0, .slice none 0 0, .bool false, .int .i64 0] from by rw [hW9]; exact HB8.out.set_ne _ _ (by omega))
  have HZ9 := Lib.hid (show Bx W9 w3.heap.size 45 L.toArray from by rw [hW9]; exact HZ8.out.set_ne _ _ (by omega))
  have HW9 := Lib.hid hW9
  clear hst hkp hn8 hj8 hW9 hqw h38
  go_upto_region 9 with (fail)
  rw [← HW9.out]
  clear x2 f2 n2 c8 n8
  have HNW := Lib.hid (Nat.lt_of_lt_of_le HB9.out.lt (Nat.le_refl _))
  have HBW := Lib.hid (show B ≤ w.heap.size by have := (HH.out w (Ge.refl _)).bp; have := (HH.out w (Ge.refl _)).net.lt; omega)
  go_wp2_with (first | (refine wpList_load_rowG (by go_simp) (.tmp 9) (by rfl) w3.heap.size (by rfl) L.toArray HZ9.out HLS.out ?_) | (refine wpList_store_mid (by rfl) 45 (.tmp 6) (.tmp 59) (by rfl) w.heap.size 0 L.toArray (by rfl) (by rfl) (by have e := HB9.out.there; rw [HLS.out]; exact e) (i45s HLS.out) (Array.all_eq_true_iff_forall_mem.2 (fun v hv => HONE.out v (by simpa using hv))) ?_; generalize hW10 : W9.setCells w.heap.size 0 L.toArray.toList = W10; have HW10 := Lib.hid hW10; clear hW10))
  all_goals
    have X10 : Bx W10 w.heap.size 45 L.toArray := by
      have := HB9.out.fill L.toArray.toList (by simp [HLEN.out])
      rw [HW10.out] at this
      exact this
    have k10 : Kp B W9 W10 := by rw [← HW10.out]; exact Kp.sets rfl HBW.out _ _ HB9.out
    have b10 : ∀ b, b < w.heap.size → W10.heap[b]? = W9.heap[b]? := fun b hb => by rw [← HW10.out]; exact sets_far (by omega) _ _ _
    have N10 : Nx B (FpR p qL qG qT O) w W10 := ⟨HNX9.out.kp.trans k10, fun b hb hn => (b10 b hb).trans (HNX9.out.block b hb hn), by rw [← HW10.out]; exact below_sets (Nat.zero_le _) _ _ _ HNX9.out.bel⟩
    obtain ⟨CL9, CT9, hn9⟩ := HST9.out
    refine bodyPost_ret (v := .tuple #[.agg L.toArray, .int .i64 0]) (results_msg_tmp Tryd.results16 _ W10 w.heap.size _ _ rfl X10 HLEN.out rfl) rfl ?_
    exact ⟨⟨s', by rw [HLL.out], HSL.out.kp N10.kp⟩, ⟨CL9, CT9, hn9.keepF k10 (fun b hb => b10 b (HFL.out b hb))⟩, N10⟩
end Go.Proofs.YtmhibpmgnicolaaDoor

namespace Go.Proofs.YtmhibpmgnicolaaDoor
open Go.RowKit
attribute [local go_sem] Dr.upT

/-- a net that is being cloned: its first m links have rows of their own -/
structure CloneAt (B : Nat) (w : World) (S : Nt) (C : Array Value) (p' q' m : Nat) (w' : World) : Prop where
  out : ∃ (C' : Array Value) (O' : Nat → Option Nat), Bx w' p' 58 #[.int .i64 S.k, .int .i64 S.room, .slice (some ⟨q', 0, none⟩) (S.k * S.k) (C'.size / 3)] ∧ Bx w' q' 87 C' ∧ S.k * S.k * 3 ≤ C'.size ∧
    (∀ b j, O' b = some j → w.heap.size ≤ b ∧ b < w'.heap.size ∧ b ≠ p' ∧ b ≠ q') ∧ (∀ (i : Nat) (r : Lk), i < m → S.rows[i]? = some r → LinkAt B w' O' C' i r) ∧
    (∀ i, m ≤ i → i < S.k * S.k → ∀ t, t < 3 → C'[i * 3 + t]? = C[i * 3 + t]?)
  ge : Ge w w'
  hp : w.heap.size ≤ p'
  hq : w.heap.size ≤ q'

theorem CloneAt.next {B : Nat} {w w5 w7 : World} {S : Nt} {C : Array Value} {p' q' m : Nat} (h : CloneAt B w S C p' q' m w5) (g : Ge w5 w7) : CloneAt B w S C p' q' m w7 := by
  obtain ⟨⟨C', O', h1, h2, h3, h4, h5, h6⟩, h7, h8, h9⟩ := h
  refine ⟨⟨C', O', h1.ge g, h2.ge g, h3, fun b j e => ?_, fun i r hi hr => (h5 i r hi hr).keep (g.kp B) (fun b e => ⟨g.block b (h4 b i e).2.1, e⟩), h6⟩, h7.trans g, h8, h9⟩
  obtain ⟨a1, a2, a3⟩ := h4 b j e
  exact ⟨a1, Nat.lt_of_lt_of_le a2 g.size, a3⟩
theorem clone_step {B : Nat} {w w5 w7 : World} {S : Nt} {C : Array Value} {p' q' m n1 n2 : Nat} {v' : Value} {r : Lk} (hB : B ≤ w.heap.size) (h : CloneAt B w S C p' q' m w5) (g : Ge w5 w7) (hm : m < S.k * S.k) (hr : S.rows[m]? = some r)
    (e1 : C[m * 3 + 1]? = some (.int .i64 r.sent)) (e2 : C[m * 3 + 2]? = some (.int .i64 r.taken)) (hn1 : w5.heap.size ≤ n1) (hn2 : n2 ≤ w7.heap.size) (hrow : RowAt B w7 v' r.l (fun b => n1 ≤ b ∧ b < n2)) :
    CloneAt B w S C p' q' (m + 1) (w7.setCell ⟨q', m * 3, none⟩ v') := by
  obtain ⟨⟨C', O', h1, h2, h3, h4, h5, h6⟩, h7, h8, h9⟩ := h
  have hpq := bx_ne h1 h2 (by decide)
  have kp : Kp B w7 (w7.setCell ⟨q', m * 3, none⟩ v') := Kp.set (h2.ge g) rfl (Nat.le_trans hB h9) (m * 3) v'
  have hk : ∀ b, b ≠ q' → (w7.setCell ⟨q', m * 3, none⟩ v').heap[b]? = w7.heap[b]? := fun b hb => Below.heap_setCell _ _ _ b hb
  have hql := h2.lt
  have hpl := h1.lt
  have hwl := h7.size
  obtain ⟨O2, hO2⟩ : ∃ O2 : Nat → Option Nat, O2 = fun b => if n1 ≤ b ∧ b < n2 then some m else O' b := ⟨_, rfl⟩
  have lo : ∀ b, b < w5.heap.size → O2 b = O' b := fun b hb => by rw [hO2]; exact if_neg (by omega)
  refine ⟨⟨C'.setIfInBounds (m * 3) v', O2, ?_, (h2.ge g).set _ _, by simpa using h3, fun b j e => ?_, fun i r' hi hr' => ?_, fun i hi hik t ht => ?_⟩, Below.setCell (h7.trans g) h9 v', h8, h9⟩
  · have := (h1.ge g).set_ne (b' := q') (m * 3) v' hpq
    simpa using this
  · have hs := kp.size
    rw [hO2] at e
    by_cases hc : n1 ≤ b ∧ b < n2
    · exact ⟨by omega, by omega, by omega, by omega⟩
    · simp only [if_neg hc] at e
      obtain ⟨a1, a2, a3⟩ := h4 b j e
      exact ⟨a1, Nat.lt_of_lt_of_le a2 (Nat.le_trans g.size hs), a3⟩
  · by_cases him : i = m
    · subst him
      rw [hr] at hr'
      cases hr'
      refine ⟨v', by simp [show i * 3 < C'.size by omega], ?_, ?_, hrow.keep kp (fun b hb => hk b (by omega)) (fun b hb => by show O2 b = _; rw [hO2]; exact if_pos hb)⟩
      · rw [Array.getElem?_setIfInBounds_ne (by omega), h6 i (Nat.le_refl _) hm 1 (by omega)]; exact e1
      · rw [Array.getElem?_setIfInBounds_ne (by omega), h6 i (Nat.le_refl _) hm 2 (by omega)]; exact e2
    · obtain ⟨v, a0, a1, a2, a3⟩ := h5 i r' (by omega) hr'
      refine ⟨v, ?_, ?_, ?_, a3.keep ((g.kp B).trans kp) (fun b hb => ?_) (fun b hb => ?_)⟩
      · rw [Array.getElem?_setIfInBounds_ne (by omega)]; exact a0
      · rw [Array.getElem?_setIfInBounds_ne (by omega)]; exact a1
      · rw [Array.getElem?_setIfInBounds_ne (by omega)]; exact a2
      · exact (hk b (h4 b i hb).2.2.2).trans (g.block b (h4 b i hb).2.1)
      · show O2 b = _
        rw [lo b (h4 b i hb).2.1]
        exact hb
  · rw [Array.getElem?_setIfInBounds_ne (by omega)]
    exact h6 i (by omega) hik t ht
/-- the clone is done -/
theorem clone_end {B : Nat} {w w' : World} {S : Nt} {C : Array Value} {p' q' : Nat} (hB : B ≤ w.heap.size) (hok : S.Ok) (h : CloneAt B w S C p' q' (S.k * S.k) w') :
    ∃ C' O', NetC B w' p' q' O' S C' ∧ ∀ b, FpC p' q' O' b → w.heap.size ≤ b := by
  obtain ⟨⟨C', O', h1, h2, h3, h4, h5, h6⟩, h7, h8, h9⟩ := h
  refine ⟨C', O', ⟨h1, hok, by omega, by omega, fun b j e => ?_, h2, h3, fun i r hr => h5 i r (by have := (List.getElem?_eq_some_iff.1 hr).1; rw [hok.len] at this; exact this) hr⟩, fun b hb => ?_⟩
  · obtain ⟨a1, a2, a3⟩ := h4 b j e
    exact ⟨by omega, a2, a3⟩
  · rcases hb with rfl | rfl | hb
    · exact h8
    · exact h9
    · obtain ⟨j, hj⟩ := Option.ne_none_iff_exists'.1 hb
      exact (h4 b j hj).1
theorem clone_rows {w : World} {q kk cap : Nat} {C : Array Value} (h : Bx w q 87 C) (h1 : 1 ≤ kk) (hk : kk * 3 ≤ C.size) (hkk : kk ≤ 256) (hone : ∀ i u, i < kk * 3 → C[i]? = some u → u.oneCell' = true) :
    Calls Tryd.prog 29 #[.slice (some ⟨q, 0, none⟩) kk cap] w fun e w' => ∃ q' cur, e = .returned (.slice (some ⟨q', 0, none⟩) kk (cur.size / 3)) ∧ Bx w' q' 87 cur ∧ w.heap.size ≤ q' ∧ kk * 3 ≤ cur.size ∧ (∀ i, i < kk * 3 → cur[i]? = C[i]?) ∧ Ge w w' := by
  obtain ⟨xs, hl, hs, hc⟩ := rows_src h hk hone cap
  refine (cloneRw hs (by omega)).mono ?_
  rintro e w' ⟨v', rfl, ho, g⟩
  rcases ho.2 with ⟨_, hn⟩ | ⟨g', cap', cur, hv, hb, hh, hle, hm, hsz, htk⟩
  · omega
  · have hsz' : cur.size = cap' * 3 := hsz
    rw [hl] at hv hle htk
    refine ⟨g', cur, by rw [hv, hsz', Nat.mul_div_cancel _ (by omega)], hh, hb, by omega, fun i hi => ?_, g⟩
    rw [← hc i hi, ← htk, List.getElem?_take, if_pos (show i < kk * eRw.k from hi), Array.getElem?_toList]

set_option maxRecDepth 100000 in
set_option maxHeartbeats 8000000 in
theorem nclone_any {B : Nat} {w : World} {p q : Nat} {O : Nat → Option Nat} {S : Nt} {C : Array Value} (h : NetC B w p q O S C) :
    Calls Tryd.prog 12 #[.pointer (some ⟨p, 0, none⟩)] w fun e w' => ∃ p' q' C' O', e = .returned (.pointer (some ⟨p', 0, none⟩)) ∧ NetC B w' p' q' O' S C' ∧ (∀ b, FpC p' q' O' b → w.heap.size ≤ b) ∧ Ge w w' := by
  have HM := Lib.hid (made_yes h)
  have HN := Lib.hid (fun w' (g : Ge w w') => (h.net.ge g).cell)
  have HNL := Lib.hid (fun w' (g : Ge w w') => (h.net.ge g).lt)
  have hBw : B ≤ w.heap.size := Nat.le_trans h.bp (Nat.le_of_lt h.net.lt)
  have HBW := Lib.hid hBw
  have HOK := Lib.hid h.ok
  have hk1 : 1 ≤ S.k * S.k := Nat.mul_pos h.ok.k1 h.ok.k1
  have hk2 : S.k * S.k ≤ 16 * 16 := Nat.mul_le_mul h.ok.k2 h.ok.k2
  have HROWS := Lib.hid h.rows
  have HBO := Lib.hid h.bO
  have HSM := Lib.hid h.ok.small
  have hone : ∀ i u, i < S.k * S.k * 3 → C[i]? = some u → u.oneCell' = true := fun i u hi hu => by
    obtain ⟨r, hr⟩ : ∃ r, S.rows[i / 3]? = some r := ⟨_, List.getElem?_eq_getElem (by rw [h.ok.len]; exact Nat.div_lt_of_lt_mul (by omega))⟩
    obtain ⟨v, x0, x1, x2, A, cap, rfl, _⟩ := h.rows _ r hr
    have hm : i % 3 = 0 ∨ i % 3 = 1 ∨ i % 3 = 2 := by omega
    rcases hm with hm | hm | hm
    · rw [show i / 3 * 3 = i by omega, hu] at x0; cases x0; rfl
    · rw [show i / 3 * 3 + 1 = i by omega, hu] at x1; cases x1; rfl
    · rw [show i / 3 * 3 + 2 = i by omega, hu] at x2; cases x2; rfl
  have HRC := Lib.hid (fun w' (g : Ge w w') => clone_rows (cap := C.size / 3) (h.row.ge g) hk1 h.sz (by omega) hone)
  have HLEN := Lib.hid h.ok.len
  clear h hone hBw
  generalize hkk : S.k * S.k = kk at *
  have HKK := Lib.hid hkk
  clear hkk
  go_enter Tryd.func12, Tryd.ntmps12
  go_wp2_with fail
  refine HM.out.mono ?_
  rintro e w1 ⟨rfl, g1⟩
  have HG1 := Lib.hid g1
  clear g1
  go_wp2_with fail
  have k0 := HN.out w1 HG1.out
  refine Dr.wp_region_T (by kernel_rfl) (by kernel_rfl) ?_
  clear k0
  iterate 12 (apply Dr.wpT_det; · (intro u w7 hw hF; clear hF; have c0 := HN.out w7 (HG1.out.trans hw); have n0 := HNL.out w7 (HG1.out.trans hw); go_simp; first | exact ⟨Ge.refl _, rfl⟩ | exact Ge.refl _ | rfl))
  refine Dr.wpT_non (fun v wv => ∃ q' cur, v = .slice (some ⟨q', 0, none⟩) kk (cur.size / 3) ∧ Bx wv q' 87 cur ∧ w.heap.size ≤ q' ∧ kk * 3 ≤ cur.size ∧ (∀ i, i < kk * 3 → cur[i]? = C[i]?)) (fun v wa wb g h => by obtain ⟨q', cur, a, b, c⟩ := h; exact ⟨q', cur, a, b.ge g, c⟩) ?_ ?_
  · intro u w7 hw hF
    clear hF
    go_simp
    refine (HRC.out w7 (HG1.out.trans hw)).mono ?_
    rintro e w8 ⟨q', cur, rfl, a, b, c, d, g⟩
    exact ⟨_, rfl, g, q', cur, rfl, a, Nat.le_trans (HG1.out.trans hw).size b, c, d⟩
  refine Dr.wpT_non (fun v wv => ∃ q' cur, v = .agg #[.int .i64 S.k, .int .i64 S.room, .slice (some ⟨q', 0, none⟩) kk (cur.size / 3)] ∧ Bx wv q' 87 cur ∧ w.heap.size ≤ q' ∧ kk * 3 ≤ cur.size ∧ (∀ i, i < kk * 3 → cur[i]? = C[i]?)) (fun v wa wb g h => by obtain ⟨q', cur, a, b, c⟩ := h; exact ⟨q', cur, a, b.ge g, c⟩) ?_ ?_
  · intro u w7 hw hF
    obtain ⟨q', cur, e, a, b⟩ : ∃ (q' : Nat) (cur : Array Value), u 12 = .slice (some ⟨q', 0, none⟩) kk (cur.size / 3) ∧ Bx w7 q' 87 cur ∧ w.heap.size ≤ q' ∧ kk * 3 ≤ cur.size ∧ (∀ i, i < kk * 3 → cur[i]? = C[i]?) := hF 12 (by kernel_rfl)
    have HA := Lib.hid a
    have HBB := Lib.hid b
    clear hF a b
    go_simp
    exact ⟨Ge.refl _, q', cur, ⟨rfl, rfl⟩, HA.out, HBB.out⟩
  refine Dr.wpT_non (fun v wv => ∃ p' q' cur, v = .pointer (some ⟨p', 0, none⟩) ∧ Bx wv p' 58 #[.int .i64 S.k, .int .i64 S.room, .slice (some ⟨q', 0, none⟩) kk (cur.size / 3)] ∧ w.heap.size ≤ p' ∧ Bx wv q' 87 cur ∧ w.heap.size ≤ q' ∧ kk * 3 ≤ cur.size ∧ (∀ i, i < kk * 3 → cur[i]? = C[i]?)) (fun v wa wb g h => by obtain ⟨p', q', cur, a, b, c, d, e⟩ := h; exact ⟨p', q', cur, a, b.ge g, c, d.ge g, e⟩) ?_ ?_
  · intro u w7 hw hF
    obtain ⟨q', cur, e, a, b⟩ : ∃ (q' : Nat) (cur : Array Value), u 13 = .agg #[.int .i64 S.k, .int .i64 S.room, .slice (some ⟨q', 0, none⟩) kk (cur.size / 3)] ∧ Bx w7 q' 87 cur ∧ w.heap.size ≤ q' ∧ kk * 3 ≤ cur.size ∧ (∀ i, i < kk * 3 → cur[i]? = C[i]?) := hF 13 (by kernel_rfl)
    have HA := Lib.hid a
    have HBB := Lib.hid b
    have HG7 := Lib.hid (HG1.out.trans hw).size
    clear hF a b
    go_simp
    exact ⟨(Ge.refl _).alloc _, q', cur, Bx.new _ _ _ rfl, HG7.out, HA.out.alloc _, HBB.out⟩
  refine Dr.wpT_non (fun v wv => ∃ p' q' cur, v = .pointer (some ⟨p', 0, none⟩) ∧ Bx wv p' 58 #[.int .i64 S.k, .int .i64 S.room, .slice (some ⟨q', 0, none⟩) kk (cur.size / 3)] ∧ w.heap.size ≤ p' ∧ Bx wv q' 87 cur ∧ w.heap.size ≤ q' ∧ kk * 3 ≤ cur.size ∧ (∀ i, i < kk * 3 → cur[i]? = C[i]?)) (fun v wa wb g h => by obtain ⟨p', q', cur, a, b, c, d, e⟩ := h; exact ⟨p', q', cur, a, b.ge g, c, d.ge g, e⟩) ?_ ?_
  · intro u w7 hw hF
    have hx : ∃ (p' q' : Nat) (cur : Array Value), u 14 = .pointer (some ⟨p', 0, none⟩) ∧ Bx w7 p' 58 #[.int .i64 S.k, .int .i64 S.room, .slice (some ⟨q', 0, none⟩) kk (cur.size / 3)] ∧ w.heap.size ≤ p' ∧ Bx w7 q' 87 cur ∧ w.heap.size ≤ q' ∧ kk * 3 ≤ cur.size ∧ (∀ i, i < kk * 3 → cur[i]? = C[i]?) := hF 14 (by kernel_rfl)
    have HX := Lib.hid hx
    clear hF hx
    go_simp
    obtain ⟨p', q', cur, h1, h2⟩ := HX.out
    exact ⟨Ge.refl _, p', h1, q', cur, h2⟩
  intro u w7 hw hF
  have hx : ∃ (p' q' : Nat) (cur : Array Value), u 15 = .pointer (some ⟨p', 0, none⟩) ∧ Bx w7 p' 58 #[.int .i64 S.k, .int .i64 S.room, .slice (some ⟨q', 0, none⟩) kk (cur.size / 3)] ∧ w.heap.size ≤ p' ∧ Bx w7 q' 87 cur ∧ w.heap.size ≤ q' ∧ kk * 3 ≤ cur.size ∧ (∀ i, i < kk * 3 → cur[i]? = C[i]?) := hF 15 (by omega)
  obtain ⟨p', q', cur, e15, a, b, c, d, e, f⟩ := hx
  have HC7 := Lib.hid (show CloneAt B w S C p' q' 0 w7 from ⟨⟨cur, fun _ => none, by rw [HKK.out]; exact a, c, by rw [HKK.out]; exact e, fun b j e => (by cases e), fun i r hi => by omega, fun i _ hik t ht => f _ (by rw [HKK.out] at hik; omega)⟩, HG1.out.trans hw, b, d⟩)
  have c7 := a.cell
  have n7 := a.lt
  clear hF hw a b c d e f
  simp only [Act.put, List.setIfInBounds_toArray, List.set_cons_zero, List.set_cons_succ, e15]
  go_upto_region 5 with (fail)
  clear c7 n7 e15
  go_loopw [28] (fun i wr => ∃ m : Nat, m ≤ kk ∧ i = .int .i64 (m : Int) ∧ CloneAt B w S C p' q' m wr) (fun i _ => kk - (intOf i).toNat)
  case atStart => exact ⟨0, by omega, rfl, HC7.out⟩
  case round =>
    obtain ⟨m, hm, rfl, hca⟩ := hrel
    have HCA := Lib.hid hca
    by_cases hlt : m < kk
    · obtain ⟨r, hr⟩ : ∃ r, S.rows[m]? = some r := ⟨_, List.getElem?_eq_getElem (by rw [HLEN.out]; exact hlt)⟩
      obtain ⟨v, x0, x1, x2, hrow⟩ := HROWS.out m r hr
      have HROW := Lib.hid (fun w' (g : Ge w w') => hrow.keep (g.kp B) (fun b hb => g.block b (HBO.out b m hb).2.1) (fun _ h => h))
      have HL64 := Lib.hid (HSM.out r (List.mem_of_getElem? hr))
      obtain ⟨A, cap, rfl, _⟩ := hrow
      have HR := Lib.hid hr
      have HX1 := Lib.hid x1
      have HX2 := Lib.hid x2
      obtain ⟨⟨C1, O1, a1, a2, a3, a4, a5, a6⟩, a7, a8, a9⟩ := hca
      rw [HKK.out] at a1 a6
      have y0 : C1[m * 3]? = some (.slice A r.l.length cap) := (a6 m (Nat.le_refl _) hlt 0 (by omega)).trans x0
      have HP1 := Lib.hid (fun w' (g : Ge wr w') => (a1.ge g).cell)
      have HP2 := Lib.hid (fun w' (g : Ge wr w') => (a1.ge g).lt)
      have HQ1 := Lib.hid (fun w' (g : Ge wr w') => ((a2.ge g).cell _).trans y0)
      have HQ2 := Lib.hid (fun w' (g : Ge wr w') => (a2.ge g).frozen (m * 3))
      have HQ3 := Lib.hid (fun w' (g : Ge wr w') => (a2.ge g).lt)
      have HGW := Lib.hid a7
      have i1 : (0 : Int) ≤ (m : Int) := by omega
      have i2 : (m : Int) < (kk : Int) := by omega
      clear a1 a2 a3 a4 a5 a6 a7 a8 a9 x0 x1 x2 hr y0
      go_upto_region 7 with (fail)
      refine Dr.wp_region_TU 16 (by kernel_rfl) (by kernel_rfl) (by decide) (by kernel_rfl) ?_
      iterate 13 (apply Dr.wpT_det; · (intro u w7 hw hF; clear hF; have c0 := HP1.out w7 hw; have n0 := HP2.out w7 hw; have q0 := HQ1.out w7 hw; have q2 := HQ3.out w7 hw; go_simp; first | exact ⟨Ge.refl _, rfl⟩ | exact Ge.refl _ | rfl))
      refine Dr.wpT_non (fun v wv => ∃ n1 n2 : Nat, wr.heap.size ≤ n1 ∧ n2 ≤ wv.heap.size ∧ RowAt B wv v r.l (fun b => n1 ≤ b ∧ b < n2) ∧ ∃ A n c, v = .slice A n c) (fun v wa wb g h => by obtain ⟨n1, n2, a, b, c, d⟩ := h; exact ⟨n1, n2, a, Nat.le_trans b g.size, c.keep (g.kp B) (fun x hx => g.block x (by omega)) (fun _ h => h), d⟩) ?_ ?_
      · intro u w7 hw hF
        clear hF
        go_simp
        refine (clone_row (HROW.out w7 (HGW.out.trans hw)) HL64.out).mono ?_
        rintro e w8 ⟨v', rfl, a, b, g⟩
        exact ⟨_, rfl, g, _, hw.size, _, Nat.le_refl _, a, b⟩
      iterate 2 (apply Dr.wpT_det; · (intro u w7 hw hF; clear hF; go_simp; first | exact ⟨Ge.refl _, rfl⟩ | exact Ge.refl _ | rfl))
      intro u w7 hw hF
      obtain ⟨n1, n2, b1, b2, b3, A3, l3, c3, e13⟩ : ∃ n1 n2 : Nat, wr.heap.size ≤ n1 ∧ n2 ≤ w7.heap.size ∧ RowAt B w7 (u 13) r.l (fun b => n1 ≤ b ∧ b < n2) ∧ ∃ A n c, u 13 = .slice A n c := hF 13 (by omega)
      rw [e13] at b3
      have HST := Lib.hid (clone_step HBW.out HCA.out hw (by rw [HKK.out]; exact hlt) HR.out HX1.out HX2.out b1 b2 b3)
      have q0 := HQ1.out w7 hw
      have q1 := HQ2.out w7 hw
      have q2 := HQ3.out w7 hw
      clear hF b1 b2 b3 hw
      simp only [Act.put, List.setIfInBounds_toArray, List.set_cons_zero, List.set_cons_succ, e13]
      clear e13
      go_wp2
      go_roundw
      case rel => exact ⟨m + 1, by omega, by go_num, HST.out⟩
      case measure => simp [intOf]; omega
    · obtain rfl : m = kk := by omega
      have hdm : decide ((m : Int) < (m : Int)) = false := by simp
      have HG := Lib.hid hca.ge
      clear hca hlt
      go_wp2
      go_returns
      have h9 := HCA.out
      rw [← HKK.out] at h9
      obtain ⟨C', O', k1, k2⟩ := clone_end HBW.out HOK.out h9
      exact ⟨_, _, C', O', rfl, k1, k2, HG.out⟩
end Go.Proofs.YtmhibpmgnicolaaDoor

namespace Go.Proofs.YtmhibpmgnicolaaDoor
open Go.RowKit

def sendS (S : Nt) (f t : Int) (m : Msg) : Nt × Int := match S.idx f t with
  | none => (S, 1)
  | some j => if chkM m = 0 then (match S.rows[j]? with
    | none => (S, 1)
    | some r => if r.l.length < S.room then ({ S with rows := S.rows.set j (sentR r m) }, 0) else (S, 7)) else (S, 130)
def takeS (S : Nt) (f t : Int) : Nt × Msg × Int := match S.idx f t with
  | none => (S, mzero, 1)
  | some j => match S.rows[j]? with
    | none => (S, mzero, 1)
    | some r => match r.l with
      | [] => (S, mzero, 4)
      | m :: l => ({ S with rows := S.rows.set j (takenR r l) }, m, 0)
def InvS (S : Nt) : Prop := ∀ r ∈ S.rows, r.l.length ≤ S.room ∧ ∀ m ∈ r.l, Small m
theorem inv_send {S : Nt} {f t : Int} {m : Msg} (h : InvS S) (hm : Small m) : InvS (sendS S f t m).1 := by
  unfold sendS
  split
  · exact h
  · split
    · split
      · exact h
      · rename_i j _ r hr
        split
        · rename_i hlt
          intro r' hr'
          rcases List.mem_or_eq_of_mem_set hr' with h1 | rfl
          · exact h r' h1
          · have h2 := h r (List.mem_of_getElem? hr)
            refine ⟨by simp [sentR]; omega, fun x hx => ?_⟩
            rcases List.mem_append.1 hx with h3 | h3
            · exact h2.2 x h3
            · rw [List.mem_singleton.1 h3]; exact hm
        · exact h
    · exact h
theorem inv_take {S : Nt} {f t : Int} (h : InvS S) : InvS (takeS S f t).1 ∧ Small (takeS S f t).2.1 := by
  have hz : Small mzero := ⟨Nat.zero_le _, Nat.zero_le _, Nat.zero_le _, Nat.zero_le _, (fun _ h => by cases h), Nat.zero_le _, Nat.zero_le _⟩
  unfold takeS
  split
  · exact ⟨h, hz⟩
  · split
    · exact ⟨h, hz⟩
    · rename_i j _ r hr
      have h2 := h r (List.mem_of_getElem? hr)
      split
      · exact ⟨h, hz⟩
      · rename_i m l hl
        rw [hl] at h2
        refine ⟨fun r' hr' => ?_, h2.2 m List.mem_cons_self⟩
        rcases List.mem_or_eq_of_mem_set hr' with h1 | rfl
        · exact h r' h1
        · exact ⟨Nat.le_trans (Nat.le_succ _) h2.1, fun x hx => h2.2 x (List.mem_cons_of_mem _ hx)⟩

structure LS (w0 : World) (P : Nat → Prop) (p pr : Nat) (Sn Sr : Nt) (w : World) : Prop where
  out : ∃ q O C qL qG qT Or CL CG CT, NetC w0.heap.size w p q O Sn C ∧ NetR w0.heap.size w pr qL qG qT Or Sr CL CG CT ∧
    (∀ b, FpC p q O b → w0.heap.size ≤ b ∧ ¬ FpR pr qL qG qT Or b ∧ ¬ P b) ∧ (∀ b, FpR pr qL qG qT Or b → w0.heap.size ≤ b ∧ ¬ P b) ∧ (∀ b, P b → b < w.heap.size)
  ge : Ge w0 w
variable {w0 : World} {P : Nat → Prop} {p pr : Nat} {Sn Sr : Nt} {w w' : World}
theorem LS.next (h : LS w0 P p pr Sn Sr w) (g : Ge w w') : LS w0 P p pr Sn Sr w' := by
  obtain ⟨⟨q, O, C, qL, qG, qT, Or, CL, CG, CT, h1, h2, h3, h4, h5⟩, h6⟩ := h
  exact ⟨⟨q, O, C, qL, qG, qT, Or, CL, CG, CT, h1.ge g, h2.ge g, h3, h4, fun b hb => Nat.lt_of_lt_of_le (h5 b hb) g.size⟩, h6.trans g⟩
theorem LS.free (h : LS w0 P p pr Sn Sr w) : LS w0 (fun _ => False) p pr Sn Sr w := by
  obtain ⟨⟨q, O, C, qL, qG, qT, Or, CL, CG, CT, h1, h2, h3, h4, h5⟩, h6⟩ := h
  exact ⟨⟨q, O, C, qL, qG, qT, Or, CL, CG, CT, h1, h2, fun b hb => ⟨(h3 b hb).1, (h3 b hb).2.1, fun h => h⟩, fun b hb => ⟨(h4 b hb).1, fun h => h⟩, fun b hb => hb.elim⟩, h6⟩
theorem LS.fresh (h : LS w0 P p pr Sn Sr w) (g : Ge w w') (hlt : w.heap.size < w'.heap.size) : LS w0 (fun b => b = w.heap.size) p pr Sn Sr w' := by
  obtain ⟨⟨q, O, C, qL, qG, qT, Or, CL, CG, CT, h1, h2, h3, h4, h5⟩, h6⟩ := h
  exact ⟨⟨q, O, C, qL, qG, qT, Or, CL, CG, CT, h1.ge g, h2.ge g, fun b hb => ⟨(h3 b hb).1, (h3 b hb).2.1, fun e => by have := h1.lt hb; omega⟩, fun b hb => ⟨(h4 b hb).1, fun e => by have := h2.lt hb; omega⟩, fun b hb => by omega⟩, h6.trans g⟩

theorem LS.more (h : LS w0 P p pr Sn Sr w) (g : Ge w w') (hlt : w.heap.size < w'.heap.size) : LS w0 (fun b => P b ∨ b = w.heap.size) p pr Sn Sr w' := by
  obtain ⟨⟨q, O, C, qL, qG, qT, Or, CL, CG, CT, h1, h2, h3, h4, h5⟩, h6⟩ := h
  exact ⟨⟨q, O, C, qL, qG, qT, Or, CL, CG, CT, h1.ge g, h2.ge g, fun b hb => ⟨(h3 b hb).1, (h3 b hb).2.1, fun e => e.elim (h3 b hb).2.2 (fun e => by have := h1.lt hb; omega)⟩, fun b hb => ⟨(h4 b hb).1, fun e => e.elim (h4 b hb).2 (fun e => by have := h2.lt hb; omega)⟩, fun b hb => hb.elim (fun hb => Nat.lt_of_lt_of_le (h5 b hb) g.size) (fun hb => by omega)⟩, h6.trans g⟩
theorem LS.weak {P' : Nat → Prop} (h : LS w0 P p pr Sn Sr w) (hP : ∀ b, P' b → P b) : LS w0 P' p pr Sn Sr w := by
  obtain ⟨⟨q, O, C, qL, qG, qT, Or, CL, CG, CT, h1, h2, h3, h4, h5⟩, h6⟩ := h
  exact ⟨⟨q, O, C, qL, qG, qT, Or, CL, CG, CT, h1, h2, fun b hb => ⟨(h3 b hb).1, (h3 b hb).2.1, fun e => (h3 b hb).2.2 (hP b e)⟩, fun b hb => ⟨(h4 b hb).1, fun e => (h4 b hb).2 (hP b e)⟩, fun b hb => h5 b (hP b hb)⟩, h6⟩

/-- the program's net has turned -/
theorem ls_n {q : Nat} {O O' : Nat → Option Nat} {C' : Array Value} {S' : Nt} {qL qG qT : Nat} {Or : Nat → Option Nat} {CL CG CT : Array Value} (h2 : NetR w0.heap.size w pr qL qG qT Or Sr CL CG CT)
    (h3 : ∀ b, FpC p q O b → w0.heap.size ≤ b ∧ ¬ FpR pr qL qG qT Or b ∧ ¬ P b) (h4 : ∀ b, FpR pr qL qG qT Or b → w0.heap.size ≤ b ∧ ¬ P b) (h5 : ∀ b, P b → b < w.heap.size) (h6 : Ge w0 w)
    (k1 : NetC w0.heap.size w' p q O' S' C') (k2 : Nx w0.heap.size (FpC p q O) w w') (k3 : ∀ b, b < w.heap.size → FpC p q O' b → FpC p q O b) :
    LS w0 P p pr S' Sr w' ∧ ∀ b, P b → w'.heap[b]? = w.heap[b]? := by
  refine ⟨⟨⟨q, O', C', qL, qG, qT, Or, CL, CG, CT, k1, h2.keepF k2.kp (fun b hb => k2.block b (h2.lt hb) (fun hf => (h3 b hf).2.1 hb)), fun b hb => ?_, h4, fun b hb => Nat.lt_of_lt_of_le (h5 b hb) k2.kp.size⟩, Below.trans h6 (k2.below (fun b hb => (h3 b hb).1) h6.size)⟩, fun b hb => k2.block b (h5 b hb) (fun hf => (h3 b hf).2.2 hb)⟩
  rcases Nat.lt_or_ge b w.heap.size with hl | hl
  · exact h3 b (k3 b hl hb)
  · have := h6.size
    exact ⟨by omega, fun hf => absurd (h2.lt hf) (by omega), fun hp => absurd (h5 b hp) (by omega)⟩
/-- the reference's net has turned -/
theorem ls_r {q : Nat} {O : Nat → Option Nat} {C : Array Value} {S' : Nt} {qL qG qT : Nat} {Or Or' : Nat → Option Nat} {CL' CG' CT' : Array Value} (h1 : NetC w0.heap.size w p q O Sn C)
    (h3 : ∀ b, FpC p q O b → w0.heap.size ≤ b ∧ ¬ FpR pr qL qG qT Or b ∧ ¬ P b) (h4 : ∀ b, FpR pr qL qG qT Or b → w0.heap.size ≤ b ∧ ¬ P b) (h5 : ∀ b, P b → b < w.heap.size) (h6 : Ge w0 w)
    (k1 : NetR w0.heap.size w' pr qL qG qT Or' S' CL' CG' CT') (k2 : Nx w0.heap.size (FpR pr qL qG qT Or) w w') (k3 : ∀ b, b < w.heap.size → FpR pr qL qG qT Or' b → FpR pr qL qG qT Or b) :
    LS w0 P p pr Sn S' w' ∧ ∀ b, P b → w'.heap[b]? = w.heap[b]? := by
  have hr : ∀ b, FpR pr qL qG qT Or' b → w0.heap.size ≤ b ∧ ¬ P b ∧ ¬ FpC p q O b := fun b hb => by
    rcases Nat.lt_or_ge b w.heap.size with hl | hl
    · have := k3 b hl hb
      exact ⟨(h4 b this).1, (h4 b this).2, fun hf => (h3 b hf).2.1 this⟩
    · have := h6.size
      exact ⟨by omega, fun hp => absurd (h5 b hp) (by omega), fun hf => absurd (h1.lt hf) (by omega)⟩
  exact ⟨⟨⟨q, O, C, qL, qG, qT, Or', CL', CG', CT', h1.keep k2.kp (fun b hb => k2.block b (h1.lt hb) (fun hf => (h3 b hb).2.1 hf)), k1, fun b hb => ⟨(h3 b hb).1, fun hf => (hr b hf).2.2 hb, (h3 b hb).2.2⟩, fun b hb => ⟨(hr b hb).1, (hr b hb).2.1⟩, fun b hb => Nat.lt_of_lt_of_le (h5 b hb) k2.kp.size⟩,
    Below.trans h6 (k2.below (fun b hb => (h4 b hb).1) h6.size)⟩, fun b hb => k2.block b (h5 b hb) (fun hf => (h4 b hf).2 hb)⟩

theorem ls_nsend (hT : Tabs w0) (h : LS w0 P p pr Sn Sr w) (f t : Int) {m : Msg} {s : Sls} (hs : SlAt w0.heap.size w0 s m) (hsm : Small m) :
    Calls Tryd.prog 14 #[.pointer (some ⟨p, 0, none⟩), .int .i64 f, .int .i64 t, .agg (encG m s).toArray] w fun e w' => e = .returned (.int .i64 (sendS Sn f t m).2) ∧ LS w0 P p pr (sendS Sn f t m).1 Sr w' ∧ (∀ b, P b → w'.heap[b]? = w.heap[b]?) ∧ w.heap.size ≤ w'.heap.size := by
  have hos := h
  obtain ⟨⟨q, O, C, qL, qG, qT, Or, CL, CG, CT, h1, h2, h3, h4, h5⟩, h6⟩ := h
  have quiet : ∀ (x : Nt × Int), x.1 = Sn → ∀ (e : Ending) (w' : World), (e = .returned (.int .i64 x.2) ∧ Ge w w') → e = .returned (.int .i64 x.2) ∧ LS w0 P p pr x.1 Sr w' ∧ (∀ b, P b → w'.heap[b]? = w.heap[b]?) ∧ w.heap.size ≤ w'.heap.size :=
    fun x hx e w' ⟨he, g⟩ => ⟨he, by rw [hx]; exact hos.next g, fun b hb => g.block b (h5 b hb), g.size⟩
  unfold sendS
  rcases hi : Sn.idx f t with _ | j
  · exact (send_none h1 hi m s).mono (quiet (Sn, 1) rfl)
  dsimp only
  rcases chk_two m with hc | hc
  rotate_left
  · rw [if_neg (by omega)]
    exact (send_bad (hT.ge h6) h1 hi (hs.ge h6) hsm hc).mono (quiet (Sn, 130) rfl)
  rw [if_pos hc]
  obtain ⟨r, hr⟩ : ∃ r, Sn.rows[j]? = some r := ⟨_, List.getElem?_eq_getElem (by rw [h1.ok.len]; exact Nt.idx_lt hi)⟩
  rw [hr]
  dsimp only
  by_cases hf : r.l.length < Sn.room
  rotate_left
  · rw [if_neg hf]
    exact (send_full (hT.ge h6) h1 hi hr (hs.ge h6) hsm hc (by omega)).mono (quiet (Sn, 7) rfl)
  rw [if_pos hf]
  refine (send_ok (hT.ge h6) h1 hi hr (hs.ge h6) hsm hc hf).mono ?_
  rintro e w' ⟨rfl, O', C', k1, k2, k3⟩
  obtain ⟨e1, e2⟩ := ls_n h2 h3 h4 h5 h6 k1 k2 k3
  exact ⟨rfl, e1, e2, k2.kp.size⟩
theorem ls_rsend (h : LS w0 P p pr Sn Sr w) (hinv : InvS Sr) (f t : Int) {m : Msg} {s : Sls} (hs : SlAt w0.heap.size w0 s m) (hsm : Small m) :
    Calls Tryd.prog 15 #[.pointer (some ⟨pr, 0, none⟩), .int .i64 f, .int .i64 t, .agg (encG m s).toArray] w fun e w' => e = .returned (.int .i64 (sendS Sr f t m).2) ∧ LS w0 P p pr Sn (sendS Sr f t m).1 w' ∧ (∀ b, P b → w'.heap[b]? = w.heap[b]?) ∧ w.heap.size ≤ w'.heap.size := by
  have hos := h
  obtain ⟨⟨q, O, C, qL, qG, qT, Or, CL, CG, CT, h1, h2, h3, h4, h5⟩, h6⟩ := h
  have quiet : ∀ (x : Nt × Int), x.1 = Sr → ∀ (e : Ending) (w' : World), (e = .returned (.int .i64 x.2) ∧ Ge w w') → e = .returned (.int .i64 x.2) ∧ LS w0 P p pr Sn x.1 w' ∧ (∀ b, P b → w'.heap[b]? = w.heap[b]?) ∧ w.heap.size ≤ w'.heap.size :=
    fun x hx e w' ⟨he, g⟩ => ⟨he, by rw [hx]; exact hos.next g, fun b hb => g.block b (h5 b hb), g.size⟩
  unfold sendS
  rcases hi : Sr.idx f t with _ | j
  · exact (rsend_none h2 hi m s).mono (quiet (Sr, 1) rfl)
  dsimp only
  rcases chk_two m with hc | hc
  rotate_left
  · rw [if_neg (by omega)]
    exact (rsend_bad h2 hi (hs.ge h6) hsm hc).mono (quiet (Sr, 130) rfl)
  rw [if_pos hc]
  obtain ⟨r, hr⟩ : ∃ r, Sr.rows[j]? = some r := ⟨_, List.getElem?_eq_getElem (by rw [h2.ok.len]; exact Nt.idx_lt hi)⟩
  rw [hr]
  dsimp only
  by_cases hf : r.l.length < Sr.room
  rotate_left
  · rw [if_neg hf]
    exact (rsend_full h2 hi hr (hs.ge h6) hsm hc (by have := (hinv r (List.mem_of_getElem? hr)).1; omega)).mono (quiet (Sr, 7) rfl)
  rw [if_pos hf]
  refine (rsend_ok h2 hi hr (hs.ge h6) hsm hc hf).mono ?_
  rintro e w' ⟨rfl, O', CL', CG', k1, k2, k3⟩
  obtain ⟨e1, e2⟩ := ls_r h1 h3 h4 h5 h6 k1 k2 k3
  exact ⟨rfl, e1, e2, k2.kp.size⟩
theorem ls_ntake (h : LS w0 P p pr Sn Sr w) (f t : Int) :
    Calls Tryd.prog 13 #[.pointer (some ⟨p, 0, none⟩), .int .i64 f, .int .i64 t] w fun e w' => (∃ s', e = .returned (.tuple #[.agg (encG (takeS Sn f t).2.1 s').toArray, .int .i64 (takeS Sn f t).2.2]) ∧ SlAt w0.heap.size w' s' (takeS Sn f t).2.1) ∧ LS w0 P p pr (takeS Sn f t).1 Sr w' ∧ ∀ b, P b → w'.heap[b]? = w.heap[b]? := by
  have hos := h
  obtain ⟨⟨q, O, C, qL, qG, qT, Or, CL, CG, CT, h1, h2, h3, h4, h5⟩, h6⟩ := h
  have quiet : ∀ (x : Nt × Msg × Int), x.1 = Sn → x.2.1 = mzero → ∀ (e : Ending) (w' : World), (e = .returned (.tuple #[.agg (encG mzero nilS).toArray, .int .i64 x.2.2]) ∧ Ge w w') →
      (∃ s', e = .returned (.tuple #[.agg (encG x.2.1 s').toArray, .int .i64 x.2.2]) ∧ SlAt w0.heap.size w' s' x.2.1) ∧ LS w0 P p pr x.1 Sr w' ∧ ∀ b, P b → w'.heap[b]? = w.heap[b]? :=
    fun x hx hz e w' ⟨he, g⟩ => ⟨⟨nilS, by rw [hz]; exact he, by rw [hz]; exact nilS_at _ w' mzero⟩, by rw [hx]; exact hos.next g, fun b hb => g.block b (h5 b hb)⟩
  unfold takeS
  rcases hi : Sn.idx f t with _ | j
  · exact (take_none h1 hi).mono (quiet (Sn, mzero, 1) rfl rfl)
  dsimp only
  obtain ⟨r, hr⟩ : ∃ r, Sn.rows[j]? = some r := ⟨_, List.getElem?_eq_getElem (by rw [h1.ok.len]; exact Nt.idx_lt hi)⟩
  rw [hr]
  dsimp only
  rcases hl : r.l with _ | ⟨m, l⟩
  · exact (take_empty h1 hi hr hl).mono (quiet (Sn, mzero, 4) rfl rfl)
  refine (take_ok h1 hi hr hl).mono ?_
  rintro e w' ⟨a, ⟨C', k1⟩, k2⟩
  exact ⟨a, ls_n h2 h3 h4 h5 h6 k1 k2 (fun _ _ h => h)⟩
theorem ls_rtake (h : LS w0 P p pr Sn Sr w) (f t : Int) :
    Calls Tryd.prog 16 #[.pointer (some ⟨pr, 0, none⟩), .int .i64 f, .int .i64 t] w fun e w' => (∃ s', e = .returned (.tuple #[.agg (encG (takeS Sr f t).2.1 s').toArray, .int .i64 (takeS Sr f t).2.2]) ∧ SlAt w0.heap.size w' s' (takeS Sr f t).2.1) ∧ LS w0 P p pr Sn (takeS Sr f t).1 w' ∧ (∀ b, P b → w'.heap[b]? = w.heap[b]?) ∧ Kp w0.heap.size w w' := by
  have hos := h
  obtain ⟨⟨q, O, C, qL, qG, qT, Or, CL, CG, CT, h1, h2, h3, h4, h5⟩, h6⟩ := h
  have quiet : ∀ (x : Nt × Msg × Int), x.1 = Sr → x.2.1 = mzero → ∀ (e : Ending) (w' : World), (e = .returned (.tuple #[.agg (encG mzero nilS).toArray, .int .i64 x.2.2]) ∧ Ge w w') →
      (∃ s', e = .returned (.tuple #[.agg (encG x.2.1 s').toArray, .int .i64 x.2.2]) ∧ SlAt w0.heap.size w' s' x.2.1) ∧ LS w0 P p pr Sn x.1 w' ∧ (∀ b, P b → w'.heap[b]? = w.heap[b]?) ∧ Kp w0.heap.size w w' :=
    fun x hx hz e w' ⟨he, g⟩ => ⟨⟨nilS, by rw [hz]; exact he, by rw [hz]; exact nilS_at _ w' mzero⟩, by rw [hx]; exact hos.next g, fun b hb => g.block b (h5 b hb), g.kp _⟩
  unfold takeS
  rcases hi : Sr.idx f t with _ | j
  · exact (rtake_none h2 hi).mono (quiet (Sr, mzero, 1) rfl rfl)
  dsimp only
  obtain ⟨r, hr⟩ : ∃ r, Sr.rows[j]? = some r := ⟨_, List.getElem?_eq_getElem (by rw [h2.ok.len]; exact Nt.idx_lt hi)⟩
  rw [hr]
  dsimp only
  rcases hl : r.l with _ | ⟨m, l⟩
  · exact (rtake_empty h2 hi hr hl).mono (quiet (Sr, mzero, 4) rfl rfl)
  refine (rtake_ok h2 hi hr hl).mono ?_
  rintro e w' ⟨a, ⟨CL', CT', k1⟩, k2⟩
  obtain ⟨e1, e2⟩ := ls_r h1 h3 h4 h5 h6 k1 k2 (fun _ _ h => h)
  exact ⟨a, e1, e2, k2.kp⟩

/-- a net, its clone beside it, and the reference's -/
structure LS2 (w0 : World) (P : Nat → Prop) (p p' pr : Nat) (Sn Sr : Nt) (w : World) : Prop where
  out : ∃ q O C, NetC w0.heap.size w p q O Sn C ∧ LS w0 (fun b => P b ∨ FpC p q O b) p' pr Sn Sr w ∧ (∀ b, FpC p q O b → w0.heap.size ≤ b ∧ ¬ P b)
theorem ls_clone (h : LS w0 P p pr Sn Sr w) : Calls Tryd.prog 12 #[.pointer (some ⟨p, 0, none⟩)] w fun e w' => ∃ p', e = .returned (.pointer (some ⟨p', 0, none⟩)) ∧ LS2 w0 P p p' pr Sn Sr w' ∧ ∀ b, P b → w'.heap[b]? = w.heap[b]? := by
  obtain ⟨⟨q, O, C, qL, qG, qT, Or, CL, CG, CT, h1, h2, h3, h4, h5⟩, h6⟩ := h
  refine (nclone_any h1).mono ?_
  rintro e w' ⟨p', q', C', O', rfl, k1, k2, g⟩
  have hs := h6.size
  refine ⟨p', rfl, ⟨q, O, C, h1.ge g, ⟨⟨q', O', C', qL, qG, qT, Or, CL, CG, CT, k1, h2.ge g, fun b hb => ?_, fun b hb => ⟨(h4 b hb).1, fun h => h.elim (h4 b hb).2 (fun hf => (h3 b hf).2.1 hb)⟩, fun b hb => ?_⟩, h6.trans g⟩, fun b hb => ⟨(h3 b hb).1, (h3 b hb).2.2⟩⟩, fun b hb => g.block b (h5 b hb)⟩
  · have := k2 b hb
    exact ⟨by omega, fun hf => absurd (h2.lt hf) (by omega), fun hp => hp.elim (fun hp => absurd (h5 b hp) (by omega)) (fun hf => absurd (h1.lt hf) (by omega))⟩
  · rcases hb with hb | hb
    · exact Nat.lt_of_lt_of_le (h5 b hb) g.size
    · exact Nat.lt_of_lt_of_le (h1.lt hb) g.size
theorem ls_drop {p' : Nat} (h : LS2 w0 P p p' pr Sn Sr w) (hP : ∀ b, P b → b < w.heap.size) (f t : Int) :
    Calls Tryd.prog 13 #[.pointer (some ⟨p, 0, none⟩), .int .i64 f, .int .i64 t] w fun e w' => (∃ v, e = .returned v) ∧ LS w0 P p' pr Sn Sr w' ∧ ∀ b, P b → w'.heap[b]? = w.heap[b]? := by
  obtain ⟨q, O, C, h1, h2, h3⟩ := h
  have hweak : ∀ {w' : World}, LS w0 (fun b => P b ∨ FpC p q O b) p' pr Sn Sr w' → LS w0 P p' pr Sn Sr w' := fun h => by
    obtain ⟨⟨q', O', C', qL, qG, qT, Or, CL, CG, CT, k1, k2, k3, k4, k5⟩, k6⟩ := h
    exact ⟨⟨q', O', C', qL, qG, qT, Or, CL, CG, CT, k1, k2, fun b hb => ⟨(k3 b hb).1, (k3 b hb).2.1, fun hp => (k3 b hb).2.2 (.inl hp)⟩, fun b hb => ⟨(k4 b hb).1, fun hp => (k4 b hb).2 (.inl hp)⟩, fun b hb => k5 b (.inl hb)⟩, k6⟩
  have quiet : ∀ (v : Value) (e : Ending) (w' : World), (e = .returned v ∧ Ge w w') → (∃ v, e = .returned v) ∧ LS w0 P p' pr Sn Sr w' ∧ ∀ b, P b → w'.heap[b]? = w.heap[b]? :=
    fun v e w' ⟨he, g⟩ => ⟨⟨v, he⟩, hweak (h2.next g), fun b hb => g.block b (hP b hb)⟩
  rcases hi : Sn.idx f t with _ | j
  · exact (take_none h1 hi).mono (quiet _)
  obtain ⟨r, hr⟩ : ∃ r, Sn.rows[j]? = some r := ⟨_, List.getElem?_eq_getElem (by rw [h1.ok.len]; exact Nt.idx_lt hi)⟩
  rcases hl : r.l with _ | ⟨m, l⟩
  · exact (take_empty h1 hi hr hl).mono (quiet _)
  refine (take_ok h1 hi hr hl).mono ?_
  rintro e w' ⟨⟨s', he, _⟩, ⟨C', k1⟩, k2⟩
  obtain ⟨⟨q', O', C1, qL, qG, qT, Or, CL, CG, CT, n1, n2, n3, n4, n5⟩, n6⟩ := h2
  refine ⟨⟨_, he⟩, ⟨⟨q', O', C1, qL, qG, qT, Or, CL, CG, CT, n1.keep k2.kp (fun b hb => k2.block b (n1.lt hb) (fun hf => (n3 b hb).2.2 (.inr hf))), n2.keepF k2.kp (fun b hb => k2.block b (n2.lt hb) (fun hf => (n4 b hb).2 (.inr hf))), fun b hb => ⟨(n3 b hb).1, (n3 b hb).2.1, fun hp => (n3 b hb).2.2 (.inl hp)⟩, fun b hb => ⟨(n4 b hb).1, fun hp => (n4 b hb).2 (.inl hp)⟩, fun b hb => Nat.lt_of_lt_of_le (hP b hb) k2.kp.size⟩,
    Below.trans n6 (k2.below (fun b hb => (h3 b hb).1) n6.size)⟩, fun b hb => k2.block b (hP b hb) (fun hf => (h3 b hf).2 hb)⟩
theorem ls_same {S : Nt} (h : LS w0 P p pr S S w) (hinv : InvS S) (d : Dor) :
    Calls Tryd.prog 18 #[.pointer (some ⟨p, 0, none⟩), .pointer (some ⟨pr, 0, none⟩), .agg (encD d).toArray] w fun e w' => e = .returned (.bool true) ∧ Ge w w' := by
  obtain ⟨⟨q, O, C, qL, qG, qT, Or, CL, CG, CT, h1, h2, h3, h4, h5⟩, h6⟩ := h
  exact same_any h1 h2 (fun r hr => (hinv r hr).2) d
theorem ls_rnew {p q k room : Nat} {C : Array Value} (h1 : NetC w0.heap.size w p q (fun _ => none) ⟨k, room, zRows k⟩ C) (hg : Ge w0 w) (hp : w0.heap.size ≤ p) (hq : w0.heap.size ≤ q) (k1 : 1 ≤ k) (k2 : k ≤ 16) (r1 : 1 ≤ room) (r2 : room ≤ 64) :
    Calls Tryd.prog 10 #[.int .i64 (k : Int), .int .i64 (room : Int)] w fun e w' => ∃ pr, e = .returned (.tuple #[.pointer (some ⟨pr, 0, none⟩), .int .i64 0]) ∧ LS w0 (fun _ => False) p pr ⟨k, room, zRows k⟩ ⟨k, room, zRows k⟩ w' := by
  refine (rnew_ok hg.size k1 k2 r1 r2).mono ?_
  rintro e w' ⟨pr, qL, qG, qT, CL, CG, CT, rfl, n1, g, l1, l2, l3, l4⟩
  have hs := hg.size
  have hlt : ∀ b, FpR pr qL qG qT (fun _ => none) b → w.heap.size ≤ b := fun b hb => by
    rcases hb with rfl | rfl | rfl | rfl | hb
    · exact l1
    · exact l2
    · exact l3
    · exact l4
    · exact absurd rfl hb
  refine ⟨pr, rfl, ⟨q, _, C, qL, qG, qT, _, CL, CG, CT, h1.ge g, n1, fun b hb => ⟨?_, fun hf => ?_, fun h => h⟩, fun b hb => ⟨by have := hlt b hb; omega, fun h => h⟩, fun b hb => hb.elim⟩, hg.trans g⟩
  · rcases hb with rfl | rfl | hb
    · exact hp
    · exact hq
    · exact absurd rfl hb
  · have h1l := h1.lt hb
    have := hlt b hf
    omega
end Go.Proofs.YtmhibpmgnicolaaDoor
