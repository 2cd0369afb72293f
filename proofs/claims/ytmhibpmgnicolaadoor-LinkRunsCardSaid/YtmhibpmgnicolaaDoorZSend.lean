/-
  Send: a message is put into a link.
-/
import Derived.Test.YtmhibpmgnicolaaDoorZChain
import Derived.Test.YtmhibpmgnicolaaDoorCheckM
import Derived.BigQuiet
namespace Go.Proofs.YtmhibpmgnicolaaDoor
open Go.RowKit
attribute [local go_sem] Dr.upT

theorem chk_two (m : Msg) : chkM m = 0 ∨ chkM m = 130 := by
  have : chkM m = if (restM m).2 = true ∧ 0 ≤ m.ver ∧ (restM m).1 = bareM m then 0 else 130 := rfl
  rw [this]
  split
  · exact .inl rfl
  · exact .inr rfl

theorem send_no {w : World} {v : Value} (h : NoNet w v) (f t : Int) (m : Msg) (s : Sls) : Calls Tryd.prog 14 #[v, .int .i64 f, .int .i64 t, .agg (encG m s).toArray] w fun e w' => e = .returned (.int .i64 2) ∧ Ge w w' := by
  have HL := Lib.hid (fun w' (g : Ge w w') => link_no (h.ge g) f t)
  have hCS : (encG m s).toArray.size = 19 := rfl
  generalize (encG m s).toArray = CS at *
  obtain ⟨W2, hW2⟩ : ∃ x, x = w.alloc (.cells CS 45) := ⟨_, rfl⟩
  have GW := Lib.hid (show Ge w W2 by rw [hW2]; exact (Ge.refl w).alloc _)
  clear hCS h
  go_enter Tryd.func14, Tryd.ntmps14
  go_upto_region 1 with (fail)
  rw [← hW2]
  clear hW2
  go_wp2_with fail
  refine (HL.out _ GW.out).mono ?_
  rintro e w3 ⟨rfl, g3⟩
  have HG := Lib.hid (GW.out.trans g3)
  clear g3
  go_wp2
  go_returns
  exact ⟨rfl, HG.out⟩
theorem send_none {B : Nat} {w : World} {p q : Nat} {O : Nat → Option Nat} {S : Nt} {C : Array Value} (h : NetC B w p q O S C) {f t : Int} (hi : S.idx f t = none) (m : Msg) (s : Sls) :
    Calls Tryd.prog 14 #[.pointer (some ⟨p, 0, none⟩), .int .i64 f, .int .i64 t, .agg (encG m s).toArray] w fun e w' => e = .returned (.int .i64 1) ∧ Ge w w' := by
  have HL := Lib.hid (fun w' (g : Ge w w') => link_none (h.ge g) hi)
  have hCS : (encG m s).toArray.size = 19 := rfl
  generalize (encG m s).toArray = CS at *
  obtain ⟨W2, hW2⟩ : ∃ x, x = w.alloc (.cells CS 45) := ⟨_, rfl⟩
  have GW := Lib.hid (show Ge w W2 by rw [hW2]; exact (Ge.refl w).alloc _)
  clear hCS h
  go_enter Tryd.func14, Tryd.ntmps14
  go_upto_region 1 with (fail)
  rw [← hW2]
  clear hW2
  go_wp2_with fail
  refine (HL.out _ GW.out).mono ?_
  rintro e w3 ⟨rfl, g3⟩
  have HG := Lib.hid (GW.out.trans g3)
  clear g3
  go_wp2
  go_returns
  exact ⟨rfl, HG.out⟩

set_option maxHeartbeats 4000000 in
theorem send_bad {B : Nat} {w : World} (hT : Tabs w) {p q : Nat} {O : Nat → Option Nat} {S : Nt} {C : Array Value} (h : NetC B w p q O S C) {f t : Int} {j : Nat} (hi : S.idx f t = some j) {m : Msg} {s : Sls} (hs : SlAt B w s m) (hsm : Small m) (hc : chkM m = 130) :
    Calls Tryd.prog 14 #[.pointer (some ⟨p, 0, none⟩), .int .i64 f, .int .i64 t, .agg (encG m s).toArray] w fun e w' => e = .returned (.int .i64 130) ∧ Ge w w' := by
  have HL := Lib.hid (fun w' (g : Ge w w') => link_some (h.ge g) hi)
  have hBw : B ≤ w.heap.size := Nat.le_trans h.bp (Nat.le_of_lt h.net.lt)
  have HCK := Lib.hid (fun w' (g : Ge w w') => check_msg (hT.ge g) (hs.ge g) hsm (Nat.le_trans hBw g.size))
  rw [hc] at HCK
  have hCS : (encG m s).toArray.size = 19 := rfl
  clear hs
  generalize (encG m s).toArray = CS at *
  obtain ⟨W2, hW2⟩ : ∃ x, x = w.alloc (.cells CS 45) := ⟨_, rfl⟩
  have HX2 := Lib.hid (show Bx W2 w.heap.size 45 CS by rw [hW2]; exact Bx.new w 45 _ rfl)
  have GW := Lib.hid (show Ge w W2 by rw [hW2]; exact (Ge.refl w).alloc _)
  have HIC := Lib.hid (show (Tryd.prog.info? 45).map (·.size) = some CS.size by rw [hCS]; exact i45)
  clear hCS h hT hc hsm hBw
  go_enter Tryd.func14, Tryd.ntmps14
  go_upto_region 1 with (fail)
  rw [← hW2]
  clear hW2
  go_wp2_with fail
  refine (HL.out _ GW.out).mono ?_
  rintro e w3 ⟨rfl, g3⟩
  have HG := Lib.hid (GW.out.trans g3)
  have HX3 := Lib.hid (HX2.out.ge g3)
  clear g3
  go_wp2_with (refine wpList_load_row (by rfl) 45 (.tmp 7) (by rfl) w.heap.size (by rfl) 45 CS (0, 0) _ HX3.out Tryd.underlying45 rfl HIC.out ?_)
  refine (HCK.out _ HG.out).mono ?_
  rintro e w4 ⟨rfl, g4⟩
  have HG4 := Lib.hid (HG.out.trans g4)
  clear g4
  go_wp2
  go_returns
  exact ⟨rfl, HG4.out⟩

set_option maxHeartbeats 4000000 in
theorem send_full {B : Nat} {w : World} (hT : Tabs w) {p q : Nat} {O : Nat → Option Nat} {S : Nt} {C : Array Value} (h : NetC B w p q O S C) {f t : Int} {j : Nat} {r : Lk} (hi : S.idx f t = some j) (hr : S.rows[j]? = some r) {m : Msg} {s : Sls} (hs : SlAt B w s m) (hsm : Small m) (hc : chkM m = 0) (hfull : S.room ≤ r.l.length) :
    Calls Tryd.prog 14 #[.pointer (some ⟨p, 0, none⟩), .int .i64 f, .int .i64 t, .agg (encG m s).toArray] w fun e w' => e = .returned (.int .i64 7) ∧ Ge w w' := by
  have HL := Lib.hid (fun w' (g : Ge w w') => link_some (h.ge g) hi)
  have hBw : B ≤ w.heap.size := Nat.le_trans h.bp (Nat.le_of_lt h.net.lt)
  have HCK := Lib.hid (fun w' (g : Ge w w') => check_msg (hT.ge g) (hs.ge g) hsm (Nat.le_trans hBw g.size))
  rw [hc] at HCK
  have hCS : (encG m s).toArray.size = 19 := rfl
  have hC := h.row
  obtain ⟨v, x0, x1, x2, hrow⟩ := h.rows j r hr
  obtain ⟨A, cap, rfl, _⟩ := hrow
  have HX0 := Lib.hid (fun w' (g : Ge w w') => ((hC.ge g).cell _).trans x0)
  have HLT := Lib.hid (fun w' (g : Ge w w') => (hC.ge g).lt)
  have HN := Lib.hid (fun w' (g : Ge w w') => (h.net.ge g).cell)
  have HNL := Lib.hid (fun w' (g : Ge w w') => (h.net.ge g).lt)
  have u1 : decide ((S.room : Int) ≤ (r.l.length : Int)) = true := decide_eq_true (by omega)
  have u2 : decide (S.room ≤ r.l.length) = true := decide_eq_true hfull
  clear hs
  generalize (encG m s).toArray = CS at *
  generalize S.k = k at *
  generalize S.room = room at *
  generalize r.l.length = n at *
  obtain ⟨W2, hW2⟩ : ∃ x, x = w.alloc (.cells CS 45) := ⟨_, rfl⟩
  have HX2 := Lib.hid (show Bx W2 w.heap.size 45 CS by rw [hW2]; exact Bx.new w 45 _ rfl)
  have GW := Lib.hid (show Ge w W2 by rw [hW2]; exact (Ge.refl w).alloc _)
  have HIC := Lib.hid (show (Tryd.prog.info? 45).map (·.size) = some CS.size by rw [hCS]; exact i45)
  clear hCS h hT hc hsm hBw hr hC x0 x1 x2 hfull
  go_enter Tryd.func14, Tryd.ntmps14
  go_upto_region 1 with (fail)
  rw [← hW2]
  clear hW2
  go_wp2_with fail
  refine (HL.out _ GW.out).mono ?_
  rintro e w3 ⟨rfl, g3⟩
  have HG := Lib.hid (GW.out.trans g3)
  have HX3 := Lib.hid (HX2.out.ge g3)
  clear g3
  go_wp2_with (refine wpList_load_row (by rfl) 45 (.tmp 7) (by rfl) w.heap.size (by rfl) 45 CS (0, 0) _ HX3.out Tryd.underlying45 rfl HIC.out ?_)
  refine (HCK.out _ HG.out).mono ?_
  rintro e w4 ⟨rfl, g4⟩
  have HG4 := Lib.hid (HG.out.trans g4)
  have x0 := HX0.out w4 HG4.out
  have n1 := HLT.out w4 HG4.out
  have c0 := HN.out w4 HG4.out
  have n0 := HNL.out w4 HG4.out
  clear g4
  go_wp2
  go_quiet (fail)
  go_wp2
  go_returns
  exact ⟨rfl, HG4.out.drewN _⟩

/-- behind the store -/
structure Post (B n0 p q : Nat) (O : Nat → Option Nat) (S : Nt) (w : World) : Prop where
  out : ∃ O' C', NetC B w p q O' S C' ∧ ∀ b, b < n0 → FpC p q O' b → FpC p q O b
theorem Post.ge {B n0 p q : Nat} {O : Nat → Option Nat} {S : Nt} {w w' : World} (h : Post B n0 p q O S w) (g : Ge w w') : Post B n0 p q O S w' := by
  obtain ⟨O', C', h1, h2⟩ := h
  exact ⟨O', C', h1.ge g, h2⟩
def sentR (r : Lk) (m : Msg) : Lk := ⟨r.l ++ [m], wrap64 (r.sent + 1), r.taken⟩

set_option maxRecDepth 100000 in
set_option maxHeartbeats 8000000 in
theorem send_ok {B : Nat} {w : World} (hT : Tabs w) {p q : Nat} {O : Nat → Option Nat} {S : Nt} {C : Array Value} (h : NetC B w p q O S C) {f t : Int} {j : Nat} {r : Lk} (hi : S.idx f t = some j) (hr : S.rows[j]? = some r) {m : Msg} {s : Sls} (hs : SlAt B w s m) (hsm : Small m) (hc : chkM m = 0) (hroom : r.l.length < S.room) :
    Calls Tryd.prog 14 #[.pointer (some ⟨p, 0, none⟩), .int .i64 f, .int .i64 t, .agg (encG m s).toArray] w fun e w' => e = .returned (.int .i64 0) ∧
      ∃ O' C', NetC B w' p q O' { S with rows := S.rows.set j (sentR r m) } C' ∧ Nx B (FpC p q O) w w' ∧ ∀ b, b < w.heap.size → FpC p q O' b → FpC p q O b := by
  have HL := Lib.hid (fun w' (g : Ge w w') => link_some (h.ge g) hi)
  have hjl := Nt.idx_lt hi
  have hBw : B ≤ w.heap.size := Nat.le_trans h.bp (Nat.le_of_lt h.net.lt)
  have HCK := Lib.hid (fun w' (g : Ge w w') => check_msg (hT.ge g) (hs.ge g) hsm (Nat.le_trans hBw g.size))
  rw [hc] at HCK
  have HCL := Lib.hid (fun w' (k : Kp B w w') => clone_any (hs.kp k) hsm (Nat.le_trans hBw k.size))
  have hCS : (encG m s).toArray.size = 19 := rfl
  have hC := h.row
  have hl64 := h.ok.small r (List.mem_of_getElem? hr)
  have hr64 := h.ok.r2
  obtain ⟨v, x0, x1, x2, hrow⟩ := h.rows j r hr
  have HROW := Lib.hid hrow
  obtain ⟨A, cap, rfl, _⟩ := hrow
  have HX0 := Lib.hid x0
  have HX1 := Lib.hid x1
  have HX2' := Lib.hid x2
  have HH := Lib.hid (fun w' (g : Ge w w') => h.ge g)
  have HFL := Lib.hid (fun b (hb : FpC p q O b) => h.lt hb)
  have HN := Lib.hid (fun w' (g : Ge w w') => (h.net.ge g).cell)
  have HNL := Lib.hid (fun w' (g : Ge w w') => (h.net.ge g).lt)
  have HR := Lib.hid hr
  have HJ := Lib.hid hjl
  have HBW := Lib.hid hBw
  have u1 : decide ((S.room : Int) ≤ (r.l.length : Int)) = false := decide_eq_false (by omega)
  have u2 : decide (S.room ≤ r.l.length) = false := decide_eq_false (by omega)
  have HL64 := Lib.hid (show r.l.length + 1 ≤ 64 by omega)
  have HENC := Lib.hid (show (encG m s).toArray.size = 19 from rfl)
  clear hs
  generalize (encG m s).toArray = CS at *
  obtain ⟨W2, hW2⟩ : ∃ x, x = w.alloc (.cells CS 45) := ⟨_, rfl⟩
  have HB2 := Lib.hid (show Bx W2 w.heap.size 45 CS by rw [hW2]; exact Bx.new w 45 _ rfl)
  have GW := Lib.hid (show Ge w W2 by rw [hW2]; exact (Ge.refl w).alloc _)
  have HIC := Lib.hid (show (Tryd.prog.info? 45).map (·.size) = some CS.size by rw [hCS]; exact i45)
  clear hCS h hT hc hsm hBw hr hC x0 x1 x2 hroom hl64 hr64 hjl hi
  go_enter Tryd.func14, Tryd.ntmps14
  go_upto_region 1 with (fail)
  rw [← hW2]
  clear hW2
  go_wp2_with fail
  refine (HL.out _ GW.out).mono ?_
  rintro e w3 ⟨rfl, g3⟩
  have HG := Lib.hid (GW.out.trans g3)
  have HB3 := Lib.hid (HB2.out.ge g3)
  clear g3
  go_wp2_with (refine wpList_load_row (by rfl) 45 (.tmp 7) (by rfl) w.heap.size (by rfl) 45 CS (0, 0) _ HB3.out Tryd.underlying45 rfl HIC.out ?_)
  refine (HCK.out _ HG.out).mono ?_
  rintro e w4 ⟨rfl, g4⟩
  have HG4 := Lib.hid (HG.out.trans g4)
  have HB4 := Lib.hid (HB3.out.ge g4)
  have x0 : w4.cell? ⟨q, j * 3, none⟩ = _ := ((HH.out w4 HG4.out).row.cell _).trans HX0.out
  have n1 := (HH.out w4 HG4.out).row.lt
  have c0 := HN.out w4 HG4.out
  have n0 := HNL.out w4 HG4.out
  clear g4
  go_wp2
  go_quiet (fail)
  rename_i nq
  have HG5 := Lib.hid (HG4.out.drewN nq)
  have HB5 := Lib.hid (show Bx (w4.drewN nq) w.heap.size 45 CS from HB4.out)
  generalize w4.drewN nq = w5 at *
  clear x0 n1 c0 n0
  go_wp2
  have HNB := Lib.hid (show ¬ FpC p q O w.heap.size from fun hb => absurd (HFL.out _ hb) (by omega))
  have HF5 := Lib.hid (show ∀ b, w5.heap.size ≤ b → ¬ FpC p q O b from fun b h hb => absurd (HFL.out b hb) (by have := HG5.out.size; omega))
  refine Dr.wp_region_C (Nx B (FpC p q O)) [4, 8, 11] (fun w => NetC B w p q O S C) (rel_nx _ _) (by kernel_rfl) (by kernel_rfl) (by kernel_rfl) (fun _ _ g h => h.ge g) (HH.out _ HG5.out) ?_
  iterate 4 (apply Dr.wpC_det (hc := by rfl); · (intro u w7 hw hF; clear hF; go_simp; first | exact ⟨Ge.refl _, rfl⟩ | exact Ge.refl _ | rfl))
  refine Dr.wpC_chain (.slice A r.l.length cap) (fun w => NetC B w p q O S C) (by rfl) (fun _ _ g h => h.ge g) ?_ ?_
  · intro u w7 hw hF hS
    clear hF
    have x0 : w7.cell? ⟨q, j * 3, none⟩ = some (.slice A r.l.length cap) := (hS.row.cell _).trans HX0.out
    have HS := Lib.hid hS
    clear hS
    go_simp
    exact ⟨Nx.of_ge (Ge.refl _), HS.out⟩
  refine wpC_msg (.tmp 7) w.heap.size CS (by rfl) (by rfl) (by intro u; go_simp) (fun _ n => HB5.out.nx n HNB.out) HENC.out (by intro u; go_simp) ?_
  refine Dr.wpC_non (fun v w => ∃ s', v = .agg (encG m s').toArray ∧ SlAt B w s' m) (by rfl) (fun v w w' g h => by obtain ⟨s', e, h⟩ := h; exact ⟨s', e, h.kp g.kp⟩) ?_ ?_
  · intro u w7 hw hF
    clear hF
    go_simp
    refine (HCL.out w7 ((HG5.out.kp B).trans hw.kp)).mono ?_
    rintro e w8 ⟨s', rfl, h1, h2⟩
    exact ⟨_, rfl, h2, s', rfl, h1⟩
  refine Dr.wpC_non (fun v w => ∃ b1 s', v = .slice (some ⟨b1, 0, none⟩) 1 1 ∧ Bx w b1 45 (encG m s').toArray ∧ SlAt B w s' m ∧ ¬ FpC p q O b1) (by rfl) (fun v w w' g h => by obtain ⟨b1, s', e, h1, h2, h3⟩ := h; exact ⟨b1, s', e, h1.nx g h3, h2.kp g.kp, h3⟩) ?_ ?_
  · intro u w7 hw hF
    obtain ⟨s', e6, hsl⟩ : ∃ s', u 6 = .agg (encG m s').toArray ∧ SlAt B w7 s' m := hF 6 (by kernel_rfl)
    clear hF
    rw [if_pos (by rfl)]
    refine exec_one (x := .tmp 43) (by rfl) (CE := (encG m s').toArray) ?_ rfl ?_
    · go_simp
      all_goals exact e6
    · exact ⟨(Ge.refl _).alloc _, _, s', rfl, Bx.new _ _ _ rfl, hsl.ge ((Ge.refl _).alloc _), HF5.out _ hw.kp.size⟩
  refine Dr.wpC_chainV (fun v w' => Mid B w.heap.size p q O S C j (r.l ++ [m]) v w') (by rfl) (fun _ _ _ g h => h.ge g) ?_ ?_
  · intro u w7 hw hF hS
    obtain ⟨b1, s', e7, hb1, hsl, hnb⟩ : ∃ b1 s', u 7 = .slice (some ⟨b1, 0, none⟩) 1 1 ∧ Bx w7 b1 45 (encG m s').toArray ∧ SlAt B w7 s' m ∧ ¬ FpC p q O b1 := hF 7 (by kernel_rfl)
    clear hF
    have hrow7 : RowAt B w7 (.slice A r.l.length cap) r.l (fun g => O g = some j) := by
      obtain ⟨v', y0, _, _, hrw⟩ := hS.rows j r HR.out
      have e := HX0.out
      rw [y0] at e
      cases e
      exact hrw
    rw [if_pos (by rfl)]
    obtain ⟨v', w', hrun, h1, h2, h3, hbl, h4⟩ := app_row hrow7 (fun g hg => ⟨(hS.bO g j hg).1, (hS.bO g j hg).2.1⟩) (by have := HL64.out; omega) b1 m s' hb1 hsl 72
    refine exec_app (s := .tmp 41) (x := .tmp 44) (by rfl) (v := .slice A r.l.length cap) (sv := .slice (some ⟨b1, 0, none⟩) 1 1) ?_ ?_ hrun ⟨?_, ?_⟩
    · go_simp
    · go_simp
      all_goals exact e7
    · exact ⟨h3, fun b hb hn => h2 b hb (fun hg => hn (.inr (.inr (by rw [hg]; simp)))), hbl⟩
    · exact mid_app hS h1 h2 h3 h4 (by have := HG5.out.size; have := hw.kp.size; omega)
  iterate 2 (apply Dr.wpC_det (hc := by rfl); · (intro u w7 hw hF; clear hF; go_simp; first | exact ⟨Ge.refl _, rfl⟩ | exact Ge.refl _ | rfl))
  obtain ⟨S1, hS1⟩ : ∃ S1 : Nt, S1 = { S with rows := S.rows.set j ⟨r.l ++ [m], r.sent, r.taken⟩ } := ⟨_, rfl⟩
  have HS1 := Lib.hid hS1
  clear hS1
  refine wpC_store72 (.tmp 47) (.tmp 45) q (j * 3) 8 (Post B w.heap.size p q O S1) (by rfl) (fun _ _ g h => h.ge g) (by rfl) (by rfl) (by intro u; go_simp) (by intro u; go_simp) ?_ ?_
  · intro u w7 hw hS
    obtain ⟨O', h1, h2, ⟨A', n', c', e8⟩, h4⟩ : Mid B w.heap.size p q O S C j (r.l ++ [m]) (u 8) w7 := hS
    have hjs : j * 3 < C.size := by have := HJ.out; have := h1.sz; omega
    have x0 : w7.cell? ⟨q, j * 3, none⟩ = some (.slice A r.l.length cap) := (h1.row.cell _).trans HX0.out
    have f0 := h1.row.frozen (j * 3)
    have hst := h1.store HJ.out 0 (by omega) (u 8) (u 8) ⟨r.l ++ [m], r.sent, r.taken⟩ (by simpa using HL64.out) (by simp [hjs]) (by rw [Array.getElem?_setIfInBounds_ne (by omega)]; exact HX1.out) (by rw [Array.getElem?_setIfInBounds_ne (by omega)]; exact HX2'.out) h2
    have hkp := nx_set87 (F := FpC p q O) h1.row h1.bq (.inr (.inl rfl)) (j * 3) (u 8)
    rw [← HS1.out] at hst
    have HT := Lib.hid (show Post B w.heap.size p q O S1 (w7.setCell ⟨q, j * 3, none⟩ (u 8)) from
      ⟨O', _, hst, fun b hb hf => by
        rcases hf with hf | hf | hf
        · exact .inl hf
        · exact .inr (.inl hf)
        · exact .inr (.inr (h4 b hb hf))⟩)
    have HNX := Lib.hid (show Nx B (FpC p q O) w7 (w7.setCell ⟨q, j * 3, none⟩ (u 8)) from hkp)
    clear hst hkp h1 h2 h4
    rw [e8] at HT HNX
    exact ⟨A', n', c', _, e8, x0, f0, HNX.out, HT.out⟩
  intro u w7 hw hF hS
  clear hF
  have HNX := Lib.hid (show Nx B (FpC p q O) w w7 from (Nx.of_ge HG5.out).trans hw (fun _ _ h => h))
  obtain ⟨O', C', hn, hfp⟩ := hS
  rw [HS1.out] at hn
  obtain ⟨v', y0, y1, y2, hrw⟩ := hn.rows j ⟨r.l ++ [m], r.sent, r.taken⟩ (List.getElem?_set_self (by rw [show S.rows.length = S.k * S.k from (HH.out w (Ge.refl _)).ok.len]; exact HJ.out))
  have hjs : j * 3 + 1 < C'.size := by have := HJ.out; have : S.k * S.k * 3 ≤ C'.size := hn.sz; omega
  have x1 : w7.cell? ⟨q, j * 3 + 1, none⟩ = some (.int .i64 r.sent) := (hn.row.cell _).trans y1
  have f1 := hn.row.frozen (j * 3 + 1)
  have hst := (hn.part j).store HJ.out 1 (by omega) (.int .i64 (wrap64 (r.sent + 1))) v' (sentR r m) (by simpa [sentR] using HL64.out) (by rw [Array.getElem?_setIfInBounds_ne (by omega)]; exact y0) (by simp [hjs, sentR]) (by rw [Array.getElem?_setIfInBounds_ne (by omega)]; exact y2) hrw
  have hkp := nx_set87 (F := FpC p q O) hn.row hn.bq (.inr (.inl rfl)) (j * 3 + 1) (.int .i64 (wrap64 (r.sent + 1)))
  have HST := Lib.hid (show NetC B (w7.setCell ⟨q, j * 3 + 1, none⟩ (.int .i64 (wrap64 (r.sent + 1)))) p q O' { S with rows := S.rows.set j (sentR r m) } _ by simpa using hst)
  have HN2 := Lib.hid (show Nx B (FpC p q O) w (w7.setCell ⟨q, j * 3 + 1, none⟩ (.int .i64 (wrap64 (r.sent + 1)))) from
    HNX.out.trans (F' := FpC p q O) hkp (fun _ _ h => h))
  have HFP := Lib.hid hfp
  clear hn hfp hst hkp hrw y0 y1 y2 hw
  simp only [Act.put, List.setIfInBounds_toArray, List.set_cons_zero, List.set_cons_succ]
  go_wp2
  go_returns
  exact ⟨rfl, O', _, HST.out, HN2.out, HFP.out⟩
end Go.Proofs.YtmhibpmgnicolaaDoor
