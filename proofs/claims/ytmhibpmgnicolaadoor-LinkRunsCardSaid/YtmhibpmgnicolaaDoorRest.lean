/-
  What a message's kind does not use, and whether what it uses may be: rest.
-/
import Derived.Test.YtmhibpmgnicolaaDoorBare
namespace Go.Proofs.YtmhibpmgnicolaaDoor
open Go.RowKit
attribute [local go_sem] Dr.upT

def RestOut (B : Nat) (w : World) (m : Msg) (e : Ending) (w' : World) : Prop := ∃ s', e = .returned (.tuple #[.agg (encG (restM m).1 s').toArray, .bool (restM m).2]) ∧ SlAt B w' s' (restM m).1 ∧ Ge w w'

set_option maxRecDepth 100000 in
set_option maxHeartbeats 16000000 in
theorem rest4 {B : Nat} {w : World} {s : Sls} {m : Msg} (h : SlAt B w s m) (hs : Small m) (hB : B ≤ w.heap.size) (hk : m.kind = 4) :
    Calls Tryd.prog 51 #[.agg (encG m s).toArray] w (RestOut B w m) := by
  have HSL := Lib.hid h
  obtain ⟨kd, ve, p1, p2, ⟨te, td, t0, t1, t2, t3⟩, rl, cl, dl, pl, ml, cu, el, ye, wy⟩ := m
  obtain ⟨sr, sc, sd, sp, sm, se⟩ := s
  obtain ⟨h1, h2, h3, h4, h5, h6⟩ := h
  obtain ⟨l1, l2, l3, l4, l4n, l5, l6⟩ := hs
  dsimp only at h1 h2 h3 h4 h5 h6 l1 l2 l3 l4 l4n l5 l6 hk
  obtain ⟨Ar, cr, rfl⟩ := h1.form
  obtain ⟨Ac, cc, rfl⟩ := h2.form
  obtain ⟨Ad, cd, rfl⟩ := h3.form
  obtain ⟨Ap, cp, rfl⟩ := h4.form
  obtain ⟨Am, cm, rfl⟩ := h5.form
  obtain ⟨Ae, ce, rfl⟩ := h6.form
  clear h1 h2 h3 h4 h5 h6 l4n
  subst hk
  simp only [encG]
  obtain ⟨W2, hW2⟩ : ∃ x, x = (w.alloc (.cells #[.int .i64 4, .int .i64 ve, .int .i64 p1, .int .i64 p2, .int .i64 te, .int .i64 td, .int .i64 t0, .int .i64 t1, .int .i64 t2, .int .i64 t3, .slice Ar rl.length cr, .slice Ac cl.length cc, .slice Ad dl.length cd, .slice Ap pl.length cp, .slice Am ml.length cm, .int .i64 cu, .slice Ae el.length ce, .bool ye, .int .i64 wy] 45)).alloc (.cells #[.int .i64 0, .int .i64 0, .int .i64 0, .int .i64 0, .int .i64 0, .int .i64 0, .int .i64 0, .int .i64 0, .int .i64 0, .int .i64 0, .slice none 0 0, .slice none 0 0, .slice none 0 0, .slice none 0 0, .slice none 0 0, .int .i64 0, .slice none 0 0, .bool false, .int .i64 0] 45) := ⟨_, rfl⟩
  have X0 : Bx W2 w.heap.size 45 #[.int .i64 4, .int .i64 ve, .int .i64 p1, .int .i64 p2, .int .i64 te, .int .i64 td, .int .i64 t0, .int .i64 t1, .int .i64 t2, .int .i64 t3, .slice Ar rl.length cr, .slice Ac cl.length cc, .slice Ad dl.length cd, .slice Ap pl.length cp, .slice Am ml.length cm, .int .i64 cu, .slice Ae el.length ce, .bool ye, .int .i64 wy] := by rw [hW2]; exact (Bx.new w 45 _ rfl).alloc _
  have X1 : Bx W2 (w.heap.size + 1) 45 #[.int .i64 0, .int .i64 0, .int .i64 0, .int .i64 0, .int .i64 0, .int .i64 0, .int .i64 0, .int .i64 0, .int .i64 0, .int .i64 0, .slice none 0 0, .slice none 0 0, .slice none 0 0, .slice none 0 0, .slice none 0 0, .int .i64 0, .slice none 0 0, .bool false, .int .i64 0] := by rw [hW2]; exact Bx.new _ 45 _ (by simp)
  have GW := Lib.hid (show Ge w W2 by rw [hW2]; exact ((Ge.refl w).alloc _).alloc _)
  have HX0 := Lib.hid X0
  have HX1 := Lib.hid X1
  have HI := Lib.hid i45
  have c0 := X0.cell
  have f0 := X0.frozen
  have n0 := X0.lt
  have qRM : restM ⟨4, ve, p1, p2, ⟨te, td, t0, t1, t2, t3⟩, rl, cl, dl, pl, ml, cu, el, ye, wy⟩ = (⟨4, ve, p1, p2, ⟨te, td, t0, t1, t2, t3⟩, rl, cl, dl, pl, ml, cu, el, ye, wy⟩, true) := by unfold restM; simp
  have QRM := Lib.hid qRM
  clear qRM X0 X1
  go_enter Tryd.func51, Tryd.ntmps51
  go_upto_region 1 with (fail)
  rw [← hW2]
  clear hW2
  go_upto_region 17 with (fail)
  have g4 := GW.out
  have z4 := HX1.out
  have y4 : Bx W2 w.heap.size 45 #[.int .i64 4, .int .i64 ve, .int .i64 p1, .int .i64 p2, .int .i64 te, .int .i64 td, .int .i64 t0, .int .i64 t1, .int .i64 t2, .int .i64 t3, .slice Ar rl.length cr, .slice Ac cl.length cc, .slice Ad dl.length cd, .slice Ap pl.length cp, .slice Am ml.length cm, .int .i64 cu, .slice Ae el.length ce, .bool ye, .int .i64 wy] := HX0.out
  have kk : Kp B W2 W2 := Kp.refl B _
  obtain ⟨CE, hCE⟩ : ∃ c : Array Value, c = #[.int .i64 4, .int .i64 ve, .int .i64 p1, .int .i64 p2, .int .i64 te, .int .i64 td, .int .i64 t0, .int .i64 t1, .int .i64 t2, .int .i64 t3, .slice Ar rl.length cr, .slice Ac cl.length cc, .slice Ad dl.length cd, .slice Ap pl.length cp, .slice Am ml.length cm, .int .i64 cu, .slice Ae el.length ce, .bool ye, .int .i64 wy] := ⟨_, rfl⟩
  rw [← hCE] at y4
  have HY4 := Lib.hid y4
  have HZ4 := Lib.hid z4
  have HG4 := Lib.hid g4
  have HKK := Lib.hid kk
  have HCE := Lib.hid hCE
  have hs19 : CE.size = 19 := by rw [hCE]; rfl
  have HS19 := Lib.hid hs19
  have HIC := Lib.hid (show (Tryd.prog.info? 45).map (·.size) = some CE.size by rw [hs19]; exact i45)
  have HTH := Lib.hid (show W2.there (w.heap.size + 1) 0 CE.size from by rw [hs19]; exact z4.there)
  have HONE := Lib.hid (show CE.all (fun v => v.oneCell') = true by rw [hCE]; simp [Value.oneCell'])
  clear y4 z4 g4 kk hCE hs19 c0 f0 n0
  go_wp2_with (first | (refine wpList_load_row (by rfl) 45 (.tmp 1) (by rfl) w.heap.size (by rfl) 45 CE (0, 0) _ HY4.out Tryd.underlying45 rfl HIC.out ?_) | (refine wpList_store_mid (by rfl) 45 (.tmp 2) (.tmp 57) (by rfl) (w.heap.size + 1) 0 CE (by rfl) (by rfl) HTH.out HIC.out HONE.out ?_; generalize hW6 : W2.setCells (w.heap.size + 1) 0 CE.toList = W6; have HW6 := Lib.hid hW6; clear hW6))
  have z6 := HZ4.out.fill CE.toList (by rw [Array.length_toList, HS19.out]; rfl)
  have k6 := HKK.out.trans (Kp.sets (by decide) (by omega) CE.toList 0 HZ4.out)
  have g6 : Ge w (W2.setCells (w.heap.size + 1) 0 CE.toList) := below_sets (by omega) _ _ _ HG4.out
  rw [HW6.out] at z6 k6 g6
  have z7 : Bx W6 (w.heap.size + 1) 45 CE := z6
  refine bodyPost_ret (v := .tuple #[.agg CE, .bool (true)]) (results_msg_tmp Tryd.results51 _ W6 (w.heap.size + 1) CE _ rfl z7 HS19.out rfl) rfl ?_
  have hS := (HSL.out.ge GW.out).kp k6
  refine ⟨⟨.slice Ar rl.length cr, .slice Ac cl.length cc, .slice Ad dl.length cd, .slice Ap pl.length cp, .slice Am ml.length cm, .slice Ae el.length ce⟩, ?_, ?_, g6⟩
  · rw [QRM.out, HCE.out]; rfl
  · rw [QRM.out]; exact ⟨hS.r, hS.c, hS.d, hS.p, hS.mv, hS.e⟩

set_option maxRecDepth 100000 in
set_option maxHeartbeats 16000000 in
theorem restN {B : Nat} {w : World} {s : Sls} {m : Msg} (h : SlAt B w s m) (hs : Small m) (hB : B ≤ w.heap.size) (hk : m.kind ≠ 1 ∧ m.kind ≠ 2 ∧ m.kind ≠ 3 ∧ m.kind ≠ 4 ∧ m.kind ≠ 6 ∧ m.kind ≠ 5) :
    Calls Tryd.prog 51 #[.agg (encG m s).toArray] w (RestOut B w m) := by
  have HSL := Lib.hid h
  obtain ⟨kd, ve, p1, p2, ⟨te, td, t0, t1, t2, t3⟩, rl, cl, dl, pl, ml, cu, el, ye, wy⟩ := m
  obtain ⟨sr, sc, sd, sp, sm, se⟩ := s
  obtain ⟨h1, h2, h3, h4, h5, h6⟩ := h
  obtain ⟨l1, l2, l3, l4, l4n, l5, l6⟩ := hs
  dsimp only at h1 h2 h3 h4 h5 h6 l1 l2 l3 l4 l4n l5 l6 hk
  obtain ⟨Ar, cr, rfl⟩ := h1.form
  obtain ⟨Ac, cc, rfl⟩ := h2.form
  obtain ⟨Ad, cd, rfl⟩ := h3.form
  obtain ⟨Ap, cp, rfl⟩ := h4.form
  obtain ⟨Am, cm, rfl⟩ := h5.form
  obtain ⟨Ae, ce, rfl⟩ := h6.form
  clear h1 h2 h3 h4 h5 h6 l4n
  obtain ⟨j1, j2, j3, j4, j6, j5⟩ := hk
  have i1 : (kd == 1) = false := by simpa using j1
  have i2 : (kd == 2) = false := by simpa using j2
  have i3 : (kd == 3) = false := by simpa using j3
  have i4 : (kd == 4) = false := by simpa using j4
  have i6 : (kd == 6) = false := by simpa using j6
  have i5 : (kd == 5) = false := by simpa using j5
  simp only [encG]
  obtain ⟨W2, hW2⟩ : ∃ x, x = (w.alloc (.cells #[.int .i64 kd, .int .i64 ve, .int .i64 p1, .int .i64 p2, .int .i64 te, .int .i64 td, .int .i64 t0, .int .i64 t1, .int .i64 t2, .int .i64 t3, .slice Ar rl.length cr, .slice Ac cl.length cc, .slice Ad dl.length cd, .slice Ap pl.length cp, .slice Am ml.length cm, .int .i64 cu, .slice Ae el.length ce, .bool ye, .int .i64 wy] 45)).alloc (.cells #[.int .i64 0, .int .i64 0, .int .i64 0, .int .i64 0, .int .i64 0, .int .i64 0, .int .i64 0, .int .i64 0, .int .i64 0, .int .i64 0, .slice none 0 0, .slice none 0 0, .slice none 0 0, .slice none 0 0, .slice none 0 0, .int .i64 0, .slice none 0 0, .bool false, .int .i64 0] 45) := ⟨_, rfl⟩
  have X0 : Bx W2 w.heap.size 45 #[.int .i64 kd, .int .i64 ve, .int .i64 p1, .int .i64 p2, .int .i64 te, .int .i64 td, .int .i64 t0, .int .i64 t1, .int .i64 t2, .int .i64 t3, .slice Ar rl.length cr, .slice Ac cl.length cc, .slice Ad dl.length cd, .slice Ap pl.length cp, .slice Am ml.length cm, .int .i64 cu, .slice Ae el.length ce, .bool ye, .int .i64 wy] := by rw [hW2]; exact (Bx.new w 45 _ rfl).alloc _
  have X1 : Bx W2 (w.heap.size + 1) 45 #[.int .i64 0, .int .i64 0, .int .i64 0, .int .i64 0, .int .i64 0, .int .i64 0, .int .i64 0, .int .i64 0, .int .i64 0, .int .i64 0, .slice none 0 0, .slice none 0 0, .slice none 0 0, .slice none 0 0, .slice none 0 0, .int .i64 0, .slice none 0 0, .bool false, .int .i64 0] := by rw [hW2]; exact Bx.new _ 45 _ (by simp)
  have GW := Lib.hid (show Ge w W2 by rw [hW2]; exact ((Ge.refl w).alloc _).alloc _)
  have HX0 := Lib.hid X0
  have HX1 := Lib.hid X1
  have HI := Lib.hid i45
  have c0 := X0.cell
  have f0 := X0.frozen
  have n0 := X0.lt
  have qRM : restM ⟨kd, ve, p1, p2, ⟨te, td, t0, t1, t2, t3⟩, rl, cl, dl, pl, ml, cu, el, ye, wy⟩ = (⟨kd, ve, p1, p2, ⟨te, td, t0, t1, t2, t3⟩, rl, cl, dl, pl, ml, cu, el, ye, wy⟩, false) := by unfold restM; simp [j1, j2, j3, j4, j5, j6]
  have QRM := Lib.hid qRM
  clear qRM X0 X1 j1 j2 j3 j4 j5 j6
  go_enter Tryd.func51, Tryd.ntmps51
  go_upto_region 1 with (fail)
  rw [← hW2]
  clear hW2
  go_upto_region 24 with (fail)
  have g4 := GW.out
  have z4 := HX1.out
  have y4 : Bx W2 w.heap.size 45 #[.int .i64 kd, .int .i64 ve, .int .i64 p1, .int .i64 p2, .int .i64 te, .int .i64 td, .int .i64 t0, .int .i64 t1, .int .i64 t2, .int .i64 t3, .slice Ar rl.length cr, .slice Ac cl.length cc, .slice Ad dl.length cd, .slice Ap pl.length cp, .slice Am ml.length cm, .int .i64 cu, .slice Ae el.length ce, .bool ye, .int .i64 wy] := HX0.out
  have kk : Kp B W2 W2 := Kp.refl B _
  obtain ⟨CE, hCE⟩ : ∃ c : Array Value, c = #[.int .i64 kd, .int .i64 ve, .int .i64 p1, .int .i64 p2, .int .i64 te, .int .i64 td, .int .i64 t0, .int .i64 t1, .int .i64 t2, .int .i64 t3, .slice Ar rl.length cr, .slice Ac cl.length cc, .slice Ad dl.length cd, .slice Ap pl.length cp, .slice Am ml.length cm, .int .i64 cu, .slice Ae el.length ce, .bool ye, .int .i64 wy] := ⟨_, rfl⟩
  rw [← hCE] at y4
  have HY4 := Lib.hid y4
  have HZ4 := Lib.hid z4
  have HG4 := Lib.hid g4
  have HKK := Lib.hid kk
  have HCE := Lib.hid hCE
  have hs19 : CE.size = 19 := by rw [hCE]; rfl
  have HS19 := Lib.hid hs19
  have HIC := Lib.hid (show (Tryd.prog.info? 45).map (·.size) = some CE.size by rw [hs19]; exact i45)
  have HTH := Lib.hid (show W2.there (w.heap.size + 1) 0 CE.size from by rw [hs19]; exact z4.there)
  have HONE := Lib.hid (show CE.all (fun v => v.oneCell') = true by rw [hCE]; simp [Value.oneCell'])
  clear y4 z4 g4 kk hCE hs19 c0 f0 n0
  go_wp2_with (first | (refine wpList_load_row (by rfl) 45 (.tmp 1) (by rfl) w.heap.size (by rfl) 45 CE (0, 0) _ HY4.out Tryd.underlying45 rfl HIC.out ?_) | (refine wpList_store_mid (by rfl) 45 (.tmp 2) (.tmp 84) (by rfl) (w.heap.size + 1) 0 CE (by rfl) (by rfl) HTH.out HIC.out HONE.out ?_; generalize hW6 : W2.setCells (w.heap.size + 1) 0 CE.toList = W6; have HW6 := Lib.hid hW6; clear hW6))
  have z6 := HZ4.out.fill CE.toList (by rw [Array.length_toList, HS19.out]; rfl)
  have k6 := HKK.out.trans (Kp.sets (by decide) (by omega) CE.toList 0 HZ4.out)
  have g6 : Ge w (W2.setCells (w.heap.size + 1) 0 CE.toList) := below_sets (by omega) _ _ _ HG4.out
  rw [HW6.out] at z6 k6 g6
  have z7 : Bx W6 (w.heap.size + 1) 45 CE := z6
  refine bodyPost_ret (v := .tuple #[.agg CE, .bool (false)]) (results_msg_tmp Tryd.results51 _ W6 (w.heap.size + 1) CE _ rfl z7 HS19.out rfl) rfl ?_
  have hS := (HSL.out.ge GW.out).kp k6
  refine ⟨⟨.slice Ar rl.length cr, .slice Ac cl.length cc, .slice Ad dl.length cd, .slice Ap pl.length cp, .slice Am ml.length cm, .slice Ae el.length ce⟩, ?_, ?_, g6⟩
  · rw [QRM.out, HCE.out]; rfl
  · rw [QRM.out]; exact ⟨hS.r, hS.c, hS.d, hS.p, hS.mv, hS.e⟩

set_option maxRecDepth 100000 in
set_option maxHeartbeats 16000000 in
theorem rest2 {B : Nat} {w : World} {s : Sls} {m : Msg} (h : SlAt B w s m) (hs : Small m) (hB : B ≤ w.heap.size) (hk : m.kind = 2) :
    Calls Tryd.prog 51 #[.agg (encG m s).toArray] w (RestOut B w m) := by
  have HSL := Lib.hid h
  obtain ⟨kd, ve, p1, p2, ⟨te, td, t0, t1, t2, t3⟩, rl, cl, dl, pl, ml, cu, el, ye, wy⟩ := m
  obtain ⟨sr, sc, sd, sp, sm, se⟩ := s
  obtain ⟨h1, h2, h3, h4, h5, h6⟩ := h
  obtain ⟨l1, l2, l3, l4, l4n, l5, l6⟩ := hs
  dsimp only at h1 h2 h3 h4 h5 h6 l1 l2 l3 l4 l4n l5 l6 hk
  have HC := Lib.hid (fun w' (g : Ge w w') => goodsC (h2.ge g) l2)
  obtain ⟨Ar, cr, rfl⟩ := h1.form
  obtain ⟨Ac, cc, rfl⟩ := h2.form
  obtain ⟨Ad, cd, rfl⟩ := h3.form
  obtain ⟨Ap, cp, rfl⟩ := h4.form
  obtain ⟨Am, cm, rfl⟩ := h5.form
  obtain ⟨Ae, ce, rfl⟩ := h6.form
  clear h1 h2 h3 h4 h5 h6 l4n
  subst hk
  simp only [encG]
  obtain ⟨W2, hW2⟩ : ∃ x, x = (w.alloc (.cells #[.int .i64 2, .int .i64 ve, .int .i64 p1, .int .i64 p2, .int .i64 te, .int .i64 td, .int .i64 t0, .int .i64 t1, .int .i64 t2, .int .i64 t3, .slice Ar rl.length cr, .slice Ac cl.length cc, .slice Ad dl.length cd, .slice Ap pl.length cp, .slice Am ml.length cm, .int .i64 cu, .slice Ae el.length ce, .bool ye, .int .i64 wy] 45)).alloc (.cells #[.int .i64 0, .int .i64 0, .int .i64 0, .int .i64 0, .int .i64 0, .int .i64 0, .int .i64 0, .int .i64 0, .int .i64 0, .int .i64 0, .slice none 0 0, .slice none 0 0, .slice none 0 0, .slice none 0 0, .slice none 0 0, .int .i64 0, .slice none 0 0, .bool false, .int .i64 0] 45) := ⟨_, rfl⟩
  have X0 : Bx W2 w.heap.size 45 #[.int .i64 2, .int .i64 ve, .int .i64 p1, .int .i64 p2, .int .i64 te, .int .i64 td, .int .i64 t0, .int .i64 t1, .int .i64 t2, .int .i64 t3, .slice Ar rl.length cr, .slice Ac cl.length cc, .slice Ad dl.length cd, .slice Ap pl.length cp, .slice Am ml.length cm, .int .i64 cu, .slice Ae el.length ce, .bool ye, .int .i64 wy] := by rw [hW2]; exact (Bx.new w 45 _ rfl).alloc _
  have X1 : Bx W2 (w.heap.size + 1) 45 #[.int .i64 0, .int .i64 0, .int .i64 0, .int .i64 0, .int .i64 0, .int .i64 0, .int .i64 0, .int .i64 0, .int .i64 0, .int .i64 0, .slice none 0 0, .slice none 0 0, .slice none 0 0, .slice none 0 0, .slice none 0 0, .int .i64 0, .slice none 0 0, .bool false, .int .i64 0] := by rw [hW2]; exact Bx.new _ 45 _ (by simp)
  have GW := Lib.hid (show Ge w W2 by rw [hW2]; exact ((Ge.refl w).alloc _).alloc _)
  have HX0 := Lib.hid X0
  have HX1 := Lib.hid X1
  have HI := Lib.hid i45
  have c0 := X0.cell
  have f0 := X0.frozen
  have n0 := X0.lt
  have qRM : restM ⟨2, ve, p1, p2, ⟨te, td, t0, t1, t2, t3⟩, rl, cl, dl, pl, ml, cu, el, ye, wy⟩ = (⟨2, ve, p1, p2, ⟨te, td, t0, t1, t2, t3⟩, rl, [], dl, pl, ml, cu, el, ye, wy⟩, goodC cl) := by unfold restM; simp
  have QRM := Lib.hid qRM
  clear qRM X0 X1
  go_enter Tryd.func51, Tryd.ntmps51
  go_upto_region 1 with (fail)
  rw [← hW2]
  clear hW2
  generalize goodC cl = gq at *
  go_wp2_with fail
  refine (HC.out _ GW.out).mono ?_
  rintro e w3 ⟨rfl, hg3⟩
  have HY3 := Lib.hid (HX0.out.ge hg3)
  have HZ3 := Lib.hid (HX1.out.ge hg3)
  have G3 := Lib.hid (GW.out.trans hg3)
  have c3 := HY3.out.cell
  have f3 := HY3.out.frozen
  have n3 := HY3.out.lt
  clear hg3 c0 f0 n0
  go_upto_region 13 with (fail)
  obtain ⟨W4, hW4⟩ : ∃ x, x = (w3.setCell ⟨w.heap.size, 11, none⟩ (.slice none 0 0)) := ⟨_, rfl⟩
  have b0 := Bx.set (HY3.out) 11 (.slice none 0 0)
  have k0 := Kp.set (HY3.out) (by decide) hB 11 (.slice none 0 0)
  have g4 : Ge w (w3.setCell ⟨w.heap.size, 11, none⟩ (.slice none 0 0)) := Below.setCell (G3.out) (Nat.le_refl _) (.slice none 0 0)
  have z4 := Bx.set_ne (b' := w.heap.size) (HZ3.out) 11 (.slice none 0 0) (by omega)
  have y4 : Bx (w3.setCell ⟨w.heap.size, 11, none⟩ (.slice none 0 0)) w.heap.size 45 #[.int .i64 2, .int .i64 ve, .int .i64 p1, .int .i64 p2, .int .i64 te, .int .i64 td, .int .i64 t0, .int .i64 t1, .int .i64 t2, .int .i64 t3, .slice Ar rl.length cr, .slice none 0 0, .slice Ad dl.length cd, .slice Ap pl.length cp, .slice Am ml.length cm, .int .i64 cu, .slice Ae el.length ce, .bool ye, .int .i64 wy] := by
    have q := b0
    simp only [List.setIfInBounds_toArray, List.set_cons_zero, List.set_cons_succ] at q
    exact q
  have kk : Kp B w3 (w3.setCell ⟨w.heap.size, 11, none⟩ (.slice none 0 0)) := k0
  rw [← hW4] at g4 z4 y4 kk ⊢
  clear hW4 b0 k0
  obtain ⟨CE, hCE⟩ : ∃ c : Array Value, c = #[.int .i64 2, .int .i64 ve, .int .i64 p1, .int .i64 p2, .int .i64 te, .int .i64 td, .int .i64 t0, .int .i64 t1, .int .i64 t2, .int .i64 t3, .slice Ar rl.length cr, .slice none 0 0, .slice Ad dl.length cd, .slice Ap pl.length cp, .slice Am ml.length cm, .int .i64 cu, .slice Ae el.length ce, .bool ye, .int .i64 wy] := ⟨_, rfl⟩
  rw [← hCE] at y4
  have HY4 := Lib.hid y4
  have HZ4 := Lib.hid z4
  have HG4 := Lib.hid g4
  have HKK := Lib.hid kk
  have HCE := Lib.hid hCE
  have hs19 : CE.size = 19 := by rw [hCE]; rfl
  have HS19 := Lib.hid hs19
  have HIC := Lib.hid (show (Tryd.prog.info? 45).map (·.size) = some CE.size by rw [hs19]; exact i45)
  have HTH := Lib.hid (show W4.there (w.heap.size + 1) 0 CE.size from by rw [hs19]; exact z4.there)
  have HONE := Lib.hid (show CE.all (fun v => v.oneCell') = true by rw [hCE]; simp [Value.oneCell'])
  clear y4 z4 g4 kk hCE hs19 c3 f3 n3
  go_wp2_with (first | (refine wpList_load_row (by rfl) 45 (.tmp 1) (by rfl) w.heap.size (by rfl) 45 CE (0, 0) _ HY4.out Tryd.underlying45 rfl HIC.out ?_) | (refine wpList_store_mid (by rfl) 45 (.tmp 2) (.tmp 42) (by rfl) (w.heap.size + 1) 0 CE (by rfl) (by rfl) HTH.out HIC.out HONE.out ?_; generalize hW6 : W4.setCells (w.heap.size + 1) 0 CE.toList = W6; have HW6 := Lib.hid hW6; clear hW6))
  have z6 := HZ4.out.fill CE.toList (by rw [Array.length_toList, HS19.out]; rfl)
  have k6 := HKK.out.trans (Kp.sets (by decide) (by omega) CE.toList 0 HZ4.out)
  have g6 : Ge w (W4.setCells (w.heap.size + 1) 0 CE.toList) := below_sets (by omega) _ _ _ HG4.out
  rw [HW6.out] at z6 k6 g6
  have z7 : Bx W6 (w.heap.size + 1) 45 CE := z6
  refine bodyPost_ret (v := .tuple #[.agg CE, .bool (gq)]) (results_msg_tmp Tryd.results51 _ W6 (w.heap.size + 1) CE _ rfl z7 HS19.out rfl) rfl ?_
  have hS := (HSL.out.ge G3.out).kp k6
  refine ⟨⟨.slice Ar rl.length cr, .slice none 0 0, .slice Ad dl.length cd, .slice Ap pl.length cp, .slice Am ml.length cm, .slice Ae el.length ce⟩, ?_, ?_, g6⟩
  · rw [QRM.out, HCE.out]; rfl
  · rw [QRM.out]; exact ⟨hS.r, LAt.nil _ _ _ _ _, hS.d, hS.p, hS.mv, hS.e⟩

set_option maxRecDepth 100000 in
set_option maxHeartbeats 16000000 in
theorem rest3a {B : Nat} {w : World} {s : Sls} {m : Msg} (h : SlAt B w s m) (hs : Small m) (hB : B ≤ w.heap.size) (hk : m.kind = 3) (hc : m.cut < 0) :
    Calls Tryd.prog 51 #[.agg (encG m s).toArray] w (RestOut B w m) := by
  have HSL := Lib.hid h
  obtain ⟨kd, ve, p1, p2, ⟨te, td, t0, t1, t2, t3⟩, rl, cl, dl, pl, ml, cu, el, ye, wy⟩ := m
  obtain ⟨sr, sc, sd, sp, sm, se⟩ := s
  obtain ⟨h1, h2, h3, h4, h5, h6⟩ := h
  obtain ⟨l1, l2, l3, l4, l4n, l5, l6⟩ := hs
  dsimp only at h1 h2 h3 h4 h5 h6 l1 l2 l3 l4 l4n l5 l6 hk
  obtain ⟨Ar, cr, rfl⟩ := h1.form
  obtain ⟨Ac, cc, rfl⟩ := h2.form
  obtain ⟨Ad, cd, rfl⟩ := h3.form
  obtain ⟨Ap, cp, rfl⟩ := h4.form
  obtain ⟨Am, cm, rfl⟩ := h5.form
  obtain ⟨Ae, ce, rfl⟩ := h6.form
  clear h1 h2 h3 h4 h5 h6 l4n
  dsimp only at hc
  subst hk
  have u1 : decide (0 ≤ cu) = false := decide_eq_false (by omega)
  clear hc
  simp only [encG]
  obtain ⟨W2, hW2⟩ : ∃ x, x = (w.alloc (.cells #[.int .i64 3, .int .i64 ve, .int .i64 p1, .int .i64 p2, .int .i64 te, .int .i64 td, .int .i64 t0, .int .i64 t1, .int .i64 t2, .int .i64 t3, .slice Ar rl.length cr, .slice Ac cl.length cc, .slice Ad dl.length cd, .slice Ap pl.length cp, .slice Am ml.length cm, .int .i64 cu, .slice Ae el.length ce, .bool ye, .int .i64 wy] 45)).alloc (.cells #[.int .i64 0, .int .i64 0, .int .i64 0, .int .i64 0, .int .i64 0, .int .i64 0, .int .i64 0, .int .i64 0, .int .i64 0, .int .i64 0, .slice none 0 0, .slice none 0 0, .slice none 0 0, .slice none 0 0, .slice none 0 0, .int .i64 0, .slice none 0 0, .bool false, .int .i64 0] 45) := ⟨_, rfl⟩
  have X0 : Bx W2 w.heap.size 45 #[.int .i64 3, .int .i64 ve, .int .i64 p1, .int .i64 p2, .int .i64 te, .int .i64 td, .int .i64 t0, .int .i64 t1, .int .i64 t2, .int .i64 t3, .slice Ar rl.length cr, .slice Ac cl.length cc, .slice Ad dl.length cd, .slice Ap pl.length cp, .slice Am ml.length cm, .int .i64 cu, .slice Ae el.length ce, .bool ye, .int .i64 wy] := by rw [hW2]; exact (Bx.new w 45 _ rfl).alloc _
  have X1 : Bx W2 (w.heap.size + 1) 45 #[.int .i64 0, .int .i64 0, .int .i64 0, .int .i64 0, .int .i64 0, .int .i64 0, .int .i64 0, .int .i64 0, .int .i64 0, .int .i64 0, .slice none 0 0, .slice none 0 0, .slice none 0 0, .slice none 0 0, .slice none 0 0, .int .i64 0, .slice none 0 0, .bool false, .int .i64 0] := by rw [hW2]; exact Bx.new _ 45 _ (by simp)
  have GW := Lib.hid (show Ge w W2 by rw [hW2]; exact ((Ge.refl w).alloc _).alloc _)
  have HX0 := Lib.hid X0
  have HX1 := Lib.hid X1
  have HI := Lib.hid i45
  have c0 := X0.cell
  have f0 := X0.frozen
  have n0 := X0.lt
  have qRM : restM ⟨3, ve, p1, p2, ⟨te, td, t0, t1, t2, t3⟩, rl, cl, dl, pl, ml, cu, el, ye, wy⟩ = (⟨3, ve, p1, p2, ⟨te, td, t0, t1, t2, t3⟩, rl, cl, [], [], [], 0, el, ye, wy⟩, false) := by unfold restM; simp [u1]
  have QRM := Lib.hid qRM
  clear qRM X0 X1
  go_enter Tryd.func51, Tryd.ntmps51
  go_upto_region 1 with (fail)
  rw [← hW2]
  clear hW2
  go_upto_region 16 with (fail)
  obtain ⟨W4, hW4⟩ : ∃ x, x = ((((W2.setCell ⟨w.heap.size, 12, none⟩ (.slice none 0 0)).setCell ⟨w.heap.size, 13, none⟩ (.slice none 0 0)).setCell ⟨w.heap.size, 14, none⟩ (.slice none 0 0)).setCell ⟨w.heap.size, 15, none⟩ (.int .i64 0)) := ⟨_, rfl⟩
  have b0 := Bx.set (HX0.out) 12 (.slice none 0 0)
  have k0 := Kp.set (HX0.out) (by decide) hB 12 (.slice none 0 0)
  have b1 := Bx.set (b0) 13 (.slice none 0 0)
  have k1 := k0.trans (Kp.set (b0) (by decide) hB 13 (.slice none 0 0))
  have b2 := Bx.set (b1) 14 (.slice none 0 0)
  have k2 := k1.trans (Kp.set (b1) (by decide) hB 14 (.slice none 0 0))
  have b3 := Bx.set (b2) 15 (.int .i64 0)
  have k3 := k2.trans (Kp.set (b2) (by decide) hB 15 (.int .i64 0))
  have g4 : Ge w ((((W2.setCell ⟨w.heap.size, 12, none⟩ (.slice none 0 0)).setCell ⟨w.heap.size, 13, none⟩ (.slice none 0 0)).setCell ⟨w.heap.size, 14, none⟩ (.slice none 0 0)).setCell ⟨w.heap.size, 15, none⟩ (.int .i64 0)) := Below.setCell (Below.setCell (Below.setCell (Below.setCell (GW.out) (Nat.le_refl _) (.slice none 0 0)) (Nat.le_refl _) (.slice none 0 0)) (Nat.le_refl _) (.slice none 0 0)) (Nat.le_refl _) (.int .i64 0)
  have z4 := Bx.set_ne (b' := w.heap.size) (Bx.set_ne (b' := w.heap.size) (Bx.set_ne (b' := w.heap.size) (Bx.set_ne (b' := w.heap.size) (HX1.out) 12 (.slice none 0 0) (by omega)) 13 (.slice none 0 0) (by omega)) 14 (.slice none 0 0) (by omega)) 15 (.int .i64 0) (by omega)
  have y4 : Bx ((((W2.setCell ⟨w.heap.size, 12, none⟩ (.slice none 0 0)).setCell ⟨w.heap.size, 13, none⟩ (.slice none 0 0)).setCell ⟨w.heap.size, 14, none⟩ (.slice none 0 0)).setCell ⟨w.heap.size, 15, none⟩ (.int .i64 0)) w.heap.size 45 #[.int .i64 3, .int .i64 ve, .int .i64 p1, .int .i64 p2, .int .i64 te, .int .i64 td, .int .i64 t0, .int .i64 t1, .int .i64 t2, .int .i64 t3, .slice Ar rl.length cr, .slice Ac cl.length cc, .slice none 0 0, .slice none 0 0, .slice none 0 0, .int .i64 0, .slice Ae el.length ce, .bool ye, .int .i64 wy] := by
    have q := b3
    simp only [List.setIfInBounds_toArray, List.set_cons_zero, List.set_cons_succ] at q
    exact q
  have kk : Kp B W2 ((((W2.setCell ⟨w.heap.size, 12, none⟩ (.slice none 0 0)).setCell ⟨w.heap.size, 13, none⟩ (.slice none 0 0)).setCell ⟨w.heap.size, 14, none⟩ (.slice none 0 0)).setCell ⟨w.heap.size, 15, none⟩ (.int .i64 0)) := k3
  rw [← hW4] at g4 z4 y4 kk ⊢
  clear hW4 b0 k0 b1 k1 b2 k2 b3 k3
  obtain ⟨CE, hCE⟩ : ∃ c : Array Value, c = #[.int .i64 3, .int .i64 ve, .int .i64 p1, .int .i64 p2, .int .i64 te, .int .i64 td, .int .i64 t0, .int .i64 t1, .int .i64 t2, .int .i64 t3, .slice Ar rl.length cr, .slice Ac cl.length cc, .slice none 0 0, .slice none 0 0, .slice none 0 0, .int .i64 0, .slice Ae el.length ce, .bool ye, .int .i64 wy] := ⟨_, rfl⟩
  rw [← hCE] at y4
  have HY4 := Lib.hid y4
  have HZ4 := Lib.hid z4
  have HG4 := Lib.hid g4
  have HKK := Lib.hid kk
  have HCE := Lib.hid hCE
  have hs19 : CE.size = 19 := by rw [hCE]; rfl
  have HS19 := Lib.hid hs19
  have HIC := Lib.hid (show (Tryd.prog.info? 45).map (·.size) = some CE.size by rw [hs19]; exact i45)
  have HTH := Lib.hid (show W4.there (w.heap.size + 1) 0 CE.size from by rw [hs19]; exact z4.there)
  have HONE := Lib.hid (show CE.all (fun v => v.oneCell') = true by rw [hCE]; simp [Value.oneCell'])
  clear y4 z4 g4 kk hCE hs19 c0 f0 n0
  go_wp2_with (first | (refine wpList_load_row (by rfl) 45 (.tmp 1) (by rfl) w.heap.size (by rfl) 45 CE (0, 0) _ HY4.out Tryd.underlying45 rfl HIC.out ?_) | (refine wpList_store_mid (by rfl) 45 (.tmp 2) (.tmp 55) (by rfl) (w.heap.size + 1) 0 CE (by rfl) (by rfl) HTH.out HIC.out HONE.out ?_; generalize hW6 : W4.setCells (w.heap.size + 1) 0 CE.toList = W6; have HW6 := Lib.hid hW6; clear hW6))
  have z6 := HZ4.out.fill CE.toList (by rw [Array.length_toList, HS19.out]; rfl)
  have k6 := HKK.out.trans (Kp.sets (by decide) (by omega) CE.toList 0 HZ4.out)
  have g6 : Ge w (W4.setCells (w.heap.size + 1) 0 CE.toList) := below_sets (by omega) _ _ _ HG4.out
  rw [HW6.out] at z6 k6 g6
  have z7 : Bx W6 (w.heap.size + 1) 45 CE := z6
  refine bodyPost_ret (v := .tuple #[.agg CE, .bool (false)]) (results_msg_tmp Tryd.results51 _ W6 (w.heap.size + 1) CE _ rfl z7 HS19.out rfl) rfl ?_
  have hS := (HSL.out.ge GW.out).kp k6
  refine ⟨⟨.slice Ar rl.length cr, .slice Ac cl.length cc, .slice none 0 0, .slice none 0 0, .slice none 0 0, .slice Ae el.length ce⟩, ?_, ?_, g6⟩
  · rw [QRM.out, HCE.out]; rfl
  · rw [QRM.out]; exact ⟨hS.r, hS.c, LAt.nil _ _ _ _ _, PutAt.nil _ _, LAt.nil _ _ _ _ _, hS.e⟩

set_option maxRecDepth 100000 in
set_option maxHeartbeats 16000000 in
theorem rest3b {B : Nat} {w : World} {s : Sls} {m : Msg} (h : SlAt B w s m) (hs : Small m) (hB : B ≤ w.heap.size) (hk : m.kind = 3) (hc : 1073741824 < m.cut) :
    Calls Tryd.prog 51 #[.agg (encG m s).toArray] w (RestOut B w m) := by
  have HSL := Lib.hid h
  obtain ⟨kd, ve, p1, p2, ⟨te, td, t0, t1, t2, t3⟩, rl, cl, dl, pl, ml, cu, el, ye, wy⟩ := m
  obtain ⟨sr, sc, sd, sp, sm, se⟩ := s
  obtain ⟨h1, h2, h3, h4, h5, h6⟩ := h
  obtain ⟨l1, l2, l3, l4, l4n, l5, l6⟩ := hs
  dsimp only at h1 h2 h3 h4 h5 h6 l1 l2 l3 l4 l4n l5 l6 hk
  obtain ⟨Ar, cr, rfl⟩ := h1.form
  obtain ⟨Ac, cc, rfl⟩ := h2.form
  obtain ⟨Ad, cd, rfl⟩ := h3.form
  obtain ⟨Ap, cp, rfl⟩ := h4.form
  obtain ⟨Am, cm, rfl⟩ := h5.form
  obtain ⟨Ae, ce, rfl⟩ := h6.form
  clear h1 h2 h3 h4 h5 h6 l4n
  dsimp only at hc
  subst hk
  have u1 : decide (0 ≤ cu) = true := decide_eq_true (by omega)
  have u2 : decide (cu ≤ 1073741824) = false := decide_eq_false (by omega)
  clear hc
  simp only [encG]
  obtain ⟨W2, hW2⟩ : ∃ x, x = (w.alloc (.cells #[.int .i64 3, .int .i64 ve, .int .i64 p1, .int .i64 p2, .int .i64 te, .int .i64 td, .int .i64 t0, .int .i64 t1, .int .i64 t2, .int .i64 t3, .slice Ar rl.length cr, .slice Ac cl.length cc, .slice Ad dl.length cd, .slice Ap pl.length cp, .slice Am ml.length cm, .int .i64 cu, .slice Ae el.length ce, .bool ye, .int .i64 wy] 45)).alloc (.cells #[.int .i64 0, .int .i64 0, .int .i64 0, .int .i64 0, .int .i64 0, .int .i64 0, .int .i64 0, .int .i64 0, .int .i64 0, .int .i64 0, .slice none 0 0, .slice none 0 0, .slice none 0 0, .slice none 0 0, .slice none 0 0, .int .i64 0, .slice none 0 0, .bool false, .int .i64 0] 45) := ⟨_, rfl⟩
  have X0 : Bx W2 w.heap.size 45 #[.int .i64 3, .int .i64 ve, .int .i64 p1, .int .i64 p2, .int .i64 te, .int .i64 td, .int .i64 t0, .int .i64 t1, .int .i64 t2, .int .i64 t3, .slice Ar rl.length cr, .slice Ac cl.length cc, .slice Ad dl.length cd, .slice Ap pl.length cp, .slice Am ml.length cm, .int .i64 cu, .slice Ae el.length ce, .bool ye, .int .i64 wy] := by rw [hW2]; exact (Bx.new w 45 _ rfl).alloc _
  have X1 : Bx W2 (w.heap.size + 1) 45 #[.int .i64 0, .int .i64 0, .int .i64 0, .int .i64 0, .int .i64 0, .int .i64 0, .int .i64 0, .int .i64 0, .int .i64 0, .int .i64 0, .slice none 0 0, .slice none 0 0, .slice none 0 0, .slice none 0 0, .slice none 0 0, .int .i64 0, .slice none 0 0, .bool false, .int .i64 0] := by rw [hW2]; exact Bx.new _ 45 _ (by simp)
  have GW := Lib.hid (show Ge w W2 by rw [hW2]; exact ((Ge.refl w).alloc _).alloc _)
  have HX0 := Lib.hid X0
  have HX1 := Lib.hid X1
  have HI := Lib.hid i45
  have c0 := X0.cell
  have f0 := X0.frozen
  have n0 := X0.lt
  have qRM : restM ⟨3, ve, p1, p2, ⟨te, td, t0, t1, t2, t3⟩, rl, cl, dl, pl, ml, cu, el, ye, wy⟩ = (⟨3, ve, p1, p2, ⟨te, td, t0, t1, t2, t3⟩, rl, cl, [], [], [], 0, el, ye, wy⟩, false) := by unfold restM; simp [u1, u2]
  have QRM := Lib.hid qRM
  clear qRM X0 X1
  go_enter Tryd.func51, Tryd.ntmps51
  go_upto_region 1 with (fail)
  rw [← hW2]
  clear hW2
  go_upto_region 16 with (fail)
  obtain ⟨W4, hW4⟩ : ∃ x, x = ((((W2.setCell ⟨w.heap.size, 12, none⟩ (.slice none 0 0)).setCell ⟨w.heap.size, 13, none⟩ (.slice none 0 0)).setCell ⟨w.heap.size, 14, none⟩ (.slice none 0 0)).setCell ⟨w.heap.size, 15, none⟩ (.int .i64 0)) := ⟨_, rfl⟩
  have b0 := Bx.set (HX0.out) 12 (.slice none 0 0)
  have k0 := Kp.set (HX0.out) (by decide) hB 12 (.slice none 0 0)
  have b1 := Bx.set (b0) 13 (.slice none 0 0)
  have k1 := k0.trans (Kp.set (b0) (by decide) hB 13 (.slice none 0 0))
  have b2 := Bx.set (b1) 14 (.slice none 0 0)
  have k2 := k1.trans (Kp.set (b1) (by decide) hB 14 (.slice none 0 0))
  have b3 := Bx.set (b2) 15 (.int .i64 0)
  have k3 := k2.trans (Kp.set (b2) (by decide) hB 15 (.int .i64 0))
  have g4 : Ge w ((((W2.setCell ⟨w.heap.size, 12, none⟩ (.slice none 0 0)).setCell ⟨w.heap.size, 13, none⟩ (.slice none 0 0)).setCell ⟨w.heap.size, 14, none⟩ (.slice none 0 0)).setCell ⟨w.heap.size, 15, none⟩ (.int .i64 0)) := Below.setCell (Below.setCell (Below.setCell (Below.setCell (GW.out) (Nat.le_refl _) (.slice none 0 0)) (Nat.le_refl _) (.slice none 0 0)) (Nat.le_refl _) (.slice none 0 0)) (Nat.le_refl _) (.int .i64 0)
  have z4 := Bx.set_ne (b' := w.heap.size) (Bx.set_ne (b' := w.heap.size) (Bx.set_ne (b' := w.heap.size) (Bx.set_ne (b' := w.heap.size) (HX1.out) 12 (.slice none 0 0) (by omega)) 13 (.slice none 0 0) (by omega)) 14 (.slice none 0 0) (by omega)) 15 (.int .i64 0) (by omega)
  have y4 : Bx ((((W2.setCell ⟨w.heap.size, 12, none⟩ (.slice none 0 0)).setCell ⟨w.heap.size, 13, none⟩ (.slice none 0 0)).setCell ⟨w.heap.size, 14, none⟩ (.slice none 0 0)).setCell ⟨w.heap.size, 15, none⟩ (.int .i64 0)) w.heap.size 45 #[.int .i64 3, .int .i64 ve, .int .i64 p1, .int .i64 p2, .int .i64 te, .int .i64 td, .int .i64 t0, .int .i64 t1, .int .i64 t2, .int .i64 t3, .slice Ar rl.length cr, .slice Ac cl.length cc, .slice none 0 0, .slice none 0 0, .slice none 0 0, .int .i64 0, .slice Ae el.length ce, .bool ye, .int .i64 wy] := by
    have q := b3
    simp only [List.setIfInBounds_toArray, List.set_cons_zero, List.set_cons_succ] at q
    exact q
  have kk : Kp B W2 ((((W2.setCell ⟨w.heap.size, 12, none⟩ (.slice none 0 0)).setCell ⟨w.heap.size, 13, none⟩ (.slice none 0 0)).setCell ⟨w.heap.size, 14, none⟩ (.slice none 0 0)).setCell ⟨w.heap.size, 15, none⟩ (.int .i64 0)) := k3
  rw [← hW4] at g4 z4 y4 kk ⊢
  clear hW4 b0 k0 b1 k1 b2 k2 b3 k3
  obtain ⟨CE, hCE⟩ : ∃ c : Array Value, c = #[.int .i64 3, .int .i64 ve, .int .i64 p1, .int .i64 p2, .int .i64 te, .int .i64 td, .int .i64 t0, .int .i64 t1, .int .i64 t2, .int .i64 t3, .slice Ar rl.length cr, .slice Ac cl.length cc, .slice none 0 0, .slice none 0 0, .slice none 0 0, .int .i64 0, .slice Ae el.length ce, .bool ye, .int .i64 wy] := ⟨_, rfl⟩
  rw [← hCE] at y4
  have HY4 := Lib.hid y4
  have HZ4 := Lib.hid z4
  have HG4 := Lib.hid g4
  have HKK := Lib.hid kk
  have HCE := Lib.hid hCE
  have hs19 : CE.size = 19 := by rw [hCE]; rfl
  have HS19 := Lib.hid hs19
  have HIC := Lib.hid (show (Tryd.prog.info? 45).map (·.size) = some CE.size by rw [hs19]; exact i45)
  have HTH := Lib.hid (show W4.there (w.heap.size + 1) 0 CE.size from by rw [hs19]; exact z4.there)
  have HONE := Lib.hid (show CE.all (fun v => v.oneCell') = true by rw [hCE]; simp [Value.oneCell'])
  clear y4 z4 g4 kk hCE hs19 c0 f0 n0
  go_wp2_with (first | (refine wpList_load_row (by rfl) 45 (.tmp 1) (by rfl) w.heap.size (by rfl) 45 CE (0, 0) _ HY4.out Tryd.underlying45 rfl HIC.out ?_) | (refine wpList_store_mid (by rfl) 45 (.tmp 2) (.tmp 55) (by rfl) (w.heap.size + 1) 0 CE (by rfl) (by rfl) HTH.out HIC.out HONE.out ?_; generalize hW6 : W4.setCells (w.heap.size + 1) 0 CE.toList = W6; have HW6 := Lib.hid hW6; clear hW6))
  have z6 := HZ4.out.fill CE.toList (by rw [Array.length_toList, HS19.out]; rfl)
  have k6 := HKK.out.trans (Kp.sets (by decide) (by omega) CE.toList 0 HZ4.out)
  have g6 : Ge w (W4.setCells (w.heap.size + 1) 0 CE.toList) := below_sets (by omega) _ _ _ HG4.out
  rw [HW6.out] at z6 k6 g6
  have z7 : Bx W6 (w.heap.size + 1) 45 CE := z6
  refine bodyPost_ret (v := .tuple #[.agg CE, .bool (false)]) (results_msg_tmp Tryd.results51 _ W6 (w.heap.size + 1) CE _ rfl z7 HS19.out rfl) rfl ?_
  have hS := (HSL.out.ge GW.out).kp k6
  refine ⟨⟨.slice Ar rl.length cr, .slice Ac cl.length cc, .slice none 0 0, .slice none 0 0, .slice none 0 0, .slice Ae el.length ce⟩, ?_, ?_, g6⟩
  · rw [QRM.out, HCE.out]; rfl
  · rw [QRM.out]; exact ⟨hS.r, hS.c, LAt.nil _ _ _ _ _, PutAt.nil _ _, LAt.nil _ _ _ _ _, hS.e⟩

set_option maxRecDepth 100000 in
set_option maxHeartbeats 16000000 in
theorem rest3c {B : Nat} {w : World} {s : Sls} {m : Msg} (h : SlAt B w s m) (hs : Small m) (hB : B ≤ w.heap.size) (hk : m.kind = 3) (hc : 0 ≤ m.cut ∧ m.cut ≤ 1073741824) :
    Calls Tryd.prog 51 #[.agg (encG m s).toArray] w (RestOut B w m) := by
  have HSL := Lib.hid h
  obtain ⟨kd, ve, p1, p2, ⟨te, td, t0, t1, t2, t3⟩, rl, cl, dl, pl, ml, cu, el, ye, wy⟩ := m
  obtain ⟨sr, sc, sd, sp, sm, se⟩ := s
  obtain ⟨h1, h2, h3, h4, h5, h6⟩ := h
  obtain ⟨l1, l2, l3, l4, l4n, l5, l6⟩ := hs
  dsimp only at h1 h2 h3 h4 h5 h6 l1 l2 l3 l4 l4n l5 l6 hk
  obtain ⟨Ar, cr, rfl⟩ := h1.form
  obtain ⟨Ac, cc, rfl⟩ := h2.form
  obtain ⟨Ad, cd, rfl⟩ := h3.form
  obtain ⟨Ap, cp, rfl⟩ := h4.form
  obtain ⟨Am, cm, rfl⟩ := h5.form
  obtain ⟨Ae, ce, rfl⟩ := h6.form
  clear h1 h2 h3 h4 h5 h6 l4n
  dsimp only at hc
  subst hk
  have u1 : decide (0 ≤ cu) = true := decide_eq_true hc.1
  have u2 : decide (cu ≤ 1073741824) = true := decide_eq_true hc.2
  clear hc
  simp only [encG]
  obtain ⟨W2, hW2⟩ : ∃ x, x = (w.alloc (.cells #[.int .i64 3, .int .i64 ve, .int .i64 p1, .int .i64 p2, .int .i64 te, .int .i64 td, .int .i64 t0, .int .i64 t1, .int .i64 t2, .int .i64 t3, .slice Ar rl.length cr, .slice Ac cl.length cc, .slice Ad dl.length cd, .slice Ap pl.length cp, .slice Am ml.length cm, .int .i64 cu, .slice Ae el.length ce, .bool ye, .int .i64 wy] 45)).alloc (.cells #[.int .i64 0, .int .i64 0, .int .i64 0, .int .i64 0, .int .i64 0, .int .i64 0, .int .i64 0, .int .i64 0, .int .i64 0, .int .i64 0, .slice none 0 0, .slice none 0 0, .slice none 0 0, .slice none 0 0, .slice none 0 0, .int .i64 0, .slice none 0 0, .bool false, .int .i64 0] 45) := ⟨_, rfl⟩
  have X0 : Bx W2 w.heap.size 45 #[.int .i64 3, .int .i64 ve, .int .i64 p1, .int .i64 p2, .int .i64 te, .int .i64 td, .int .i64 t0, .int .i64 t1, .int .i64 t2, .int .i64 t3, .slice Ar rl.length cr, .slice Ac cl.length cc, .slice Ad dl.length cd, .slice Ap pl.length cp, .slice Am ml.length cm, .int .i64 cu, .slice Ae el.length ce, .bool ye, .int .i64 wy] := by rw [hW2]; exact (Bx.new w 45 _ rfl).alloc _
  have X1 : Bx W2 (w.heap.size + 1) 45 #[.int .i64 0, .int .i64 0, .int .i64 0, .int .i64 0, .int .i64 0, .int .i64 0, .int .i64 0, .int .i64 0, .int .i64 0, .int .i64 0, .slice none 0 0, .slice none 0 0, .slice none 0 0, .slice none 0 0, .slice none 0 0, .int .i64 0, .slice none 0 0, .bool false, .int .i64 0] := by rw [hW2]; exact Bx.new _ 45 _ (by simp)
  have GW := Lib.hid (show Ge w W2 by rw [hW2]; exact ((Ge.refl w).alloc _).alloc _)
  have HX0 := Lib.hid X0
  have HX1 := Lib.hid X1
  have HI := Lib.hid i45
  have c0 := X0.cell
  have f0 := X0.frozen
  have n0 := X0.lt
  have qRM : restM ⟨3, ve, p1, p2, ⟨te, td, t0, t1, t2, t3⟩, rl, cl, dl, pl, ml, cu, el, ye, wy⟩ = (⟨3, ve, p1, p2, ⟨te, td, t0, t1, t2, t3⟩, rl, cl, [], [], [], 0, el, ye, wy⟩, true) := by unfold restM; simp [u1, u2]
  have QRM := Lib.hid qRM
  clear qRM X0 X1
  go_enter Tryd.func51, Tryd.ntmps51
  go_upto_region 1 with (fail)
  rw [← hW2]
  clear hW2
  go_upto_region 16 with (fail)
  obtain ⟨W4, hW4⟩ : ∃ x, x = ((((W2.setCell ⟨w.heap.size, 12, none⟩ (.slice none 0 0)).setCell ⟨w.heap.size, 13, none⟩ (.slice none 0 0)).setCell ⟨w.heap.size, 14, none⟩ (.slice none 0 0)).setCell ⟨w.heap.size, 15, none⟩ (.int .i64 0)) := ⟨_, rfl⟩
  have b0 := Bx.set (HX0.out) 12 (.slice none 0 0)
  have k0 := Kp.set (HX0.out) (by decide) hB 12 (.slice none 0 0)
  have b1 := Bx.set (b0) 13 (.slice none 0 0)
  have k1 := k0.trans (Kp.set (b0) (by decide) hB 13 (.slice none 0 0))
  have b2 := Bx.set (b1) 14 (.slice none 0 0)
  have k2 := k1.trans (Kp.set (b1) (by decide) hB 14 (.slice none 0 0))
  have b3 := Bx.set (b2) 15 (.int .i64 0)
  have k3 := k2.trans (Kp.set (b2) (by decide) hB 15 (.int .i64 0))
  have g4 : Ge w ((((W2.setCell ⟨w.heap.size, 12, none⟩ (.slice none 0 0)).setCell ⟨w.heap.size, 13, none⟩ (.slice none 0 0)).setCell ⟨w.heap.size, 14, none⟩ (.slice none 0 0)).setCell ⟨w.heap.size, 15, none⟩ (.int .i64 0)) := Below.setCell (Below.setCell (Below.setCell (Below.setCell (GW.out) (Nat.le_refl _) (.slice none 0 0)) (Nat.le_refl _) (.slice none 0 0)) (Nat.le_refl _) (.slice none 0 0)) (Nat.le_refl _) (.int .i64 0)
  have z4 := Bx.set_ne (b' := w.heap.size) (Bx.set_ne (b' := w.heap.size) (Bx.set_ne (b' := w.heap.size) (Bx.set_ne (b' := w.heap.size) (HX1.out) 12 (.slice none 0 0) (by omega)) 13 (.slice none 0 0) (by omega)) 14 (.slice none 0 0) (by omega)) 15 (.int .i64 0) (by omega)
  have y4 : Bx ((((W2.setCell ⟨w.heap.size, 12, none⟩ (.slice none 0 0)).setCell ⟨w.heap.size, 13, none⟩ (.slice none 0 0)).setCell ⟨w.heap.size, 14, none⟩ (.slice none 0 0)).setCell ⟨w.heap.size, 15, none⟩ (.int .i64 0)) w.heap.size 45 #[.int .i64 3, .int .i64 ve, .int .i64 p1, .int .i64 p2, .int .i64 te, .int .i64 td, .int .i64 t0, .int .i64 t1, .int .i64 t2, .int .i64 t3, .slice Ar rl.length cr, .slice Ac cl.length cc, .slice none 0 0, .slice none 0 0, .slice none 0 0, .int .i64 0, .slice Ae el.length ce, .bool ye, .int .i64 wy] := by
    have q := b3
    simp only [List.setIfInBounds_toArray, List.set_cons_zero, List.set_cons_succ] at q
    exact q
  have kk : Kp B W2 ((((W2.setCell ⟨w.heap.size, 12, none⟩ (.slice none 0 0)).setCell ⟨w.heap.size, 13, none⟩ (.slice none 0 0)).setCell ⟨w.heap.size, 14, none⟩ (.slice none 0 0)).setCell ⟨w.heap.size, 15, none⟩ (.int .i64 0)) := k3
  rw [← hW4] at g4 z4 y4 kk ⊢
  clear hW4 b0 k0 b1 k1 b2 k2 b3 k3
  obtain ⟨CE, hCE⟩ : ∃ c : Array Value, c = #[.int .i64 3, .int .i64 ve, .int .i64 p1, .int .i64 p2, .int .i64 te, .int .i64 td, .int .i64 t0, .int .i64 t1, .int .i64 t2, .int .i64 t3, .slice Ar rl.length cr, .slice Ac cl.length cc, .slice none 0 0, .slice none 0 0, .slice none 0 0, .int .i64 0, .slice Ae el.length ce, .bool ye, .int .i64 wy] := ⟨_, rfl⟩
  rw [← hCE] at y4
  have HY4 := Lib.hid y4
  have HZ4 := Lib.hid z4
  have HG4 := Lib.hid g4
  have HKK := Lib.hid kk
  have HCE := Lib.hid hCE
  have hs19 : CE.size = 19 := by rw [hCE]; rfl
  have HS19 := Lib.hid hs19
  have HIC := Lib.hid (show (Tryd.prog.info? 45).map (·.size) = some CE.size by rw [hs19]; exact i45)
  have HTH := Lib.hid (show W4.there (w.heap.size + 1) 0 CE.size from by rw [hs19]; exact z4.there)
  have HONE := Lib.hid (show CE.all (fun v => v.oneCell') = true by rw [hCE]; simp [Value.oneCell'])
  clear y4 z4 g4 kk hCE hs19 c0 f0 n0
  go_wp2_with (first | (refine wpList_load_row (by rfl) 45 (.tmp 1) (by rfl) w.heap.size (by rfl) 45 CE (0, 0) _ HY4.out Tryd.underlying45 rfl HIC.out ?_) | (refine wpList_store_mid (by rfl) 45 (.tmp 2) (.tmp 55) (by rfl) (w.heap.size + 1) 0 CE (by rfl) (by rfl) HTH.out HIC.out HONE.out ?_; generalize hW6 : W4.setCells (w.heap.size + 1) 0 CE.toList = W6; have HW6 := Lib.hid hW6; clear hW6))
  have z6 := HZ4.out.fill CE.toList (by rw [Array.length_toList, HS19.out]; rfl)
  have k6 := HKK.out.trans (Kp.sets (by decide) (by omega) CE.toList 0 HZ4.out)
  have g6 : Ge w (W4.setCells (w.heap.size + 1) 0 CE.toList) := below_sets (by omega) _ _ _ HG4.out
  rw [HW6.out] at z6 k6 g6
  have z7 : Bx W6 (w.heap.size + 1) 45 CE := z6
  refine bodyPost_ret (v := .tuple #[.agg CE, .bool (true)]) (results_msg_tmp Tryd.results51 _ W6 (w.heap.size + 1) CE _ rfl z7 HS19.out rfl) rfl ?_
  have hS := (HSL.out.ge GW.out).kp k6
  refine ⟨⟨.slice Ar rl.length cr, .slice Ac cl.length cc, .slice none 0 0, .slice none 0 0, .slice none 0 0, .slice Ae el.length ce⟩, ?_, ?_, g6⟩
  · rw [QRM.out, HCE.out]; rfl
  · rw [QRM.out]; exact ⟨hS.r, hS.c, LAt.nil _ _ _ _ _, PutAt.nil _ _, LAt.nil _ _ _ _ _, hS.e⟩

set_option maxRecDepth 100000 in
set_option maxHeartbeats 16000000 in
theorem rest5a {B : Nat} {w : World} {s : Sls} {m : Msg} (h : SlAt B w s m) (hs : Small m) (hB : B ≤ w.heap.size) (hk : m.kind = 5) (hc : 1024 < m.ents.length) :
    Calls Tryd.prog 51 #[.agg (encG m s).toArray] w (RestOut B w m) := by
  have HSL := Lib.hid h
  obtain ⟨kd, ve, p1, p2, ⟨te, td, t0, t1, t2, t3⟩, rl, cl, dl, pl, ml, cu, el, ye, wy⟩ := m
  obtain ⟨sr, sc, sd, sp, sm, se⟩ := s
  obtain ⟨h1, h2, h3, h4, h5, h6⟩ := h
  obtain ⟨l1, l2, l3, l4, l4n, l5, l6⟩ := hs
  dsimp only at h1 h2 h3 h4 h5 h6 l1 l2 l3 l4 l4n l5 l6 hk
  obtain ⟨Ar, cr, rfl⟩ := h1.form
  obtain ⟨Ac, cc, rfl⟩ := h2.form
  obtain ⟨Ad, cd, rfl⟩ := h3.form
  obtain ⟨Ap, cp, rfl⟩ := h4.form
  obtain ⟨Am, cm, rfl⟩ := h5.form
  obtain ⟨Ae, ce, rfl⟩ := h6.form
  clear h1 h2 h3 h4 h5 h6 l4n
  dsimp only at hc
  subst hk
  have u1 : decide ((el.length : Int) ≤ 1024) = false := decide_eq_false (by omega)
  have v1 : decide (el.length ≤ 1024) = false := decide_eq_false (by omega)
  clear hc
  simp only [encG]
  obtain ⟨W2, hW2⟩ : ∃ x, x = (w.alloc (.cells #[.int .i64 5, .int .i64 ve, .int .i64 p1, .int .i64 p2, .int .i64 te, .int .i64 td, .int .i64 t0, .int .i64 t1, .int .i64 t2, .int .i64 t3, .slice Ar rl.length cr, .slice Ac cl.length cc, .slice Ad dl.length cd, .slice Ap pl.length cp, .slice Am ml.length cm, .int .i64 cu, .slice Ae el.length ce, .bool ye, .int .i64 wy] 45)).alloc (.cells #[.int .i64 0, .int .i64 0, .int .i64 0, .int .i64 0, .int .i64 0, .int .i64 0, .int .i64 0, .int .i64 0, .int .i64 0, .int .i64 0, .slice none 0 0, .slice none 0 0, .slice none 0 0, .slice none 0 0, .slice none 0 0, .int .i64 0, .slice none 0 0, .bool false, .int .i64 0] 45) := ⟨_, rfl⟩
  have X0 : Bx W2 w.heap.size 45 #[.int .i64 5, .int .i64 ve, .int .i64 p1, .int .i64 p2, .int .i64 te, .int .i64 td, .int .i64 t0, .int .i64 t1, .int .i64 t2, .int .i64 t3, .slice Ar rl.length cr, .slice Ac cl.length cc, .slice Ad dl.length cd, .slice Ap pl.length cp, .slice Am ml.length cm, .int .i64 cu, .slice Ae el.length ce, .bool ye, .int .i64 wy] := by rw [hW2]; exact (Bx.new w 45 _ rfl).alloc _
  have X1 : Bx W2 (w.heap.size + 1) 45 #[.int .i64 0, .int .i64 0, .int .i64 0, .int .i64 0, .int .i64 0, .int .i64 0, .int .i64 0, .int .i64 0, .int .i64 0, .int .i64 0, .slice none 0 0, .slice none 0 0, .slice none 0 0, .slice none 0 0, .slice none 0 0, .int .i64 0, .slice none 0 0, .bool false, .int .i64 0] := by rw [hW2]; exact Bx.new _ 45 _ (by simp)
  have GW := Lib.hid (show Ge w W2 by rw [hW2]; exact ((Ge.refl w).alloc _).alloc _)
  have HX0 := Lib.hid X0
  have HX1 := Lib.hid X1
  have HI := Lib.hid i45
  have c0 := X0.cell
  have f0 := X0.frozen
  have n0 := X0.lt
  have qRM : restM ⟨5, ve, p1, p2, ⟨te, td, t0, t1, t2, t3⟩, rl, cl, dl, pl, ml, cu, el, ye, wy⟩ = (⟨5, ve, p1, p2, ⟨te, td, t0, t1, t2, t3⟩, rl, cl, dl, pl, ml, cu, [], false, wy⟩, false) := by unfold restM endB; dsimp only; rw [v1]; simp
  have QRM := Lib.hid qRM
  clear qRM X0 X1 v1
  go_enter Tryd.func51, Tryd.ntmps51
  go_upto_region 1 with (fail)
  rw [← hW2]
  clear hW2
  go_upto_region 23 with (fail)
  obtain ⟨W4, hW4⟩ : ∃ x, x = ((W2.setCell ⟨w.heap.size, 17, none⟩ (.bool false)).setCell ⟨w.heap.size, 16, none⟩ (.slice none 0 0)) := ⟨_, rfl⟩
  have b0 := Bx.set (HX0.out) 17 (.bool false)
  have k0 := Kp.set (HX0.out) (by decide) hB 17 (.bool false)
  have b1 := Bx.set (b0) 16 (.slice none 0 0)
  have k1 := k0.trans (Kp.set (b0) (by decide) hB 16 (.slice none 0 0))
  have g4 : Ge w ((W2.setCell ⟨w.heap.size, 17, none⟩ (.bool false)).setCell ⟨w.heap.size, 16, none⟩ (.slice none 0 0)) := Below.setCell (Below.setCell (GW.out) (Nat.le_refl _) (.bool false)) (Nat.le_refl _) (.slice none 0 0)
  have z4 := Bx.set_ne (b' := w.heap.size) (Bx.set_ne (b' := w.heap.size) (HX1.out) 17 (.bool false) (by omega)) 16 (.slice none 0 0) (by omega)
  have y4 : Bx ((W2.setCell ⟨w.heap.size, 17, none⟩ (.bool false)).setCell ⟨w.heap.size, 16, none⟩ (.slice none 0 0)) w.heap.size 45 #[.int .i64 5, .int .i64 ve, .int .i64 p1, .int .i64 p2, .int .i64 te, .int .i64 td, .int .i64 t0, .int .i64 t1, .int .i64 t2, .int .i64 t3, .slice Ar rl.length cr, .slice Ac cl.length cc, .slice Ad dl.length cd, .slice Ap pl.length cp, .slice Am ml.length cm, .int .i64 cu, .slice none 0 0, .bool false, .int .i64 wy] := by
    have q := b1
    simp only [List.setIfInBounds_toArray, List.set_cons_zero, List.set_cons_succ] at q
    exact q
  have kk : Kp B W2 ((W2.setCell ⟨w.heap.size, 17, none⟩ (.bool false)).setCell ⟨w.heap.size, 16, none⟩ (.slice none 0 0)) := k1
  rw [← hW4] at g4 z4 y4 kk ⊢
  clear hW4 b0 k0 b1 k1
  obtain ⟨CE, hCE⟩ : ∃ c : Array Value, c = #[.int .i64 5, .int .i64 ve, .int .i64 p1, .int .i64 p2, .int .i64 te, .int .i64 td, .int .i64 t0, .int .i64 t1, .int .i64 t2, .int .i64 t3, .slice Ar rl.length cr, .slice Ac cl.length cc, .slice Ad dl.length cd, .slice Ap pl.length cp, .slice Am ml.length cm, .int .i64 cu, .slice none 0 0, .bool false, .int .i64 wy] := ⟨_, rfl⟩
  rw [← hCE] at y4
  have HY4 := Lib.hid y4
  have HZ4 := Lib.hid z4
  have HG4 := Lib.hid g4
  have HKK := Lib.hid kk
  have HCE := Lib.hid hCE
  have hs19 : CE.size = 19 := by rw [hCE]; rfl
  have HS19 := Lib.hid hs19
  have HIC := Lib.hid (show (Tryd.prog.info? 45).map (·.size) = some CE.size by rw [hs19]; exact i45)
  have HTH := Lib.hid (show W4.there (w.heap.size + 1) 0 CE.size from by rw [hs19]; exact z4.there)
  have HONE := Lib.hid (show CE.all (fun v => v.oneCell') = true by rw [hCE]; simp [Value.oneCell'])
  clear y4 z4 g4 kk hCE hs19 c0 f0 n0
  go_wp2_with (first | (refine wpList_load_row (by rfl) 45 (.tmp 1) (by rfl) w.heap.size (by rfl) 45 CE (0, 0) _ HY4.out Tryd.underlying45 rfl HIC.out ?_) | (refine wpList_store_mid (by rfl) 45 (.tmp 2) (.tmp 82) (by rfl) (w.heap.size + 1) 0 CE (by rfl) (by rfl) HTH.out HIC.out HONE.out ?_; generalize hW6 : W4.setCells (w.heap.size + 1) 0 CE.toList = W6; have HW6 := Lib.hid hW6; clear hW6))
  have z6 := HZ4.out.fill CE.toList (by rw [Array.length_toList, HS19.out]; rfl)
  have k6 := HKK.out.trans (Kp.sets (by decide) (by omega) CE.toList 0 HZ4.out)
  have g6 : Ge w (W4.setCells (w.heap.size + 1) 0 CE.toList) := below_sets (by omega) _ _ _ HG4.out
  rw [HW6.out] at z6 k6 g6
  have z7 : Bx W6 (w.heap.size + 1) 45 CE := z6
  refine bodyPost_ret (v := .tuple #[.agg CE, .bool (false)]) (results_msg_tmp Tryd.results51 _ W6 (w.heap.size + 1) CE _ rfl z7 HS19.out rfl) rfl ?_
  have hS := (HSL.out.ge GW.out).kp k6
  refine ⟨⟨.slice Ar rl.length cr, .slice Ac cl.length cc, .slice Ad dl.length cd, .slice Ap pl.length cp, .slice Am ml.length cm, .slice none 0 0⟩, ?_, ?_, g6⟩
  · rw [QRM.out, HCE.out]; rfl
  · rw [QRM.out]; exact ⟨hS.r, hS.c, hS.d, hS.p, hS.mv, LAt.nil _ _ _ _ _⟩

set_option maxRecDepth 100000 in
set_option maxHeartbeats 16000000 in
theorem rest5b {B : Nat} {w : World} {s : Sls} {m : Msg} (h : SlAt B w s m) (hs : Small m) (hB : B ≤ w.heap.size) (hk : m.kind = 5) (hc : m.ents.length ≤ 1024 ∧ m.yes = true) :
    Calls Tryd.prog 51 #[.agg (encG m s).toArray] w (RestOut B w m) := by
  have HSL := Lib.hid h
  obtain ⟨kd, ve, p1, p2, ⟨te, td, t0, t1, t2, t3⟩, rl, cl, dl, pl, ml, cu, el, ye, wy⟩ := m
  obtain ⟨sr, sc, sd, sp, sm, se⟩ := s
  obtain ⟨h1, h2, h3, h4, h5, h6⟩ := h
  obtain ⟨l1, l2, l3, l4, l4n, l5, l6⟩ := hs
  dsimp only at h1 h2 h3 h4 h5 h6 l1 l2 l3 l4 l4n l5 l6 hk
  obtain ⟨Ar, cr, rfl⟩ := h1.form
  obtain ⟨Ac, cc, rfl⟩ := h2.form
  obtain ⟨Ad, cd, rfl⟩ := h3.form
  obtain ⟨Ap, cp, rfl⟩ := h4.form
  obtain ⟨Am, cm, rfl⟩ := h5.form
  obtain ⟨Ae, ce, rfl⟩ := h6.form
  clear h1 h2 h3 h4 h5 h6 l4n
  dsimp only at hc
  subst hk
  have hy := hc.2
  subst hy
  have u1 : decide ((el.length : Int) ≤ 1024) = true := decide_eq_true (by omega)
  have v1 : decide (el.length ≤ 1024) = true := decide_eq_true (by omega)
  clear hc
  simp only [encG]
  obtain ⟨W2, hW2⟩ : ∃ x, x = (w.alloc (.cells #[.int .i64 5, .int .i64 ve, .int .i64 p1, .int .i64 p2, .int .i64 te, .int .i64 td, .int .i64 t0, .int .i64 t1, .int .i64 t2, .int .i64 t3, .slice Ar rl.length cr, .slice Ac cl.length cc, .slice Ad dl.length cd, .slice Ap pl.length cp, .slice Am ml.length cm, .int .i64 cu, .slice Ae el.length ce, .bool true, .int .i64 wy] 45)).alloc (.cells #[.int .i64 0, .int .i64 0, .int .i64 0, .int .i64 0, .int .i64 0, .int .i64 0, .int .i64 0, .int .i64 0, .int .i64 0, .int .i64 0, .slice none 0 0, .slice none 0 0, .slice none 0 0, .slice none 0 0, .slice none 0 0, .int .i64 0, .slice none 0 0, .bool false, .int .i64 0] 45) := ⟨_, rfl⟩
  have X0 : Bx W2 w.heap.size 45 #[.int .i64 5, .int .i64 ve, .int .i64 p1, .int .i64 p2, .int .i64 te, .int .i64 td, .int .i64 t0, .int .i64 t1, .int .i64 t2, .int .i64 t3, .slice Ar rl.length cr, .slice Ac cl.length cc, .slice Ad dl.length cd, .slice Ap pl.length cp, .slice Am ml.length cm, .int .i64 cu, .slice Ae el.length ce, .bool true, .int .i64 wy] := by rw [hW2]; exact (Bx.new w 45 _ rfl).alloc _
  have X1 : Bx W2 (w.heap.size + 1) 45 #[.int .i64 0, .int .i64 0, .int .i64 0, .int .i64 0, .int .i64 0, .int .i64 0, .int .i64 0, .int .i64 0, .int .i64 0, .int .i64 0, .slice none 0 0, .slice none 0 0, .slice none 0 0, .slice none 0 0, .slice none 0 0, .int .i64 0, .slice none 0 0, .bool false, .int .i64 0] := by rw [hW2]; exact Bx.new _ 45 _ (by simp)
  have GW := Lib.hid (show Ge w W2 by rw [hW2]; exact ((Ge.refl w).alloc _).alloc _)
  have HX0 := Lib.hid X0
  have HX1 := Lib.hid X1
  have HI := Lib.hid i45
  have c0 := X0.cell
  have f0 := X0.frozen
  have n0 := X0.lt
  have qRM : restM ⟨5, ve, p1, p2, ⟨te, td, t0, t1, t2, t3⟩, rl, cl, dl, pl, ml, cu, el, true, wy⟩ = (⟨5, ve, p1, p2, ⟨te, td, t0, t1, t2, t3⟩, rl, cl, dl, pl, ml, cu, [], false, wy⟩, true) := by unfold restM endB; dsimp only; rw [v1]; simp
  have QRM := Lib.hid qRM
  clear qRM X0 X1 v1
  go_enter Tryd.func51, Tryd.ntmps51
  go_upto_region 1 with (fail)
  rw [← hW2]
  clear hW2
  go_upto_region 23 with (fail)
  obtain ⟨W4, hW4⟩ : ∃ x, x = ((W2.setCell ⟨w.heap.size, 17, none⟩ (.bool false)).setCell ⟨w.heap.size, 16, none⟩ (.slice none 0 0)) := ⟨_, rfl⟩
  have b0 := Bx.set (HX0.out) 17 (.bool false)
  have k0 := Kp.set (HX0.out) (by decide) hB 17 (.bool false)
  have b1 := Bx.set (b0) 16 (.slice none 0 0)
  have k1 := k0.trans (Kp.set (b0) (by decide) hB 16 (.slice none 0 0))
  have g4 : Ge w ((W2.setCell ⟨w.heap.size, 17, none⟩ (.bool false)).setCell ⟨w.heap.size, 16, none⟩ (.slice none 0 0)) := Below.setCell (Below.setCell (GW.out) (Nat.le_refl _) (.bool false)) (Nat.le_refl _) (.slice none 0 0)
  have z4 := Bx.set_ne (b' := w.heap.size) (Bx.set_ne (b' := w.heap.size) (HX1.out) 17 (.bool false) (by omega)) 16 (.slice none 0 0) (by omega)
  have y4 : Bx ((W2.setCell ⟨w.heap.size, 17, none⟩ (.bool false)).setCell ⟨w.heap.size, 16, none⟩ (.slice none 0 0)) w.heap.size 45 #[.int .i64 5, .int .i64 ve, .int .i64 p1, .int .i64 p2, .int .i64 te, .int .i64 td, .int .i64 t0, .int .i64 t1, .int .i64 t2, .int .i64 t3, .slice Ar rl.length cr, .slice Ac cl.length cc, .slice Ad dl.length cd, .slice Ap pl.length cp, .slice Am ml.length cm, .int .i64 cu, .slice none 0 0, .bool false, .int .i64 wy] := by
    have q := b1
    simp only [List.setIfInBounds_toArray, List.set_cons_zero, List.set_cons_succ] at q
    exact q
  have kk : Kp B W2 ((W2.setCell ⟨w.heap.size, 17, none⟩ (.bool false)).setCell ⟨w.heap.size, 16, none⟩ (.slice none 0 0)) := k1
  rw [← hW4] at g4 z4 y4 kk ⊢
  clear hW4 b0 k0 b1 k1
  obtain ⟨CE, hCE⟩ : ∃ c : Array Value, c = #[.int .i64 5, .int .i64 ve, .int .i64 p1, .int .i64 p2, .int .i64 te, .int .i64 td, .int .i64 t0, .int .i64 t1, .int .i64 t2, .int .i64 t3, .slice Ar rl.length cr, .slice Ac cl.length cc, .slice Ad dl.length cd, .slice Ap pl.length cp, .slice Am ml.length cm, .int .i64 cu, .slice none 0 0, .bool false, .int .i64 wy] := ⟨_, rfl⟩
  rw [← hCE] at y4
  have HY4 := Lib.hid y4
  have HZ4 := Lib.hid z4
  have HG4 := Lib.hid g4
  have HKK := Lib.hid kk
  have HCE := Lib.hid hCE
  have hs19 : CE.size = 19 := by rw [hCE]; rfl
  have HS19 := Lib.hid hs19
  have HIC := Lib.hid (show (Tryd.prog.info? 45).map (·.size) = some CE.size by rw [hs19]; exact i45)
  have HTH := Lib.hid (show W4.there (w.heap.size + 1) 0 CE.size from by rw [hs19]; exact z4.there)
  have HONE := Lib.hid (show CE.all (fun v => v.oneCell') = true by rw [hCE]; simp [Value.oneCell'])
  clear y4 z4 g4 kk hCE hs19 c0 f0 n0
  go_wp2_with (first | (refine wpList_load_row (by rfl) 45 (.tmp 1) (by rfl) w.heap.size (by rfl) 45 CE (0, 0) _ HY4.out Tryd.underlying45 rfl HIC.out ?_) | (refine wpList_store_mid (by rfl) 45 (.tmp 2) (.tmp 82) (by rfl) (w.heap.size + 1) 0 CE (by rfl) (by rfl) HTH.out HIC.out HONE.out ?_; generalize hW6 : W4.setCells (w.heap.size + 1) 0 CE.toList = W6; have HW6 := Lib.hid hW6; clear hW6))
  have z6 := HZ4.out.fill CE.toList (by rw [Array.length_toList, HS19.out]; rfl)
  have k6 := HKK.out.trans (Kp.sets (by decide) (by omega) CE.toList 0 HZ4.out)
  have g6 : Ge w (W4.setCells (w.heap.size + 1) 0 CE.toList) := below_sets (by omega) _ _ _ HG4.out
  rw [HW6.out] at z6 k6 g6
  have z7 : Bx W6 (w.heap.size + 1) 45 CE := z6
  refine bodyPost_ret (v := .tuple #[.agg CE, .bool (true)]) (results_msg_tmp Tryd.results51 _ W6 (w.heap.size + 1) CE _ rfl z7 HS19.out rfl) rfl ?_
  have hS := (HSL.out.ge GW.out).kp k6
  refine ⟨⟨.slice Ar rl.length cr, .slice Ac cl.length cc, .slice Ad dl.length cd, .slice Ap pl.length cp, .slice Am ml.length cm, .slice none 0 0⟩, ?_, ?_, g6⟩
  · rw [QRM.out, HCE.out]; rfl
  · rw [QRM.out]; exact ⟨hS.r, hS.c, hS.d, hS.p, hS.mv, LAt.nil _ _ _ _ _⟩

set_option maxRecDepth 100000 in
set_option maxHeartbeats 16000000 in
theorem rest5c {B : Nat} {w : World} {s : Sls} {m : Msg} (h : SlAt B w s m) (hs : Small m) (hB : B ≤ w.heap.size) (hk : m.kind = 5) (hc : m.ents.length = 0 ∧ m.yes = false) :
    Calls Tryd.prog 51 #[.agg (encG m s).toArray] w (RestOut B w m) := by
  have HSL := Lib.hid h
  obtain ⟨kd, ve, p1, p2, ⟨te, td, t0, t1, t2, t3⟩, rl, cl, dl, pl, ml, cu, el, ye, wy⟩ := m
  obtain ⟨sr, sc, sd, sp, sm, se⟩ := s
  obtain ⟨h1, h2, h3, h4, h5, h6⟩ := h
  obtain ⟨l1, l2, l3, l4, l4n, l5, l6⟩ := hs
  dsimp only at h1 h2 h3 h4 h5 h6 l1 l2 l3 l4 l4n l5 l6 hk
  obtain ⟨Ar, cr, rfl⟩ := h1.form
  obtain ⟨Ac, cc, rfl⟩ := h2.form
  obtain ⟨Ad, cd, rfl⟩ := h3.form
  obtain ⟨Ap, cp, rfl⟩ := h4.form
  obtain ⟨Am, cm, rfl⟩ := h5.form
  obtain ⟨Ae, ce, rfl⟩ := h6.form
  clear h1 h2 h3 h4 h5 h6 l4n
  dsimp only at hc
  subst hk
  have hy := hc.2
  subst hy
  have u1 : decide ((el.length : Int) ≤ 1024) = true := decide_eq_true (by omega)
  have v1 : decide (el.length ≤ 1024) = true := decide_eq_true (by omega)
  have u2 : ((el.length : Int) == 0) = true := by simp [hc.1]
  have v2 : (el.length == 0) = true := by simp [hc.1]
  clear hc
  simp only [encG]
  obtain ⟨W2, hW2⟩ : ∃ x, x = (w.alloc (.cells #[.int .i64 5, .int .i64 ve, .int .i64 p1, .int .i64 p2, .int .i64 te, .int .i64 td, .int .i64 t0, .int .i64 t1, .int .i64 t2, .int .i64 t3, .slice Ar rl.length cr, .slice Ac cl.length cc, .slice Ad dl.length cd, .slice Ap pl.length cp, .slice Am ml.length cm, .int .i64 cu, .slice Ae el.length ce, .bool false, .int .i64 wy] 45)).alloc (.cells #[.int .i64 0, .int .i64 0, .int .i64 0, .int .i64 0, .int .i64 0, .int .i64 0, .int .i64 0, .int .i64 0, .int .i64 0, .int .i64 0, .slice none 0 0, .slice none 0 0, .slice none 0 0, .slice none 0 0, .slice none 0 0, .int .i64 0, .slice none 0 0, .bool false, .int .i64 0] 45) := ⟨_, rfl⟩
  have X0 : Bx W2 w.heap.size 45 #[.int .i64 5, .int .i64 ve, .int .i64 p1, .int .i64 p2, .int .i64 te, .int .i64 td, .int .i64 t0, .int .i64 t1, .int .i64 t2, .int .i64 t3, .slice Ar rl.length cr, .slice Ac cl.length cc, .slice Ad dl.length cd, .slice Ap pl.length cp, .slice Am ml.length cm, .int .i64 cu, .slice Ae el.length ce, .bool false, .int .i64 wy] := by rw [hW2]; exact (Bx.new w 45 _ rfl).alloc _
  have X1 : Bx W2 (w.heap.size + 1) 45 #[.int .i64 0, .int .i64 0, .int .i64 0, .int .i64 0, .int .i64 0, .int .i64 0, .int .i64 0, .int .i64 0, .int .i64 0, .int .i64 0, .slice none 0 0, .slice none 0 0, .slice none 0 0, .slice none 0 0, .slice none 0 0, .int .i64 0, .slice none 0 0, .bool false, .int .i64 0] := by rw [hW2]; exact Bx.new _ 45 _ (by simp)
  have GW := Lib.hid (show Ge w W2 by rw [hW2]; exact ((Ge.refl w).alloc _).alloc _)
  have HX0 := Lib.hid X0
  have HX1 := Lib.hid X1
  have HI := Lib.hid i45
  have c0 := X0.cell
  have f0 := X0.frozen
  have n0 := X0.lt
  have qRM : restM ⟨5, ve, p1, p2, ⟨te, td, t0, t1, t2, t3⟩, rl, cl, dl, pl, ml, cu, el, false, wy⟩ = (⟨5, ve, p1, p2, ⟨te, td, t0, t1, t2, t3⟩, rl, cl, dl, pl, ml, cu, [], false, wy⟩, true) := by unfold restM endB; dsimp only; rw [v1, v2]; simp
  have QRM := Lib.hid qRM
  clear qRM X0 X1 v1 v2
  go_enter Tryd.func51, Tryd.ntmps51
  go_upto_region 1 with (fail)
  rw [← hW2]
  clear hW2
  go_upto_region 23 with (fail)
  obtain ⟨W4, hW4⟩ : ∃ x, x = ((W2.setCell ⟨w.heap.size, 17, none⟩ (.bool false)).setCell ⟨w.heap.size, 16, none⟩ (.slice none 0 0)) := ⟨_, rfl⟩
  have b0 := Bx.set (HX0.out) 17 (.bool false)
  have k0 := Kp.set (HX0.out) (by decide) hB 17 (.bool false)
  have b1 := Bx.set (b0) 16 (.slice none 0 0)
  have k1 := k0.trans (Kp.set (b0) (by decide) hB 16 (.slice none 0 0))
  have g4 : Ge w ((W2.setCell ⟨w.heap.size, 17, none⟩ (.bool false)).setCell ⟨w.heap.size, 16, none⟩ (.slice none 0 0)) := Below.setCell (Below.setCell (GW.out) (Nat.le_refl _) (.bool false)) (Nat.le_refl _) (.slice none 0 0)
  have z4 := Bx.set_ne (b' := w.heap.size) (Bx.set_ne (b' := w.heap.size) (HX1.out) 17 (.bool false) (by omega)) 16 (.slice none 0 0) (by omega)
  have y4 : Bx ((W2.setCell ⟨w.heap.size, 17, none⟩ (.bool false)).setCell ⟨w.heap.size, 16, none⟩ (.slice none 0 0)) w.heap.size 45 #[.int .i64 5, .int .i64 ve, .int .i64 p1, .int .i64 p2, .int .i64 te, .int .i64 td, .int .i64 t0, .int .i64 t1, .int .i64 t2, .int .i64 t3, .slice Ar rl.length cr, .slice Ac cl.length cc, .slice Ad dl.length cd, .slice Ap pl.length cp, .slice Am ml.length cm, .int .i64 cu, .slice none 0 0, .bool false, .int .i64 wy] := by
    have q := b1
    simp only [List.setIfInBounds_toArray, List.set_cons_zero, List.set_cons_succ] at q
    exact q
  have kk : Kp B W2 ((W2.setCell ⟨w.heap.size, 17, none⟩ (.bool false)).setCell ⟨w.heap.size, 16, none⟩ (.slice none 0 0)) := k1
  rw [← hW4] at g4 z4 y4 kk ⊢
  clear hW4 b0 k0 b1 k1
  obtain ⟨CE, hCE⟩ : ∃ c : Array Value, c = #[.int .i64 5, .int .i64 ve, .int .i64 p1, .int .i64 p2, .int .i64 te, .int .i64 td, .int .i64 t0, .int .i64 t1, .int .i64 t2, .int .i64 t3, .slice Ar rl.length cr, .slice Ac cl.length cc, .slice Ad dl.length cd, .slice Ap pl.length cp, .slice Am ml.length cm, .int .i64 cu, .slice none 0 0, .bool false, .int .i64 wy] := ⟨_, rfl⟩
  rw [← hCE] at y4
  have HY4 := Lib.hid y4
  have HZ4 := Lib.hid z4
  have HG4 := Lib.hid g4
  have HKK := Lib.hid kk
  have HCE := Lib.hid hCE
  have hs19 : CE.size = 19 := by rw [hCE]; rfl
  have HS19 := Lib.hid hs19
  have HIC := Lib.hid (show (Tryd.prog.info? 45).map (·.size) = some CE.size by rw [hs19]; exact i45)
  have HTH := Lib.hid (show W4.there (w.heap.size + 1) 0 CE.size from by rw [hs19]; exact z4.there)
  have HONE := Lib.hid (show CE.all (fun v => v.oneCell') = true by rw [hCE]; simp [Value.oneCell'])
  clear y4 z4 g4 kk hCE hs19 c0 f0 n0
  go_wp2_with (first | (refine wpList_load_row (by rfl) 45 (.tmp 1) (by rfl) w.heap.size (by rfl) 45 CE (0, 0) _ HY4.out Tryd.underlying45 rfl HIC.out ?_) | (refine wpList_store_mid (by rfl) 45 (.tmp 2) (.tmp 82) (by rfl) (w.heap.size + 1) 0 CE (by rfl) (by rfl) HTH.out HIC.out HONE.out ?_; generalize hW6 : W4.setCells (w.heap.size + 1) 0 CE.toList = W6; have HW6 := Lib.hid hW6; clear hW6))
  have z6 := HZ4.out.fill CE.toList (by rw [Array.length_toList, HS19.out]; rfl)
  have k6 := HKK.out.trans (Kp.sets (by decide) (by omega) CE.toList 0 HZ4.out)
  have g6 : Ge w (W4.setCells (w.heap.size + 1) 0 CE.toList) := below_sets (by omega) _ _ _ HG4.out
  rw [HW6.out] at z6 k6 g6
  have z7 : Bx W6 (w.heap.size + 1) 45 CE := z6
  refine bodyPost_ret (v := .tuple #[.agg CE, .bool (true)]) (results_msg_tmp Tryd.results51 _ W6 (w.heap.size + 1) CE _ rfl z7 HS19.out rfl) rfl ?_
  have hS := (HSL.out.ge GW.out).kp k6
  refine ⟨⟨.slice Ar rl.length cr, .slice Ac cl.length cc, .slice Ad dl.length cd, .slice Ap pl.length cp, .slice Am ml.length cm, .slice none 0 0⟩, ?_, ?_, g6⟩
  · rw [QRM.out, HCE.out]; rfl
  · rw [QRM.out]; exact ⟨hS.r, hS.c, hS.d, hS.p, hS.mv, LAt.nil _ _ _ _ _⟩

set_option maxRecDepth 100000 in
set_option maxHeartbeats 16000000 in
theorem rest5d {B : Nat} {w : World} {s : Sls} {m : Msg} (h : SlAt B w s m) (hs : Small m) (hB : B ≤ w.heap.size) (hk : m.kind = 5) (hc : m.ents.length ≤ 1024 ∧ 0 < m.ents.length ∧ m.yes = false) :
    Calls Tryd.prog 51 #[.agg (encG m s).toArray] w (RestOut B w m) := by
  have HSL := Lib.hid h
  obtain ⟨kd, ve, p1, p2, ⟨te, td, t0, t1, t2, t3⟩, rl, cl, dl, pl, ml, cu, el, ye, wy⟩ := m
  obtain ⟨sr, sc, sd, sp, sm, se⟩ := s
  obtain ⟨h1, h2, h3, h4, h5, h6⟩ := h
  obtain ⟨l1, l2, l3, l4, l4n, l5, l6⟩ := hs
  dsimp only at h1 h2 h3 h4 h5 h6 l1 l2 l3 l4 l4n l5 l6 hk
  obtain ⟨Ar, cr, rfl⟩ := h1.form
  obtain ⟨Ac, cc, rfl⟩ := h2.form
  obtain ⟨Ad, cd, rfl⟩ := h3.form
  obtain ⟨Ap, cp, rfl⟩ := h4.form
  obtain ⟨Am, cm, rfl⟩ := h5.form
  obtain ⟨Ae, ce, rfl⟩ := h6.form
  clear h1 h2 h3 h4 h5 h6 l4n
  dsimp only at hc
  subst hk
  have hy := hc.2.2
  subst hy
  have u1 : decide ((el.length : Int) ≤ 1024) = true := decide_eq_true (by omega)
  have v1 : decide (el.length ≤ 1024) = true := decide_eq_true (by omega)
  have u2 : ((el.length : Int) == 0) = false := beq_eq_false_iff_ne.2 (by omega)
  have v2 : (el.length == 0) = false := beq_eq_false_iff_ne.2 (by omega)
  clear hc
  simp only [encG]
  obtain ⟨W2, hW2⟩ : ∃ x, x = (w.alloc (.cells #[.int .i64 5, .int .i64 ve, .int .i64 p1, .int .i64 p2, .int .i64 te, .int .i64 td, .int .i64 t0, .int .i64 t1, .int .i64 t2, .int .i64 t3, .slice Ar rl.length cr, .slice Ac cl.length cc, .slice Ad dl.length cd, .slice Ap pl.length cp, .slice Am ml.length cm, .int .i64 cu, .slice Ae el.length ce, .bool false, .int .i64 wy] 45)).alloc (.cells #[.int .i64 0, .int .i64 0, .int .i64 0, .int .i64 0, .int .i64 0, .int .i64 0, .int .i64 0, .int .i64 0, .int .i64 0, .int .i64 0, .slice none 0 0, .slice none 0 0, .slice none 0 0, .slice none 0 0, .slice none 0 0, .int .i64 0, .slice none 0 0, .bool false, .int .i64 0] 45) := ⟨_, rfl⟩
  have X0 : Bx W2 w.heap.size 45 #[.int .i64 5, .int .i64 ve, .int .i64 p1, .int .i64 p2, .int .i64 te, .int .i64 td, .int .i64 t0, .int .i64 t1, .int .i64 t2, .int .i64 t3, .slice Ar rl.length cr, .slice Ac cl.length cc, .slice Ad dl.length cd, .slice Ap pl.length cp, .slice Am ml.length cm, .int .i64 cu, .slice Ae el.length ce, .bool false, .int .i64 wy] := by rw [hW2]; exact (Bx.new w 45 _ rfl).alloc _
  have X1 : Bx W2 (w.heap.size + 1) 45 #[.int .i64 0, .int .i64 0, .int .i64 0, .int .i64 0, .int .i64 0, .int .i64 0, .int .i64 0, .int .i64 0, .int .i64 0, .int .i64 0, .slice none 0 0, .slice none 0 0, .slice none 0 0, .slice none 0 0, .slice none 0 0, .int .i64 0, .slice none 0 0, .bool false, .int .i64 0] := by rw [hW2]; exact Bx.new _ 45 _ (by simp)
  have GW := Lib.hid (show Ge w W2 by rw [hW2]; exact ((Ge.refl w).alloc _).alloc _)
  have HX0 := Lib.hid X0
  have HX1 := Lib.hid X1
  have HI := Lib.hid i45
  have c0 := X0.cell
  have f0 := X0.frozen
  have n0 := X0.lt
  have qRM : restM ⟨5, ve, p1, p2, ⟨te, td, t0, t1, t2, t3⟩, rl, cl, dl, pl, ml, cu, el, false, wy⟩ = (⟨5, ve, p1, p2, ⟨te, td, t0, t1, t2, t3⟩, rl, cl, dl, pl, ml, cu, [], false, wy⟩, false) := by unfold restM endB; dsimp only; rw [v1, v2]; simp
  have QRM := Lib.hid qRM
  clear qRM X0 X1 v1 v2
  go_enter Tryd.func51, Tryd.ntmps51
  go_upto_region 1 with (fail)
  rw [← hW2]
  clear hW2
  go_upto_region 23 with (fail)
  obtain ⟨W4, hW4⟩ : ∃ x, x = ((W2.setCell ⟨w.heap.size, 17, none⟩ (.bool false)).setCell ⟨w.heap.size, 16, none⟩ (.slice none 0 0)) := ⟨_, rfl⟩
  have b0 := Bx.set (HX0.out) 17 (.bool false)
  have k0 := Kp.set (HX0.out) (by decide) hB 17 (.bool false)
  have b1 := Bx.set (b0) 16 (.slice none 0 0)
  have k1 := k0.trans (Kp.set (b0) (by decide) hB 16 (.slice none 0 0))
  have g4 : Ge w ((W2.setCell ⟨w.heap.size, 17, none⟩ (.bool false)).setCell ⟨w.heap.size, 16, none⟩ (.slice none 0 0)) := Below.setCell (Below.setCell (GW.out) (Nat.le_refl _) (.bool false)) (Nat.le_refl _) (.slice none 0 0)
  have z4 := Bx.set_ne (b' := w.heap.size) (Bx.set_ne (b' := w.heap.size) (HX1.out) 17 (.bool false) (by omega)) 16 (.slice none 0 0) (by omega)
  have y4 : Bx ((W2.setCell ⟨w.heap.size, 17, none⟩ (.bool false)).setCell ⟨w.heap.size, 16, none⟩ (.slice none 0 0)) w.heap.size 45 #[.int .i64 5, .int .i64 ve, .int .i64 p1, .int .i64 p2, .int .i64 te, .int .i64 td, .int .i64 t0, .int .i64 t1, .int .i64 t2, .int .i64 t3, .slice Ar rl.length cr, .slice Ac cl.length cc, .slice Ad dl.length cd, .slice Ap pl.length cp, .slice Am ml.length cm, .int .i64 cu, .slice none 0 0, .bool false, .int .i64 wy] := by
    have q := b1
    simp only [List.setIfInBounds_toArray, List.set_cons_zero, List.set_cons_succ] at q
    exact q
  have kk : Kp B W2 ((W2.setCell ⟨w.heap.size, 17, none⟩ (.bool false)).setCell ⟨w.heap.size, 16, none⟩ (.slice none 0 0)) := k1
  rw [← hW4] at g4 z4 y4 kk ⊢
  clear hW4 b0 k0 b1 k1
  obtain ⟨CE, hCE⟩ : ∃ c : Array Value, c = #[.int .i64 5, .int .i64 ve, .int .i64 p1, .int .i64 p2, .int .i64 te, .int .i64 td, .int .i64 t0, .int .i64 t1, .int .i64 t2, .int .i64 t3, .slice Ar rl.length cr, .slice Ac cl.length cc, .slice Ad dl.length cd, .slice Ap pl.length cp, .slice Am ml.length cm, .int .i64 cu, .slice none 0 0, .bool false, .int .i64 wy] := ⟨_, rfl⟩
  rw [← hCE] at y4
  have HY4 := Lib.hid y4
  have HZ4 := Lib.hid z4
  have HG4 := Lib.hid g4
  have HKK := Lib.hid kk
  have HCE := Lib.hid hCE
  have hs19 : CE.size = 19 := by rw [hCE]; rfl
  have HS19 := Lib.hid hs19
  have HIC := Lib.hid (show (Tryd.prog.info? 45).map (·.size) = some CE.size by rw [hs19]; exact i45)
  have HTH := Lib.hid (show W4.there (w.heap.size + 1) 0 CE.size from by rw [hs19]; exact z4.there)
  have HONE := Lib.hid (show CE.all (fun v => v.oneCell') = true by rw [hCE]; simp [Value.oneCell'])
  clear y4 z4 g4 kk hCE hs19 c0 f0 n0
  go_wp2_with (first | (refine wpList_load_row (by rfl) 45 (.tmp 1) (by rfl) w.heap.size (by rfl) 45 CE (0, 0) _ HY4.out Tryd.underlying45 rfl HIC.out ?_) | (refine wpList_store_mid (by rfl) 45 (.tmp 2) (.tmp 82) (by rfl) (w.heap.size + 1) 0 CE (by rfl) (by rfl) HTH.out HIC.out HONE.out ?_; generalize hW6 : W4.setCells (w.heap.size + 1) 0 CE.toList = W6; have HW6 := Lib.hid hW6; clear hW6))
  have z6 := HZ4.out.fill CE.toList (by rw [Array.length_toList, HS19.out]; rfl)
  have k6 := HKK.out.trans (Kp.sets (by decide) (by omega) CE.toList 0 HZ4.out)
  have g6 : Ge w (W4.setCells (w.heap.size + 1) 0 CE.toList) := below_sets (by omega) _ _ _ HG4.out
  rw [HW6.out] at z6 k6 g6
  have z7 : Bx W6 (w.heap.size + 1) 45 CE := z6
  refine bodyPost_ret (v := .tuple #[.agg CE, .bool (false)]) (results_msg_tmp Tryd.results51 _ W6 (w.heap.size + 1) CE _ rfl z7 HS19.out rfl) rfl ?_
  have hS := (HSL.out.ge GW.out).kp k6
  refine ⟨⟨.slice Ar rl.length cr, .slice Ac cl.length cc, .slice Ad dl.length cd, .slice Ap pl.length cp, .slice Am ml.length cm, .slice none 0 0⟩, ?_, ?_, g6⟩
  · rw [QRM.out, HCE.out]; rfl
  · rw [QRM.out]; exact ⟨hS.r, hS.c, hS.d, hS.p, hS.mv, LAt.nil _ _ _ _ _⟩

set_option maxRecDepth 100000 in
set_option maxHeartbeats 16000000 in
theorem rest6p {B : Nat} {w : World} {s : Sls} {m : Msg} (h : SlAt B w s m) (hs : Small m) (hB : B ≤ w.heap.size) (hk : m.kind = 6) (hy : m.yes = true) (hw : m.why ≠ 0) :
    Calls Tryd.prog 51 #[.agg (encG m s).toArray] w (RestOut B w m) := by
  have HSL := Lib.hid h
  obtain ⟨kd, ve, p1, p2, ⟨te, td, t0, t1, t2, t3⟩, rl, cl, dl, pl, ml, cu, el, ye, wy⟩ := m
  obtain ⟨sr, sc, sd, sp, sm, se⟩ := s
  obtain ⟨h1, h2, h3, h4, h5, h6⟩ := h
  obtain ⟨l1, l2, l3, l4, l4n, l5, l6⟩ := hs
  dsimp only at h1 h2 h3 h4 h5 h6 l1 l2 l3 l4 l4n l5 l6 hk
  obtain ⟨Ar, cr, rfl⟩ := h1.form
  obtain ⟨Ac, cc, rfl⟩ := h2.form
  obtain ⟨Ad, cd, rfl⟩ := h3.form
  obtain ⟨Ap, cp, rfl⟩ := h4.form
  obtain ⟨Am, cm, rfl⟩ := h5.form
  obtain ⟨Ae, ce, rfl⟩ := h6.form
  clear h1 h2 h3 h4 h5 h6 l4n
  dsimp only at hy hw
  subst hk
  have w1 : (wy == 0) = false := by simpa using hw
  subst hy
  clear hw
  simp only [encG]
  obtain ⟨W2, hW2⟩ : ∃ x, x = (w.alloc (.cells #[.int .i64 6, .int .i64 ve, .int .i64 p1, .int .i64 p2, .int .i64 te, .int .i64 td, .int .i64 t0, .int .i64 t1, .int .i64 t2, .int .i64 t3, .slice Ar rl.length cr, .slice Ac cl.length cc, .slice Ad dl.length cd, .slice Ap pl.length cp, .slice Am ml.length cm, .int .i64 cu, .slice Ae el.length ce, .bool true, .int .i64 wy] 45)).alloc (.cells #[.int .i64 0, .int .i64 0, .int .i64 0, .int .i64 0, .int .i64 0, .int .i64 0, .int .i64 0, .int .i64 0, .int .i64 0, .int .i64 0, .slice none 0 0, .slice none 0 0, .slice none 0 0, .slice none 0 0, .slice none 0 0, .int .i64 0, .slice none 0 0, .bool false, .int .i64 0] 45) := ⟨_, rfl⟩
  have X0 : Bx W2 w.heap.size 45 #[.int .i64 6, .int .i64 ve, .int .i64 p1, .int .i64 p2, .int .i64 te, .int .i64 td, .int .i64 t0, .int .i64 t1, .int .i64 t2, .int .i64 t3, .slice Ar rl.length cr, .slice Ac cl.length cc, .slice Ad dl.length cd, .slice Ap pl.length cp, .slice Am ml.length cm, .int .i64 cu, .slice Ae el.length ce, .bool true, .int .i64 wy] := by rw [hW2]; exact (Bx.new w 45 _ rfl).alloc _
  have X1 : Bx W2 (w.heap.size + 1) 45 #[.int .i64 0, .int .i64 0, .int .i64 0, .int .i64 0, .int .i64 0, .int .i64 0, .int .i64 0, .int .i64 0, .int .i64 0, .int .i64 0, .slice none 0 0, .slice none 0 0, .slice none 0 0, .slice none 0 0, .slice none 0 0, .int .i64 0, .slice none 0 0, .bool false, .int .i64 0] := by rw [hW2]; exact Bx.new _ 45 _ (by simp)
  have GW := Lib.hid (show Ge w W2 by rw [hW2]; exact ((Ge.refl w).alloc _).alloc _)
  have HX0 := Lib.hid X0
  have HX1 := Lib.hid X1
  have HI := Lib.hid i45
  have c0 := X0.cell
  have f0 := X0.frozen
  have n0 := X0.lt
  have qRM : restM ⟨6, ve, p1, p2, ⟨te, td, t0, t1, t2, t3⟩, rl, cl, dl, pl, ml, cu, el, true, wy⟩ = (⟨6, ve, p1, p2, ⟨te, td, t0, t1, t2, t3⟩, rl, cl, dl, pl, ml, cu, el, true, wy⟩, false) := by unfold restM; simp [w1]
  have QRM := Lib.hid qRM
  clear qRM X0 X1
  go_enter Tryd.func51, Tryd.ntmps51
  go_upto_region 1 with (fail)
  rw [← hW2]
  clear hW2
  go_upto_region 19 with (fail)
  have g4 := GW.out
  have z4 := HX1.out
  have y4 : Bx W2 w.heap.size 45 #[.int .i64 6, .int .i64 ve, .int .i64 p1, .int .i64 p2, .int .i64 te, .int .i64 td, .int .i64 t0, .int .i64 t1, .int .i64 t2, .int .i64 t3, .slice Ar rl.length cr, .slice Ac cl.length cc, .slice Ad dl.length cd, .slice Ap pl.length cp, .slice Am ml.length cm, .int .i64 cu, .slice Ae el.length ce, .bool true, .int .i64 wy] := HX0.out
  have kk : Kp B W2 W2 := Kp.refl B _
  obtain ⟨CE, hCE⟩ : ∃ c : Array Value, c = #[.int .i64 6, .int .i64 ve, .int .i64 p1, .int .i64 p2, .int .i64 te, .int .i64 td, .int .i64 t0, .int .i64 t1, .int .i64 t2, .int .i64 t3, .slice Ar rl.length cr, .slice Ac cl.length cc, .slice Ad dl.length cd, .slice Ap pl.length cp, .slice Am ml.length cm, .int .i64 cu, .slice Ae el.length ce, .bool true, .int .i64 wy] := ⟨_, rfl⟩
  rw [← hCE] at y4
  have HY4 := Lib.hid y4
  have HZ4 := Lib.hid z4
  have HG4 := Lib.hid g4
  have HKK := Lib.hid kk
  have HCE := Lib.hid hCE
  have hs19 : CE.size = 19 := by rw [hCE]; rfl
  have HS19 := Lib.hid hs19
  have HIC := Lib.hid (show (Tryd.prog.info? 45).map (·.size) = some CE.size by rw [hs19]; exact i45)
  have HTH := Lib.hid (show W2.there (w.heap.size + 1) 0 CE.size from by rw [hs19]; exact z4.there)
  have HONE := Lib.hid (show CE.all (fun v => v.oneCell') = true by rw [hCE]; simp [Value.oneCell'])
  clear y4 z4 g4 kk hCE hs19 c0 f0 n0
  go_wp2_with (first | (refine wpList_load_row (by rfl) 45 (.tmp 1) (by rfl) w.heap.size (by rfl) 45 CE (0, 0) _ HY4.out Tryd.underlying45 rfl HIC.out ?_) | (refine wpList_store_mid (by rfl) 45 (.tmp 2) (.tmp 64) (by rfl) (w.heap.size + 1) 0 CE (by rfl) (by rfl) HTH.out HIC.out HONE.out ?_; generalize hW6 : W2.setCells (w.heap.size + 1) 0 CE.toList = W6; have HW6 := Lib.hid hW6; clear hW6))
  have z6 := HZ4.out.fill CE.toList (by rw [Array.length_toList, HS19.out]; rfl)
  have k6 := HKK.out.trans (Kp.sets (by decide) (by omega) CE.toList 0 HZ4.out)
  have g6 : Ge w (W2.setCells (w.heap.size + 1) 0 CE.toList) := below_sets (by omega) _ _ _ HG4.out
  rw [HW6.out] at z6 k6 g6
  have z7 : Bx W6 (w.heap.size + 1) 45 CE := z6
  refine bodyPost_ret (v := .tuple #[.agg CE, .bool (false)]) (results_msg_tmp Tryd.results51 _ W6 (w.heap.size + 1) CE _ rfl z7 HS19.out rfl) rfl ?_
  have hS := (HSL.out.ge GW.out).kp k6
  refine ⟨⟨.slice Ar rl.length cr, .slice Ac cl.length cc, .slice Ad dl.length cd, .slice Ap pl.length cp, .slice Am ml.length cm, .slice Ae el.length ce⟩, ?_, ?_, g6⟩
  · rw [QRM.out, HCE.out]; rfl
  · rw [QRM.out]; exact ⟨hS.r, hS.c, hS.d, hS.p, hS.mv, hS.e⟩

set_option maxRecDepth 100000 in
set_option maxHeartbeats 16000000 in
theorem rest6q {B : Nat} {w : World} {s : Sls} {m : Msg} (h : SlAt B w s m) (hs : Small m) (hB : B ≤ w.heap.size) (hk : m.kind = 6) (hy : m.yes = false) (hw : m.why = 0) :
    Calls Tryd.prog 51 #[.agg (encG m s).toArray] w (RestOut B w m) := by
  have HSL := Lib.hid h
  obtain ⟨kd, ve, p1, p2, ⟨te, td, t0, t1, t2, t3⟩, rl, cl, dl, pl, ml, cu, el, ye, wy⟩ := m
  obtain ⟨sr, sc, sd, sp, sm, se⟩ := s
  obtain ⟨h1, h2, h3, h4, h5, h6⟩ := h
  obtain ⟨l1, l2, l3, l4, l4n, l5, l6⟩ := hs
  dsimp only at h1 h2 h3 h4 h5 h6 l1 l2 l3 l4 l4n l5 l6 hk
  obtain ⟨Ar, cr, rfl⟩ := h1.form
  obtain ⟨Ac, cc, rfl⟩ := h2.form
  obtain ⟨Ad, cd, rfl⟩ := h3.form
  obtain ⟨Ap, cp, rfl⟩ := h4.form
  obtain ⟨Am, cm, rfl⟩ := h5.form
  obtain ⟨Ae, ce, rfl⟩ := h6.form
  clear h1 h2 h3 h4 h5 h6 l4n
  dsimp only at hy hw
  subst hk
  have w1 : (wy == 0) = true := by simp [hw]
  subst hy
  clear hw
  simp only [encG]
  obtain ⟨W2, hW2⟩ : ∃ x, x = (w.alloc (.cells #[.int .i64 6, .int .i64 ve, .int .i64 p1, .int .i64 p2, .int .i64 te, .int .i64 td, .int .i64 t0, .int .i64 t1, .int .i64 t2, .int .i64 t3, .slice Ar rl.length cr, .slice Ac cl.length cc, .slice Ad dl.length cd, .slice Ap pl.length cp, .slice Am ml.length cm, .int .i64 cu, .slice Ae el.length ce, .bool false, .int .i64 wy] 45)).alloc (.cells #[.int .i64 0, .int .i64 0, .int .i64 0, .int .i64 0, .int .i64 0, .int .i64 0, .int .i64 0, .int .i64 0, .int .i64 0, .int .i64 0, .slice none 0 0, .slice none 0 0, .slice none 0 0, .slice none 0 0, .slice none 0 0, .int .i64 0, .slice none 0 0, .bool false, .int .i64 0] 45) := ⟨_, rfl⟩
  have X0 : Bx W2 w.heap.size 45 #[.int .i64 6, .int .i64 ve, .int .i64 p1, .int .i64 p2, .int .i64 te, .int .i64 td, .int .i64 t0, .int .i64 t1, .int .i64 t2, .int .i64 t3, .slice Ar rl.length cr, .slice Ac cl.length cc, .slice Ad dl.length cd, .slice Ap pl.length cp, .slice Am ml.length cm, .int .i64 cu, .slice Ae el.length ce, .bool false, .int .i64 wy] := by rw [hW2]; exact (Bx.new w 45 _ rfl).alloc _
  have X1 : Bx W2 (w.heap.size + 1) 45 #[.int .i64 0, .int .i64 0, .int .i64 0, .int .i64 0, .int .i64 0, .int .i64 0, .int .i64 0, .int .i64 0, .int .i64 0, .int .i64 0, .slice none 0 0, .slice none 0 0, .slice none 0 0, .slice none 0 0, .slice none 0 0, .int .i64 0, .slice none 0 0, .bool false, .int .i64 0] := by rw [hW2]; exact Bx.new _ 45 _ (by simp)
  have GW := Lib.hid (show Ge w W2 by rw [hW2]; exact ((Ge.refl w).alloc _).alloc _)
  have HX0 := Lib.hid X0
  have HX1 := Lib.hid X1
  have HI := Lib.hid i45
  have c0 := X0.cell
  have f0 := X0.frozen
  have n0 := X0.lt
  have qRM : restM ⟨6, ve, p1, p2, ⟨te, td, t0, t1, t2, t3⟩, rl, cl, dl, pl, ml, cu, el, false, wy⟩ = (⟨6, ve, p1, p2, ⟨te, td, t0, t1, t2, t3⟩, rl, cl, dl, pl, ml, cu, el, false, wy⟩, false) := by unfold restM; simp [w1]
  have QRM := Lib.hid qRM
  clear qRM X0 X1
  go_enter Tryd.func51, Tryd.ntmps51
  go_upto_region 1 with (fail)
  rw [← hW2]
  clear hW2
  go_upto_region 19 with (fail)
  have g4 := GW.out
  have z4 := HX1.out
  have y4 : Bx W2 w.heap.size 45 #[.int .i64 6, .int .i64 ve, .int .i64 p1, .int .i64 p2, .int .i64 te, .int .i64 td, .int .i64 t0, .int .i64 t1, .int .i64 t2, .int .i64 t3, .slice Ar rl.length cr, .slice Ac cl.length cc, .slice Ad dl.length cd, .slice Ap pl.length cp, .slice Am ml.length cm, .int .i64 cu, .slice Ae el.length ce, .bool false, .int .i64 wy] := HX0.out
  have kk : Kp B W2 W2 := Kp.refl B _
  obtain ⟨CE, hCE⟩ : ∃ c : Array Value, c = #[.int .i64 6, .int .i64 ve, .int .i64 p1, .int .i64 p2, .int .i64 te, .int .i64 td, .int .i64 t0, .int .i64 t1, .int .i64 t2, .int .i64 t3, .slice Ar rl.length cr, .slice Ac cl.length cc, .slice Ad dl.length cd, .slice Ap pl.length cp, .slice Am ml.length cm, .int .i64 cu, .slice Ae el.length ce, .bool false, .int .i64 wy] := ⟨_, rfl⟩
  rw [← hCE] at y4
  have HY4 := Lib.hid y4
  have HZ4 := Lib.hid z4
  have HG4 := Lib.hid g4
  have HKK := Lib.hid kk
  have HCE := Lib.hid hCE
  have hs19 : CE.size = 19 := by rw [hCE]; rfl
  have HS19 := Lib.hid hs19
  have HIC := Lib.hid (show (Tryd.prog.info? 45).map (·.size) = some CE.size by rw [hs19]; exact i45)
  have HTH := Lib.hid (show W2.there (w.heap.size + 1) 0 CE.size from by rw [hs19]; exact z4.there)
  have HONE := Lib.hid (show CE.all (fun v => v.oneCell') = true by rw [hCE]; simp [Value.oneCell'])
  clear y4 z4 g4 kk hCE hs19 c0 f0 n0
  go_wp2_with (first | (refine wpList_load_row (by rfl) 45 (.tmp 1) (by rfl) w.heap.size (by rfl) 45 CE (0, 0) _ HY4.out Tryd.underlying45 rfl HIC.out ?_) | (refine wpList_store_mid (by rfl) 45 (.tmp 2) (.tmp 64) (by rfl) (w.heap.size + 1) 0 CE (by rfl) (by rfl) HTH.out HIC.out HONE.out ?_; generalize hW6 : W2.setCells (w.heap.size + 1) 0 CE.toList = W6; have HW6 := Lib.hid hW6; clear hW6))
  have z6 := HZ4.out.fill CE.toList (by rw [Array.length_toList, HS19.out]; rfl)
  have k6 := HKK.out.trans (Kp.sets (by decide) (by omega) CE.toList 0 HZ4.out)
  have g6 : Ge w (W2.setCells (w.heap.size + 1) 0 CE.toList) := below_sets (by omega) _ _ _ HG4.out
  rw [HW6.out] at z6 k6 g6
  have z7 : Bx W6 (w.heap.size + 1) 45 CE := z6
  refine bodyPost_ret (v := .tuple #[.agg CE, .bool (false)]) (results_msg_tmp Tryd.results51 _ W6 (w.heap.size + 1) CE _ rfl z7 HS19.out rfl) rfl ?_
  have hS := (HSL.out.ge GW.out).kp k6
  refine ⟨⟨.slice Ar rl.length cr, .slice Ac cl.length cc, .slice Ad dl.length cd, .slice Ap pl.length cp, .slice Am ml.length cm, .slice Ae el.length ce⟩, ?_, ?_, g6⟩
  · rw [QRM.out, HCE.out]; rfl
  · rw [QRM.out]; exact ⟨hS.r, hS.c, hS.d, hS.p, hS.mv, hS.e⟩

set_option maxRecDepth 100000 in
set_option maxHeartbeats 16000000 in
theorem rest6a {B : Nat} {w : World} {s : Sls} {m : Msg} (h : SlAt B w s m) (hs : Small m) (hB : B ≤ w.heap.size) (hk : m.kind = 6) (hy : m.yes = true) (hw : m.why = 0) (hc : 1024 < m.ents.length) :
    Calls Tryd.prog 51 #[.agg (encG m s).toArray] w (RestOut B w m) := by
  have HSL := Lib.hid h
  obtain ⟨kd, ve, p1, p2, ⟨te, td, t0, t1, t2, t3⟩, rl, cl, dl, pl, ml, cu, el, ye, wy⟩ := m
  obtain ⟨sr, sc, sd, sp, sm, se⟩ := s
  obtain ⟨h1, h2, h3, h4, h5, h6⟩ := h
  obtain ⟨l1, l2, l3, l4, l4n, l5, l6⟩ := hs
  dsimp only at h1 h2 h3 h4 h5 h6 l1 l2 l3 l4 l4n l5 l6 hk
  obtain ⟨Ar, cr, rfl⟩ := h1.form
  obtain ⟨Ac, cc, rfl⟩ := h2.form
  obtain ⟨Ad, cd, rfl⟩ := h3.form
  obtain ⟨Ap, cp, rfl⟩ := h4.form
  obtain ⟨Am, cm, rfl⟩ := h5.form
  obtain ⟨Ae, ce, rfl⟩ := h6.form
  clear h1 h2 h3 h4 h5 h6 l4n
  dsimp only at hy hw hc
  subst hk
  have w1 : (wy == 0) = true := by simp [hw]
  subst hy
  have u1 : decide ((el.length : Int) ≤ 1024) = false := decide_eq_false (by omega)
  have v1 : decide (el.length ≤ 1024) = false := decide_eq_false (by omega)
  clear hw hc
  simp only [encG]
  obtain ⟨W2, hW2⟩ : ∃ x, x = (w.alloc (.cells #[.int .i64 6, .int .i64 ve, .int .i64 p1, .int .i64 p2, .int .i64 te, .int .i64 td, .int .i64 t0, .int .i64 t1, .int .i64 t2, .int .i64 t3, .slice Ar rl.length cr, .slice Ac cl.length cc, .slice Ad dl.length cd, .slice Ap pl.length cp, .slice Am ml.length cm, .int .i64 cu, .slice Ae el.length ce, .bool true, .int .i64 wy] 45)).alloc (.cells #[.int .i64 0, .int .i64 0, .int .i64 0, .int .i64 0, .int .i64 0, .int .i64 0, .int .i64 0, .int .i64 0, .int .i64 0, .int .i64 0, .slice none 0 0, .slice none 0 0, .slice none 0 0, .slice none 0 0, .slice none 0 0, .int .i64 0, .slice none 0 0, .bool false, .int .i64 0] 45) := ⟨_, rfl⟩
  have X0 : Bx W2 w.heap.size 45 #[.int .i64 6, .int .i64 ve, .int .i64 p1, .int .i64 p2, .int .i64 te, .int .i64 td, .int .i64 t0, .int .i64 t1, .int .i64 t2, .int .i64 t3, .slice Ar rl.length cr, .slice Ac cl.length cc, .slice Ad dl.length cd, .slice Ap pl.length cp, .slice Am ml.length cm, .int .i64 cu, .slice Ae el.length ce, .bool true, .int .i64 wy] := by rw [hW2]; exact (Bx.new w 45 _ rfl).alloc _
  have X1 : Bx W2 (w.heap.size + 1) 45 #[.int .i64 0, .int .i64 0, .int .i64 0, .int .i64 0, .int .i64 0, .int .i64 0, .int .i64 0, .int .i64 0, .int .i64 0, .int .i64 0, .slice none 0 0, .slice none 0 0, .slice none 0 0, .slice none 0 0, .slice none 0 0, .int .i64 0, .slice none 0 0, .bool false, .int .i64 0] := by rw [hW2]; exact Bx.new _ 45 _ (by simp)
  have GW := Lib.hid (show Ge w W2 by rw [hW2]; exact ((Ge.refl w).alloc _).alloc _)
  have HX0 := Lib.hid X0
  have HX1 := Lib.hid X1
  have HI := Lib.hid i45
  have c0 := X0.cell
  have f0 := X0.frozen
  have n0 := X0.lt
  have qRM : restM ⟨6, ve, p1, p2, ⟨te, td, t0, t1, t2, t3⟩, rl, cl, dl, pl, ml, cu, el, true, wy⟩ = (⟨6, ve, p1, p2, ⟨te, td, t0, t1, t2, t3⟩, rl, cl, dl, pl, ml, cu, [], false, 0⟩, false) := by unfold restM endB; dsimp only; rw [v1]; simp [w1]
  have QRM := Lib.hid qRM
  clear qRM X0 X1 v1
  go_enter Tryd.func51, Tryd.ntmps51
  go_upto_region 1 with (fail)
  rw [← hW2]
  clear hW2
  go_upto_region 23 with (fail)
  obtain ⟨W4, hW4⟩ : ∃ x, x = (((W2.setCell ⟨w.heap.size, 18, none⟩ (.int .i64 0)).setCell ⟨w.heap.size, 17, none⟩ (.bool false)).setCell ⟨w.heap.size, 16, none⟩ (.slice none 0 0)) := ⟨_, rfl⟩
  have b0 := Bx.set (HX0.out) 18 (.int .i64 0)
  have k0 := Kp.set (HX0.out) (by decide) hB 18 (.int .i64 0)
  have b1 := Bx.set (b0) 17 (.bool false)
  have k1 := k0.trans (Kp.set (b0) (by decide) hB 17 (.bool false))
  have b2 := Bx.set (b1) 16 (.slice none 0 0)
  have k2 := k1.trans (Kp.set (b1) (by decide) hB 16 (.slice none 0 0))
  have g4 : Ge w (((W2.setCell ⟨w.heap.size, 18, none⟩ (.int .i64 0)).setCell ⟨w.heap.size, 17, none⟩ (.bool false)).setCell ⟨w.heap.size, 16, none⟩ (.slice none 0 0)) := Below.setCell (Below.setCell (Below.setCell (GW.out) (Nat.le_refl _) (.int .i64 0)) (Nat.le_refl _) (.bool false)) (Nat.le_refl _) (.slice none 0 0)
  have z4 := Bx.set_ne (b' := w.heap.size) (Bx.set_ne (b' := w.heap.size) (Bx.set_ne (b' := w.heap.size) (HX1.out) 18 (.int .i64 0) (by omega)) 17 (.bool false) (by omega)) 16 (.slice none 0 0) (by omega)
  have y4 : Bx (((W2.setCell ⟨w.heap.size, 18, none⟩ (.int .i64 0)).setCell ⟨w.heap.size, 17, none⟩ (.bool false)).setCell ⟨w.heap.size, 16, none⟩ (.slice none 0 0)) w.heap.size 45 #[.int .i64 6, .int .i64 ve, .int .i64 p1, .int .i64 p2, .int .i64 te, .int .i64 td, .int .i64 t0, .int .i64 t1, .int .i64 t2, .int .i64 t3, .slice Ar rl.length cr, .slice Ac cl.length cc, .slice Ad dl.length cd, .slice Ap pl.length cp, .slice Am ml.length cm, .int .i64 cu, .slice none 0 0, .bool false, .int .i64 0] := by
    have q := b2
    simp only [List.setIfInBounds_toArray, List.set_cons_zero, List.set_cons_succ] at q
    exact q
  have kk : Kp B W2 (((W2.setCell ⟨w.heap.size, 18, none⟩ (.int .i64 0)).setCell ⟨w.heap.size, 17, none⟩ (.bool false)).setCell ⟨w.heap.size, 16, none⟩ (.slice none 0 0)) := k2
  rw [← hW4] at g4 z4 y4 kk ⊢
  clear hW4 b0 k0 b1 k1 b2 k2
  obtain ⟨CE, hCE⟩ : ∃ c : Array Value, c = #[.int .i64 6, .int .i64 ve, .int .i64 p1, .int .i64 p2, .int .i64 te, .int .i64 td, .int .i64 t0, .int .i64 t1, .int .i64 t2, .int .i64 t3, .slice Ar rl.length cr, .slice Ac cl.length cc, .slice Ad dl.length cd, .slice Ap pl.length cp, .slice Am ml.length cm, .int .i64 cu, .slice none 0 0, .bool false, .int .i64 0] := ⟨_, rfl⟩
  rw [← hCE] at y4
  have HY4 := Lib.hid y4
  have HZ4 := Lib.hid z4
  have HG4 := Lib.hid g4
  have HKK := Lib.hid kk
  have HCE := Lib.hid hCE
  have hs19 : CE.size = 19 := by rw [hCE]; rfl
  have HS19 := Lib.hid hs19
  have HIC := Lib.hid (show (Tryd.prog.info? 45).map (·.size) = some CE.size by rw [hs19]; exact i45)
  have HTH := Lib.hid (show W4.there (w.heap.size + 1) 0 CE.size from by rw [hs19]; exact z4.there)
  have HONE := Lib.hid (show CE.all (fun v => v.oneCell') = true by rw [hCE]; simp [Value.oneCell'])
  clear y4 z4 g4 kk hCE hs19 c0 f0 n0
  go_wp2_with (first | (refine wpList_load_row (by rfl) 45 (.tmp 1) (by rfl) w.heap.size (by rfl) 45 CE (0, 0) _ HY4.out Tryd.underlying45 rfl HIC.out ?_) | (refine wpList_store_mid (by rfl) 45 (.tmp 2) (.tmp 82) (by rfl) (w.heap.size + 1) 0 CE (by rfl) (by rfl) HTH.out HIC.out HONE.out ?_; generalize hW6 : W4.setCells (w.heap.size + 1) 0 CE.toList = W6; have HW6 := Lib.hid hW6; clear hW6))
  have z6 := HZ4.out.fill CE.toList (by rw [Array.length_toList, HS19.out]; rfl)
  have k6 := HKK.out.trans (Kp.sets (by decide) (by omega) CE.toList 0 HZ4.out)
  have g6 : Ge w (W4.setCells (w.heap.size + 1) 0 CE.toList) := below_sets (by omega) _ _ _ HG4.out
  rw [HW6.out] at z6 k6 g6
  have z7 : Bx W6 (w.heap.size + 1) 45 CE := z6
  refine bodyPost_ret (v := .tuple #[.agg CE, .bool (false)]) (results_msg_tmp Tryd.results51 _ W6 (w.heap.size + 1) CE _ rfl z7 HS19.out rfl) rfl ?_
  have hS := (HSL.out.ge GW.out).kp k6
  refine ⟨⟨.slice Ar rl.length cr, .slice Ac cl.length cc, .slice Ad dl.length cd, .slice Ap pl.length cp, .slice Am ml.length cm, .slice none 0 0⟩, ?_, ?_, g6⟩
  · rw [QRM.out, HCE.out]; rfl
  · rw [QRM.out]; exact ⟨hS.r, hS.c, hS.d, hS.p, hS.mv, LAt.nil _ _ _ _ _⟩

set_option maxRecDepth 100000 in
set_option maxHeartbeats 16000000 in
theorem rest6e {B : Nat} {w : World} {s : Sls} {m : Msg} (h : SlAt B w s m) (hs : Small m) (hB : B ≤ w.heap.size) (hk : m.kind = 6) (hy : m.yes = false) (hw : m.why ≠ 0) (hc : 1024 < m.ents.length) :
    Calls Tryd.prog 51 #[.agg (encG m s).toArray] w (RestOut B w m) := by
  have HSL := Lib.hid h
  obtain ⟨kd, ve, p1, p2, ⟨te, td, t0, t1, t2, t3⟩, rl, cl, dl, pl, ml, cu, el, ye, wy⟩ := m
  obtain ⟨sr, sc, sd, sp, sm, se⟩ := s
  obtain ⟨h1, h2, h3, h4, h5, h6⟩ := h
  obtain ⟨l1, l2, l3, l4, l4n, l5, l6⟩ := hs
  dsimp only at h1 h2 h3 h4 h5 h6 l1 l2 l3 l4 l4n l5 l6 hk
  obtain ⟨Ar, cr, rfl⟩ := h1.form
  obtain ⟨Ac, cc, rfl⟩ := h2.form
  obtain ⟨Ad, cd, rfl⟩ := h3.form
  obtain ⟨Ap, cp, rfl⟩ := h4.form
  obtain ⟨Am, cm, rfl⟩ := h5.form
  obtain ⟨Ae, ce, rfl⟩ := h6.form
  clear h1 h2 h3 h4 h5 h6 l4n
  dsimp only at hy hw hc
  subst hk
  have w1 : (wy == 0) = false := by simpa using hw
  subst hy
  have u1 : decide ((el.length : Int) ≤ 1024) = false := decide_eq_false (by omega)
  have v1 : decide (el.length ≤ 1024) = false := decide_eq_false (by omega)
  clear hw hc
  simp only [encG]
  obtain ⟨W2, hW2⟩ : ∃ x, x = (w.alloc (.cells #[.int .i64 6, .int .i64 ve, .int .i64 p1, .int .i64 p2, .int .i64 te, .int .i64 td, .int .i64 t0, .int .i64 t1, .int .i64 t2, .int .i64 t3, .slice Ar rl.length cr, .slice Ac cl.length cc, .slice Ad dl.length cd, .slice Ap pl.length cp, .slice Am ml.length cm, .int .i64 cu, .slice Ae el.length ce, .bool false, .int .i64 wy] 45)).alloc (.cells #[.int .i64 0, .int .i64 0, .int .i64 0, .int .i64 0, .int .i64 0, .int .i64 0, .int .i64 0, .int .i64 0, .int .i64 0, .int .i64 0, .slice none 0 0, .slice none 0 0, .slice none 0 0, .slice none 0 0, .slice none 0 0, .int .i64 0, .slice none 0 0, .bool false, .int .i64 0] 45) := ⟨_, rfl⟩
  have X0 : Bx W2 w.heap.size 45 #[.int .i64 6, .int .i64 ve, .int .i64 p1, .int .i64 p2, .int .i64 te, .int .i64 td, .int .i64 t0, .int .i64 t1, .int .i64 t2, .int .i64 t3, .slice Ar rl.length cr, .slice Ac cl.length cc, .slice Ad dl.length cd, .slice Ap pl.length cp, .slice Am ml.length cm, .int .i64 cu, .slice Ae el.length ce, .bool false, .int .i64 wy] := by rw [hW2]; exact (Bx.new w 45 _ rfl).alloc _
  have X1 : Bx W2 (w.heap.size + 1) 45 #[.int .i64 0, .int .i64 0, .int .i64 0, .int .i64 0, .int .i64 0, .int .i64 0, .int .i64 0, .int .i64 0, .int .i64 0, .int .i64 0, .slice none 0 0, .slice none 0 0, .slice none 0 0, .slice none 0 0, .slice none 0 0, .int .i64 0, .slice none 0 0, .bool false, .int .i64 0] := by rw [hW2]; exact Bx.new _ 45 _ (by simp)
  have GW := Lib.hid (show Ge w W2 by rw [hW2]; exact ((Ge.refl w).alloc _).alloc _)
  have HX0 := Lib.hid X0
  have HX1 := Lib.hid X1
  have HI := Lib.hid i45
  have c0 := X0.cell
  have f0 := X0.frozen
  have n0 := X0.lt
  have qRM : restM ⟨6, ve, p1, p2, ⟨te, td, t0, t1, t2, t3⟩, rl, cl, dl, pl, ml, cu, el, false, wy⟩ = (⟨6, ve, p1, p2, ⟨te, td, t0, t1, t2, t3⟩, rl, cl, dl, pl, ml, cu, [], false, 0⟩, false) := by unfold restM endB; dsimp only; rw [v1]; simp [w1]
  have QRM := Lib.hid qRM
  clear qRM X0 X1 v1
  go_enter Tryd.func51, Tryd.ntmps51
  go_upto_region 1 with (fail)
  rw [← hW2]
  clear hW2
  go_upto_region 23 with (fail)
  obtain ⟨W4, hW4⟩ : ∃ x, x = (((W2.setCell ⟨w.heap.size, 18, none⟩ (.int .i64 0)).setCell ⟨w.heap.size, 17, none⟩ (.bool false)).setCell ⟨w.heap.size, 16, none⟩ (.slice none 0 0)) := ⟨_, rfl⟩
  have b0 := Bx.set (HX0.out) 18 (.int .i64 0)
  have k0 := Kp.set (HX0.out) (by decide) hB 18 (.int .i64 0)
  have b1 := Bx.set (b0) 17 (.bool false)
  have k1 := k0.trans (Kp.set (b0) (by decide) hB 17 (.bool false))
  have b2 := Bx.set (b1) 16 (.slice none 0 0)
  have k2 := k1.trans (Kp.set (b1) (by decide) hB 16 (.slice none 0 0))
  have g4 : Ge w (((W2.setCell ⟨w.heap.size, 18, none⟩ (.int .i64 0)).setCell ⟨w.heap.size, 17, none⟩ (.bool false)).setCell ⟨w.heap.size, 16, none⟩ (.slice none 0 0)) := Below.setCell (Below.setCell (Below.setCell (GW.out) (Nat.le_refl _) (.int .i64 0)) (Nat.le_refl _) (.bool false)) (Nat.le_refl _) (.slice none 0 0)
  have z4 := Bx.set_ne (b' := w.heap.size) (Bx.set_ne (b' := w.heap.size) (Bx.set_ne (b' := w.heap.size) (HX1.out) 18 (.int .i64 0) (by omega)) 17 (.bool false) (by omega)) 16 (.slice none 0 0) (by omega)
  have y4 : Bx (((W2.setCell ⟨w.heap.size, 18, none⟩ (.int .i64 0)).setCell ⟨w.heap.size, 17, none⟩ (.bool false)).setCell ⟨w.heap.size, 16, none⟩ (.slice none 0 0)) w.heap.size 45 #[.int .i64 6, .int .i64 ve, .int .i64 p1, .int .i64 p2, .int .i64 te, .int .i64 td, .int .i64 t0, .int .i64 t1, .int .i64 t2, .int .i64 t3, .slice Ar rl.length cr, .slice Ac cl.length cc, .slice Ad dl.length cd, .slice Ap pl.length cp, .slice Am ml.length cm, .int .i64 cu, .slice none 0 0, .bool false, .int .i64 0] := by
    have q := b2
    simp only [List.setIfInBounds_toArray, List.set_cons_zero, List.set_cons_succ] at q
    exact q
  have kk : Kp B W2 (((W2.setCell ⟨w.heap.size, 18, none⟩ (.int .i64 0)).setCell ⟨w.heap.size, 17, none⟩ (.bool false)).setCell ⟨w.heap.size, 16, none⟩ (.slice none 0 0)) := k2
  rw [← hW4] at g4 z4 y4 kk ⊢
  clear hW4 b0 k0 b1 k1 b2 k2
  obtain ⟨CE, hCE⟩ : ∃ c : Array Value, c = #[.int .i64 6, .int .i64 ve, .int .i64 p1, .int .i64 p2, .int .i64 te, .int .i64 td, .int .i64 t0, .int .i64 t1, .int .i64 t2, .int .i64 t3, .slice Ar rl.length cr, .slice Ac cl.length cc, .slice Ad dl.length cd, .slice Ap pl.length cp, .slice Am ml.length cm, .int .i64 cu, .slice none 0 0, .bool false, .int .i64 0] := ⟨_, rfl⟩
  rw [← hCE] at y4
  have HY4 := Lib.hid y4
  have HZ4 := Lib.hid z4
  have HG4 := Lib.hid g4
  have HKK := Lib.hid kk
  have HCE := Lib.hid hCE
  have hs19 : CE.size = 19 := by rw [hCE]; rfl
  have HS19 := Lib.hid hs19
  have HIC := Lib.hid (show (Tryd.prog.info? 45).map (·.size) = some CE.size by rw [hs19]; exact i45)
  have HTH := Lib.hid (show W4.there (w.heap.size + 1) 0 CE.size from by rw [hs19]; exact z4.there)
  have HONE := Lib.hid (show CE.all (fun v => v.oneCell') = true by rw [hCE]; simp [Value.oneCell'])
  clear y4 z4 g4 kk hCE hs19 c0 f0 n0
  go_wp2_with (first | (refine wpList_load_row (by rfl) 45 (.tmp 1) (by rfl) w.heap.size (by rfl) 45 CE (0, 0) _ HY4.out Tryd.underlying45 rfl HIC.out ?_) | (refine wpList_store_mid (by rfl) 45 (.tmp 2) (.tmp 82) (by rfl) (w.heap.size + 1) 0 CE (by rfl) (by rfl) HTH.out HIC.out HONE.out ?_; generalize hW6 : W4.setCells (w.heap.size + 1) 0 CE.toList = W6; have HW6 := Lib.hid hW6; clear hW6))
  have z6 := HZ4.out.fill CE.toList (by rw [Array.length_toList, HS19.out]; rfl)
  have k6 := HKK.out.trans (Kp.sets (by decide) (by omega) CE.toList 0 HZ4.out)
  have g6 : Ge w (W4.setCells (w.heap.size + 1) 0 CE.toList) := below_sets (by omega) _ _ _ HG4.out
  rw [HW6.out] at z6 k6 g6
  have z7 : Bx W6 (w.heap.size + 1) 45 CE := z6
  refine bodyPost_ret (v := .tuple #[.agg CE, .bool (false)]) (results_msg_tmp Tryd.results51 _ W6 (w.heap.size + 1) CE _ rfl z7 HS19.out rfl) rfl ?_
  have hS := (HSL.out.ge GW.out).kp k6
  refine ⟨⟨.slice Ar rl.length cr, .slice Ac cl.length cc, .slice Ad dl.length cd, .slice Ap pl.length cp, .slice Am ml.length cm, .slice none 0 0⟩, ?_, ?_, g6⟩
  · rw [QRM.out, HCE.out]; rfl
  · rw [QRM.out]; exact ⟨hS.r, hS.c, hS.d, hS.p, hS.mv, LAt.nil _ _ _ _ _⟩

set_option maxRecDepth 100000 in
set_option maxHeartbeats 16000000 in
theorem rest6b {B : Nat} {w : World} {s : Sls} {m : Msg} (h : SlAt B w s m) (hs : Small m) (hB : B ≤ w.heap.size) (hk : m.kind = 6) (hy : m.yes = true) (hw : m.why = 0) (hc : m.ents.length ≤ 1024) :
    Calls Tryd.prog 51 #[.agg (encG m s).toArray] w (RestOut B w m) := by
  have HSL := Lib.hid h
  obtain ⟨kd, ve, p1, p2, ⟨te, td, t0, t1, t2, t3⟩, rl, cl, dl, pl, ml, cu, el, ye, wy⟩ := m
  obtain ⟨sr, sc, sd, sp, sm, se⟩ := s
  obtain ⟨h1, h2, h3, h4, h5, h6⟩ := h
  obtain ⟨l1, l2, l3, l4, l4n, l5, l6⟩ := hs
  dsimp only at h1 h2 h3 h4 h5 h6 l1 l2 l3 l4 l4n l5 l6 hk
  obtain ⟨Ar, cr, rfl⟩ := h1.form
  obtain ⟨Ac, cc, rfl⟩ := h2.form
  obtain ⟨Ad, cd, rfl⟩ := h3.form
  obtain ⟨Ap, cp, rfl⟩ := h4.form
  obtain ⟨Am, cm, rfl⟩ := h5.form
  obtain ⟨Ae, ce, rfl⟩ := h6.form
  clear h1 h2 h3 h4 h5 h6 l4n
  dsimp only at hy hw hc
  subst hk
  have w1 : (wy == 0) = true := by simp [hw]
  subst hy
  have u1 : decide ((el.length : Int) ≤ 1024) = true := decide_eq_true (by omega)
  have v1 : decide (el.length ≤ 1024) = true := decide_eq_true (by omega)
  clear hw hc
  simp only [encG]
  obtain ⟨W2, hW2⟩ : ∃ x, x = (w.alloc (.cells #[.int .i64 6, .int .i64 ve, .int .i64 p1, .int .i64 p2, .int .i64 te, .int .i64 td, .int .i64 t0, .int .i64 t1, .int .i64 t2, .int .i64 t3, .slice Ar rl.length cr, .slice Ac cl.length cc, .slice Ad dl.length cd, .slice Ap pl.length cp, .slice Am ml.length cm, .int .i64 cu, .slice Ae el.length ce, .bool true, .int .i64 wy] 45)).alloc (.cells #[.int .i64 0, .int .i64 0, .int .i64 0, .int .i64 0, .int .i64 0, .int .i64 0, .int .i64 0, .int .i64 0, .int .i64 0, .int .i64 0, .slice none 0 0, .slice none 0 0, .slice none 0 0, .slice none 0 0, .slice none 0 0, .int .i64 0, .slice none 0 0, .bool false, .int .i64 0] 45) := ⟨_, rfl⟩
  have X0 : Bx W2 w.heap.size 45 #[.int .i64 6, .int .i64 ve, .int .i64 p1, .int .i64 p2, .int .i64 te, .int .i64 td, .int .i64 t0, .int .i64 t1, .int .i64 t2, .int .i64 t3, .slice Ar rl.length cr, .slice Ac cl.length cc, .slice Ad dl.length cd, .slice Ap pl.length cp, .slice Am ml.length cm, .int .i64 cu, .slice Ae el.length ce, .bool true, .int .i64 wy] := by rw [hW2]; exact (Bx.new w 45 _ rfl).alloc _
  have X1 : Bx W2 (w.heap.size + 1) 45 #[.int .i64 0, .int .i64 0, .int .i64 0, .int .i64 0, .int .i64 0, .int .i64 0, .int .i64 0, .int .i64 0, .int .i64 0, .int .i64 0, .slice none 0 0, .slice none 0 0, .slice none 0 0, .slice none 0 0, .slice none 0 0, .int .i64 0, .slice none 0 0, .bool false, .int .i64 0] := by rw [hW2]; exact Bx.new _ 45 _ (by simp)
  have GW := Lib.hid (show Ge w W2 by rw [hW2]; exact ((Ge.refl w).alloc _).alloc _)
  have HX0 := Lib.hid X0
  have HX1 := Lib.hid X1
  have HI := Lib.hid i45
  have c0 := X0.cell
  have f0 := X0.frozen
  have n0 := X0.lt
  have qRM : restM ⟨6, ve, p1, p2, ⟨te, td, t0, t1, t2, t3⟩, rl, cl, dl, pl, ml, cu, el, true, wy⟩ = (⟨6, ve, p1, p2, ⟨te, td, t0, t1, t2, t3⟩, rl, cl, dl, pl, ml, cu, [], false, 0⟩, true) := by unfold restM endB; dsimp only; rw [v1]; simp [w1]
  have QRM := Lib.hid qRM
  clear qRM X0 X1 v1
  go_enter Tryd.func51, Tryd.ntmps51
  go_upto_region 1 with (fail)
  rw [← hW2]
  clear hW2
  go_upto_region 23 with (fail)
  obtain ⟨W4, hW4⟩ : ∃ x, x = (((W2.setCell ⟨w.heap.size, 18, none⟩ (.int .i64 0)).setCell ⟨w.heap.size, 17, none⟩ (.bool false)).setCell ⟨w.heap.size, 16, none⟩ (.slice none 0 0)) := ⟨_, rfl⟩
  have b0 := Bx.set (HX0.out) 18 (.int .i64 0)
  have k0 := Kp.set (HX0.out) (by decide) hB 18 (.int .i64 0)
  have b1 := Bx.set (b0) 17 (.bool false)
  have k1 := k0.trans (Kp.set (b0) (by decide) hB 17 (.bool false))
  have b2 := Bx.set (b1) 16 (.slice none 0 0)
  have k2 := k1.trans (Kp.set (b1) (by decide) hB 16 (.slice none 0 0))
  have g4 : Ge w (((W2.setCell ⟨w.heap.size, 18, none⟩ (.int .i64 0)).setCell ⟨w.heap.size, 17, none⟩ (.bool false)).setCell ⟨w.heap.size, 16, none⟩ (.slice none 0 0)) := Below.setCell (Below.setCell (Below.setCell (GW.out) (Nat.le_refl _) (.int .i64 0)) (Nat.le_refl _) (.bool false)) (Nat.le_refl _) (.slice none 0 0)
  have z4 := Bx.set_ne (b' := w.heap.size) (Bx.set_ne (b' := w.heap.size) (Bx.set_ne (b' := w.heap.size) (HX1.out) 18 (.int .i64 0) (by omega)) 17 (.bool false) (by omega)) 16 (.slice none 0 0) (by omega)
  have y4 : Bx (((W2.setCell ⟨w.heap.size, 18, none⟩ (.int .i64 0)).setCell ⟨w.heap.size, 17, none⟩ (.bool false)).setCell ⟨w.heap.size, 16, none⟩ (.slice none 0 0)) w.heap.size 45 #[.int .i64 6, .int .i64 ve, .int .i64 p1, .int .i64 p2, .int .i64 te, .int .i64 td, .int .i64 t0, .int .i64 t1, .int .i64 t2, .int .i64 t3, .slice Ar rl.length cr, .slice Ac cl.length cc, .slice Ad dl.length cd, .slice Ap pl.length cp, .slice Am ml.length cm, .int .i64 cu, .slice none 0 0, .bool false, .int .i64 0] := by
    have q := b2
    simp only [List.setIfInBounds_toArray, List.set_cons_zero, List.set_cons_succ] at q
    exact q
  have kk : Kp B W2 (((W2.setCell ⟨w.heap.size, 18, none⟩ (.int .i64 0)).setCell ⟨w.heap.size, 17, none⟩ (.bool false)).setCell ⟨w.heap.size, 16, none⟩ (.slice none 0 0)) := k2
  rw [← hW4] at g4 z4 y4 kk ⊢
  clear hW4 b0 k0 b1 k1 b2 k2
  obtain ⟨CE, hCE⟩ : ∃ c : Array Value, c = #[.int .i64 6, .int .i64 ve, .int .i64 p1, .int .i64 p2, .int .i64 te, .int .i64 td, .int .i64 t0, .int .i64 t1, .int .i64 t2, .int .i64 t3, .slice Ar rl.length cr, .slice Ac cl.length cc, .slice Ad dl.length cd, .slice Ap pl.length cp, .slice Am ml.length cm, .int .i64 cu, .slice none 0 0, .bool false, .int .i64 0] := ⟨_, rfl⟩
  rw [← hCE] at y4
  have HY4 := Lib.hid y4
  have HZ4 := Lib.hid z4
  have HG4 := Lib.hid g4
  have HKK := Lib.hid kk
  have HCE := Lib.hid hCE
  have hs19 : CE.size = 19 := by rw [hCE]; rfl
  have HS19 := Lib.hid hs19
  have HIC := Lib.hid (show (Tryd.prog.info? 45).map (·.size) = some CE.size by rw [hs19]; exact i45)
  have HTH := Lib.hid (show W4.there (w.heap.size + 1) 0 CE.size from by rw [hs19]; exact z4.there)
  have HONE := Lib.hid (show CE.all (fun v => v.oneCell') = true by rw [hCE]; simp [Value.oneCell'])
  clear y4 z4 g4 kk hCE hs19 c0 f0 n0
  go_wp2_with (first | (refine wpList_load_row (by rfl) 45 (.tmp 1) (by rfl) w.heap.size (by rfl) 45 CE (0, 0) _ HY4.out Tryd.underlying45 rfl HIC.out ?_) | (refine wpList_store_mid (by rfl) 45 (.tmp 2) (.tmp 82) (by rfl) (w.heap.size + 1) 0 CE (by rfl) (by rfl) HTH.out HIC.out HONE.out ?_; generalize hW6 : W4.setCells (w.heap.size + 1) 0 CE.toList = W6; have HW6 := Lib.hid hW6; clear hW6))
  have z6 := HZ4.out.fill CE.toList (by rw [Array.length_toList, HS19.out]; rfl)
  have k6 := HKK.out.trans (Kp.sets (by decide) (by omega) CE.toList 0 HZ4.out)
  have g6 : Ge w (W4.setCells (w.heap.size + 1) 0 CE.toList) := below_sets (by omega) _ _ _ HG4.out
  rw [HW6.out] at z6 k6 g6
  have z7 : Bx W6 (w.heap.size + 1) 45 CE := z6
  refine bodyPost_ret (v := .tuple #[.agg CE, .bool (true)]) (results_msg_tmp Tryd.results51 _ W6 (w.heap.size + 1) CE _ rfl z7 HS19.out rfl) rfl ?_
  have hS := (HSL.out.ge GW.out).kp k6
  refine ⟨⟨.slice Ar rl.length cr, .slice Ac cl.length cc, .slice Ad dl.length cd, .slice Ap pl.length cp, .slice Am ml.length cm, .slice none 0 0⟩, ?_, ?_, g6⟩
  · rw [QRM.out, HCE.out]; rfl
  · rw [QRM.out]; exact ⟨hS.r, hS.c, hS.d, hS.p, hS.mv, LAt.nil _ _ _ _ _⟩

set_option maxRecDepth 100000 in
set_option maxHeartbeats 16000000 in
theorem rest6c {B : Nat} {w : World} {s : Sls} {m : Msg} (h : SlAt B w s m) (hs : Small m) (hB : B ≤ w.heap.size) (hk : m.kind = 6) (hy : m.yes = false) (hw : m.why ≠ 0) (hc : m.ents.length = 0) :
    Calls Tryd.prog 51 #[.agg (encG m s).toArray] w (RestOut B w m) := by
  have HSL := Lib.hid h
  obtain ⟨kd, ve, p1, p2, ⟨te, td, t0, t1, t2, t3⟩, rl, cl, dl, pl, ml, cu, el, ye, wy⟩ := m
  obtain ⟨sr, sc, sd, sp, sm, se⟩ := s
  obtain ⟨h1, h2, h3, h4, h5, h6⟩ := h
  obtain ⟨l1, l2, l3, l4, l4n, l5, l6⟩ := hs
  dsimp only at h1 h2 h3 h4 h5 h6 l1 l2 l3 l4 l4n l5 l6 hk
  obtain ⟨Ar, cr, rfl⟩ := h1.form
  obtain ⟨Ac, cc, rfl⟩ := h2.form
  obtain ⟨Ad, cd, rfl⟩ := h3.form
  obtain ⟨Ap, cp, rfl⟩ := h4.form
  obtain ⟨Am, cm, rfl⟩ := h5.form
  obtain ⟨Ae, ce, rfl⟩ := h6.form
  clear h1 h2 h3 h4 h5 h6 l4n
  dsimp only at hy hw hc
  subst hk
  have w1 : (wy == 0) = false := by simpa using hw
  subst hy
  have u1 : decide ((el.length : Int) ≤ 1024) = true := decide_eq_true (by omega)
  have v1 : decide (el.length ≤ 1024) = true := decide_eq_true (by omega)
  have u2 : ((el.length : Int) == 0) = true := by simp [hc]
  have v2 : (el.length == 0) = true := by simp [hc]
  clear hw hc
  simp only [encG]
  obtain ⟨W2, hW2⟩ : ∃ x, x = (w.alloc (.cells #[.int .i64 6, .int .i64 ve, .int .i64 p1, .int .i64 p2, .int .i64 te, .int .i64 td, .int .i64 t0, .int .i64 t1, .int .i64 t2, .int .i64 t3, .slice Ar rl.length cr, .slice Ac cl.length cc, .slice Ad dl.length cd, .slice Ap pl.length cp, .slice Am ml.length cm, .int .i64 cu, .slice Ae el.length ce, .bool false, .int .i64 wy] 45)).alloc (.cells #[.int .i64 0, .int .i64 0, .int .i64 0, .int .i64 0, .int .i64 0, .int .i64 0, .int .i64 0, .int .i64 0, .int .i64 0, .int .i64 0, .slice none 0 0, .slice none 0 0, .slice none 0 0, .slice none 0 0, .slice none 0 0, .int .i64 0, .slice none 0 0, .bool false, .int .i64 0] 45) := ⟨_, rfl⟩
  have X0 : Bx W2 w.heap.size 45 #[.int .i64 6, .int .i64 ve, .int .i64 p1, .int .i64 p2, .int .i64 te, .int .i64 td, .int .i64 t0, .int .i64 t1, .int .i64 t2, .int .i64 t3, .slice Ar rl.length cr, .slice Ac cl.length cc, .slice Ad dl.length cd, .slice Ap pl.length cp, .slice Am ml.length cm, .int .i64 cu, .slice Ae el.length ce, .bool false, .int .i64 wy] := by rw [hW2]; exact (Bx.new w 45 _ rfl).alloc _
  have X1 : Bx W2 (w.heap.size + 1) 45 #[.int .i64 0, .int .i64 0, .int .i64 0, .int .i64 0, .int .i64 0, .int .i64 0, .int .i64 0, .int .i64 0, .int .i64 0, .int .i64 0, .slice none 0 0, .slice none 0 0, .slice none 0 0, .slice none 0 0, .slice none 0 0, .int .i64 0, .slice none 0 0, .bool false, .int .i64 0] := by rw [hW2]; exact Bx.new _ 45 _ (by simp)
  have GW := Lib.hid (show Ge w W2 by rw [hW2]; exact ((Ge.refl w).alloc _).alloc _)
  have HX0 := Lib.hid X0
  have HX1 := Lib.hid X1
  have HI := Lib.hid i45
  have c0 := X0.cell
  have f0 := X0.frozen
  have n0 := X0.lt
  have qRM : restM ⟨6, ve, p1, p2, ⟨te, td, t0, t1, t2, t3⟩, rl, cl, dl, pl, ml, cu, el, false, wy⟩ = (⟨6, ve, p1, p2, ⟨te, td, t0, t1, t2, t3⟩, rl, cl, dl, pl, ml, cu, [], false, 0⟩, true) := by unfold restM endB; dsimp only; rw [v1, v2]; simp [w1]
  have QRM := Lib.hid qRM
  clear qRM X0 X1 v1 v2
  go_enter Tryd.func51, Tryd.ntmps51
  go_upto_region 1 with (fail)
  rw [← hW2]
  clear hW2
  go_upto_region 23 with (fail)
  obtain ⟨W4, hW4⟩ : ∃ x, x = (((W2.setCell ⟨w.heap.size, 18, none⟩ (.int .i64 0)).setCell ⟨w.heap.size, 17, none⟩ (.bool false)).setCell ⟨w.heap.size, 16, none⟩ (.slice none 0 0)) := ⟨_, rfl⟩
  have b0 := Bx.set (HX0.out) 18 (.int .i64 0)
  have k0 := Kp.set (HX0.out) (by decide) hB 18 (.int .i64 0)
  have b1 := Bx.set (b0) 17 (.bool false)
  have k1 := k0.trans (Kp.set (b0) (by decide) hB 17 (.bool false))
  have b2 := Bx.set (b1) 16 (.slice none 0 0)
  have k2 := k1.trans (Kp.set (b1) (by decide) hB 16 (.slice none 0 0))
  have g4 : Ge w (((W2.setCell ⟨w.heap.size, 18, none⟩ (.int .i64 0)).setCell ⟨w.heap.size, 17, none⟩ (.bool false)).setCell ⟨w.heap.size, 16, none⟩ (.slice none 0 0)) := Below.setCell (Below.setCell (Below.setCell (GW.out) (Nat.le_refl _) (.int .i64 0)) (Nat.le_refl _) (.bool false)) (Nat.le_refl _) (.slice none 0 0)
  have z4 := Bx.set_ne (b' := w.heap.size) (Bx.set_ne (b' := w.heap.size) (Bx.set_ne (b' := w.heap.size) (HX1.out) 18 (.int .i64 0) (by omega)) 17 (.bool false) (by omega)) 16 (.slice none 0 0) (by omega)
  have y4 : Bx (((W2.setCell ⟨w.heap.size, 18, none⟩ (.int .i64 0)).setCell ⟨w.heap.size, 17, none⟩ (.bool false)).setCell ⟨w.heap.size, 16, none⟩ (.slice none 0 0)) w.heap.size 45 #[.int .i64 6, .int .i64 ve, .int .i64 p1, .int .i64 p2, .int .i64 te, .int .i64 td, .int .i64 t0, .int .i64 t1, .int .i64 t2, .int .i64 t3, .slice Ar rl.length cr, .slice Ac cl.length cc, .slice Ad dl.length cd, .slice Ap pl.length cp, .slice Am ml.length cm, .int .i64 cu, .slice none 0 0, .bool false, .int .i64 0] := by
    have q := b2
    simp only [List.setIfInBounds_toArray, List.set_cons_zero, List.set_cons_succ] at q
    exact q
  have kk : Kp B W2 (((W2.setCell ⟨w.heap.size, 18, none⟩ (.int .i64 0)).setCell ⟨w.heap.size, 17, none⟩ (.bool false)).setCell ⟨w.heap.size, 16, none⟩ (.slice none 0 0)) := k2
  rw [← hW4] at g4 z4 y4 kk ⊢
  clear hW4 b0 k0 b1 k1 b2 k2
  obtain ⟨CE, hCE⟩ : ∃ c : Array Value, c = #[.int .i64 6, .int .i64 ve, .int .i64 p1, .int .i64 p2, .int .i64 te, .int .i64 td, .int .i64 t0, .int .i64 t1, .int .i64 t2, .int .i64 t3, .slice Ar rl.length cr, .slice Ac cl.length cc, .slice Ad dl.length cd, .slice Ap pl.length cp, .slice Am ml.length cm, .int .i64 cu, .slice none 0 0, .bool false, .int .i64 0] := ⟨_, rfl⟩
  rw [← hCE] at y4
  have HY4 := Lib.hid y4
  have HZ4 := Lib.hid z4
  have HG4 := Lib.hid g4
  have HKK := Lib.hid kk
  have HCE := Lib.hid hCE
  have hs19 : CE.size = 19 := by rw [hCE]; rfl
  have HS19 := Lib.hid hs19
  have HIC := Lib.hid (show (Tryd.prog.info? 45).map (·.size) = some CE.size by rw [hs19]; exact i45)
  have HTH := Lib.hid (show W4.there (w.heap.size + 1) 0 CE.size from by rw [hs19]; exact z4.there)
  have HONE := Lib.hid (show CE.all (fun v => v.oneCell') = true by rw [hCE]; simp [Value.oneCell'])
  clear y4 z4 g4 kk hCE hs19 c0 f0 n0
  go_wp2_with (first | (refine wpList_load_row (by rfl) 45 (.tmp 1) (by rfl) w.heap.size (by rfl) 45 CE (0, 0) _ HY4.out Tryd.underlying45 rfl HIC.out ?_) | (refine wpList_store_mid (by rfl) 45 (.tmp 2) (.tmp 82) (by rfl) (w.heap.size + 1) 0 CE (by rfl) (by rfl) HTH.out HIC.out HONE.out ?_; generalize hW6 : W4.setCells (w.heap.size + 1) 0 CE.toList = W6; have HW6 := Lib.hid hW6; clear hW6))
  have z6 := HZ4.out.fill CE.toList (by rw [Array.length_toList, HS19.out]; rfl)
  have k6 := HKK.out.trans (Kp.sets (by decide) (by omega) CE.toList 0 HZ4.out)
  have g6 : Ge w (W4.setCells (w.heap.size + 1) 0 CE.toList) := below_sets (by omega) _ _ _ HG4.out
  rw [HW6.out] at z6 k6 g6
  have z7 : Bx W6 (w.heap.size + 1) 45 CE := z6
  refine bodyPost_ret (v := .tuple #[.agg CE, .bool (true)]) (results_msg_tmp Tryd.results51 _ W6 (w.heap.size + 1) CE _ rfl z7 HS19.out rfl) rfl ?_
  have hS := (HSL.out.ge GW.out).kp k6
  refine ⟨⟨.slice Ar rl.length cr, .slice Ac cl.length cc, .slice Ad dl.length cd, .slice Ap pl.length cp, .slice Am ml.length cm, .slice none 0 0⟩, ?_, ?_, g6⟩
  · rw [QRM.out, HCE.out]; rfl
  · rw [QRM.out]; exact ⟨hS.r, hS.c, hS.d, hS.p, hS.mv, LAt.nil _ _ _ _ _⟩

set_option maxRecDepth 100000 in
set_option maxHeartbeats 16000000 in
theorem rest6d {B : Nat} {w : World} {s : Sls} {m : Msg} (h : SlAt B w s m) (hs : Small m) (hB : B ≤ w.heap.size) (hk : m.kind = 6) (hy : m.yes = false) (hw : m.why ≠ 0) (hc : m.ents.length ≤ 1024 ∧ 0 < m.ents.length) :
    Calls Tryd.prog 51 #[.agg (encG m s).toArray] w (RestOut B w m) := by
  have HSL := Lib.hid h
  obtain ⟨kd, ve, p1, p2, ⟨te, td, t0, t1, t2, t3⟩, rl, cl, dl, pl, ml, cu, el, ye, wy⟩ := m
  obtain ⟨sr, sc, sd, sp, sm, se⟩ := s
  obtain ⟨h1, h2, h3, h4, h5, h6⟩ := h
  obtain ⟨l1, l2, l3, l4, l4n, l5, l6⟩ := hs
  dsimp only at h1 h2 h3 h4 h5 h6 l1 l2 l3 l4 l4n l5 l6 hk
  obtain ⟨Ar, cr, rfl⟩ := h1.form
  obtain ⟨Ac, cc, rfl⟩ := h2.form
  obtain ⟨Ad, cd, rfl⟩ := h3.form
  obtain ⟨Ap, cp, rfl⟩ := h4.form
  obtain ⟨Am, cm, rfl⟩ := h5.form
  obtain ⟨Ae, ce, rfl⟩ := h6.form
  clear h1 h2 h3 h4 h5 h6 l4n
  dsimp only at hy hw hc
  subst hk
  have w1 : (wy == 0) = false := by simpa using hw
  subst hy
  have u1 : decide ((el.length : Int) ≤ 1024) = true := decide_eq_true (by omega)
  have v1 : decide (el.length ≤ 1024) = true := decide_eq_true (by omega)
  have u2 : ((el.length : Int) == 0) = false := beq_eq_false_iff_ne.2 (by omega)
  have v2 : (el.length == 0) = false := beq_eq_false_iff_ne.2 (by omega)
  clear hw hc
  simp only [encG]
  obtain ⟨W2, hW2⟩ : ∃ x, x = (w.alloc (.cells #[.int .i64 6, .int .i64 ve, .int .i64 p1, .int .i64 p2, .int .i64 te, .int .i64 td, .int .i64 t0, .int .i64 t1, .int .i64 t2, .int .i64 t3, .slice Ar rl.length cr, .slice Ac cl.length cc, .slice Ad dl.length cd, .slice Ap pl.length cp, .slice Am ml.length cm, .int .i64 cu, .slice Ae el.length ce, .bool false, .int .i64 wy] 45)).alloc (.cells #[.int .i64 0, .int .i64 0, .int .i64 0, .int .i64 0, .int .i64 0, .int .i64 0, .int .i64 0, .int .i64 0, .int .i64 0, .int .i64 0, .slice none 0 0, .slice none 0 0, .slice none 0 0, .slice none 0 0, .slice none 0 0, .int .i64 0, .slice none 0 0, .bool false, .int .i64 0] 45) := ⟨_, rfl⟩
  have X0 : Bx W2 w.heap.size 45 #[.int .i64 6, .int .i64 ve, .int .i64 p1, .int .i64 p2, .int .i64 te, .int .i64 td, .int .i64 t0, .int .i64 t1, .int .i64 t2, .int .i64 t3, .slice Ar rl.length cr, .slice Ac cl.length cc, .slice Ad dl.length cd, .slice Ap pl.length cp, .slice Am ml.length cm, .int .i64 cu, .slice Ae el.length ce, .bool false, .int .i64 wy] := by rw [hW2]; exact (Bx.new w 45 _ rfl).alloc _
  have X1 : Bx W2 (w.heap.size + 1) 45 #[.int .i64 0, .int .i64 0, .int .i64 0, .int .i64 0, .int .i64 0, .int .i64 0, .int .i64 0, .int .i64 0, .int .i64 0, .int .i64 0, .slice none 0 0, .slice none 0 0, .slice none 0 0, .slice none 0 0, .slice none 0 0, .int .i64 0, .slice none 0 0, .bool false, .int .i64 0] := by rw [hW2]; exact Bx.new _ 45 _ (by simp)
  have GW := Lib.hid (show Ge w W2 by rw [hW2]; exact ((Ge.refl w).alloc _).alloc _)
  have HX0 := Lib.hid X0
  have HX1 := Lib.hid X1
  have HI := Lib.hid i45
  have c0 := X0.cell
  have f0 := X0.frozen
  have n0 := X0.lt
  have qRM : restM ⟨6, ve, p1, p2, ⟨te, td, t0, t1, t2, t3⟩, rl, cl, dl, pl, ml, cu, el, false, wy⟩ = (⟨6, ve, p1, p2, ⟨te, td, t0, t1, t2, t3⟩, rl, cl, dl, pl, ml, cu, [], false, 0⟩, false) := by unfold restM endB; dsimp only; rw [v1, v2]; simp [w1]
  have QRM := Lib.hid qRM
  clear qRM X0 X1 v1 v2
  go_enter Tryd.func51, Tryd.ntmps51
  go_upto_region 1 with (fail)
  rw [← hW2]
  clear hW2
  go_upto_region 23 with (fail)
  obtain ⟨W4, hW4⟩ : ∃ x, x = (((W2.setCell ⟨w.heap.size, 18, none⟩ (.int .i64 0)).setCell ⟨w.heap.size, 17, none⟩ (.bool false)).setCell ⟨w.heap.size, 16, none⟩ (.slice none 0 0)) := ⟨_, rfl⟩
  have b0 := Bx.set (HX0.out) 18 (.int .i64 0)
  have k0 := Kp.set (HX0.out) (by decide) hB 18 (.int .i64 0)
  have b1 := Bx.set (b0) 17 (.bool false)
  have k1 := k0.trans (Kp.set (b0) (by decide) hB 17 (.bool false))
  have b2 := Bx.set (b1) 16 (.slice none 0 0)
  have k2 := k1.trans (Kp.set (b1) (by decide) hB 16 (.slice none 0 0))
  have g4 : Ge w (((W2.setCell ⟨w.heap.size, 18, none⟩ (.int .i64 0)).setCell ⟨w.heap.size, 17, none⟩ (.bool false)).setCell ⟨w.heap.size, 16, none⟩ (.slice none 0 0)) := Below.setCell (Below.setCell (Below.setCell (GW.out) (Nat.le_refl _) (.int .i64 0)) (Nat.le_refl _) (.bool false)) (Nat.le_refl _) (.slice none 0 0)
  have z4 := Bx.set_ne (b' := w.heap.size) (Bx.set_ne (b' := w.heap.size) (Bx.set_ne (b' := w.heap.size) (HX1.out) 18 (.int .i64 0) (by omega)) 17 (.bool false) (by omega)) 16 (.slice none 0 0) (by omega)
  have y4 : Bx (((W2.setCell ⟨w.heap.size, 18, none⟩ (.int .i64 0)).setCell ⟨w.heap.size, 17, none⟩ (.bool false)).setCell ⟨w.heap.size, 16, none⟩ (.slice none 0 0)) w.heap.size 45 #[.int .i64 6, .int .i64 ve, .int .i64 p1, .int .i64 p2, .int .i64 te, .int .i64 td, .int .i64 t0, .int .i64 t1, .int .i64 t2, .int .i64 t3, .slice Ar rl.length cr, .slice Ac cl.length cc, .slice Ad dl.length cd, .slice Ap pl.length cp, .slice Am ml.length cm, .int .i64 cu, .slice none 0 0, .bool false, .int .i64 0] := by
    have q := b2
    simp only [List.setIfInBounds_toArray, List.set_cons_zero, List.set_cons_succ] at q
    exact q
  have kk : Kp B W2 (((W2.setCell ⟨w.heap.size, 18, none⟩ (.int .i64 0)).setCell ⟨w.heap.size, 17, none⟩ (.bool false)).setCell ⟨w.heap.size, 16, none⟩ (.slice none 0 0)) := k2
  rw [← hW4] at g4 z4 y4 kk ⊢
  clear hW4 b0 k0 b1 k1 b2 k2
  obtain ⟨CE, hCE⟩ : ∃ c : Array Value, c = #[.int .i64 6, .int .i64 ve, .int .i64 p1, .int .i64 p2, .int .i64 te, .int .i64 td, .int .i64 t0, .int .i64 t1, .int .i64 t2, .int .i64 t3, .slice Ar rl.length cr, .slice Ac cl.length cc, .slice Ad dl.length cd, .slice Ap pl.length cp, .slice Am ml.length cm, .int .i64 cu, .slice none 0 0, .bool false, .int .i64 0] := ⟨_, rfl⟩
  rw [← hCE] at y4
  have HY4 := Lib.hid y4
  have HZ4 := Lib.hid z4
  have HG4 := Lib.hid g4
  have HKK := Lib.hid kk
  have HCE := Lib.hid hCE
  have hs19 : CE.size = 19 := by rw [hCE]; rfl
  have HS19 := Lib.hid hs19
  have HIC := Lib.hid (show (Tryd.prog.info? 45).map (·.size) = some CE.size by rw [hs19]; exact i45)
  have HTH := Lib.hid (show W4.there (w.heap.size + 1) 0 CE.size from by rw [hs19]; exact z4.there)
  have HONE := Lib.hid (show CE.all (fun v => v.oneCell') = true by rw [hCE]; simp [Value.oneCell'])
  clear y4 z4 g4 kk hCE hs19 c0 f0 n0
  go_wp2_with (first | (refine wpList_load_row (by rfl) 45 (.tmp 1) (by rfl) w.heap.size (by rfl) 45 CE (0, 0) _ HY4.out Tryd.underlying45 rfl HIC.out ?_) | (refine wpList_store_mid (by rfl) 45 (.tmp 2) (.tmp 82) (by rfl) (w.heap.size + 1) 0 CE (by rfl) (by rfl) HTH.out HIC.out HONE.out ?_; generalize hW6 : W4.setCells (w.heap.size + 1) 0 CE.toList = W6; have HW6 := Lib.hid hW6; clear hW6))
  have z6 := HZ4.out.fill CE.toList (by rw [Array.length_toList, HS19.out]; rfl)
  have k6 := HKK.out.trans (Kp.sets (by decide) (by omega) CE.toList 0 HZ4.out)
  have g6 : Ge w (W4.setCells (w.heap.size + 1) 0 CE.toList) := below_sets (by omega) _ _ _ HG4.out
  rw [HW6.out] at z6 k6 g6
  have z7 : Bx W6 (w.heap.size + 1) 45 CE := z6
  refine bodyPost_ret (v := .tuple #[.agg CE, .bool (false)]) (results_msg_tmp Tryd.results51 _ W6 (w.heap.size + 1) CE _ rfl z7 HS19.out rfl) rfl ?_
  have hS := (HSL.out.ge GW.out).kp k6
  refine ⟨⟨.slice Ar rl.length cr, .slice Ac cl.length cc, .slice Ad dl.length cd, .slice Ap pl.length cp, .slice Am ml.length cm, .slice none 0 0⟩, ?_, ?_, g6⟩
  · rw [QRM.out, HCE.out]; rfl
  · rw [QRM.out]; exact ⟨hS.r, hS.c, hS.d, hS.p, hS.mv, LAt.nil _ _ _ _ _⟩

set_option maxRecDepth 100000 in
set_option maxHeartbeats 16000000 in
theorem rest1a {B : Nat} {w : World} {s : Sls} {m : Msg} (h : SlAt B w s m) (hs : Small m) (hB : B ≤ w.heap.size) (hk : m.kind = 1) (hc : ¬ Chk m.t) :
    Calls Tryd.prog 51 #[.agg (encG m s).toArray] w (RestOut B w m) := by
  have HSL := Lib.hid h
  obtain ⟨kd, ve, p1, p2, ⟨te, td, t0, t1, t2, t3⟩, rl, cl, dl, pl, ml, cu, el, ye, wy⟩ := m
  obtain ⟨sr, sc, sd, sp, sm, se⟩ := s
  obtain ⟨h1, h2, h3, h4, h5, h6⟩ := h
  obtain ⟨l1, l2, l3, l4, l4n, l5, l6⟩ := hs
  dsimp only at h1 h2 h3 h4 h5 h6 l1 l2 l3 l4 l4n l5 l6 hk
  have HCT := Lib.hid (tcheck_any ⟨te, td, t0, t1, t2, t3⟩)
  obtain ⟨Ar, cr, rfl⟩ := h1.form
  obtain ⟨Ac, cc, rfl⟩ := h2.form
  obtain ⟨Ad, cd, rfl⟩ := h3.form
  obtain ⟨Ap, cp, rfl⟩ := h4.form
  obtain ⟨Am, cm, rfl⟩ := h5.form
  obtain ⟨Ae, ce, rfl⟩ := h6.form
  clear h1 h2 h3 h4 h5 h6 l4n
  dsimp only at hc
  subst hk
  have v1 : decide (Chk ⟨te, td, t0, t1, t2, t3⟩) = false := decide_eq_false hc
  rw [← chkE_no hc] at HCT
  clear hc
  simp only [encG]
  obtain ⟨W2, hW2⟩ : ∃ x, x = (w.alloc (.cells #[.int .i64 1, .int .i64 ve, .int .i64 p1, .int .i64 p2, .int .i64 te, .int .i64 td, .int .i64 t0, .int .i64 t1, .int .i64 t2, .int .i64 t3, .slice Ar rl.length cr, .slice Ac cl.length cc, .slice Ad dl.length cd, .slice Ap pl.length cp, .slice Am ml.length cm, .int .i64 cu, .slice Ae el.length ce, .bool ye, .int .i64 wy] 45)).alloc (.cells #[.int .i64 0, .int .i64 0, .int .i64 0, .int .i64 0, .int .i64 0, .int .i64 0, .int .i64 0, .int .i64 0, .int .i64 0, .int .i64 0, .slice none 0 0, .slice none 0 0, .slice none 0 0, .slice none 0 0, .slice none 0 0, .int .i64 0, .slice none 0 0, .bool false, .int .i64 0] 45) := ⟨_, rfl⟩
  have X0 : Bx W2 w.heap.size 45 #[.int .i64 1, .int .i64 ve, .int .i64 p1, .int .i64 p2, .int .i64 te, .int .i64 td, .int .i64 t0, .int .i64 t1, .int .i64 t2, .int .i64 t3, .slice Ar rl.length cr, .slice Ac cl.length cc, .slice Ad dl.length cd, .slice Ap pl.length cp, .slice Am ml.length cm, .int .i64 cu, .slice Ae el.length ce, .bool ye, .int .i64 wy] := by rw [hW2]; exact (Bx.new w 45 _ rfl).alloc _
  have X1 : Bx W2 (w.heap.size + 1) 45 #[.int .i64 0, .int .i64 0, .int .i64 0, .int .i64 0, .int .i64 0, .int .i64 0, .int .i64 0, .int .i64 0, .int .i64 0, .int .i64 0, .slice none 0 0, .slice none 0 0, .slice none 0 0, .slice none 0 0, .slice none 0 0, .int .i64 0, .slice none 0 0, .bool false, .int .i64 0] := by rw [hW2]; exact Bx.new _ 45 _ (by simp)
  have GW := Lib.hid (show Ge w W2 by rw [hW2]; exact ((Ge.refl w).alloc _).alloc _)
  have HX0 := Lib.hid X0
  have HX1 := Lib.hid X1
  have HI := Lib.hid i45
  have c0 := X0.cell
  have f0 := X0.frozen
  have n0 := X0.lt
  have qRM : restM ⟨1, ve, p1, p2, ⟨te, td, t0, t1, t2, t3⟩, rl, cl, dl, pl, ml, cu, el, ye, wy⟩ = (⟨1, ve, 0, 0, ⟨0, 0, 0, 0, 0, 0⟩, [], cl, dl, pl, ml, cu, el, ye, wy⟩, false) := by unfold restM; simp only [if_true, v1, Bool.false_and]
  have QRM := Lib.hid qRM
  clear qRM X0 X1 v1
  go_enter Tryd.func51, Tryd.ntmps51
  go_upto_region 1 with (fail)
  rw [← hW2]
  clear hW2
  go_wp2_with fail
  refine (HCT.out _).mono ?_
  rintro e w3 ⟨rfl, hw3⟩
  have hg3 : Ge W2 w3 := by rw [hw3]; exact (Ge.refl _).alloc _
  have HY3 := Lib.hid (HX0.out.ge hg3)
  have HZ3 := Lib.hid (HX1.out.ge hg3)
  have G3 := Lib.hid (GW.out.trans hg3)
  have c3 := HY3.out.cell
  have f3 := HY3.out.frozen
  have n3 := HY3.out.lt
  clear hg3 hw3 c0 f0 n0
  go_upto_region 10 with (fail)
  obtain ⟨W4, hW4⟩ : ∃ x, x = (((((((((w3.setCell ⟨w.heap.size, 2, none⟩ (.int .i64 0)).setCell ⟨w.heap.size, 3, none⟩ (.int .i64 0)).setCell ⟨w.heap.size, 4, none⟩ (.int .i64 0)).setCell ⟨w.heap.size, 5, none⟩ (.int .i64 0)).setCell ⟨w.heap.size, 6, none⟩ (.int .i64 0)).setCell ⟨w.heap.size, 7, none⟩ (.int .i64 0)).setCell ⟨w.heap.size, 8, none⟩ (.int .i64 0)).setCell ⟨w.heap.size, 9, none⟩ (.int .i64 0)).setCell ⟨w.heap.size, 10, none⟩ (.slice none 0 0)) := ⟨_, rfl⟩
  have b0 := Bx.set (HY3.out) 2 (.int .i64 0)
  have k0 := Kp.set (HY3.out) (by decide) hB 2 (.int .i64 0)
  have b1 := Bx.set (b0) 3 (.int .i64 0)
  have k1 := k0.trans (Kp.set (b0) (by decide) hB 3 (.int .i64 0))
  have b2 := Bx.set (b1) 4 (.int .i64 0)
  have k2 := k1.trans (Kp.set (b1) (by decide) hB 4 (.int .i64 0))
  have b3 := Bx.set (b2) 5 (.int .i64 0)
  have k3 := k2.trans (Kp.set (b2) (by decide) hB 5 (.int .i64 0))
  have b4 := Bx.set (b3) 6 (.int .i64 0)
  have k4 := k3.trans (Kp.set (b3) (by decide) hB 6 (.int .i64 0))
  have b5 := Bx.set (b4) 7 (.int .i64 0)
  have k5 := k4.trans (Kp.set (b4) (by decide) hB 7 (.int .i64 0))
  have b6 := Bx.set (b5) 8 (.int .i64 0)
  have k6 := k5.trans (Kp.set (b5) (by decide) hB 8 (.int .i64 0))
  have b7 := Bx.set (b6) 9 (.int .i64 0)
  have k7 := k6.trans (Kp.set (b6) (by decide) hB 9 (.int .i64 0))
  have b8 := Bx.set (b7) 10 (.slice none 0 0)
  have k8 := k7.trans (Kp.set (b7) (by decide) hB 10 (.slice none 0 0))
  have g4 : Ge w (((((((((w3.setCell ⟨w.heap.size, 2, none⟩ (.int .i64 0)).setCell ⟨w.heap.size, 3, none⟩ (.int .i64 0)).setCell ⟨w.heap.size, 4, none⟩ (.int .i64 0)).setCell ⟨w.heap.size, 5, none⟩ (.int .i64 0)).setCell ⟨w.heap.size, 6, none⟩ (.int .i64 0)).setCell ⟨w.heap.size, 7, none⟩ (.int .i64 0)).setCell ⟨w.heap.size, 8, none⟩ (.int .i64 0)).setCell ⟨w.heap.size, 9, none⟩ (.int .i64 0)).setCell ⟨w.heap.size, 10, none⟩ (.slice none 0 0)) := Below.setCell (Below.setCell (Below.setCell (Below.setCell (Below.setCell (Below.setCell (Below.setCell (Below.setCell (Below.setCell (G3.out) (Nat.le_refl _) (.int .i64 0)) (Nat.le_refl _) (.int .i64 0)) (Nat.le_refl _) (.int .i64 0)) (Nat.le_refl _) (.int .i64 0)) (Nat.le_refl _) (.int .i64 0)) (Nat.le_refl _) (.int .i64 0)) (Nat.le_refl _) (.int .i64 0)) (Nat.le_refl _) (.int .i64 0)) (Nat.le_refl _) (.slice none 0 0)
  have z4 := Bx.set_ne (b' := w.heap.size) (Bx.set_ne (b' := w.heap.size) (Bx.set_ne (b' := w.heap.size) (Bx.set_ne (b' := w.heap.size) (Bx.set_ne (b' := w.heap.size) (Bx.set_ne (b' := w.heap.size) (Bx.set_ne (b' := w.heap.size) (Bx.set_ne (b' := w.heap.size) (Bx.set_ne (b' := w.heap.size) (HZ3.out) 2 (.int .i64 0) (by omega)) 3 (.int .i64 0) (by omega)) 4 (.int .i64 0) (by omega)) 5 (.int .i64 0) (by omega)) 6 (.int .i64 0) (by omega)) 7 (.int .i64 0) (by omega)) 8 (.int .i64 0) (by omega)) 9 (.int .i64 0) (by omega)) 10 (.slice none 0 0) (by omega)
  have y4 : Bx (((((((((w3.setCell ⟨w.heap.size, 2, none⟩ (.int .i64 0)).setCell ⟨w.heap.size, 3, none⟩ (.int .i64 0)).setCell ⟨w.heap.size, 4, none⟩ (.int .i64 0)).setCell ⟨w.heap.size, 5, none⟩ (.int .i64 0)).setCell ⟨w.heap.size, 6, none⟩ (.int .i64 0)).setCell ⟨w.heap.size, 7, none⟩ (.int .i64 0)).setCell ⟨w.heap.size, 8, none⟩ (.int .i64 0)).setCell ⟨w.heap.size, 9, none⟩ (.int .i64 0)).setCell ⟨w.heap.size, 10, none⟩ (.slice none 0 0)) w.heap.size 45 #[.int .i64 1, .int .i64 ve, .int .i64 0, .int .i64 0, .int .i64 0, .int .i64 0, .int .i64 0, .int .i64 0, .int .i64 0, .int .i64 0, .slice none 0 0, .slice Ac cl.length cc, .slice Ad dl.length cd, .slice Ap pl.length cp, .slice Am ml.length cm, .int .i64 cu, .slice Ae el.length ce, .bool ye, .int .i64 wy] := by
    have q := b8
    simp only [List.setIfInBounds_toArray, List.set_cons_zero, List.set_cons_succ] at q
    exact q
  have kk : Kp B w3 (((((((((w3.setCell ⟨w.heap.size, 2, none⟩ (.int .i64 0)).setCell ⟨w.heap.size, 3, none⟩ (.int .i64 0)).setCell ⟨w.heap.size, 4, none⟩ (.int .i64 0)).setCell ⟨w.heap.size, 5, none⟩ (.int .i64 0)).setCell ⟨w.heap.size, 6, none⟩ (.int .i64 0)).setCell ⟨w.heap.size, 7, none⟩ (.int .i64 0)).setCell ⟨w.heap.size, 8, none⟩ (.int .i64 0)).setCell ⟨w.heap.size, 9, none⟩ (.int .i64 0)).setCell ⟨w.heap.size, 10, none⟩ (.slice none 0 0)) := k8
  rw [← hW4] at g4 z4 y4 kk ⊢
  clear hW4 b0 k0 b1 k1 b2 k2 b3 k3 b4 k4 b5 k5 b6 k6 b7 k7 b8 k8
  obtain ⟨CE, hCE⟩ : ∃ c : Array Value, c = #[.int .i64 1, .int .i64 ve, .int .i64 0, .int .i64 0, .int .i64 0, .int .i64 0, .int .i64 0, .int .i64 0, .int .i64 0, .int .i64 0, .slice none 0 0, .slice Ac cl.length cc, .slice Ad dl.length cd, .slice Ap pl.length cp, .slice Am ml.length cm, .int .i64 cu, .slice Ae el.length ce, .bool ye, .int .i64 wy] := ⟨_, rfl⟩
  rw [← hCE] at y4
  have HY4 := Lib.hid y4
  have HZ4 := Lib.hid z4
  have HG4 := Lib.hid g4
  have HKK := Lib.hid kk
  have HCE := Lib.hid hCE
  have hs19 : CE.size = 19 := by rw [hCE]; rfl
  have HS19 := Lib.hid hs19
  have HIC := Lib.hid (show (Tryd.prog.info? 45).map (·.size) = some CE.size by rw [hs19]; exact i45)
  have HTH := Lib.hid (show W4.there (w.heap.size + 1) 0 CE.size from by rw [hs19]; exact z4.there)
  have HONE := Lib.hid (show CE.all (fun v => v.oneCell') = true by rw [hCE]; simp [Value.oneCell'])
  clear y4 z4 g4 kk hCE hs19 c3 f3 n3
  go_wp2_with (first | (refine wpList_load_row (by rfl) 45 (.tmp 1) (by rfl) w.heap.size (by rfl) 45 CE (0, 0) _ HY4.out Tryd.underlying45 rfl HIC.out ?_) | (refine wpList_store_mid (by rfl) 45 (.tmp 2) (.tmp 36) (by rfl) (w.heap.size + 1) 0 CE (by rfl) (by rfl) HTH.out HIC.out HONE.out ?_; generalize hW6 : W4.setCells (w.heap.size + 1) 0 CE.toList = W6; have HW6 := Lib.hid hW6; clear hW6))
  have z6 := HZ4.out.fill CE.toList (by rw [Array.length_toList, HS19.out]; rfl)
  have k6 := HKK.out.trans (Kp.sets (by decide) (by omega) CE.toList 0 HZ4.out)
  have g6 : Ge w (W4.setCells (w.heap.size + 1) 0 CE.toList) := below_sets (by omega) _ _ _ HG4.out
  rw [HW6.out] at z6 k6 g6
  have z7 : Bx W6 (w.heap.size + 1) 45 CE := z6
  refine bodyPost_ret (v := .tuple #[.agg CE, .bool (false)]) (results_msg_tmp Tryd.results51 _ W6 (w.heap.size + 1) CE _ rfl z7 HS19.out rfl) rfl ?_
  have hS := (HSL.out.ge G3.out).kp k6
  refine ⟨⟨.slice none 0 0, .slice Ac cl.length cc, .slice Ad dl.length cd, .slice Ap pl.length cp, .slice Am ml.length cm, .slice Ae el.length ce⟩, ?_, ?_, g6⟩
  · rw [QRM.out, HCE.out]; rfl
  · rw [QRM.out]; exact ⟨LAt.nil _ _ _ _ _, hS.c, hS.d, hS.p, hS.mv, hS.e⟩

set_option maxRecDepth 100000 in
set_option maxHeartbeats 16000000 in
theorem rest1b {B : Nat} {w : World} (hT : Tabs w) {s : Sls} {m : Msg} (h : SlAt B w s m) (hs : Small m) (hB : B ≤ w.heap.size) (hk : m.kind = 1) (hc : Chk m.t) :
    Calls Tryd.prog 51 #[.agg (encG m s).toArray] w (RestOut B w m) := by
  have HSL := Lib.hid h
  obtain ⟨kd, ve, p1, p2, ⟨te, td, t0, t1, t2, t3⟩, rl, cl, dl, pl, ml, cu, el, ye, wy⟩ := m
  obtain ⟨sr, sc, sd, sp, sm, se⟩ := s
  obtain ⟨h1, h2, h3, h4, h5, h6⟩ := h
  obtain ⟨l1, l2, l3, l4, l4n, l5, l6⟩ := hs
  dsimp only at h1 h2 h3 h4 h5 h6 l1 l2 l3 l4 l4n l5 l6 hk
  have HCT := Lib.hid (tcheck_any ⟨te, td, t0, t1, t2, t3⟩)
  have HGR := Lib.hid (fun w' (g : Ge w w') => goodsR (hT.ge g) (h1.ge g) l1)
  obtain ⟨Ar, cr, rfl⟩ := h1.form
  obtain ⟨Ac, cc, rfl⟩ := h2.form
  obtain ⟨Ad, cd, rfl⟩ := h3.form
  obtain ⟨Ap, cp, rfl⟩ := h4.form
  obtain ⟨Am, cm, rfl⟩ := h5.form
  obtain ⟨Ae, ce, rfl⟩ := h6.form
  clear h1 h2 h3 h4 h5 h6 l4n
  dsimp only at hc
  subst hk
  have v1 : decide (Chk ⟨te, td, t0, t1, t2, t3⟩) = true := decide_eq_true hc
  rw [← chkE_yes hc] at HCT
  clear hc
  simp only [encG]
  obtain ⟨W2, hW2⟩ : ∃ x, x = (w.alloc (.cells #[.int .i64 1, .int .i64 ve, .int .i64 p1, .int .i64 p2, .int .i64 te, .int .i64 td, .int .i64 t0, .int .i64 t1, .int .i64 t2, .int .i64 t3, .slice Ar rl.length cr, .slice Ac cl.length cc, .slice Ad dl.length cd, .slice Ap pl.length cp, .slice Am ml.length cm, .int .i64 cu, .slice Ae el.length ce, .bool ye, .int .i64 wy] 45)).alloc (.cells #[.int .i64 0, .int .i64 0, .int .i64 0, .int .i64 0, .int .i64 0, .int .i64 0, .int .i64 0, .int .i64 0, .int .i64 0, .int .i64 0, .slice none 0 0, .slice none 0 0, .slice none 0 0, .slice none 0 0, .slice none 0 0, .int .i64 0, .slice none 0 0, .bool false, .int .i64 0] 45) := ⟨_, rfl⟩
  have X0 : Bx W2 w.heap.size 45 #[.int .i64 1, .int .i64 ve, .int .i64 p1, .int .i64 p2, .int .i64 te, .int .i64 td, .int .i64 t0, .int .i64 t1, .int .i64 t2, .int .i64 t3, .slice Ar rl.length cr, .slice Ac cl.length cc, .slice Ad dl.length cd, .slice Ap pl.length cp, .slice Am ml.length cm, .int .i64 cu, .slice Ae el.length ce, .bool ye, .int .i64 wy] := by rw [hW2]; exact (Bx.new w 45 _ rfl).alloc _
  have X1 : Bx W2 (w.heap.size + 1) 45 #[.int .i64 0, .int .i64 0, .int .i64 0, .int .i64 0, .int .i64 0, .int .i64 0, .int .i64 0, .int .i64 0, .int .i64 0, .int .i64 0, .slice none 0 0, .slice none 0 0, .slice none 0 0, .slice none 0 0, .slice none 0 0, .int .i64 0, .slice none 0 0, .bool false, .int .i64 0] := by rw [hW2]; exact Bx.new _ 45 _ (by simp)
  have GW := Lib.hid (show Ge w W2 by rw [hW2]; exact ((Ge.refl w).alloc _).alloc _)
  have HX0 := Lib.hid X0
  have HX1 := Lib.hid X1
  have HI := Lib.hid i45
  have c0 := X0.cell
  have f0 := X0.frozen
  have n0 := X0.lt
  have qRM : restM ⟨1, ve, p1, p2, ⟨te, td, t0, t1, t2, t3⟩, rl, cl, dl, pl, ml, cu, el, ye, wy⟩ = (⟨1, ve, 0, 0, ⟨0, 0, 0, 0, 0, 0⟩, [], cl, dl, pl, ml, cu, el, ye, wy⟩, goodR rl) := by unfold restM; simp only [if_true, v1, Bool.true_and]
  have QRM := Lib.hid qRM
  clear qRM X0 X1 v1
  go_enter Tryd.func51, Tryd.ntmps51
  go_upto_region 1 with (fail)
  rw [← hW2]
  clear hW2
  generalize goodR rl = gq at *
  go_wp2_with fail
  refine (HCT.out _).mono ?_
  rintro e w3 ⟨rfl, hw3⟩
  have hg3 : Ge W2 w3 := by rw [hw3]; exact (Ge.refl _).alloc _
  have HY3 := Lib.hid (HX0.out.ge hg3)
  have HZ3 := Lib.hid (HX1.out.ge hg3)
  have G3 := Lib.hid (GW.out.trans hg3)
  have c3 := HY3.out.cell
  have f3 := HY3.out.frozen
  have n3 := HY3.out.lt
  clear hg3 hw3 c0 f0 n0
  go_wp2_with fail
  refine (HGR.out _ G3.out).mono ?_
  rintro e w5 ⟨rfl, hg5⟩
  have HY5 := Lib.hid (HY3.out.ge hg5)
  have HZ5 := Lib.hid (HZ3.out.ge hg5)
  have G5 := Lib.hid (G3.out.trans hg5)
  have c5 := HY5.out.cell
  have f5 := HY5.out.frozen
  have n5 := HY5.out.lt
  clear hg5 c3 f3 n3
  go_upto_region 10 with (fail)
  obtain ⟨W4, hW4⟩ : ∃ x, x = (((((((((w5.setCell ⟨w.heap.size, 2, none⟩ (.int .i64 0)).setCell ⟨w.heap.size, 3, none⟩ (.int .i64 0)).setCell ⟨w.heap.size, 4, none⟩ (.int .i64 0)).setCell ⟨w.heap.size, 5, none⟩ (.int .i64 0)).setCell ⟨w.heap.size, 6, none⟩ (.int .i64 0)).setCell ⟨w.heap.size, 7, none⟩ (.int .i64 0)).setCell ⟨w.heap.size, 8, none⟩ (.int .i64 0)).setCell ⟨w.heap.size, 9, none⟩ (.int .i64 0)).setCell ⟨w.heap.size, 10, none⟩ (.slice none 0 0)) := ⟨_, rfl⟩
  have b0 := Bx.set (HY5.out) 2 (.int .i64 0)
  have k0 := Kp.set (HY5.out) (by decide) hB 2 (.int .i64 0)
  have b1 := Bx.set (b0) 3 (.int .i64 0)
  have k1 := k0.trans (Kp.set (b0) (by decide) hB 3 (.int .i64 0))
  have b2 := Bx.set (b1) 4 (.int .i64 0)
  have k2 := k1.trans (Kp.set (b1) (by decide) hB 4 (.int .i64 0))
  have b3 := Bx.set (b2) 5 (.int .i64 0)
  have k3 := k2.trans (Kp.set (b2) (by decide) hB 5 (.int .i64 0))
  have b4 := Bx.set (b3) 6 (.int .i64 0)
  have k4 := k3.trans (Kp.set (b3) (by decide) hB 6 (.int .i64 0))
  have b5 := Bx.set (b4) 7 (.int .i64 0)
  have k5 := k4.trans (Kp.set (b4) (by decide) hB 7 (.int .i64 0))
  have b6 := Bx.set (b5) 8 (.int .i64 0)
  have k6 := k5.trans (Kp.set (b5) (by decide) hB 8 (.int .i64 0))
  have b7 := Bx.set (b6) 9 (.int .i64 0)
  have k7 := k6.trans (Kp.set (b6) (by decide) hB 9 (.int .i64 0))
  have b8 := Bx.set (b7) 10 (.slice none 0 0)
  have k8 := k7.trans (Kp.set (b7) (by decide) hB 10 (.slice none 0 0))
  have g4 : Ge w (((((((((w5.setCell ⟨w.heap.size, 2, none⟩ (.int .i64 0)).setCell ⟨w.heap.size, 3, none⟩ (.int .i64 0)).setCell ⟨w.heap.size, 4, none⟩ (.int .i64 0)).setCell ⟨w.heap.size, 5, none⟩ (.int .i64 0)).setCell ⟨w.heap.size, 6, none⟩ (.int .i64 0)).setCell ⟨w.heap.size, 7, none⟩ (.int .i64 0)).setCell ⟨w.heap.size, 8, none⟩ (.int .i64 0)).setCell ⟨w.heap.size, 9, none⟩ (.int .i64 0)).setCell ⟨w.heap.size, 10, none⟩ (.slice none 0 0)) := Below.setCell (Below.setCell (Below.setCell (Below.setCell (Below.setCell (Below.setCell (Below.setCell (Below.setCell (Below.setCell (G5.out) (Nat.le_refl _) (.int .i64 0)) (Nat.le_refl _) (.int .i64 0)) (Nat.le_refl _) (.int .i64 0)) (Nat.le_refl _) (.int .i64 0)) (Nat.le_refl _) (.int .i64 0)) (Nat.le_refl _) (.int .i64 0)) (Nat.le_refl _) (.int .i64 0)) (Nat.le_refl _) (.int .i64 0)) (Nat.le_refl _) (.slice none 0 0)
  have z4 := Bx.set_ne (b' := w.heap.size) (Bx.set_ne (b' := w.heap.size) (Bx.set_ne (b' := w.heap.size) (Bx.set_ne (b' := w.heap.size) (Bx.set_ne (b' := w.heap.size) (Bx.set_ne (b' := w.heap.size) (Bx.set_ne (b' := w.heap.size) (Bx.set_ne (b' := w.heap.size) (Bx.set_ne (b' := w.heap.size) (HZ5.out) 2 (.int .i64 0) (by omega)) 3 (.int .i64 0) (by omega)) 4 (.int .i64 0) (by omega)) 5 (.int .i64 0) (by omega)) 6 (.int .i64 0) (by omega)) 7 (.int .i64 0) (by omega)) 8 (.int .i64 0) (by omega)) 9 (.int .i64 0) (by omega)) 10 (.slice none 0 0) (by omega)
  have y4 : Bx (((((((((w5.setCell ⟨w.heap.size, 2, none⟩ (.int .i64 0)).setCell ⟨w.heap.size, 3, none⟩ (.int .i64 0)).setCell ⟨w.heap.size, 4, none⟩ (.int .i64 0)).setCell ⟨w.heap.size, 5, none⟩ (.int .i64 0)).setCell ⟨w.heap.size, 6, none⟩ (.int .i64 0)).setCell ⟨w.heap.size, 7, none⟩ (.int .i64 0)).setCell ⟨w.heap.size, 8, none⟩ (.int .i64 0)).setCell ⟨w.heap.size, 9, none⟩ (.int .i64 0)).setCell ⟨w.heap.size, 10, none⟩ (.slice none 0 0)) w.heap.size 45 #[.int .i64 1, .int .i64 ve, .int .i64 0, .int .i64 0, .int .i64 0, .int .i64 0, .int .i64 0, .int .i64 0, .int .i64 0, .int .i64 0, .slice none 0 0, .slice Ac cl.length cc, .slice Ad dl.length cd, .slice Ap pl.length cp, .slice Am ml.length cm, .int .i64 cu, .slice Ae el.length ce, .bool ye, .int .i64 wy] := by
    have q := b8
    simp only [List.setIfInBounds_toArray, List.set_cons_zero, List.set_cons_succ] at q
    exact q
  have kk : Kp B w5 (((((((((w5.setCell ⟨w.heap.size, 2, none⟩ (.int .i64 0)).setCell ⟨w.heap.size, 3, none⟩ (.int .i64 0)).setCell ⟨w.heap.size, 4, none⟩ (.int .i64 0)).setCell ⟨w.heap.size, 5, none⟩ (.int .i64 0)).setCell ⟨w.heap.size, 6, none⟩ (.int .i64 0)).setCell ⟨w.heap.size, 7, none⟩ (.int .i64 0)).setCell ⟨w.heap.size, 8, none⟩ (.int .i64 0)).setCell ⟨w.heap.size, 9, none⟩ (.int .i64 0)).setCell ⟨w.heap.size, 10, none⟩ (.slice none 0 0)) := k8
  rw [← hW4] at g4 z4 y4 kk ⊢
  clear hW4 b0 k0 b1 k1 b2 k2 b3 k3 b4 k4 b5 k5 b6 k6 b7 k7 b8 k8
  obtain ⟨CE, hCE⟩ : ∃ c : Array Value, c = #[.int .i64 1, .int .i64 ve, .int .i64 0, .int .i64 0, .int .i64 0, .int .i64 0, .int .i64 0, .int .i64 0, .int .i64 0, .int .i64 0, .slice none 0 0, .slice Ac cl.length cc, .slice Ad dl.length cd, .slice Ap pl.length cp, .slice Am ml.length cm, .int .i64 cu, .slice Ae el.length ce, .bool ye, .int .i64 wy] := ⟨_, rfl⟩
  rw [← hCE] at y4
  have HY4 := Lib.hid y4
  have HZ4 := Lib.hid z4
  have HG4 := Lib.hid g4
  have HKK := Lib.hid kk
  have HCE := Lib.hid hCE
  have hs19 : CE.size = 19 := by rw [hCE]; rfl
  have HS19 := Lib.hid hs19
  have HIC := Lib.hid (show (Tryd.prog.info? 45).map (·.size) = some CE.size by rw [hs19]; exact i45)
  have HTH := Lib.hid (show W4.there (w.heap.size + 1) 0 CE.size from by rw [hs19]; exact z4.there)
  have HONE := Lib.hid (show CE.all (fun v => v.oneCell') = true by rw [hCE]; simp [Value.oneCell'])
  clear y4 z4 g4 kk hCE hs19 c5 f5 n5
  go_wp2_with (first | (refine wpList_load_row (by rfl) 45 (.tmp 1) (by rfl) w.heap.size (by rfl) 45 CE (0, 0) _ HY4.out Tryd.underlying45 rfl HIC.out ?_) | (refine wpList_store_mid (by rfl) 45 (.tmp 2) (.tmp 36) (by rfl) (w.heap.size + 1) 0 CE (by rfl) (by rfl) HTH.out HIC.out HONE.out ?_; generalize hW6 : W4.setCells (w.heap.size + 1) 0 CE.toList = W6; have HW6 := Lib.hid hW6; clear hW6))
  have z6 := HZ4.out.fill CE.toList (by rw [Array.length_toList, HS19.out]; rfl)
  have k6 := HKK.out.trans (Kp.sets (by decide) (by omega) CE.toList 0 HZ4.out)
  have g6 : Ge w (W4.setCells (w.heap.size + 1) 0 CE.toList) := below_sets (by omega) _ _ _ HG4.out
  rw [HW6.out] at z6 k6 g6
  have z7 : Bx W6 (w.heap.size + 1) 45 CE := z6
  refine bodyPost_ret (v := .tuple #[.agg CE, .bool (gq)]) (results_msg_tmp Tryd.results51 _ W6 (w.heap.size + 1) CE _ rfl z7 HS19.out rfl) rfl ?_
  have hS := (HSL.out.ge G5.out).kp k6
  refine ⟨⟨.slice none 0 0, .slice Ac cl.length cc, .slice Ad dl.length cd, .slice Ap pl.length cp, .slice Am ml.length cm, .slice Ae el.length ce⟩, ?_, ?_, g6⟩
  · rw [QRM.out, HCE.out]; rfl
  · rw [QRM.out]; exact ⟨LAt.nil _ _ _ _ _, hS.c, hS.d, hS.p, hS.mv, hS.e⟩

theorem rest_any {B : Nat} {w : World} (hT : Tabs w) {s : Sls} {m : Msg} (h : SlAt B w s m) (hs : Small m) (hB : B ≤ w.heap.size) : Calls Tryd.prog 51 #[.agg (encG m s).toArray] w (RestOut B w m) := by
  by_cases k1 : m.kind = 1
  · by_cases hc : Chk m.t
    · exact rest1b hT h hs hB k1 hc
    · exact rest1a h hs hB k1 hc
  by_cases k2 : m.kind = 2
  · exact rest2 h hs hB k2
  by_cases k3 : m.kind = 3
  · by_cases c1 : m.cut < 0
    · exact rest3a h hs hB k3 c1
    by_cases c2 : 1073741824 < m.cut
    · exact rest3b h hs hB k3 c2
    exact rest3c h hs hB k3 ⟨by omega, by omega⟩
  by_cases k4 : m.kind = 4
  · exact rest4 h hs hB k4
  by_cases k6 : m.kind = 6
  · cases hy : m.yes with
    | true =>
      by_cases hw : m.why = 0
      · by_cases c1 : 1024 < m.ents.length
        · exact rest6a h hs hB k6 hy hw c1
        · exact rest6b h hs hB k6 hy hw (by omega)
      · exact rest6p h hs hB k6 hy hw
    | false =>
      by_cases hw : m.why = 0
      · exact rest6q h hs hB k6 hy hw
      · by_cases c1 : 1024 < m.ents.length
        · exact rest6e h hs hB k6 hy hw c1
        by_cases c2 : m.ents.length = 0
        · exact rest6c h hs hB k6 hy hw c2
        · exact rest6d h hs hB k6 hy hw ⟨by omega, by omega⟩
  by_cases k5 : m.kind = 5
  · by_cases c1 : 1024 < m.ents.length
    · exact rest5a h hs hB k5 c1
    cases hy : m.yes with
    | true => exact rest5b h hs hB k5 ⟨by omega, hy⟩
    | false =>
      by_cases c2 : m.ents.length = 0
      · exact rest5c h hs hB k5 ⟨c2, hy⟩
      · exact rest5d h hs hB k5 ⟨by omega, by omega, hy⟩
  exact restN h hs hB ⟨k1, k2, k3, k4, k6, k5⟩
end Go.Proofs.YtmhibpmgnicolaaDoor
