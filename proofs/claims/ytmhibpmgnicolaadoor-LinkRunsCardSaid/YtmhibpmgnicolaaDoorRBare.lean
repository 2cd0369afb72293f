/-
  What a message's kind uses alone: the reference's bare.
-/
import Derived.Test.YtmhibpmgnicolaaDoorBare
namespace Go.Proofs.YtmhibpmgnicolaaDoor
open Go.RowKit
attribute [local go_sem] Dr.upT

/-- a message with what its kind uses -/
def useM (m : Msg) : Msg :=
  if m.kind = 1 then { mzero with kind := m.kind, ver := m.ver, p1 := m.p1, p2 := m.p2, t := m.t, recs := m.recs }
  else if m.kind = 2 then { mzero with kind := m.kind, ver := m.ver, chs := m.chs }
  else if m.kind = 3 then { mzero with kind := m.kind, ver := m.ver, drop := m.drop, put := m.put, moves := m.moves, cut := m.cut }
  else if m.kind = 5 then { mzero with kind := m.kind, ver := m.ver, ents := m.ents, yes := m.yes }
  else if m.kind = 6 then { mzero with kind := m.kind, ver := m.ver, ents := m.ents, yes := m.yes, why := m.why }
  else bareM m
def UseOut (B : Nat) (w : World) (m : Msg) (e : Ending) (w' : World) : Prop := ∃ s', e = .returned (.agg (encG (useM m) s').toArray) ∧ SlAt B w' s' (useM m) ∧ Ge w w'

set_option maxRecDepth 100000 in
set_option maxHeartbeats 16000000 in
theorem use1 {B : Nat} {w : World} {s : Sls} {m : Msg} (h : SlAt B w s m) (hk : m.kind = 1) :
    Calls Tryd.prog 53 #[.agg (encG m s).toArray] w (UseOut B w m) := by
  have HSL := Lib.hid h
  obtain ⟨kd, ve, p1, p2, ⟨te, td, t0, t1, t2, t3⟩, rl, cl, dl, pl, ml, cu, el, ye, wy⟩ := m
  obtain ⟨sr, sc, sd, sp, sm, se⟩ := s
  obtain ⟨h1, h2, h3, h4, h5, h6⟩ := h
  dsimp only at h1 h2 h3 h4 h5 h6 hk
  obtain ⟨Ar, cr, rfl⟩ := h1.form
  obtain ⟨Ac, cc, rfl⟩ := h2.form
  obtain ⟨Ad, cd, rfl⟩ := h3.form
  obtain ⟨Ap, cp, rfl⟩ := h4.form
  obtain ⟨Am, cm, rfl⟩ := h5.form
  obtain ⟨Ae, ce, rfl⟩ := h6.form
  clear h1 h2 h3 h4 h5 h6
  subst hk
  simp only [encG]
  obtain ⟨W2, hW2⟩ : ∃ x, x = (w.alloc (.cells #[.int .i64 1, .int .i64 ve, .int .i64 p1, .int .i64 p2, .int .i64 te, .int .i64 td, .int .i64 t0, .int .i64 t1, .int .i64 t2, .int .i64 t3, .slice Ar rl.length cr, .slice Ac cl.length cc, .slice Ad dl.length cd, .slice Ap pl.length cp, .slice Am ml.length cm, .int .i64 cu, .slice Ae el.length ce, .bool ye, .int .i64 wy] 45)).alloc (.cells #[.int .i64 0, .int .i64 0, .int .i64 0, .int .i64 0, .int .i64 0, .int .i64 0, .int .i64 0, .int .i64 0, .int .i64 0, .int .i64 0, .slice none 0 0, .slice none 0 0, .slice none 0 0, .slice none 0 0, .slice none 0 0, .int .i64 0, .slice none 0 0, .bool false, .int .i64 0] 45) := ⟨_, rfl⟩
  have X0 : Bx W2 w.heap.size 45 #[.int .i64 1, .int .i64 ve, .int .i64 p1, .int .i64 p2, .int .i64 te, .int .i64 td, .int .i64 t0, .int .i64 t1, .int .i64 t2, .int .i64 t3, .slice Ar rl.length cr, .slice Ac cl.length cc, .slice Ad dl.length cd, .slice Ap pl.length cp, .slice Am ml.length cm, .int .i64 cu, .slice Ae el.length ce, .bool ye, .int .i64 wy] := by rw [hW2]; exact (Bx.new w 45 _ rfl).alloc _
  have X1 : Bx W2 (w.heap.size + 1) 45 #[.int .i64 0, .int .i64 0, .int .i64 0, .int .i64 0, .int .i64 0, .int .i64 0, .int .i64 0, .int .i64 0, .int .i64 0, .int .i64 0, .slice none 0 0, .slice none 0 0, .slice none 0 0, .slice none 0 0, .slice none 0 0, .int .i64 0, .slice none 0 0, .bool false, .int .i64 0] := by rw [hW2]; exact Bx.new _ 45 _ (by simp)
  have GW := Lib.hid (show Ge w W2 by rw [hW2]; exact ((Ge.refl w).alloc _).alloc _)
  have s2 : W2.heap.size = w.heap.size + 2 := by rw [hW2]; simp
  have qRM : useM ⟨1, ve, p1, p2, ⟨te, td, t0, t1, t2, t3⟩, rl, cl, dl, pl, ml, cu, el, ye, wy⟩ = ⟨1, ve, p1, p2, ⟨te, td, t0, t1, t2, t3⟩, rl, [], [], [], [], 0, [], false, 0⟩ := by unfold useM bareM mzero; simp
  have QRM := Lib.hid qRM
  obtain ⟨W4, hW4⟩ : ∃ x, x = W2.alloc (.cells #[.int .i64 0, .int .i64 0, .int .i64 0, .int .i64 0, .int .i64 0, .int .i64 0, .int .i64 0, .int .i64 0, .int .i64 0, .int .i64 0, .slice none 0 0, .slice none 0 0, .slice none 0 0, .slice none 0 0, .slice none 0 0, .int .i64 0, .slice none 0 0, .bool false, .int .i64 0] 45) := ⟨_, rfl⟩
  have Z4 : Bx W4 (w.heap.size + 2) 45 #[.int .i64 0, .int .i64 0, .int .i64 0, .int .i64 0, .int .i64 0, .int .i64 0, .int .i64 0, .int .i64 0, .int .i64 0, .int .i64 0, .slice none 0 0, .slice none 0 0, .slice none 0 0, .slice none 0 0, .slice none 0 0, .int .i64 0, .slice none 0 0, .bool false, .int .i64 0] := by rw [hW4]; exact Bx.new _ 45 _ s2.symm
  have HX0 := Lib.hid (show Bx W4 w.heap.size 45 #[.int .i64 1, .int .i64 ve, .int .i64 p1, .int .i64 p2, .int .i64 te, .int .i64 td, .int .i64 t0, .int .i64 t1, .int .i64 t2, .int .i64 t3, .slice Ar rl.length cr, .slice Ac cl.length cc, .slice Ad dl.length cd, .slice Ap pl.length cp, .slice Am ml.length cm, .int .i64 cu, .slice Ae el.length ce, .bool ye, .int .i64 wy] by rw [hW4]; exact X0.alloc _)
  have HX1 := Lib.hid (show Bx W4 (w.heap.size + 1) 45 #[.int .i64 0, .int .i64 0, .int .i64 0, .int .i64 0, .int .i64 0, .int .i64 0, .int .i64 0, .int .i64 0, .int .i64 0, .int .i64 0, .slice none 0 0, .slice none 0 0, .slice none 0 0, .slice none 0 0, .slice none 0 0, .int .i64 0, .slice none 0 0, .bool false, .int .i64 0] by rw [hW4]; exact X1.alloc _)
  have HG4 := Lib.hid (show Ge w W4 by rw [hW4]; exact GW.out.alloc _)
  have HTH := Lib.hid (show W4.there (w.heap.size + 2) 0 19 from Z4.there)
  have HI := Lib.hid i45
  have HZ4 := Lib.hid Z4
  have HW4 := Lib.hid hW4
  have c0 := X0.cell
  have n0 := X0.lt
  clear qRM X0 X1 Z4 hW4
  go_enter Tryd.func53, Tryd.ntmps53
  go_upto_region 1 with (fail)
  rw [← hW2]
  have HS2 := Lib.hid s2
  clear hW2
  go_upto_region 2 with (rw [← HW4.out]; (try rw [HS2.out]); refine wpList_store_mid (by rfl) 45 (.tmp 3) (.tmp 8) (by rfl) (w.heap.size + 2) 0 #[.int .i64 1, .int .i64 ve, .int .i64 0, .int .i64 0, .int .i64 0, .int .i64 0, .int .i64 0, .int .i64 0, .int .i64 0, .int .i64 0, .slice none 0 0, .slice none 0 0, .slice none 0 0, .slice none 0 0, .slice none 0 0, .int .i64 0, .slice none 0 0, .bool false, .int .i64 0] (by rfl) (by rfl) HTH.out HI.out (by simp [Value.oneCell']) ?_; generalize hW5 : W4.setCells (w.heap.size + 2) 0 (#[.int .i64 1, .int .i64 ve, .int .i64 0, .int .i64 0, .int .i64 0, .int .i64 0, .int .i64 0, .int .i64 0, .int .i64 0, .int .i64 0, .slice none 0 0, .slice none 0 0, .slice none 0 0, .slice none 0 0, .slice none 0 0, .int .i64 0, .slice none 0 0, .bool false, .int .i64 0] : Array Value).toList = W5; have HW5 := Lib.hid hW5; clear hW5)
  clear c0 n0
  have G5 : Ge w W5 := by rw [← HW5.out]; exact below_sets (by omega) _ _ _ HG4.out
  have X5 : Bx W5 w.heap.size 45 #[.int .i64 1, .int .i64 ve, .int .i64 p1, .int .i64 p2, .int .i64 te, .int .i64 td, .int .i64 t0, .int .i64 t1, .int .i64 t2, .int .i64 t3, .slice Ar rl.length cr, .slice Ac cl.length cc, .slice Ad dl.length cd, .slice Ap pl.length cp, .slice Am ml.length cm, .int .i64 cu, .slice Ae el.length ce, .bool ye, .int .i64 wy] := by rw [← HW5.out]; exact Bx.sets_ne (by omega) _ _ HX0.out
  have V5 : Bx W5 (w.heap.size + 1) 45 #[.int .i64 0, .int .i64 0, .int .i64 0, .int .i64 0, .int .i64 0, .int .i64 0, .int .i64 0, .int .i64 0, .int .i64 0, .int .i64 0, .slice none 0 0, .slice none 0 0, .slice none 0 0, .slice none 0 0, .slice none 0 0, .int .i64 0, .slice none 0 0, .bool false, .int .i64 0] := by rw [← HW5.out]; exact Bx.sets_ne (by omega) _ _ HX1.out
  have Z5 : Bx W5 (w.heap.size + 2) 45 #[.int .i64 1, .int .i64 ve, .int .i64 0, .int .i64 0, .int .i64 0, .int .i64 0, .int .i64 0, .int .i64 0, .int .i64 0, .int .i64 0, .slice none 0 0, .slice none 0 0, .slice none 0 0, .slice none 0 0, .slice none 0 0, .int .i64 0, .slice none 0 0, .bool false, .int .i64 0] := by
    have := HZ4.out.fill (#[.int .i64 1, .int .i64 ve, .int .i64 0, .int .i64 0, .int .i64 0, .int .i64 0, .int .i64 0, .int .i64 0, .int .i64 0, .int .i64 0, .slice none 0 0, .slice none 0 0, .slice none 0 0, .slice none 0 0, .slice none 0 0, .int .i64 0, .slice none 0 0, .bool false, .int .i64 0] : Array Value).toList rfl
    rw [HW5.out] at this
    exact this
  have HG5 := Lib.hid G5
  have HX5 := Lib.hid X5
  have HV5 := Lib.hid V5
  have HZ5 := Lib.hid Z5
  have c0 := X5.cell
  have n0 := X5.lt
  have c3 := Z5.cell
  have f3 := Z5.frozen
  have n3 := Z5.lt
  clear G5 X5 V5 Z5 s2
  go_upto_region 19 with (fail)
  obtain ⟨W6, hW6⟩ : ∃ x, x = (((((((((W5.setCell ⟨w.heap.size + 2, 2, none⟩ (.int .i64 p1)).setCell ⟨w.heap.size + 2, 3, none⟩ (.int .i64 p2)).setCell ⟨w.heap.size + 2, 4, none⟩ (.int .i64 te)).setCell ⟨w.heap.size + 2, 5, none⟩ (.int .i64 td)).setCell ⟨w.heap.size + 2, 6, none⟩ (.int .i64 t0)).setCell ⟨w.heap.size + 2, 7, none⟩ (.int .i64 t1)).setCell ⟨w.heap.size + 2, 8, none⟩ (.int .i64 t2)).setCell ⟨w.heap.size + 2, 9, none⟩ (.int .i64 t3)).setCell ⟨w.heap.size + 2, 10, none⟩ (.slice Ar rl.length cr)) := ⟨_, rfl⟩
  have g6 : Ge w (((((((((W5.setCell ⟨w.heap.size + 2, 2, none⟩ (.int .i64 p1)).setCell ⟨w.heap.size + 2, 3, none⟩ (.int .i64 p2)).setCell ⟨w.heap.size + 2, 4, none⟩ (.int .i64 te)).setCell ⟨w.heap.size + 2, 5, none⟩ (.int .i64 td)).setCell ⟨w.heap.size + 2, 6, none⟩ (.int .i64 t0)).setCell ⟨w.heap.size + 2, 7, none⟩ (.int .i64 t1)).setCell ⟨w.heap.size + 2, 8, none⟩ (.int .i64 t2)).setCell ⟨w.heap.size + 2, 9, none⟩ (.int .i64 t3)).setCell ⟨w.heap.size + 2, 10, none⟩ (.slice Ar rl.length cr)) := Below.setCell (Below.setCell (Below.setCell (Below.setCell (Below.setCell (Below.setCell (Below.setCell (Below.setCell (Below.setCell (HG5.out) (Nat.le_add_right _ _) (.int .i64 p1)) (Nat.le_add_right _ _) (.int .i64 p2)) (Nat.le_add_right _ _) (.int .i64 te)) (Nat.le_add_right _ _) (.int .i64 td)) (Nat.le_add_right _ _) (.int .i64 t0)) (Nat.le_add_right _ _) (.int .i64 t1)) (Nat.le_add_right _ _) (.int .i64 t2)) (Nat.le_add_right _ _) (.int .i64 t3)) (Nat.le_add_right _ _) (.slice Ar rl.length cr)
  have v6 := Bx.set_ne (b' := w.heap.size + 2) (Bx.set_ne (b' := w.heap.size + 2) (Bx.set_ne (b' := w.heap.size + 2) (Bx.set_ne (b' := w.heap.size + 2) (Bx.set_ne (b' := w.heap.size + 2) (Bx.set_ne (b' := w.heap.size + 2) (Bx.set_ne (b' := w.heap.size + 2) (Bx.set_ne (b' := w.heap.size + 2) (Bx.set_ne (b' := w.heap.size + 2) (HV5.out) 2 (.int .i64 p1) (by omega)) 3 (.int .i64 p2) (by omega)) 4 (.int .i64 te) (by omega)) 5 (.int .i64 td) (by omega)) 6 (.int .i64 t0) (by omega)) 7 (.int .i64 t1) (by omega)) 8 (.int .i64 t2) (by omega)) 9 (.int .i64 t3) (by omega)) 10 (.slice Ar rl.length cr) (by omega)
  have z6 : Bx (((((((((W5.setCell ⟨w.heap.size + 2, 2, none⟩ (.int .i64 p1)).setCell ⟨w.heap.size + 2, 3, none⟩ (.int .i64 p2)).setCell ⟨w.heap.size + 2, 4, none⟩ (.int .i64 te)).setCell ⟨w.heap.size + 2, 5, none⟩ (.int .i64 td)).setCell ⟨w.heap.size + 2, 6, none⟩ (.int .i64 t0)).setCell ⟨w.heap.size + 2, 7, none⟩ (.int .i64 t1)).setCell ⟨w.heap.size + 2, 8, none⟩ (.int .i64 t2)).setCell ⟨w.heap.size + 2, 9, none⟩ (.int .i64 t3)).setCell ⟨w.heap.size + 2, 10, none⟩ (.slice Ar rl.length cr)) (w.heap.size + 2) 45 #[.int .i64 1, .int .i64 ve, .int .i64 p1, .int .i64 p2, .int .i64 te, .int .i64 td, .int .i64 t0, .int .i64 t1, .int .i64 t2, .int .i64 t3, .slice Ar rl.length cr, .slice none 0 0, .slice none 0 0, .slice none 0 0, .slice none 0 0, .int .i64 0, .slice none 0 0, .bool false, .int .i64 0] := by
    have q := Bx.set (Bx.set (Bx.set (Bx.set (Bx.set (Bx.set (Bx.set (Bx.set (Bx.set (HZ5.out) 2 (.int .i64 p1)) 3 (.int .i64 p2)) 4 (.int .i64 te)) 5 (.int .i64 td)) 6 (.int .i64 t0)) 7 (.int .i64 t1)) 8 (.int .i64 t2)) 9 (.int .i64 t3)) 10 (.slice Ar rl.length cr)
    simp only [List.setIfInBounds_toArray, List.set_cons_zero, List.set_cons_succ] at q
    exact q
  rw [← hW6] at g6 v6 z6 ⊢
  clear hW6
  obtain ⟨CE, hCE⟩ : ∃ c : Array Value, c = #[.int .i64 1, .int .i64 ve, .int .i64 p1, .int .i64 p2, .int .i64 te, .int .i64 td, .int .i64 t0, .int .i64 t1, .int .i64 t2, .int .i64 t3, .slice Ar rl.length cr, .slice none 0 0, .slice none 0 0, .slice none 0 0, .slice none 0 0, .int .i64 0, .slice none 0 0, .bool false, .int .i64 0] := ⟨_, rfl⟩
  rw [← hCE] at z6
  have HY := Lib.hid z6
  have HV := Lib.hid v6
  have HG := Lib.hid g6
  have HCE := Lib.hid hCE
  have hs19 : CE.size = 19 := by rw [hCE]; rfl
  have HS19 := Lib.hid hs19
  have HIC := Lib.hid (show (Tryd.prog.info? 45).map (·.size) = some CE.size by rw [hs19]; exact i45)
  have HT2 := Lib.hid (show W6.there (w.heap.size + 1) 0 CE.size from by rw [hs19]; exact v6.there)
  have HONE := Lib.hid (show CE.all (fun v => v.oneCell') = true by rw [hCE]; simp [Value.oneCell'])
  clear z6 v6 g6 hCE hs19 c0 n0 c3 f3 n3
  go_wp2_with (first | (refine wpList_load_row (by rfl) 45 (.tmp 3) (by rfl) (w.heap.size + 2) (by rfl) 45 CE (0, 0) _ HY.out Tryd.underlying45 rfl HIC.out ?_) | (refine wpList_store_mid (by rfl) 45 (.tmp 2) (.tmp 54) (by rfl) (w.heap.size + 1) 0 CE (by rfl) (by rfl) HT2.out HIC.out HONE.out ?_; generalize hW8 : W6.setCells (w.heap.size + 1) 0 CE.toList = W8; have HW8 := Lib.hid hW8; clear hW8))
  have z8 : Bx W8 (w.heap.size + 1) 45 CE := by
    have := HV.out.fill CE.toList (by rw [Array.length_toList, HS19.out]; rfl)
    rw [HW8.out] at this
    exact this
  have g8 : Ge w W8 := by rw [← HW8.out]; exact below_sets (by omega) _ _ _ HG.out
  refine bodyPost_ret (v := .agg CE) (results_cell_row Tryd.results53 _ _ (w.heap.size + 1) 45 CE (0, 0) _ rfl z8 Tryd.underlying45 rfl HIC.out) rfl ?_
  have hS := HSL.out.ge g8
  refine ⟨⟨.slice Ar rl.length cr, .slice none 0 0, .slice none 0 0, .slice none 0 0, .slice none 0 0, .slice none 0 0⟩, ?_, ?_, g8⟩
  · rw [QRM.out, HCE.out]; rfl
  · rw [QRM.out]; exact ⟨hS.r, LAt.nil _ _ _ _ _, LAt.nil _ _ _ _ _, PutAt.nil _ _, LAt.nil _ _ _ _ _, LAt.nil _ _ _ _ _⟩

set_option maxRecDepth 100000 in
set_option maxHeartbeats 16000000 in
theorem use2 {B : Nat} {w : World} {s : Sls} {m : Msg} (h : SlAt B w s m) (hk : m.kind = 2) :
    Calls Tryd.prog 53 #[.agg (encG m s).toArray] w (UseOut B w m) := by
  have HSL := Lib.hid h
  obtain ⟨kd, ve, p1, p2, ⟨te, td, t0, t1, t2, t3⟩, rl, cl, dl, pl, ml, cu, el, ye, wy⟩ := m
  obtain ⟨sr, sc, sd, sp, sm, se⟩ := s
  obtain ⟨h1, h2, h3, h4, h5, h6⟩ := h
  dsimp only at h1 h2 h3 h4 h5 h6 hk
  obtain ⟨Ar, cr, rfl⟩ := h1.form
  obtain ⟨Ac, cc, rfl⟩ := h2.form
  obtain ⟨Ad, cd, rfl⟩ := h3.form
  obtain ⟨Ap, cp, rfl⟩ := h4.form
  obtain ⟨Am, cm, rfl⟩ := h5.form
  obtain ⟨Ae, ce, rfl⟩ := h6.form
  clear h1 h2 h3 h4 h5 h6
  subst hk
  simp only [encG]
  obtain ⟨W2, hW2⟩ : ∃ x, x = (w.alloc (.cells #[.int .i64 2, .int .i64 ve, .int .i64 p1, .int .i64 p2, .int .i64 te, .int .i64 td, .int .i64 t0, .int .i64 t1, .int .i64 t2, .int .i64 t3, .slice Ar rl.length cr, .slice Ac cl.length cc, .slice Ad dl.length cd, .slice Ap pl.length cp, .slice Am ml.length cm, .int .i64 cu, .slice Ae el.length ce, .bool ye, .int .i64 wy] 45)).alloc (.cells #[.int .i64 0, .int .i64 0, .int .i64 0, .int .i64 0, .int .i64 0, .int .i64 0, .int .i64 0, .int .i64 0, .int .i64 0, .int .i64 0, .slice none 0 0, .slice none 0 0, .slice none 0 0, .slice none 0 0, .slice none 0 0, .int .i64 0, .slice none 0 0, .bool false, .int .i64 0] 45) := ⟨_, rfl⟩
  have X0 : Bx W2 w.heap.size 45 #[.int .i64 2, .int .i64 ve, .int .i64 p1, .int .i64 p2, .int .i64 te, .int .i64 td, .int .i64 t0, .int .i64 t1, .int .i64 t2, .int .i64 t3, .slice Ar rl.length cr, .slice Ac cl.length cc, .slice Ad dl.length cd, .slice Ap pl.length cp, .slice Am ml.length cm, .int .i64 cu, .slice Ae el.length ce, .bool ye, .int .i64 wy] := by rw [hW2]; exact (Bx.new w 45 _ rfl).alloc _
  have X1 : Bx W2 (w.heap.size + 1) 45 #[.int .i64 0, .int .i64 0, .int .i64 0, .int .i64 0, .int .i64 0, .int .i64 0, .int .i64 0, .int .i64 0, .int .i64 0, .int .i64 0, .slice none 0 0, .slice none 0 0, .slice none 0 0, .slice none 0 0, .slice none 0 0, .int .i64 0, .slice none 0 0, .bool false, .int .i64 0] := by rw [hW2]; exact Bx.new _ 45 _ (by simp)
  have GW := Lib.hid (show Ge w W2 by rw [hW2]; exact ((Ge.refl w).alloc _).alloc _)
  have s2 : W2.heap.size = w.heap.size + 2 := by rw [hW2]; simp
  have qRM : useM ⟨2, ve, p1, p2, ⟨te, td, t0, t1, t2, t3⟩, rl, cl, dl, pl, ml, cu, el, ye, wy⟩ = ⟨2, ve, 0, 0, ⟨0, 0, 0, 0, 0, 0⟩, [], cl, [], [], [], 0, [], false, 0⟩ := by unfold useM bareM mzero; simp
  have QRM := Lib.hid qRM
  obtain ⟨W4, hW4⟩ : ∃ x, x = W2.alloc (.cells #[.int .i64 0, .int .i64 0, .int .i64 0, .int .i64 0, .int .i64 0, .int .i64 0, .int .i64 0, .int .i64 0, .int .i64 0, .int .i64 0, .slice none 0 0, .slice none 0 0, .slice none 0 0, .slice none 0 0, .slice none 0 0, .int .i64 0, .slice none 0 0, .bool false, .int .i64 0] 45) := ⟨_, rfl⟩
  have Z4 : Bx W4 (w.heap.size + 2) 45 #[.int .i64 0, .int .i64 0, .int .i64 0, .int .i64 0, .int .i64 0, .int .i64 0, .int .i64 0, .int .i64 0, .int .i64 0, .int .i64 0, .slice none 0 0, .slice none 0 0, .slice none 0 0, .slice none 0 0, .slice none 0 0, .int .i64 0, .slice none 0 0, .bool false, .int .i64 0] := by rw [hW4]; exact Bx.new _ 45 _ s2.symm
  have HX0 := Lib.hid (show Bx W4 w.heap.size 45 #[.int .i64 2, .int .i64 ve, .int .i64 p1, .int .i64 p2, .int .i64 te, .int .i64 td, .int .i64 t0, .int .i64 t1, .int .i64 t2, .int .i64 t3, .slice Ar rl.length cr, .slice Ac cl.length cc, .slice Ad dl.length cd, .slice Ap pl.length cp, .slice Am ml.length cm, .int .i64 cu, .slice Ae el.length ce, .bool ye, .int .i64 wy] by rw [hW4]; exact X0.alloc _)
  have HX1 := Lib.hid (show Bx W4 (w.heap.size + 1) 45 #[.int .i64 0, .int .i64 0, .int .i64 0, .int .i64 0, .int .i64 0, .int .i64 0, .int .i64 0, .int .i64 0, .int .i64 0, .int .i64 0, .slice none 0 0, .slice none 0 0, .slice none 0 0, .slice none 0 0, .slice none 0 0, .int .i64 0, .slice none 0 0, .bool false, .int .i64 0] by rw [hW4]; exact X1.alloc _)
  have HG4 := Lib.hid (show Ge w W4 by rw [hW4]; exact GW.out.alloc _)
  have HTH := Lib.hid (show W4.there (w.heap.size + 2) 0 19 from Z4.there)
  have HI := Lib.hid i45
  have HZ4 := Lib.hid Z4
  have HW4 := Lib.hid hW4
  have c0 := X0.cell
  have n0 := X0.lt
  clear qRM X0 X1 Z4 hW4
  go_enter Tryd.func53, Tryd.ntmps53
  go_upto_region 1 with (fail)
  rw [← hW2]
  have HS2 := Lib.hid s2
  clear hW2
  go_upto_region 2 with (rw [← HW4.out]; (try rw [HS2.out]); refine wpList_store_mid (by rfl) 45 (.tmp 3) (.tmp 8) (by rfl) (w.heap.size + 2) 0 #[.int .i64 2, .int .i64 ve, .int .i64 0, .int .i64 0, .int .i64 0, .int .i64 0, .int .i64 0, .int .i64 0, .int .i64 0, .int .i64 0, .slice none 0 0, .slice none 0 0, .slice none 0 0, .slice none 0 0, .slice none 0 0, .int .i64 0, .slice none 0 0, .bool false, .int .i64 0] (by rfl) (by rfl) HTH.out HI.out (by simp [Value.oneCell']) ?_; generalize hW5 : W4.setCells (w.heap.size + 2) 0 (#[.int .i64 2, .int .i64 ve, .int .i64 0, .int .i64 0, .int .i64 0, .int .i64 0, .int .i64 0, .int .i64 0, .int .i64 0, .int .i64 0, .slice none 0 0, .slice none 0 0, .slice none 0 0, .slice none 0 0, .slice none 0 0, .int .i64 0, .slice none 0 0, .bool false, .int .i64 0] : Array Value).toList = W5; have HW5 := Lib.hid hW5; clear hW5)
  clear c0 n0
  have G5 : Ge w W5 := by rw [← HW5.out]; exact below_sets (by omega) _ _ _ HG4.out
  have X5 : Bx W5 w.heap.size 45 #[.int .i64 2, .int .i64 ve, .int .i64 p1, .int .i64 p2, .int .i64 te, .int .i64 td, .int .i64 t0, .int .i64 t1, .int .i64 t2, .int .i64 t3, .slice Ar rl.length cr, .slice Ac cl.length cc, .slice Ad dl.length cd, .slice Ap pl.length cp, .slice Am ml.length cm, .int .i64 cu, .slice Ae el.length ce, .bool ye, .int .i64 wy] := by rw [← HW5.out]; exact Bx.sets_ne (by omega) _ _ HX0.out
  have V5 : Bx W5 (w.heap.size + 1) 45 #[.int .i64 0, .int .i64 0, .int .i64 0, .int .i64 0, .int .i64 0, .int .i64 0, .int .i64 0, .int .i64 0, .int .i64 0, .int .i64 0, .slice none 0 0, .slice none 0 0, .slice none 0 0, .slice none 0 0, .slice none 0 0, .int .i64 0, .slice none 0 0, .bool false, .int .i64 0] := by rw [← HW5.out]; exact Bx.sets_ne (by omega) _ _ HX1.out
  have Z5 : Bx W5 (w.heap.size + 2) 45 #[.int .i64 2, .int .i64 ve, .int .i64 0, .int .i64 0, .int .i64 0, .int .i64 0, .int .i64 0, .int .i64 0, .int .i64 0, .int .i64 0, .slice none 0 0, .slice none 0 0, .slice none 0 0, .slice none 0 0, .slice none 0 0, .int .i64 0, .slice none 0 0, .bool false, .int .i64 0] := by
    have := HZ4.out.fill (#[.int .i64 2, .int .i64 ve, .int .i64 0, .int .i64 0, .int .i64 0, .int .i64 0, .int .i64 0, .int .i64 0, .int .i64 0, .int .i64 0, .slice none 0 0, .slice none 0 0, .slice none 0 0, .slice none 0 0, .slice none 0 0, .int .i64 0, .slice none 0 0, .bool false, .int .i64 0] : Array Value).toList rfl
    rw [HW5.out] at this
    exact this
  have HG5 := Lib.hid G5
  have HX5 := Lib.hid X5
  have HV5 := Lib.hid V5
  have HZ5 := Lib.hid Z5
  have c0 := X5.cell
  have n0 := X5.lt
  have c3 := Z5.cell
  have f3 := Z5.frozen
  have n3 := Z5.lt
  clear G5 X5 V5 Z5 s2
  go_upto_region 19 with (fail)
  obtain ⟨W6, hW6⟩ : ∃ x, x = (W5.setCell ⟨w.heap.size + 2, 11, none⟩ (.slice Ac cl.length cc)) := ⟨_, rfl⟩
  have g6 : Ge w (W5.setCell ⟨w.heap.size + 2, 11, none⟩ (.slice Ac cl.length cc)) := Below.setCell (HG5.out) (Nat.le_add_right _ _) (.slice Ac cl.length cc)
  have v6 := Bx.set_ne (b' := w.heap.size + 2) (HV5.out) 11 (.slice Ac cl.length cc) (by omega)
  have z6 : Bx (W5.setCell ⟨w.heap.size + 2, 11, none⟩ (.slice Ac cl.length cc)) (w.heap.size + 2) 45 #[.int .i64 2, .int .i64 ve, .int .i64 0, .int .i64 0, .int .i64 0, .int .i64 0, .int .i64 0, .int .i64 0, .int .i64 0, .int .i64 0, .slice none 0 0, .slice Ac cl.length cc, .slice none 0 0, .slice none 0 0, .slice none 0 0, .int .i64 0, .slice none 0 0, .bool false, .int .i64 0] := by
    have q := Bx.set (HZ5.out) 11 (.slice Ac cl.length cc)
    simp only [List.setIfInBounds_toArray, List.set_cons_zero, List.set_cons_succ] at q
    exact q
  rw [← hW6] at g6 v6 z6 ⊢
  clear hW6
  obtain ⟨CE, hCE⟩ : ∃ c : Array Value, c = #[.int .i64 2, .int .i64 ve, .int .i64 0, .int .i64 0, .int .i64 0, .int .i64 0, .int .i64 0, .int .i64 0, .int .i64 0, .int .i64 0, .slice none 0 0, .slice Ac cl.length cc, .slice none 0 0, .slice none 0 0, .slice none 0 0, .int .i64 0, .slice none 0 0, .bool false, .int .i64 0] := ⟨_, rfl⟩
  rw [← hCE] at z6
  have HY := Lib.hid z6
  have HV := Lib.hid v6
  have HG := Lib.hid g6
  have HCE := Lib.hid hCE
  have hs19 : CE.size = 19 := by rw [hCE]; rfl
  have HS19 := Lib.hid hs19
  have HIC := Lib.hid (show (Tryd.prog.info? 45).map (·.size) = some CE.size by rw [hs19]; exact i45)
  have HT2 := Lib.hid (show W6.there (w.heap.size + 1) 0 CE.size from by rw [hs19]; exact v6.there)
  have HONE := Lib.hid (show CE.all (fun v => v.oneCell') = true by rw [hCE]; simp [Value.oneCell'])
  clear z6 v6 g6 hCE hs19 c0 n0 c3 f3 n3
  go_wp2_with (first | (refine wpList_load_row (by rfl) 45 (.tmp 3) (by rfl) (w.heap.size + 2) (by rfl) 45 CE (0, 0) _ HY.out Tryd.underlying45 rfl HIC.out ?_) | (refine wpList_store_mid (by rfl) 45 (.tmp 2) (.tmp 54) (by rfl) (w.heap.size + 1) 0 CE (by rfl) (by rfl) HT2.out HIC.out HONE.out ?_; generalize hW8 : W6.setCells (w.heap.size + 1) 0 CE.toList = W8; have HW8 := Lib.hid hW8; clear hW8))
  have z8 : Bx W8 (w.heap.size + 1) 45 CE := by
    have := HV.out.fill CE.toList (by rw [Array.length_toList, HS19.out]; rfl)
    rw [HW8.out] at this
    exact this
  have g8 : Ge w W8 := by rw [← HW8.out]; exact below_sets (by omega) _ _ _ HG.out
  refine bodyPost_ret (v := .agg CE) (results_cell_row Tryd.results53 _ _ (w.heap.size + 1) 45 CE (0, 0) _ rfl z8 Tryd.underlying45 rfl HIC.out) rfl ?_
  have hS := HSL.out.ge g8
  refine ⟨⟨.slice none 0 0, .slice Ac cl.length cc, .slice none 0 0, .slice none 0 0, .slice none 0 0, .slice none 0 0⟩, ?_, ?_, g8⟩
  · rw [QRM.out, HCE.out]; rfl
  · rw [QRM.out]; exact ⟨LAt.nil _ _ _ _ _, hS.c, LAt.nil _ _ _ _ _, PutAt.nil _ _, LAt.nil _ _ _ _ _, LAt.nil _ _ _ _ _⟩

set_option maxRecDepth 100000 in
set_option maxHeartbeats 16000000 in
theorem use3 {B : Nat} {w : World} {s : Sls} {m : Msg} (h : SlAt B w s m) (hk : m.kind = 3) :
    Calls Tryd.prog 53 #[.agg (encG m s).toArray] w (UseOut B w m) := by
  have HSL := Lib.hid h
  obtain ⟨kd, ve, p1, p2, ⟨te, td, t0, t1, t2, t3⟩, rl, cl, dl, pl, ml, cu, el, ye, wy⟩ := m
  obtain ⟨sr, sc, sd, sp, sm, se⟩ := s
  obtain ⟨h1, h2, h3, h4, h5, h6⟩ := h
  dsimp only at h1 h2 h3 h4 h5 h6 hk
  obtain ⟨Ar, cr, rfl⟩ := h1.form
  obtain ⟨Ac, cc, rfl⟩ := h2.form
  obtain ⟨Ad, cd, rfl⟩ := h3.form
  obtain ⟨Ap, cp, rfl⟩ := h4.form
  obtain ⟨Am, cm, rfl⟩ := h5.form
  obtain ⟨Ae, ce, rfl⟩ := h6.form
  clear h1 h2 h3 h4 h5 h6
  subst hk
  simp only [encG]
  obtain ⟨W2, hW2⟩ : ∃ x, x = (w.alloc (.cells #[.int .i64 3, .int .i64 ve, .int .i64 p1, .int .i64 p2, .int .i64 te, .int .i64 td, .int .i64 t0, .int .i64 t1, .int .i64 t2, .int .i64 t3, .slice Ar rl.length cr, .slice Ac cl.length cc, .slice Ad dl.length cd, .slice Ap pl.length cp, .slice Am ml.length cm, .int .i64 cu, .slice Ae el.length ce, .bool ye, .int .i64 wy] 45)).alloc (.cells #[.int .i64 0, .int .i64 0, .int .i64 0, .int .i64 0, .int .i64 0, .int .i64 0, .int .i64 0, .int .i64 0, .int .i64 0, .int .i64 0, .slice none 0 0, .slice none 0 0, .slice none 0 0, .slice none 0 0, .slice none 0 0, .int .i64 0, .slice none 0 0, .bool false, .int .i64 0] 45) := ⟨_, rfl⟩
  have X0 : Bx W2 w.heap.size 45 #[.int .i64 3, .int .i64 ve, .int .i64 p1, .int .i64 p2, .int .i64 te, .int .i64 td, .int .i64 t0, .int .i64 t1, .int .i64 t2, .int .i64 t3, .slice Ar rl.length cr, .slice Ac cl.length cc, .slice Ad dl.length cd, .slice Ap pl.length cp, .slice Am ml.length cm, .int .i64 cu, .slice Ae el.length ce, .bool ye, .int .i64 wy] := by rw [hW2]; exact (Bx.new w 45 _ rfl).alloc _
  have X1 : Bx W2 (w.heap.size + 1) 45 #[.int .i64 0, .int .i64 0, .int .i64 0, .int .i64 0, .int .i64 0, .int .i64 0, .int .i64 0, .int .i64 0, .int .i64 0, .int .i64 0, .slice none 0 0, .slice none 0 0, .slice none 0 0, .slice none 0 0, .slice none 0 0, .int .i64 0, .slice none 0 0, .bool false, .int .i64 0] := by rw [hW2]; exact Bx.new _ 45 _ (by simp)
  have GW := Lib.hid (show Ge w W2 by rw [hW2]; exact ((Ge.refl w).alloc _).alloc _)
  have s2 : W2.heap.size = w.heap.size + 2 := by rw [hW2]; simp
  have qRM : useM ⟨3, ve, p1, p2, ⟨te, td, t0, t1, t2, t3⟩, rl, cl, dl, pl, ml, cu, el, ye, wy⟩ = ⟨3, ve, 0, 0, ⟨0, 0, 0, 0, 0, 0⟩, [], [], dl, pl, ml, cu, [], false, 0⟩ := by unfold useM bareM mzero; simp
  have QRM := Lib.hid qRM
  obtain ⟨W4, hW4⟩ : ∃ x, x = W2.alloc (.cells #[.int .i64 0, .int .i64 0, .int .i64 0, .int .i64 0, .int .i64 0, .int .i64 0, .int .i64 0, .int .i64 0, .int .i64 0, .int .i64 0, .slice none 0 0, .slice none 0 0, .slice none 0 0, .slice none 0 0, .slice none 0 0, .int .i64 0, .slice none 0 0, .bool false, .int .i64 0] 45) := ⟨_, rfl⟩
  have Z4 : Bx W4 (w.heap.size + 2) 45 #[.int .i64 0, .int .i64 0, .int .i64 0, .int .i64 0, .int .i64 0, .int .i64 0, .int .i64 0, .int .i64 0, .int .i64 0, .int .i64 0, .slice none 0 0, .slice none 0 0, .slice none 0 0, .slice none 0 0, .slice none 0 0, .int .i64 0, .slice none 0 0, .bool false, .int .i64 0] := by rw [hW4]; exact Bx.new _ 45 _ s2.symm
  have HX0 := Lib.hid (show Bx W4 w.heap.size 45 #[.int .i64 3, .int .i64 ve, .int .i64 p1, .int .i64 p2, .int .i64 te, .int .i64 td, .int .i64 t0, .int .i64 t1, .int .i64 t2, .int .i64 t3, .slice Ar rl.length cr, .slice Ac cl.length cc, .slice Ad dl.length cd, .slice Ap pl.length cp, .slice Am ml.length cm, .int .i64 cu, .slice Ae el.length ce, .bool ye, .int .i64 wy] by rw [hW4]; exact X0.alloc _)
  have HX1 := Lib.hid (show Bx W4 (w.heap.size + 1) 45 #[.int .i64 0, .int .i64 0, .int .i64 0, .int .i64 0, .int .i64 0, .int .i64 0, .int .i64 0, .int .i64 0, .int .i64 0, .int .i64 0, .slice none 0 0, .slice none 0 0, .slice none 0 0, .slice none 0 0, .slice none 0 0, .int .i64 0, .slice none 0 0, .bool false, .int .i64 0] by rw [hW4]; exact X1.alloc _)
  have HG4 := Lib.hid (show Ge w W4 by rw [hW4]; exact GW.out.alloc _)
  have HTH := Lib.hid (show W4.there (w.heap.size + 2) 0 19 from Z4.there)
  have HI := Lib.hid i45
  have HZ4 := Lib.hid Z4
  have HW4 := Lib.hid hW4
  have c0 := X0.cell
  have n0 := X0.lt
  clear qRM X0 X1 Z4 hW4
  go_enter Tryd.func53, Tryd.ntmps53
  go_upto_region 1 with (fail)
  rw [← hW2]
  have HS2 := Lib.hid s2
  clear hW2
  go_upto_region 2 with (rw [← HW4.out]; (try rw [HS2.out]); refine wpList_store_mid (by rfl) 45 (.tmp 3) (.tmp 8) (by rfl) (w.heap.size + 2) 0 #[.int .i64 3, .int .i64 ve, .int .i64 0, .int .i64 0, .int .i64 0, .int .i64 0, .int .i64 0, .int .i64 0, .int .i64 0, .int .i64 0, .slice none 0 0, .slice none 0 0, .slice none 0 0, .slice none 0 0, .slice none 0 0, .int .i64 0, .slice none 0 0, .bool false, .int .i64 0] (by rfl) (by rfl) HTH.out HI.out (by simp [Value.oneCell']) ?_; generalize hW5 : W4.setCells (w.heap.size + 2) 0 (#[.int .i64 3, .int .i64 ve, .int .i64 0, .int .i64 0, .int .i64 0, .int .i64 0, .int .i64 0, .int .i64 0, .int .i64 0, .int .i64 0, .slice none 0 0, .slice none 0 0, .slice none 0 0, .slice none 0 0, .slice none 0 0, .int .i64 0, .slice none 0 0, .bool false, .int .i64 0] : Array Value).toList = W5; have HW5 := Lib.hid hW5; clear hW5)
  clear c0 n0
  have G5 : Ge w W5 := by rw [← HW5.out]; exact below_sets (by omega) _ _ _ HG4.out
  have X5 : Bx W5 w.heap.size 45 #[.int .i64 3, .int .i64 ve, .int .i64 p1, .int .i64 p2, .int .i64 te, .int .i64 td, .int .i64 t0, .int .i64 t1, .int .i64 t2, .int .i64 t3, .slice Ar rl.length cr, .slice Ac cl.length cc, .slice Ad dl.length cd, .slice Ap pl.length cp, .slice Am ml.length cm, .int .i64 cu, .slice Ae el.length ce, .bool ye, .int .i64 wy] := by rw [← HW5.out]; exact Bx.sets_ne (by omega) _ _ HX0.out
  have V5 : Bx W5 (w.heap.size + 1) 45 #[.int .i64 0, .int .i64 0, .int .i64 0, .int .i64 0, .int .i64 0, .int .i64 0, .int .i64 0, .int .i64 0, .int .i64 0, .int .i64 0, .slice none 0 0, .slice none 0 0, .slice none 0 0, .slice none 0 0, .slice none 0 0, .int .i64 0, .slice none 0 0, .bool false, .int .i64 0] := by rw [← HW5.out]; exact Bx.sets_ne (by omega) _ _ HX1.out
  have Z5 : Bx W5 (w.heap.size + 2) 45 #[.int .i64 3, .int .i64 ve, .int .i64 0, .int .i64 0, .int .i64 0, .int .i64 0, .int .i64 0, .int .i64 0, .int .i64 0, .int .i64 0, .slice none 0 0, .slice none 0 0, .slice none 0 0, .slice none 0 0, .slice none 0 0, .int .i64 0, .slice none 0 0, .bool false, .int .i64 0] := by
    have := HZ4.out.fill (#[.int .i64 3, .int .i64 ve, .int .i64 0, .int .i64 0, .int .i64 0, .int .i64 0, .int .i64 0, .int .i64 0, .int .i64 0, .int .i64 0, .slice none 0 0, .slice none 0 0, .slice none 0 0, .slice none 0 0, .slice none 0 0, .int .i64 0, .slice none 0 0, .bool false, .int .i64 0] : Array Value).toList rfl
    rw [HW5.out] at this
    exact this
  have HG5 := Lib.hid G5
  have HX5 := Lib.hid X5
  have HV5 := Lib.hid V5
  have HZ5 := Lib.hid Z5
  have c0 := X5.cell
  have n0 := X5.lt
  have c3 := Z5.cell
  have f3 := Z5.frozen
  have n3 := Z5.lt
  clear G5 X5 V5 Z5 s2
  go_upto_region 19 with (fail)
  obtain ⟨W6, hW6⟩ : ∃ x, x = ((((W5.setCell ⟨w.heap.size + 2, 12, none⟩ (.slice Ad dl.length cd)).setCell ⟨w.heap.size + 2, 13, none⟩ (.slice Ap pl.length cp)).setCell ⟨w.heap.size + 2, 14, none⟩ (.slice Am ml.length cm)).setCell ⟨w.heap.size + 2, 15, none⟩ (.int .i64 cu)) := ⟨_, rfl⟩
  have g6 : Ge w ((((W5.setCell ⟨w.heap.size + 2, 12, none⟩ (.slice Ad dl.length cd)).setCell ⟨w.heap.size + 2, 13, none⟩ (.slice Ap pl.length cp)).setCell ⟨w.heap.size + 2, 14, none⟩ (.slice Am ml.length cm)).setCell ⟨w.heap.size + 2, 15, none⟩ (.int .i64 cu)) := Below.setCell (Below.setCell (Below.setCell (Below.setCell (HG5.out) (Nat.le_add_right _ _) (.slice Ad dl.length cd)) (Nat.le_add_right _ _) (.slice Ap pl.length cp)) (Nat.le_add_right _ _) (.slice Am ml.length cm)) (Nat.le_add_right _ _) (.int .i64 cu)
  have v6 := Bx.set_ne (b' := w.heap.size + 2) (Bx.set_ne (b' := w.heap.size + 2) (Bx.set_ne (b' := w.heap.size + 2) (Bx.set_ne (b' := w.heap.size + 2) (HV5.out) 12 (.slice Ad dl.length cd) (by omega)) 13 (.slice Ap pl.length cp) (by omega)) 14 (.slice Am ml.length cm) (by omega)) 15 (.int .i64 cu) (by omega)
  have z6 : Bx ((((W5.setCell ⟨w.heap.size + 2, 12, none⟩ (.slice Ad dl.length cd)).setCell ⟨w.heap.size + 2, 13, none⟩ (.slice Ap pl.length cp)).setCell ⟨w.heap.size + 2, 14, none⟩ (.slice Am ml.length cm)).setCell ⟨w.heap.size + 2, 15, none⟩ (.int .i64 cu)) (w.heap.size + 2) 45 #[.int .i64 3, .int .i64 ve, .int .i64 0, .int .i64 0, .int .i64 0, .int .i64 0, .int .i64 0, .int .i64 0, .int .i64 0, .int .i64 0, .slice none 0 0, .slice none 0 0, .slice Ad dl.length cd, .slice Ap pl.length cp, .slice Am ml.length cm, .int .i64 cu, .slice none 0 0, .bool false, .int .i64 0] := by
    have q := Bx.set (Bx.set (Bx.set (Bx.set (HZ5.out) 12 (.slice Ad dl.length cd)) 13 (.slice Ap pl.length cp)) 14 (.slice Am ml.length cm)) 15 (.int .i64 cu)
    simp only [List.setIfInBounds_toArray, List.set_cons_zero, List.set_cons_succ] at q
    exact q
  rw [← hW6] at g6 v6 z6 ⊢
  clear hW6
  obtain ⟨CE, hCE⟩ : ∃ c : Array Value, c = #[.int .i64 3, .int .i64 ve, .int .i64 0, .int .i64 0, .int .i64 0, .int .i64 0, .int .i64 0, .int .i64 0, .int .i64 0, .int .i64 0, .slice none 0 0, .slice none 0 0, .slice Ad dl.length cd, .slice Ap pl.length cp, .slice Am ml.length cm, .int .i64 cu, .slice none 0 0, .bool false, .int .i64 0] := ⟨_, rfl⟩
  rw [← hCE] at z6
  have HY := Lib.hid z6
  have HV := Lib.hid v6
  have HG := Lib.hid g6
  have HCE := Lib.hid hCE
  have hs19 : CE.size = 19 := by rw [hCE]; rfl
  have HS19 := Lib.hid hs19
  have HIC := Lib.hid (show (Tryd.prog.info? 45).map (·.size) = some CE.size by rw [hs19]; exact i45)
  have HT2 := Lib.hid (show W6.there (w.heap.size + 1) 0 CE.size from by rw [hs19]; exact v6.there)
  have HONE := Lib.hid (show CE.all (fun v => v.oneCell') = true by rw [hCE]; simp [Value.oneCell'])
  clear z6 v6 g6 hCE hs19 c0 n0 c3 f3 n3
  go_wp2_with (first | (refine wpList_load_row (by rfl) 45 (.tmp 3) (by rfl) (w.heap.size + 2) (by rfl) 45 CE (0, 0) _ HY.out Tryd.underlying45 rfl HIC.out ?_) | (refine wpList_store_mid (by rfl) 45 (.tmp 2) (.tmp 54) (by rfl) (w.heap.size + 1) 0 CE (by rfl) (by rfl) HT2.out HIC.out HONE.out ?_; generalize hW8 : W6.setCells (w.heap.size + 1) 0 CE.toList = W8; have HW8 := Lib.hid hW8; clear hW8))
  have z8 : Bx W8 (w.heap.size + 1) 45 CE := by
    have := HV.out.fill CE.toList (by rw [Array.length_toList, HS19.out]; rfl)
    rw [HW8.out] at this
    exact this
  have g8 : Ge w W8 := by rw [← HW8.out]; exact below_sets (by omega) _ _ _ HG.out
  refine bodyPost_ret (v := .agg CE) (results_cell_row Tryd.results53 _ _ (w.heap.size + 1) 45 CE (0, 0) _ rfl z8 Tryd.underlying45 rfl HIC.out) rfl ?_
  have hS := HSL.out.ge g8
  refine ⟨⟨.slice none 0 0, .slice none 0 0, .slice Ad dl.length cd, .slice Ap pl.length cp, .slice Am ml.length cm, .slice none 0 0⟩, ?_, ?_, g8⟩
  · rw [QRM.out, HCE.out]; rfl
  · rw [QRM.out]; exact ⟨LAt.nil _ _ _ _ _, LAt.nil _ _ _ _ _, hS.d, hS.p, hS.mv, LAt.nil _ _ _ _ _⟩

set_option maxRecDepth 100000 in
set_option maxHeartbeats 16000000 in
theorem use5 {B : Nat} {w : World} {s : Sls} {m : Msg} (h : SlAt B w s m) (hk : m.kind = 5) :
    Calls Tryd.prog 53 #[.agg (encG m s).toArray] w (UseOut B w m) := by
  have HSL := Lib.hid h
  obtain ⟨kd, ve, p1, p2, ⟨te, td, t0, t1, t2, t3⟩, rl, cl, dl, pl, ml, cu, el, ye, wy⟩ := m
  obtain ⟨sr, sc, sd, sp, sm, se⟩ := s
  obtain ⟨h1, h2, h3, h4, h5, h6⟩ := h
  dsimp only at h1 h2 h3 h4 h5 h6 hk
  obtain ⟨Ar, cr, rfl⟩ := h1.form
  obtain ⟨Ac, cc, rfl⟩ := h2.form
  obtain ⟨Ad, cd, rfl⟩ := h3.form
  obtain ⟨Ap, cp, rfl⟩ := h4.form
  obtain ⟨Am, cm, rfl⟩ := h5.form
  obtain ⟨Ae, ce, rfl⟩ := h6.form
  clear h1 h2 h3 h4 h5 h6
  subst hk
  simp only [encG]
  obtain ⟨W2, hW2⟩ : ∃ x, x = (w.alloc (.cells #[.int .i64 5, .int .i64 ve, .int .i64 p1, .int .i64 p2, .int .i64 te, .int .i64 td, .int .i64 t0, .int .i64 t1, .int .i64 t2, .int .i64 t3, .slice Ar rl.length cr, .slice Ac cl.length cc, .slice Ad dl.length cd, .slice Ap pl.length cp, .slice Am ml.length cm, .int .i64 cu, .slice Ae el.length ce, .bool ye, .int .i64 wy] 45)).alloc (.cells #[.int .i64 0, .int .i64 0, .int .i64 0, .int .i64 0, .int .i64 0, .int .i64 0, .int .i64 0, .int .i64 0, .int .i64 0, .int .i64 0, .slice none 0 0, .slice none 0 0, .slice none 0 0, .slice none 0 0, .slice none 0 0, .int .i64 0, .slice none 0 0, .bool false, .int .i64 0] 45) := ⟨_, rfl⟩
  have X0 : Bx W2 w.heap.size 45 #[.int .i64 5, .int .i64 ve, .int .i64 p1, .int .i64 p2, .int .i64 te, .int .i64 td, .int .i64 t0, .int .i64 t1, .int .i64 t2, .int .i64 t3, .slice Ar rl.length cr, .slice Ac cl.length cc, .slice Ad dl.length cd, .slice Ap pl.length cp, .slice Am ml.length cm, .int .i64 cu, .slice Ae el.length ce, .bool ye, .int .i64 wy] := by rw [hW2]; exact (Bx.new w 45 _ rfl).alloc _
  have X1 : Bx W2 (w.heap.size + 1) 45 #[.int .i64 0, .int .i64 0, .int .i64 0, .int .i64 0, .int .i64 0, .int .i64 0, .int .i64 0, .int .i64 0, .int .i64 0, .int .i64 0, .slice none 0 0, .slice none 0 0, .slice none 0 0, .slice none 0 0, .slice none 0 0, .int .i64 0, .slice none 0 0, .bool false, .int .i64 0] := by rw [hW2]; exact Bx.new _ 45 _ (by simp)
  have GW := Lib.hid (show Ge w W2 by rw [hW2]; exact ((Ge.refl w).alloc _).alloc _)
  have s2 : W2.heap.size = w.heap.size + 2 := by rw [hW2]; simp
  have qRM : useM ⟨5, ve, p1, p2, ⟨te, td, t0, t1, t2, t3⟩, rl, cl, dl, pl, ml, cu, el, ye, wy⟩ = ⟨5, ve, 0, 0, ⟨0, 0, 0, 0, 0, 0⟩, [], [], [], [], [], 0, el, ye, 0⟩ := by unfold useM bareM mzero; simp
  have QRM := Lib.hid qRM
  obtain ⟨W4, hW4⟩ : ∃ x, x = W2.alloc (.cells #[.int .i64 0, .int .i64 0, .int .i64 0, .int .i64 0, .int .i64 0, .int .i64 0, .int .i64 0, .int .i64 0, .int .i64 0, .int .i64 0, .slice none 0 0, .slice none 0 0, .slice none 0 0, .slice none 0 0, .slice none 0 0, .int .i64 0, .slice none 0 0, .bool false, .int .i64 0] 45) := ⟨_, rfl⟩
  have Z4 : Bx W4 (w.heap.size + 2) 45 #[.int .i64 0, .int .i64 0, .int .i64 0, .int .i64 0, .int .i64 0, .int .i64 0, .int .i64 0, .int .i64 0, .int .i64 0, .int .i64 0, .slice none 0 0, .slice none 0 0, .slice none 0 0, .slice none 0 0, .slice none 0 0, .int .i64 0, .slice none 0 0, .bool false, .int .i64 0] := by rw [hW4]; exact Bx.new _ 45 _ s2.symm
  have HX0 := Lib.hid (show Bx W4 w.heap.size 45 #[.int .i64 5, .int .i64 ve, .int .i64 p1, .int .i64 p2, .int .i64 te, .int .i64 td, .int .i64 t0, .int .i64 t1, .int .i64 t2, .int .i64 t3, .slice Ar rl.length cr, .slice Ac cl.length cc, .slice Ad dl.length cd, .slice Ap pl.length cp, .slice Am ml.length cm, .int .i64 cu, .slice Ae el.length ce, .bool ye, .int .i64 wy] by rw [hW4]; exact X0.alloc _)
  have HX1 := Lib.hid (show Bx W4 (w.heap.size + 1) 45 #[.int .i64 0, .int .i64 0, .int .i64 0, .int .i64 0, .int .i64 0, .int .i64 0, .int .i64 0, .int .i64 0, .int .i64 0, .int .i64 0, .slice none 0 0, .slice none 0 0, .slice none 0 0, .slice none 0 0, .slice none 0 0, .int .i64 0, .slice none 0 0, .bool false, .int .i64 0] by rw [hW4]; exact X1.alloc _)
  have HG4 := Lib.hid (show Ge w W4 by rw [hW4]; exact GW.out.alloc _)
  have HTH := Lib.hid (show W4.there (w.heap.size + 2) 0 19 from Z4.there)
  have HI := Lib.hid i45
  have HZ4 := Lib.hid Z4
  have HW4 := Lib.hid hW4
  have c0 := X0.cell
  have n0 := X0.lt
  clear qRM X0 X1 Z4 hW4
  go_enter Tryd.func53, Tryd.ntmps53
  go_upto_region 1 with (fail)
  rw [← hW2]
  have HS2 := Lib.hid s2
  clear hW2
  go_upto_region 2 with (rw [← HW4.out]; (try rw [HS2.out]); refine wpList_store_mid (by rfl) 45 (.tmp 3) (.tmp 8) (by rfl) (w.heap.size + 2) 0 #[.int .i64 5, .int .i64 ve, .int .i64 0, .int .i64 0, .int .i64 0, .int .i64 0, .int .i64 0, .int .i64 0, .int .i64 0, .int .i64 0, .slice none 0 0, .slice none 0 0, .slice none 0 0, .slice none 0 0, .slice none 0 0, .int .i64 0, .slice none 0 0, .bool false, .int .i64 0] (by rfl) (by rfl) HTH.out HI.out (by simp [Value.oneCell']) ?_; generalize hW5 : W4.setCells (w.heap.size + 2) 0 (#[.int .i64 5, .int .i64 ve, .int .i64 0, .int .i64 0, .int .i64 0, .int .i64 0, .int .i64 0, .int .i64 0, .int .i64 0, .int .i64 0, .slice none 0 0, .slice none 0 0, .slice none 0 0, .slice none 0 0, .slice none 0 0, .int .i64 0, .slice none 0 0, .bool false, .int .i64 0] : Array Value).toList = W5; have HW5 := Lib.hid hW5; clear hW5)
  clear c0 n0
  have G5 : Ge w W5 := by rw [← HW5.out]; exact below_sets (by omega) _ _ _ HG4.out
  have X5 : Bx W5 w.heap.size 45 #[.int .i64 5, .int .i64 ve, .int .i64 p1, .int .i64 p2, .int .i64 te, .int .i64 td, .int .i64 t0, .int .i64 t1, .int .i64 t2, .int .i64 t3, .slice Ar rl.length cr, .slice Ac cl.length cc, .slice Ad dl.length cd, .slice Ap pl.length cp, .slice Am ml.length cm, .int .i64 cu, .slice Ae el.length ce, .bool ye, .int .i64 wy] := by rw [← HW5.out]; exact Bx.sets_ne (by omega) _ _ HX0.out
  have V5 : Bx W5 (w.heap.size + 1) 45 #[.int .i64 0, .int .i64 0, .int .i64 0, .int .i64 0, .int .i64 0, .int .i64 0, .int .i64 0, .int .i64 0, .int .i64 0, .int .i64 0, .slice none 0 0, .slice none 0 0, .slice none 0 0, .slice none 0 0, .slice none 0 0, .int .i64 0, .slice none 0 0, .bool false, .int .i64 0] := by rw [← HW5.out]; exact Bx.sets_ne (by omega) _ _ HX1.out
  have Z5 : Bx W5 (w.heap.size + 2) 45 #[.int .i64 5, .int .i64 ve, .int .i64 0, .int .i64 0, .int .i64 0, .int .i64 0, .int .i64 0, .int .i64 0, .int .i64 0, .int .i64 0, .slice none 0 0, .slice none 0 0, .slice none 0 0, .slice none 0 0, .slice none 0 0, .int .i64 0, .slice none 0 0, .bool false, .int .i64 0] := by
    have := HZ4.out.fill (#[.int .i64 5, .int .i64 ve, .int .i64 0, .int .i64 0, .int .i64 0, .int .i64 0, .int .i64 0, .int .i64 0, .int .i64 0, .int .i64 0, .slice none 0 0, .slice none 0 0, .slice none 0 0, .slice none 0 0, .slice none 0 0, .int .i64 0, .slice none 0 0, .bool false, .int .i64 0] : Array Value).toList rfl
    rw [HW5.out] at this
    exact this
  have HG5 := Lib.hid G5
  have HX5 := Lib.hid X5
  have HV5 := Lib.hid V5
  have HZ5 := Lib.hid Z5
  have c0 := X5.cell
  have n0 := X5.lt
  have c3 := Z5.cell
  have f3 := Z5.frozen
  have n3 := Z5.lt
  clear G5 X5 V5 Z5 s2
  go_upto_region 19 with (fail)
  obtain ⟨W6, hW6⟩ : ∃ x, x = ((W5.setCell ⟨w.heap.size + 2, 17, none⟩ (.bool ye)).setCell ⟨w.heap.size + 2, 16, none⟩ (.slice Ae el.length ce)) := ⟨_, rfl⟩
  have g6 : Ge w ((W5.setCell ⟨w.heap.size + 2, 17, none⟩ (.bool ye)).setCell ⟨w.heap.size + 2, 16, none⟩ (.slice Ae el.length ce)) := Below.setCell (Below.setCell (HG5.out) (Nat.le_add_right _ _) (.bool ye)) (Nat.le_add_right _ _) (.slice Ae el.length ce)
  have v6 := Bx.set_ne (b' := w.heap.size + 2) (Bx.set_ne (b' := w.heap.size + 2) (HV5.out) 17 (.bool ye) (by omega)) 16 (.slice Ae el.length ce) (by omega)
  have z6 : Bx ((W5.setCell ⟨w.heap.size + 2, 17, none⟩ (.bool ye)).setCell ⟨w.heap.size + 2, 16, none⟩ (.slice Ae el.length ce)) (w.heap.size + 2) 45 #[.int .i64 5, .int .i64 ve, .int .i64 0, .int .i64 0, .int .i64 0, .int .i64 0, .int .i64 0, .int .i64 0, .int .i64 0, .int .i64 0, .slice none 0 0, .slice none 0 0, .slice none 0 0, .slice none 0 0, .slice none 0 0, .int .i64 0, .slice Ae el.length ce, .bool ye, .int .i64 0] := by
    have q := Bx.set (Bx.set (HZ5.out) 17 (.bool ye)) 16 (.slice Ae el.length ce)
    simp only [List.setIfInBounds_toArray, List.set_cons_zero, List.set_cons_succ] at q
    exact q
  rw [← hW6] at g6 v6 z6 ⊢
  clear hW6
  obtain ⟨CE, hCE⟩ : ∃ c : Array Value, c = #[.int .i64 5, .int .i64 ve, .int .i64 0, .int .i64 0, .int .i64 0, .int .i64 0, .int .i64 0, .int .i64 0, .int .i64 0, .int .i64 0, .slice none 0 0, .slice none 0 0, .slice none 0 0, .slice none 0 0, .slice none 0 0, .int .i64 0, .slice Ae el.length ce, .bool ye, .int .i64 0] := ⟨_, rfl⟩
  rw [← hCE] at z6
  have HY := Lib.hid z6
  have HV := Lib.hid v6
  have HG := Lib.hid g6
  have HCE := Lib.hid hCE
  have hs19 : CE.size = 19 := by rw [hCE]; rfl
  have HS19 := Lib.hid hs19
  have HIC := Lib.hid (show (Tryd.prog.info? 45).map (·.size) = some CE.size by rw [hs19]; exact i45)
  have HT2 := Lib.hid (show W6.there (w.heap.size + 1) 0 CE.size from by rw [hs19]; exact v6.there)
  have HONE := Lib.hid (show CE.all (fun v => v.oneCell') = true by rw [hCE]; simp [Value.oneCell'])
  clear z6 v6 g6 hCE hs19 c0 n0 c3 f3 n3
  go_wp2_with (first | (refine wpList_load_row (by rfl) 45 (.tmp 3) (by rfl) (w.heap.size + 2) (by rfl) 45 CE (0, 0) _ HY.out Tryd.underlying45 rfl HIC.out ?_) | (refine wpList_store_mid (by rfl) 45 (.tmp 2) (.tmp 54) (by rfl) (w.heap.size + 1) 0 CE (by rfl) (by rfl) HT2.out HIC.out HONE.out ?_; generalize hW8 : W6.setCells (w.heap.size + 1) 0 CE.toList = W8; have HW8 := Lib.hid hW8; clear hW8))
  have z8 : Bx W8 (w.heap.size + 1) 45 CE := by
    have := HV.out.fill CE.toList (by rw [Array.length_toList, HS19.out]; rfl)
    rw [HW8.out] at this
    exact this
  have g8 : Ge w W8 := by rw [← HW8.out]; exact below_sets (by omega) _ _ _ HG.out
  refine bodyPost_ret (v := .agg CE) (results_cell_row Tryd.results53 _ _ (w.heap.size + 1) 45 CE (0, 0) _ rfl z8 Tryd.underlying45 rfl HIC.out) rfl ?_
  have hS := HSL.out.ge g8
  refine ⟨⟨.slice none 0 0, .slice none 0 0, .slice none 0 0, .slice none 0 0, .slice none 0 0, .slice Ae el.length ce⟩, ?_, ?_, g8⟩
  · rw [QRM.out, HCE.out]; rfl
  · rw [QRM.out]; exact ⟨LAt.nil _ _ _ _ _, LAt.nil _ _ _ _ _, LAt.nil _ _ _ _ _, PutAt.nil _ _, LAt.nil _ _ _ _ _, hS.e⟩

set_option maxRecDepth 100000 in
set_option maxHeartbeats 16000000 in
theorem use6 {B : Nat} {w : World} {s : Sls} {m : Msg} (h : SlAt B w s m) (hk : m.kind = 6) :
    Calls Tryd.prog 53 #[.agg (encG m s).toArray] w (UseOut B w m) := by
  have HSL := Lib.hid h
  obtain ⟨kd, ve, p1, p2, ⟨te, td, t0, t1, t2, t3⟩, rl, cl, dl, pl, ml, cu, el, ye, wy⟩ := m
  obtain ⟨sr, sc, sd, sp, sm, se⟩ := s
  obtain ⟨h1, h2, h3, h4, h5, h6⟩ := h
  dsimp only at h1 h2 h3 h4 h5 h6 hk
  obtain ⟨Ar, cr, rfl⟩ := h1.form
  obtain ⟨Ac, cc, rfl⟩ := h2.form
  obtain ⟨Ad, cd, rfl⟩ := h3.form
  obtain ⟨Ap, cp, rfl⟩ := h4.form
  obtain ⟨Am, cm, rfl⟩ := h5.form
  obtain ⟨Ae, ce, rfl⟩ := h6.form
  clear h1 h2 h3 h4 h5 h6
  subst hk
  simp only [encG]
  obtain ⟨W2, hW2⟩ : ∃ x, x = (w.alloc (.cells #[.int .i64 6, .int .i64 ve, .int .i64 p1, .int .i64 p2, .int .i64 te, .int .i64 td, .int .i64 t0, .int .i64 t1, .int .i64 t2, .int .i64 t3, .slice Ar rl.length cr, .slice Ac cl.length cc, .slice Ad dl.length cd, .slice Ap pl.length cp, .slice Am ml.length cm, .int .i64 cu, .slice Ae el.length ce, .bool ye, .int .i64 wy] 45)).alloc (.cells #[.int .i64 0, .int .i64 0, .int .i64 0, .int .i64 0, .int .i64 0, .int .i64 0, .int .i64 0, .int .i64 0, .int .i64 0, .int .i64 0, .slice none 0 0, .slice none 0 0, .slice none 0 0, .slice none 0 0, .slice none 0 0, .int .i64 0, .slice none 0 0, .bool false, .int .i64 0] 45) := ⟨_, rfl⟩
  have X0 : Bx W2 w.heap.size 45 #[.int .i64 6, .int .i64 ve, .int .i64 p1, .int .i64 p2, .int .i64 te, .int .i64 td, .int .i64 t0, .int .i64 t1, .int .i64 t2, .int .i64 t3, .slice Ar rl.length cr, .slice Ac cl.length cc, .slice Ad dl.length cd, .slice Ap pl.length cp, .slice Am ml.length cm, .int .i64 cu, .slice Ae el.length ce, .bool ye, .int .i64 wy] := by rw [hW2]; exact (Bx.new w 45 _ rfl).alloc _
  have X1 : Bx W2 (w.heap.size + 1) 45 #[.int .i64 0, .int .i64 0, .int .i64 0, .int .i64 0, .int .i64 0, .int .i64 0, .int .i64 0, .int .i64 0, .int .i64 0, .int .i64 0, .slice none 0 0, .slice none 0 0, .slice none 0 0, .slice none 0 0, .slice none 0 0, .int .i64 0, .slice none 0 0, .bool false, .int .i64 0] := by rw [hW2]; exact Bx.new _ 45 _ (by simp)
  have GW := Lib.hid (show Ge w W2 by rw [hW2]; exact ((Ge.refl w).alloc _).alloc _)
  have s2 : W2.heap.size = w.heap.size + 2 := by rw [hW2]; simp
  have qRM : useM ⟨6, ve, p1, p2, ⟨te, td, t0, t1, t2, t3⟩, rl, cl, dl, pl, ml, cu, el, ye, wy⟩ = ⟨6, ve, 0, 0, ⟨0, 0, 0, 0, 0, 0⟩, [], [], [], [], [], 0, el, ye, wy⟩ := by unfold useM bareM mzero; simp
  have QRM := Lib.hid qRM
  obtain ⟨W4, hW4⟩ : ∃ x, x = W2.alloc (.cells #[.int .i64 0, .int .i64 0, .int .i64 0, .int .i64 0, .int .i64 0, .int .i64 0, .int .i64 0, .int .i64 0, .int .i64 0, .int .i64 0, .slice none 0 0, .slice none 0 0, .slice none 0 0, .slice none 0 0, .slice none 0 0, .int .i64 0, .slice none 0 0, .bool false, .int .i64 0] 45) := ⟨_, rfl⟩
  have Z4 : Bx W4 (w.heap.size + 2) 45 #[.int .i64 0, .int .i64 0, .int .i64 0, .int .i64 0, .int .i64 0, .int .i64 0, .int .i64 0, .int .i64 0, .int .i64 0, .int .i64 0, .slice none 0 0, .slice none 0 0, .slice none 0 0, .slice none 0 0, .slice none 0 0, .int .i64 0, .slice none 0 0, .bool false, .int .i64 0] := by rw [hW4]; exact Bx.new _ 45 _ s2.symm
  have HX0 := Lib.hid (show Bx W4 w.heap.size 45 #[.int .i64 6, .int .i64 ve, .int .i64 p1, .int .i64 p2, .int .i64 te, .int .i64 td, .int .i64 t0, .int .i64 t1, .int .i64 t2, .int .i64 t3, .slice Ar rl.length cr, .slice Ac cl.length cc, .slice Ad dl.length cd, .slice Ap pl.length cp, .slice Am ml.length cm, .int .i64 cu, .slice Ae el.length ce, .bool ye, .int .i64 wy] by rw [hW4]; exact X0.alloc _)
  have HX1 := Lib.hid (show Bx W4 (w.heap.size + 1) 45 #[.int .i64 0, .int .i64 0, .int .i64 0, .int .i64 0, .int .i64 0, .int .i64 0, .int .i64 0, .int .i64 0, .int .i64 0, .int .i64 0, .slice none 0 0, .slice none 0 0, .slice none 0 0, .slice none 0 0, .slice none 0 0, .int .i64 0, .slice none 0 0, .bool false, .int .i64 0] by rw [hW4]; exact X1.alloc _)
  have HG4 := Lib.hid (show Ge w W4 by rw [hW4]; exact GW.out.alloc _)
  have HTH := Lib.hid (show W4.there (w.heap.size + 2) 0 19 from Z4.there)
  have HI := Lib.hid i45
  have HZ4 := Lib.hid Z4
  have HW4 := Lib.hid hW4
  have c0 := X0.cell
  have n0 := X0.lt
  clear qRM X0 X1 Z4 hW4
  go_enter Tryd.func53, Tryd.ntmps53
  go_upto_region 1 with (fail)
  rw [← hW2]
  have HS2 := Lib.hid s2
  clear hW2
  go_upto_region 2 with (rw [← HW4.out]; (try rw [HS2.out]); refine wpList_store_mid (by rfl) 45 (.tmp 3) (.tmp 8) (by rfl) (w.heap.size + 2) 0 #[.int .i64 6, .int .i64 ve, .int .i64 0, .int .i64 0, .int .i64 0, .int .i64 0, .int .i64 0, .int .i64 0, .int .i64 0, .int .i64 0, .slice none 0 0, .slice none 0 0, .slice none 0 0, .slice none 0 0, .slice none 0 0, .int .i64 0, .slice none 0 0, .bool false, .int .i64 0] (by rfl) (by rfl) HTH.out HI.out (by simp [Value.oneCell']) ?_; generalize hW5 : W4.setCells (w.heap.size + 2) 0 (#[.int .i64 6, .int .i64 ve, .int .i64 0, .int .i64 0, .int .i64 0, .int .i64 0, .int .i64 0, .int .i64 0, .int .i64 0, .int .i64 0, .slice none 0 0, .slice none 0 0, .slice none 0 0, .slice none 0 0, .slice none 0 0, .int .i64 0, .slice none 0 0, .bool false, .int .i64 0] : Array Value).toList = W5; have HW5 := Lib.hid hW5; clear hW5)
  clear c0 n0
  have G5 : Ge w W5 := by rw [← HW5.out]; exact below_sets (by omega) _ _ _ HG4.out
  have X5 : Bx W5 w.heap.size 45 #[.int .i64 6, .int .i64 ve, .int .i64 p1, .int .i64 p2, .int .i64 te, .int .i64 td, .int .i64 t0, .int .i64 t1, .int .i64 t2, .int .i64 t3, .slice Ar rl.length cr, .slice Ac cl.length cc, .slice Ad dl.length cd, .slice Ap pl.length cp, .slice Am ml.length cm, .int .i64 cu, .slice Ae el.length ce, .bool ye, .int .i64 wy] := by rw [← HW5.out]; exact Bx.sets_ne (by omega) _ _ HX0.out
  have V5 : Bx W5 (w.heap.size + 1) 45 #[.int .i64 0, .int .i64 0, .int .i64 0, .int .i64 0, .int .i64 0, .int .i64 0, .int .i64 0, .int .i64 0, .int .i64 0, .int .i64 0, .slice none 0 0, .slice none 0 0, .slice none 0 0, .slice none 0 0, .slice none 0 0, .int .i64 0, .slice none 0 0, .bool false, .int .i64 0] := by rw [← HW5.out]; exact Bx.sets_ne (by omega) _ _ HX1.out
  have Z5 : Bx W5 (w.heap.size + 2) 45 #[.int .i64 6, .int .i64 ve, .int .i64 0, .int .i64 0, .int .i64 0, .int .i64 0, .int .i64 0, .int .i64 0, .int .i64 0, .int .i64 0, .slice none 0 0, .slice none 0 0, .slice none 0 0, .slice none 0 0, .slice none 0 0, .int .i64 0, .slice none 0 0, .bool false, .int .i64 0] := by
    have := HZ4.out.fill (#[.int .i64 6, .int .i64 ve, .int .i64 0, .int .i64 0, .int .i64 0, .int .i64 0, .int .i64 0, .int .i64 0, .int .i64 0, .int .i64 0, .slice none 0 0, .slice none 0 0, .slice none 0 0, .slice none 0 0, .slice none 0 0, .int .i64 0, .slice none 0 0, .bool false, .int .i64 0] : Array Value).toList rfl
    rw [HW5.out] at this
    exact this
  have HG5 := Lib.hid G5
  have HX5 := Lib.hid X5
  have HV5 := Lib.hid V5
  have HZ5 := Lib.hid Z5
  have c0 := X5.cell
  have n0 := X5.lt
  have c3 := Z5.cell
  have f3 := Z5.frozen
  have n3 := Z5.lt
  clear G5 X5 V5 Z5 s2
  go_upto_region 19 with (fail)
  obtain ⟨W6, hW6⟩ : ∃ x, x = (((W5.setCell ⟨w.heap.size + 2, 17, none⟩ (.bool ye)).setCell ⟨w.heap.size + 2, 16, none⟩ (.slice Ae el.length ce)).setCell ⟨w.heap.size + 2, 18, none⟩ (.int .i64 wy)) := ⟨_, rfl⟩
  have g6 : Ge w (((W5.setCell ⟨w.heap.size + 2, 17, none⟩ (.bool ye)).setCell ⟨w.heap.size + 2, 16, none⟩ (.slice Ae el.length ce)).setCell ⟨w.heap.size + 2, 18, none⟩ (.int .i64 wy)) := Below.setCell (Below.setCell (Below.setCell (HG5.out) (Nat.le_add_right _ _) (.bool ye)) (Nat.le_add_right _ _) (.slice Ae el.length ce)) (Nat.le_add_right _ _) (.int .i64 wy)
  have v6 := Bx.set_ne (b' := w.heap.size + 2) (Bx.set_ne (b' := w.heap.size + 2) (Bx.set_ne (b' := w.heap.size + 2) (HV5.out) 17 (.bool ye) (by omega)) 16 (.slice Ae el.length ce) (by omega)) 18 (.int .i64 wy) (by omega)
  have z6 : Bx (((W5.setCell ⟨w.heap.size + 2, 17, none⟩ (.bool ye)).setCell ⟨w.heap.size + 2, 16, none⟩ (.slice Ae el.length ce)).setCell ⟨w.heap.size + 2, 18, none⟩ (.int .i64 wy)) (w.heap.size + 2) 45 #[.int .i64 6, .int .i64 ve, .int .i64 0, .int .i64 0, .int .i64 0, .int .i64 0, .int .i64 0, .int .i64 0, .int .i64 0, .int .i64 0, .slice none 0 0, .slice none 0 0, .slice none 0 0, .slice none 0 0, .slice none 0 0, .int .i64 0, .slice Ae el.length ce, .bool ye, .int .i64 wy] := by
    have q := Bx.set (Bx.set (Bx.set (HZ5.out) 17 (.bool ye)) 16 (.slice Ae el.length ce)) 18 (.int .i64 wy)
    simp only [List.setIfInBounds_toArray, List.set_cons_zero, List.set_cons_succ] at q
    exact q
  rw [← hW6] at g6 v6 z6 ⊢
  clear hW6
  obtain ⟨CE, hCE⟩ : ∃ c : Array Value, c = #[.int .i64 6, .int .i64 ve, .int .i64 0, .int .i64 0, .int .i64 0, .int .i64 0, .int .i64 0, .int .i64 0, .int .i64 0, .int .i64 0, .slice none 0 0, .slice none 0 0, .slice none 0 0, .slice none 0 0, .slice none 0 0, .int .i64 0, .slice Ae el.length ce, .bool ye, .int .i64 wy] := ⟨_, rfl⟩
  rw [← hCE] at z6
  have HY := Lib.hid z6
  have HV := Lib.hid v6
  have HG := Lib.hid g6
  have HCE := Lib.hid hCE
  have hs19 : CE.size = 19 := by rw [hCE]; rfl
  have HS19 := Lib.hid hs19
  have HIC := Lib.hid (show (Tryd.prog.info? 45).map (·.size) = some CE.size by rw [hs19]; exact i45)
  have HT2 := Lib.hid (show W6.there (w.heap.size + 1) 0 CE.size from by rw [hs19]; exact v6.there)
  have HONE := Lib.hid (show CE.all (fun v => v.oneCell') = true by rw [hCE]; simp [Value.oneCell'])
  clear z6 v6 g6 hCE hs19 c0 n0 c3 f3 n3
  go_wp2_with (first | (refine wpList_load_row (by rfl) 45 (.tmp 3) (by rfl) (w.heap.size + 2) (by rfl) 45 CE (0, 0) _ HY.out Tryd.underlying45 rfl HIC.out ?_) | (refine wpList_store_mid (by rfl) 45 (.tmp 2) (.tmp 54) (by rfl) (w.heap.size + 1) 0 CE (by rfl) (by rfl) HT2.out HIC.out HONE.out ?_; generalize hW8 : W6.setCells (w.heap.size + 1) 0 CE.toList = W8; have HW8 := Lib.hid hW8; clear hW8))
  have z8 : Bx W8 (w.heap.size + 1) 45 CE := by
    have := HV.out.fill CE.toList (by rw [Array.length_toList, HS19.out]; rfl)
    rw [HW8.out] at this
    exact this
  have g8 : Ge w W8 := by rw [← HW8.out]; exact below_sets (by omega) _ _ _ HG.out
  refine bodyPost_ret (v := .agg CE) (results_cell_row Tryd.results53 _ _ (w.heap.size + 1) 45 CE (0, 0) _ rfl z8 Tryd.underlying45 rfl HIC.out) rfl ?_
  have hS := HSL.out.ge g8
  refine ⟨⟨.slice none 0 0, .slice none 0 0, .slice none 0 0, .slice none 0 0, .slice none 0 0, .slice Ae el.length ce⟩, ?_, ?_, g8⟩
  · rw [QRM.out, HCE.out]; rfl
  · rw [QRM.out]; exact ⟨LAt.nil _ _ _ _ _, LAt.nil _ _ _ _ _, LAt.nil _ _ _ _ _, PutAt.nil _ _, LAt.nil _ _ _ _ _, hS.e⟩

set_option maxRecDepth 100000 in
set_option maxHeartbeats 16000000 in
theorem useN {B : Nat} {w : World} {s : Sls} {m : Msg} (h : SlAt B w s m) (hk : m.kind ≠ 1 ∧ m.kind ≠ 2 ∧ m.kind ≠ 3 ∧ m.kind ≠ 6 ∧ m.kind ≠ 5) :
    Calls Tryd.prog 53 #[.agg (encG m s).toArray] w (UseOut B w m) := by
  have HSL := Lib.hid h
  obtain ⟨kd, ve, p1, p2, ⟨te, td, t0, t1, t2, t3⟩, rl, cl, dl, pl, ml, cu, el, ye, wy⟩ := m
  obtain ⟨sr, sc, sd, sp, sm, se⟩ := s
  obtain ⟨h1, h2, h3, h4, h5, h6⟩ := h
  dsimp only at h1 h2 h3 h4 h5 h6 hk
  obtain ⟨Ar, cr, rfl⟩ := h1.form
  obtain ⟨Ac, cc, rfl⟩ := h2.form
  obtain ⟨Ad, cd, rfl⟩ := h3.form
  obtain ⟨Ap, cp, rfl⟩ := h4.form
  obtain ⟨Am, cm, rfl⟩ := h5.form
  obtain ⟨Ae, ce, rfl⟩ := h6.form
  clear h1 h2 h3 h4 h5 h6
  obtain ⟨j1, j2, j3, j6, j5⟩ := hk
  have i1 : (kd == 1) = false := by simpa using j1
  have i2 : (kd == 2) = false := by simpa using j2
  have i3 : (kd == 3) = false := by simpa using j3
  have i6 : (kd == 6) = false := by simpa using j6
  have i5 : (kd == 5) = false := by simpa using j5
  simp only [encG]
  obtain ⟨W2, hW2⟩ : ∃ x, x = (w.alloc (.cells #[.int .i64 kd, .int .i64 ve, .int .i64 p1, .int .i64 p2, .int .i64 te, .int .i64 td, .int .i64 t0, .int .i64 t1, .int .i64 t2, .int .i64 t3, .slice Ar rl.length cr, .slice Ac cl.length cc, .slice Ad dl.length cd, .slice Ap pl.length cp, .slice Am ml.length cm, .int .i64 cu, .slice Ae el.length ce, .bool ye, .int .i64 wy] 45)).alloc (.cells #[.int .i64 0, .int .i64 0, .int .i64 0, .int .i64 0, .int .i64 0, .int .i64 0, .int .i64 0, .int .i64 0, .int .i64 0, .int .i64 0, .slice none 0 0, .slice none 0 0, .slice none 0 0, .slice none 0 0, .slice none 0 0, .int .i64 0, .slice none 0 0, .bool false, .int .i64 0] 45) := ⟨_, rfl⟩
  have X0 : Bx W2 w.heap.size 45 #[.int .i64 kd, .int .i64 ve, .int .i64 p1, .int .i64 p2, .int .i64 te, .int .i64 td, .int .i64 t0, .int .i64 t1, .int .i64 t2, .int .i64 t3, .slice Ar rl.length cr, .slice Ac cl.length cc, .slice Ad dl.length cd, .slice Ap pl.length cp, .slice Am ml.length cm, .int .i64 cu, .slice Ae el.length ce, .bool ye, .int .i64 wy] := by rw [hW2]; exact (Bx.new w 45 _ rfl).alloc _
  have X1 : Bx W2 (w.heap.size + 1) 45 #[.int .i64 0, .int .i64 0, .int .i64 0, .int .i64 0, .int .i64 0, .int .i64 0, .int .i64 0, .int .i64 0, .int .i64 0, .int .i64 0, .slice none 0 0, .slice none 0 0, .slice none 0 0, .slice none 0 0, .slice none 0 0, .int .i64 0, .slice none 0 0, .bool false, .int .i64 0] := by rw [hW2]; exact Bx.new _ 45 _ (by simp)
  have GW := Lib.hid (show Ge w W2 by rw [hW2]; exact ((Ge.refl w).alloc _).alloc _)
  have s2 : W2.heap.size = w.heap.size + 2 := by rw [hW2]; simp
  have qRM : useM ⟨kd, ve, p1, p2, ⟨te, td, t0, t1, t2, t3⟩, rl, cl, dl, pl, ml, cu, el, ye, wy⟩ = ⟨kd, ve, 0, 0, ⟨0, 0, 0, 0, 0, 0⟩, [], [], [], [], [], 0, [], false, 0⟩ := by unfold useM bareM mzero; simp [j1, j2, j3, j5, j6]
  have QRM := Lib.hid qRM
  obtain ⟨W4, hW4⟩ : ∃ x, x = W2.alloc (.cells #[.int .i64 0, .int .i64 0, .int .i64 0, .int .i64 0, .int .i64 0, .int .i64 0, .int .i64 0, .int .i64 0, .int .i64 0, .int .i64 0, .slice none 0 0, .slice none 0 0, .slice none 0 0, .slice none 0 0, .slice none 0 0, .int .i64 0, .slice none 0 0, .bool false, .int .i64 0] 45) := ⟨_, rfl⟩
  have Z4 : Bx W4 (w.heap.size + 2) 45 #[.int .i64 0, .int .i64 0, .int .i64 0, .int .i64 0, .int .i64 0, .int .i64 0, .int .i64 0, .int .i64 0, .int .i64 0, .int .i64 0, .slice none 0 0, .slice none 0 0, .slice none 0 0, .slice none 0 0, .slice none 0 0, .int .i64 0, .slice none 0 0, .bool false, .int .i64 0] := by rw [hW4]; exact Bx.new _ 45 _ s2.symm
  have HX0 := Lib.hid (show Bx W4 w.heap.size 45 #[.int .i64 kd, .int .i64 ve, .int .i64 p1, .int .i64 p2, .int .i64 te, .int .i64 td, .int .i64 t0, .int .i64 t1, .int .i64 t2, .int .i64 t3, .slice Ar rl.length cr, .slice Ac cl.length cc, .slice Ad dl.length cd, .slice Ap pl.length cp, .slice Am ml.length cm, .int .i64 cu, .slice Ae el.length ce, .bool ye, .int .i64 wy] by rw [hW4]; exact X0.alloc _)
  have HX1 := Lib.hid (show Bx W4 (w.heap.size + 1) 45 #[.int .i64 0, .int .i64 0, .int .i64 0, .int .i64 0, .int .i64 0, .int .i64 0, .int .i64 0, .int .i64 0, .int .i64 0, .int .i64 0, .slice none 0 0, .slice none 0 0, .slice none 0 0, .slice none 0 0, .slice none 0 0, .int .i64 0, .slice none 0 0, .bool false, .int .i64 0] by rw [hW4]; exact X1.alloc _)
  have HG4 := Lib.hid (show Ge w W4 by rw [hW4]; exact GW.out.alloc _)
  have HTH := Lib.hid (show W4.there (w.heap.size + 2) 0 19 from Z4.there)
  have HI := Lib.hid i45
  have HZ4 := Lib.hid Z4
  have HW4 := Lib.hid hW4
  have c0 := X0.cell
  have n0 := X0.lt
  clear qRM X0 X1 Z4 hW4 j1 j2 j3 j5 j6
  go_enter Tryd.func53, Tryd.ntmps53
  go_upto_region 1 with (fail)
  rw [← hW2]
  have HS2 := Lib.hid s2
  clear hW2
  go_upto_region 2 with (rw [← HW4.out]; (try rw [HS2.out]); refine wpList_store_mid (by rfl) 45 (.tmp 3) (.tmp 8) (by rfl) (w.heap.size + 2) 0 #[.int .i64 kd, .int .i64 ve, .int .i64 0, .int .i64 0, .int .i64 0, .int .i64 0, .int .i64 0, .int .i64 0, .int .i64 0, .int .i64 0, .slice none 0 0, .slice none 0 0, .slice none 0 0, .slice none 0 0, .slice none 0 0, .int .i64 0, .slice none 0 0, .bool false, .int .i64 0] (by rfl) (by rfl) HTH.out HI.out (by simp [Value.oneCell']) ?_; generalize hW5 : W4.setCells (w.heap.size + 2) 0 (#[.int .i64 kd, .int .i64 ve, .int .i64 0, .int .i64 0, .int .i64 0, .int .i64 0, .int .i64 0, .int .i64 0, .int .i64 0, .int .i64 0, .slice none 0 0, .slice none 0 0, .slice none 0 0, .slice none 0 0, .slice none 0 0, .int .i64 0, .slice none 0 0, .bool false, .int .i64 0] : Array Value).toList = W5; have HW5 := Lib.hid hW5; clear hW5)
  clear c0 n0
  have G5 : Ge w W5 := by rw [← HW5.out]; exact below_sets (by omega) _ _ _ HG4.out
  have X5 : Bx W5 w.heap.size 45 #[.int .i64 kd, .int .i64 ve, .int .i64 p1, .int .i64 p2, .int .i64 te, .int .i64 td, .int .i64 t0, .int .i64 t1, .int .i64 t2, .int .i64 t3, .slice Ar rl.length cr, .slice Ac cl.length cc, .slice Ad dl.length cd, .slice Ap pl.length cp, .slice Am ml.length cm, .int .i64 cu, .slice Ae el.length ce, .bool ye, .int .i64 wy] := by rw [← HW5.out]; exact Bx.sets_ne (by omega) _ _ HX0.out
  have V5 : Bx W5 (w.heap.size + 1) 45 #[.int .i64 0, .int .i64 0, .int .i64 0, .int .i64 0, .int .i64 0, .int .i64 0, .int .i64 0, .int .i64 0, .int .i64 0, .int .i64 0, .slice none 0 0, .slice none 0 0, .slice none 0 0, .slice none 0 0, .slice none 0 0, .int .i64 0, .slice none 0 0, .bool false, .int .i64 0] := by rw [← HW5.out]; exact Bx.sets_ne (by omega) _ _ HX1.out
  have Z5 : Bx W5 (w.heap.size + 2) 45 #[.int .i64 kd, .int .i64 ve, .int .i64 0, .int .i64 0, .int .i64 0, .int .i64 0, .int .i64 0, .int .i64 0, .int .i64 0, .int .i64 0, .slice none 0 0, .slice none 0 0, .slice none 0 0, .slice none 0 0, .slice none 0 0, .int .i64 0, .slice none 0 0, .bool false, .int .i64 0] := by
    have := HZ4.out.fill (#[.int .i64 kd, .int .i64 ve, .int .i64 0, .int .i64 0, .int .i64 0, .int .i64 0, .int .i64 0, .int .i64 0, .int .i64 0, .int .i64 0, .slice none 0 0, .slice none 0 0, .slice none 0 0, .slice none 0 0, .slice none 0 0, .int .i64 0, .slice none 0 0, .bool false, .int .i64 0] : Array Value).toList rfl
    rw [HW5.out] at this
    exact this
  have HG5 := Lib.hid G5
  have HX5 := Lib.hid X5
  have HV5 := Lib.hid V5
  have HZ5 := Lib.hid Z5
  have c0 := X5.cell
  have n0 := X5.lt
  have c3 := Z5.cell
  have f3 := Z5.frozen
  have n3 := Z5.lt
  clear G5 X5 V5 Z5 s2
  go_upto_region 19 with (fail)
  have g6 := HG5.out
  have v6 := HV5.out
  have z6 := HZ5.out
  obtain ⟨CE, hCE⟩ : ∃ c : Array Value, c = #[.int .i64 kd, .int .i64 ve, .int .i64 0, .int .i64 0, .int .i64 0, .int .i64 0, .int .i64 0, .int .i64 0, .int .i64 0, .int .i64 0, .slice none 0 0, .slice none 0 0, .slice none 0 0, .slice none 0 0, .slice none 0 0, .int .i64 0, .slice none 0 0, .bool false, .int .i64 0] := ⟨_, rfl⟩
  rw [← hCE] at z6
  have HY := Lib.hid z6
  have HV := Lib.hid v6
  have HG := Lib.hid g6
  have HCE := Lib.hid hCE
  have hs19 : CE.size = 19 := by rw [hCE]; rfl
  have HS19 := Lib.hid hs19
  have HIC := Lib.hid (show (Tryd.prog.info? 45).map (·.size) = some CE.size by rw [hs19]; exact i45)
  have HT2 := Lib.hid (show W5.there (w.heap.size + 1) 0 CE.size from by rw [hs19]; exact v6.there)
  have HONE := Lib.hid (show CE.all (fun v => v.oneCell') = true by rw [hCE]; simp [Value.oneCell'])
  clear z6 v6 g6 hCE hs19 c0 n0 c3 f3 n3
  go_wp2_with (first | (refine wpList_load_row (by rfl) 45 (.tmp 3) (by rfl) (w.heap.size + 2) (by rfl) 45 CE (0, 0) _ HY.out Tryd.underlying45 rfl HIC.out ?_) | (refine wpList_store_mid (by rfl) 45 (.tmp 2) (.tmp 54) (by rfl) (w.heap.size + 1) 0 CE (by rfl) (by rfl) HT2.out HIC.out HONE.out ?_; generalize hW8 : W5.setCells (w.heap.size + 1) 0 CE.toList = W8; have HW8 := Lib.hid hW8; clear hW8))
  have z8 : Bx W8 (w.heap.size + 1) 45 CE := by
    have := HV.out.fill CE.toList (by rw [Array.length_toList, HS19.out]; rfl)
    rw [HW8.out] at this
    exact this
  have g8 : Ge w W8 := by rw [← HW8.out]; exact below_sets (by omega) _ _ _ HG.out
  refine bodyPost_ret (v := .agg CE) (results_cell_row Tryd.results53 _ _ (w.heap.size + 1) 45 CE (0, 0) _ rfl z8 Tryd.underlying45 rfl HIC.out) rfl ?_
  have hS := HSL.out.ge g8
  refine ⟨⟨.slice none 0 0, .slice none 0 0, .slice none 0 0, .slice none 0 0, .slice none 0 0, .slice none 0 0⟩, ?_, ?_, g8⟩
  · rw [QRM.out, HCE.out]; rfl
  · rw [QRM.out]; exact ⟨LAt.nil _ _ _ _ _, LAt.nil _ _ _ _ _, LAt.nil _ _ _ _ _, PutAt.nil _ _, LAt.nil _ _ _ _ _, LAt.nil _ _ _ _ _⟩

theorem use_any {B : Nat} {w : World} {s : Sls} {m : Msg} (h : SlAt B w s m) : Calls Tryd.prog 53 #[.agg (encG m s).toArray] w (UseOut B w m) := by
  by_cases k1 : m.kind = 1
  · exact use1 h k1
  by_cases k2 : m.kind = 2
  · exact use2 h k2
  by_cases k3 : m.kind = 3
  · exact use3 h k3
  by_cases k5 : m.kind = 5
  · exact use5 h k5
  by_cases k6 : m.kind = 6
  · exact use6 h k6
  exact useN h ⟨k1, k2, k3, k6, k5⟩
end Go.Proofs.YtmhibpmgnicolaaDoor
