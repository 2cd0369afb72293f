/-
  The reference's Check: the walk.
-/
import Derived.Test.YtmhibpmgnicolaaDoorRCheckP
import Derived.Deep.Cut
namespace Go.Proofs.YtmhibpmgnicolaaDoor
open Go.RowKit
attribute [local go_sem] Dr.upT

/-- a call whose value is not known ahead -/
theorem wpT_callN {ops : Array Oper} {K : Act → World → Prop} {w0 : World} {j : Nat} {o : Oper} {rest : List Oper} {fr : (Nat → Value) → Act} {F : Nat → (Nat → Value) → World → Prop} (k : Nat) (vs : Array Value) (T : Value → World → Prop) (hm : ∀ v w w', Ge w w' → T v w → T v w')
    (hw : ∀ u, Region.wanted o (yielded ops (fr u).tmps) = true) (hr : ∀ u w, (execOp (fr u).eval o).run Tryd.prog w = .ok (.enter k vs) w)
    (hs : ∀ w, Ge w0 w → Calls Tryd.prog k vs w fun e w' => ∃ v, e = .returned v ∧ Ge w w' ∧ T v w')
    (h2 : Dr.wpT Tryd.prog ops K w0 (j + 1) rest (fun u => (fr u).put o.dst (u j)) (fun k u w => if k = j then T (u j) w else F k u w)) :
    Dr.wpT Tryd.prog ops K w0 j (o :: rest) fr F := by
  refine Dr.wpT_non T hm (fun u w hg _ => ?_) h2
  rw [if_pos (hw u), hr u w]
  exact hs w hg
/-- a call on such a value -/
theorem wpT_call2 {ops : Array Oper} {K : Act → World → Prop} {w0 : World} {j : Nat} {o : Oper} {rest : List Oper} {fr : (Nat → Value) → Act} {F : Nat → (Nat → Value) → World → Prop} (k i : Nat) (x v : Value) (T : Value → World → Prop) (hb : Dr.befB o i = true)
    (hF : ∀ u w, F i u w → T (u i) w)
    (hw : ∀ u, Region.wanted o (yielded ops (fr u).tmps) = true) (hr : ∀ u w, (execOp (fr u).eval o).run Tryd.prog w = .ok (.enter k #[u i, x]) w)
    (hs : ∀ y w, Ge w0 w → T y w → Calls Tryd.prog k #[y, x] w fun e w' => e = .returned v ∧ Ge w w')
    (h2 : Dr.wpT Tryd.prog ops K w0 (j + 1) rest (fun u => (fr u).put o.dst v) (fun k u w => if k = j then True else F k u w)) :
    Dr.wpT Tryd.prog ops K w0 j (o :: rest) fr F := by
  refine Dr.wpT_det v (fun u w hg hf => ?_) h2
  rw [if_pos (hw u), hr u w]
  exact (hs (u i) w hg (hF u w (hf i hb))).mono fun e w' ⟨h1, h3⟩ => ⟨v, h1, h3, rfl⟩
/-- a call whose value is known ahead -/
theorem wpT_call {ops : Array Oper} {K : Act → World → Prop} {w0 : World} {j : Nat} {o : Oper} {rest : List Oper} {fr : (Nat → Value) → Act} {F : Nat → (Nat → Value) → World → Prop} (k : Nat) (vs : Array Value) (v : Value)
    (hw : ∀ u, Region.wanted o (yielded ops (fr u).tmps) = true) (hr : ∀ u w, (execOp (fr u).eval o).run Tryd.prog w = .ok (.enter k vs) w)
    (hs : ∀ w, Ge w0 w → Calls Tryd.prog k vs w fun e w' => e = .returned v ∧ Ge w w')
    (h2 : Dr.wpT Tryd.prog ops K w0 (j + 1) rest (fun u => (fr u).put o.dst v) (fun k u w => if k = j then True else F k u w)) :
    Dr.wpT Tryd.prog ops K w0 j (o :: rest) fr F := by
  refine Dr.wpT_det v (fun u w hg _ => ?_) h2
  rw [if_pos (hw u), hr u w]
  exact (hs w hg).mono fun e w' ⟨h1, h3⟩ => ⟨v, h1, h3, rfl⟩

theorem small_use {m : Msg} (h : Small m) : Small (useM m) := by
  have z : ∀ n ∈ ([] : List Nod), n.ins.length ≤ 1000000 := fun _ h => by cases h
  unfold useM bareM mzero
  repeat' split
  all_goals first
    | exact ⟨h.r, Nat.zero_le _, Nat.zero_le _, Nat.zero_le _, z, Nat.zero_le _, Nat.zero_le _⟩
    | exact ⟨Nat.zero_le _, h.c, Nat.zero_le _, Nat.zero_le _, z, Nat.zero_le _, Nat.zero_le _⟩
    | exact ⟨Nat.zero_le _, Nat.zero_le _, h.d, h.p, h.n, h.mv, Nat.zero_le _⟩
    | exact ⟨Nat.zero_le _, Nat.zero_le _, Nat.zero_le _, Nat.zero_le _, z, Nat.zero_le _, h.e⟩
    | exact ⟨Nat.zero_le _, Nat.zero_le _, Nat.zero_le _, Nat.zero_le _, z, Nat.zero_le _, Nat.zero_le _⟩

set_option maxRecDepth 100000 in
set_option maxHeartbeats 16000000 in
theorem rcheck_msg {B : Nat} {w : World} {s : Sls} {m : Msg} (h : SlAt B w s m) (hs : Small m) :
    Calls Tryd.prog 26 #[.agg (encG m s).toArray] w fun e w' => e = .returned (.int .i64 (chkM m)) ∧ Ge w w' := by
  rw [chk_eq m]
  have HUS := Lib.hid (show ∀ w', Ge w w' → Calls Tryd.prog 53 #[.agg (encG m s).toArray] w' fun e w'' => ∃ v, e = .returned v ∧ Ge w' w'' ∧ ∃ s', v = .agg (encG (useM m) s').toArray ∧ SlAt B w'' s' (useM m) from fun w' g => (use_any (h.ge g)).mono fun e w'' ⟨s', h1, h2, h3⟩ => ⟨_, h1, h3, s', rfl, h2⟩)
  have HSM := Lib.hid (show ∀ y w', Ge w w' → (∃ s', y = .agg (encG (useM m) s').toArray ∧ SlAt B w' s' (useM m)) → Calls Tryd.prog 17 #[y, .agg (encG m s).toArray] w' fun e w'' => e = .returned (.bool (decide (useM m = m))) ∧ Ge w' w'' from fun y w' g ⟨s', h1, h2⟩ => by
    rw [h1]
    exact rsame h2 (h.ge g) (small_use hs))
  have hok : okM m = (decide (1 ≤ m.kind) && decide (m.kind ≤ 6) && decide (0 ≤ m.ver) && decide (useM m = m)) := rfl
  generalize useM m = um at *
  have hcd : condK m = if m.kind = 1 then decide (Chk m.t) && goodR m.recs else if m.kind = 2 then goodC m.chs else if m.kind = 3 then decide (0 ≤ m.cut) && decide (m.cut ≤ 1073741824)
    else if m.kind = 5 then (m.yes || m.ents.length == 0) && decide (m.ents.length ≤ 1024) else if m.kind = 6 then (m.yes || m.ents.length == 0) && decide (m.ents.length ≤ 1024) && (m.yes == (m.why == 0)) else true := rfl
  obtain ⟨kd, ve, p1, p2, ⟨te, td, t0, t1, t2, t3⟩, rl, cl, dl, pl, ml, cu, el, ye, wy⟩ := m
  obtain ⟨sr, sc, sd, sp, sm, se⟩ := s
  have HRT := Lib.hid (fun w' => rtcheck_any ⟨te, td, t0, t1, t2, t3⟩ w')
  have HGR := Lib.hid (fun w' (g : Ge w w') => rgoodsR (h.r.ge g) hs.r)
  have HGC := Lib.hid (fun w' (g : Ge w w') => rgoodsC (h.c.ge g) hs.c)
  obtain ⟨h1, h2, h3, h4, h5, h6⟩ := h
  dsimp only at h1 h2 h3 h4 h5 h6 hok hcd HGR HGC
  obtain ⟨Ar, cr, rfl⟩ := h1.form
  obtain ⟨Ac, cc, rfl⟩ := h2.form
  obtain ⟨Ad, cd, rfl⟩ := h3.form
  obtain ⟨Ap, cp, rfl⟩ := h4.form
  obtain ⟨Am, cm, rfl⟩ := h5.form
  obtain ⟨Ae, ce, rfl⟩ := h6.form
  clear h1 h2 h3 h4 h5 h6 hs
  generalize decide (um = ⟨kd, ve, p1, p2, ⟨te, td, t0, t1, t2, t3⟩, rl, cl, dl, pl, ml, cu, el, ye, wy⟩) = sb at *
  generalize okM ⟨kd, ve, p1, p2, ⟨te, td, t0, t1, t2, t3⟩, rl, cl, dl, pl, ml, cu, el, ye, wy⟩ = okb at *
  generalize condK ⟨kd, ve, p1, p2, ⟨te, td, t0, t1, t2, t3⟩, rl, cl, dl, pl, ml, cu, el, ye, wy⟩ = cnd at *
  generalize hqq : (if (okb && cnd) = true then (0 : Int) else 130) = qq
  have HQQ := Lib.hid hqq
  clear hqq
  have HCS := Lib.hid (show (#[.int .i64 kd, .int .i64 ve, .int .i64 p1, .int .i64 p2, .int .i64 te, .int .i64 td, .int .i64 t0, .int .i64 t1, .int .i64 t2, .int .i64 t3, .slice Ar rl.length cr, .slice Ac cl.length cc, .slice Ad dl.length cd, .slice Ap pl.length cp, .slice Am ml.length cm, .int .i64 cu, .slice Ae el.length ce, .bool ye, .int .i64 wy] : Array Value).size = 19 from rfl)
  simp only [encG] at HUS HSM ⊢
  obtain ⟨W2, hW2⟩ : ∃ x, x = w.alloc (.cells #[.int .i64 kd, .int .i64 ve, .int .i64 p1, .int .i64 p2, .int .i64 te, .int .i64 td, .int .i64 t0, .int .i64 t1, .int .i64 t2, .int .i64 t3, .slice Ar rl.length cr, .slice Ac cl.length cc, .slice Ad dl.length cd, .slice Ap pl.length cp, .slice Am ml.length cm, .int .i64 cu, .slice Ae el.length ce, .bool ye, .int .i64 wy] 45) := ⟨_, rfl⟩
  have X0 : Bx W2 w.heap.size 45 #[.int .i64 kd, .int .i64 ve, .int .i64 p1, .int .i64 p2, .int .i64 te, .int .i64 td, .int .i64 t0, .int .i64 t1, .int .i64 t2, .int .i64 t3, .slice Ar rl.length cr, .slice Ac cl.length cc, .slice Ad dl.length cd, .slice Ap pl.length cp, .slice Am ml.length cm, .int .i64 cu, .slice Ae el.length ce, .bool ye, .int .i64 wy] := by rw [hW2]; exact Bx.new w 45 _ rfl
  have GW := Lib.hid (show Ge w W2 by rw [hW2]; exact (Ge.refl w).alloc _)
  have HX0 := Lib.hid X0
  have HC7 := Lib.hid (fun w7 (g : Ge W2 w7) => (X0.ge g).cell)
  have HOK := Lib.hid hok
  have HCD := Lib.hid hcd
  clear X0 hok hcd
  go_enter Tryd.func26, Tryd.ntmps26
  go_upto_region 1 with (fail)
  rw [← hW2]
  clear hW2
  go_cut [3] from 4 to 22 (fun s3 wx => s3 = .bool okb ∧ Ge W2 wx)
  case first =>
    by_cases k1 : 1 ≤ kd
    rotate_left
    · have u1 : decide (1 ≤ kd) = false := decide_eq_false k1
      have hb : okb = false := by rw [HOK.out, u1]; rfl
      subst hb
      clear k1
      refine Dr.wp_region_T (by kernel_rfl) (by kernel_rfl) ?_
      iterate 20 (apply Dr.wpT_det; · (intro u w7 hw hF; clear hF; have k0 := HC7.out w7 hw; go_simp; first | exact ⟨Ge.refl _, rfl⟩ | exact Ge.refl _ | rfl))
      intro u w7 hw hF
      clear hF
      simp only [Act.put, List.setIfInBounds_toArray, List.set_cons_zero, List.set_cons_succ]
      go_wp2_with fail
      go_meet
      exact ⟨rfl, hw⟩
    have u1 : decide (1 ≤ kd) = true := decide_eq_true k1
    by_cases k2 : kd ≤ 6
    rotate_left
    · have u2 : decide (kd ≤ 6) = false := decide_eq_false k2
      have hb : okb = false := by rw [HOK.out, u2]; simp
      subst hb
      clear k1 k2
      refine Dr.wp_region_T (by kernel_rfl) (by kernel_rfl) ?_
      iterate 20 (apply Dr.wpT_det; · (intro u w7 hw hF; clear hF; have k0 := HC7.out w7 hw; go_simp; first | exact ⟨Ge.refl _, rfl⟩ | exact Ge.refl _ | rfl))
      intro u w7 hw hF
      clear hF
      simp only [Act.put, List.setIfInBounds_toArray, List.set_cons_zero, List.set_cons_succ]
      go_wp2_with fail
      go_meet
      exact ⟨rfl, hw⟩
    have u2 : decide (kd ≤ 6) = true := decide_eq_true k2
    by_cases k3 : 0 ≤ ve
    rotate_left
    · have u3 : decide (0 ≤ ve) = false := decide_eq_false k3
      have hb : okb = false := by rw [HOK.out, u3]; simp
      subst hb
      clear k1 k2 k3
      refine Dr.wp_region_T (by kernel_rfl) (by kernel_rfl) ?_
      iterate 20 (apply Dr.wpT_det; · (intro u w7 hw hF; clear hF; have k0 := HC7.out w7 hw; go_simp; first | exact ⟨Ge.refl _, rfl⟩ | exact Ge.refl _ | rfl))
      intro u w7 hw hF
      clear hF
      simp only [Act.put, List.setIfInBounds_toArray, List.set_cons_zero, List.set_cons_succ]
      go_wp2_with fail
      go_meet
      exact ⟨rfl, hw⟩
    have u3 : decide (0 ≤ ve) = true := decide_eq_true k3
    have hb : okb = sb := by rw [HOK.out, u1, u2, u3]; simp
    subst hb
    clear k1 k2 k3
    refine Dr.wp_region_T (by kernel_rfl) (by kernel_rfl) ?_
    iterate 14 (apply Dr.wpT_det; · (intro u w7 hw hF; clear hF; have k0 := HC7.out w7 hw; go_simp; first | exact ⟨Ge.refl _, rfl⟩ | exact Ge.refl _ | rfl))
    refine wpT_msg (.tmp 1) w.heap.size #[.int .i64 kd, .int .i64 ve, .int .i64 p1, .int .i64 p2, .int .i64 te, .int .i64 td, .int .i64 t0, .int .i64 t1, .int .i64 t2, .int .i64 t3, .slice Ar rl.length cr, .slice Ac cl.length cc, .slice Ad dl.length cd, .slice Ap pl.length cp, .slice Am ml.length cm, .int .i64 cu, .slice Ae el.length ce, .bool ye, .int .i64 wy] (by rfl) (by intro u; go_simp) (fun _ g => HX0.out.ge g) HCS.out (by intro u; go_simp) ?_
    refine wpT_callN 53 #[.agg #[.int .i64 kd, .int .i64 ve, .int .i64 p1, .int .i64 p2, .int .i64 te, .int .i64 td, .int .i64 t0, .int .i64 t1, .int .i64 t2, .int .i64 t3, .slice Ar rl.length cr, .slice Ac cl.length cc, .slice Ad dl.length cd, .slice Ap pl.length cp, .slice Am ml.length cm, .int .i64 cu, .slice Ae el.length ce, .bool ye, .int .i64 wy]] (fun v w' => ∃ s', v = .agg (encG um s').toArray ∧ SlAt B w' s' um) (fun v w1 w2 g ⟨s', h1, h2⟩ => ⟨s', h1, h2.ge g⟩) (by intro u; go_simp) (by intro u w7; go_simp) (fun w7 g => HUS.out w7 (GW.out.trans g)) ?_
    refine wpT_msg (.tmp 1) w.heap.size #[.int .i64 kd, .int .i64 ve, .int .i64 p1, .int .i64 p2, .int .i64 te, .int .i64 td, .int .i64 t0, .int .i64 t1, .int .i64 t2, .int .i64 t3, .slice Ar rl.length cr, .slice Ac cl.length cc, .slice Ad dl.length cd, .slice Ap pl.length cp, .slice Am ml.length cm, .int .i64 cu, .slice Ae el.length ce, .bool ye, .int .i64 wy] (by rfl) (by intro u; go_simp) (fun _ g => HX0.out.ge g) HCS.out (by intro u; go_simp) ?_
    refine wpT_call2 17 15 (.agg #[.int .i64 kd, .int .i64 ve, .int .i64 p1, .int .i64 p2, .int .i64 te, .int .i64 td, .int .i64 t0, .int .i64 t1, .int .i64 t2, .int .i64 t3, .slice Ar rl.length cr, .slice Ac cl.length cc, .slice Ad dl.length cd, .slice Ap pl.length cp, .slice Am ml.length cm, .int .i64 cu, .slice Ae el.length ce, .bool ye, .int .i64 wy]) (.bool okb) (fun v w' => ∃ s', v = .agg (encG um s').toArray ∧ SlAt B w' s' um) (by kernel_rfl) (fun u w h => h) (by intro u; go_simp) (by intro u w7; go_simp) (fun y w7 g hy => HSM.out y w7 (GW.out.trans g) hy) ?_
    iterate 2 (apply Dr.wpT_det; · (intro u w7 hw hF; clear hF; have k0 := HC7.out w7 hw; go_simp; first | exact ⟨Ge.refl _, rfl⟩ | exact Ge.refl _ | rfl))
    intro u w7 hw hF
    clear hF
    simp only [Act.put, List.setIfInBounds_toArray, List.set_cons_zero, List.set_cons_succ]
    go_wp2_with fail
    go_meet
    exact ⟨rfl, hw⟩
  case rest =>
    obtain ⟨rfl, hgc⟩ := hcut
    have HGc := Lib.hid (GW.out.trans hgc)
    have HC8 := Lib.hid (fun w7 (g : Ge wc w7) => (HX0.out.ge (hgc.trans g)).cell)
    have HGW2 := Lib.hid hgc
    have c0 := HC8.out wc (Ge.refl _)
    have n0 : w.heap.size < wc.heap.size := (HX0.out.ge hgc).lt
    clear hgc
    by_cases k1 : kd = 1
    · subst k1
      rcases okb with _ | _
      · have RES := Lib.hid (show qq = 130 by rw [← HQQ.out]; rw [HCD.out]; simp)
        go_wp2
        all_goals go_returns
        all_goals exact ⟨by rw [RES.out]; rfl, HGc.out⟩
      · by_cases ck : Chk ⟨te, td, t0, t1, t2, t3⟩
        rotate_left
        · have HRTL := Lib.hid (show ∀ w7, Ge wc w7 → Calls Tryd.prog 54 #[.agg #[.int .i64 te, .int .i64 td, .int .i64 t0, .int .i64 t1, .int .i64 t2, .int .i64 t3]] w7 fun e w8 => e = .returned (.int .i64 10) ∧ Ge w7 w8 from fun w7 _ => (HRT.out w7).mono fun e w8 ⟨a, b⟩ => ⟨by rw [a, ← chkE_no ck], by rw [b]; exact (Ge.refl _).alloc _⟩)
          have RES := Lib.hid (show qq = 130 by rw [← HQQ.out]; rw [HCD.out]; simp [ck])
          clear ck
          go_wp2_with fail
          refine (HRTL.out wc (Ge.refl _)).mono ?_
          rintro e w80 ⟨rfl, g8⟩
          have HD0 := Lib.hid (g8)
          have HE0 := Lib.hid (HGc.out.trans g8)
          have c10 := HC8.out w80 HD0.out
          have n10 : w.heap.size < w80.heap.size := Nat.lt_of_lt_of_le n0 HD0.out.size
          clear g8
          go_wp2
          all_goals go_returns
          all_goals exact ⟨by rw [RES.out]; rfl, HE0.out⟩
        rcases hg : goodR rl with _ | _
        · have HRTL := Lib.hid (show ∀ w7, Ge wc w7 → Calls Tryd.prog 54 #[.agg #[.int .i64 te, .int .i64 td, .int .i64 t0, .int .i64 t1, .int .i64 t2, .int .i64 t3]] w7 fun e w8 => e = .returned (.int .i64 0) ∧ Ge w7 w8 from fun w7 _ => (HRT.out w7).mono fun e w8 ⟨a, b⟩ => ⟨by rw [a, ← chkE_yes ck], by rw [b]; exact (Ge.refl _).alloc _⟩)
          have HGL := Lib.hid (show ∀ w7, Ge wc w7 → Calls Tryd.prog 55 #[.slice Ar rl.length cr] w7 fun e w8 => e = .returned (.bool false) ∧ Ge w7 w8 from fun w7 g => by have := HGR.out w7 (HGc.out.trans g); rwa [hg] at this)
          have RES := Lib.hid (show qq = 130 by rw [← HQQ.out]; rw [HCD.out]; simp [ck, hg])
          clear ck hg
          go_wp2_with fail
          refine (HRTL.out wc (Ge.refl _)).mono ?_
          rintro e w80 ⟨rfl, g8⟩
          have HD0 := Lib.hid (g8)
          have HE0 := Lib.hid (HGc.out.trans g8)
          have c10 := HC8.out w80 HD0.out
          have n10 : w.heap.size < w80.heap.size := Nat.lt_of_lt_of_le n0 HD0.out.size
          clear g8
          go_wp2_with fail
          refine (HGL.out w80 HD0.out).mono ?_
          rintro e w81 ⟨rfl, g8⟩
          have HD1 := Lib.hid (HD0.out.trans g8)
          have HE1 := Lib.hid (HE0.out.trans g8)
          have c11 := HC8.out w81 HD1.out
          have n11 : w.heap.size < w81.heap.size := Nat.lt_of_lt_of_le n0 HD1.out.size
          clear g8
          go_wp2
          all_goals go_returns
          all_goals exact ⟨by rw [RES.out]; rfl, HE1.out⟩
        · have HRTL := Lib.hid (show ∀ w7, Ge wc w7 → Calls Tryd.prog 54 #[.agg #[.int .i64 te, .int .i64 td, .int .i64 t0, .int .i64 t1, .int .i64 t2, .int .i64 t3]] w7 fun e w8 => e = .returned (.int .i64 0) ∧ Ge w7 w8 from fun w7 _ => (HRT.out w7).mono fun e w8 ⟨a, b⟩ => ⟨by rw [a, ← chkE_yes ck], by rw [b]; exact (Ge.refl _).alloc _⟩)
          have HGL := Lib.hid (show ∀ w7, Ge wc w7 → Calls Tryd.prog 55 #[.slice Ar rl.length cr] w7 fun e w8 => e = .returned (.bool true) ∧ Ge w7 w8 from fun w7 g => by have := HGR.out w7 (HGc.out.trans g); rwa [hg] at this)
          have RES := Lib.hid (show qq = 0 by rw [← HQQ.out]; rw [HCD.out]; simp [ck, hg])
          clear ck hg
          go_wp2_with fail
          refine (HRTL.out wc (Ge.refl _)).mono ?_
          rintro e w80 ⟨rfl, g8⟩
          have HD0 := Lib.hid (g8)
          have HE0 := Lib.hid (HGc.out.trans g8)
          have c10 := HC8.out w80 HD0.out
          have n10 : w.heap.size < w80.heap.size := Nat.lt_of_lt_of_le n0 HD0.out.size
          clear g8
          go_wp2_with fail
          refine (HGL.out w80 HD0.out).mono ?_
          rintro e w81 ⟨rfl, g8⟩
          have HD1 := Lib.hid (HD0.out.trans g8)
          have HE1 := Lib.hid (HE0.out.trans g8)
          have c11 := HC8.out w81 HD1.out
          have n11 : w.heap.size < w81.heap.size := Nat.lt_of_lt_of_le n0 HD1.out.size
          clear g8
          go_wp2
          all_goals go_returns
          all_goals exact ⟨by rw [RES.out]; rfl, HE1.out⟩
    by_cases k2 : kd = 2
    · subst k2
      rcases okb with _ | _
      · have RES := Lib.hid (show qq = 130 by rw [← HQQ.out]; rw [HCD.out]; simp)
        go_wp2
        all_goals go_returns
        all_goals exact ⟨by rw [RES.out]; rfl, HGc.out⟩
      · rcases hg : goodC cl with _ | _
        · have HGL := Lib.hid (show ∀ w7, Ge wc w7 → Calls Tryd.prog 56 #[.slice Ac cl.length cc] w7 fun e w8 => e = .returned (.bool false) ∧ Ge w7 w8 from fun w7 g => by have := HGC.out w7 (HGc.out.trans g); rwa [hg] at this)
          have RES := Lib.hid (show qq = 130 by rw [← HQQ.out]; rw [HCD.out]; simp [hg])
          clear hg
          go_wp2_with fail
          refine (HGL.out wc (Ge.refl _)).mono ?_
          rintro e w80 ⟨rfl, g8⟩
          have HD0 := Lib.hid (g8)
          have HE0 := Lib.hid (HGc.out.trans g8)
          have c10 := HC8.out w80 HD0.out
          have n10 : w.heap.size < w80.heap.size := Nat.lt_of_lt_of_le n0 HD0.out.size
          clear g8
          go_wp2
          all_goals go_returns
          all_goals exact ⟨by rw [RES.out]; rfl, HE0.out⟩
        · have HGL := Lib.hid (show ∀ w7, Ge wc w7 → Calls Tryd.prog 56 #[.slice Ac cl.length cc] w7 fun e w8 => e = .returned (.bool true) ∧ Ge w7 w8 from fun w7 g => by have := HGC.out w7 (HGc.out.trans g); rwa [hg] at this)
          have RES := Lib.hid (show qq = 0 by rw [← HQQ.out]; rw [HCD.out]; simp [hg])
          clear hg
          go_wp2_with fail
          refine (HGL.out wc (Ge.refl _)).mono ?_
          rintro e w80 ⟨rfl, g8⟩
          have HD0 := Lib.hid (g8)
          have HE0 := Lib.hid (HGc.out.trans g8)
          have c10 := HC8.out w80 HD0.out
          have n10 : w.heap.size < w80.heap.size := Nat.lt_of_lt_of_le n0 HD0.out.size
          clear g8
          go_wp2
          all_goals go_returns
          all_goals exact ⟨by rw [RES.out]; rfl, HE0.out⟩
    by_cases k3 : kd = 3
    · subst k3
      rcases okb with _ | _
      · have RES := Lib.hid (show qq = 130 by rw [← HQQ.out]; rw [HCD.out]; simp)
        go_wp2
        all_goals go_returns
        all_goals exact ⟨by rw [RES.out]; rfl, HGc.out⟩
      · by_cases c1 : 0 ≤ cu
        rotate_left
        · have u1 : decide (0 ≤ cu) = false := decide_eq_false c1
          have RES := Lib.hid (show qq = 130 by rw [← HQQ.out]; rw [HCD.out]; simp [c1])
          clear c1
          go_wp2
          all_goals go_returns
          all_goals exact ⟨by rw [RES.out]; rfl, HGc.out⟩
        have u1 : decide (0 ≤ cu) = true := decide_eq_true c1
        by_cases c2 : cu ≤ 1073741824
        rotate_left
        · have u2 : decide (cu ≤ 1073741824) = false := decide_eq_false c2
          have RES := Lib.hid (show qq = 130 by rw [← HQQ.out]; rw [HCD.out]; simp [c1, c2])
          clear c1 c2
          go_wp2
          all_goals go_returns
          all_goals exact ⟨by rw [RES.out]; rfl, HGc.out⟩
        have u2 : decide (cu ≤ 1073741824) = true := decide_eq_true c2
        have RES := Lib.hid (show qq = 0 by rw [← HQQ.out]; rw [HCD.out]; simp [c1, c2])
        clear c1 c2
        go_wp2
        all_goals go_returns
        all_goals exact ⟨by rw [RES.out]; rfl, HGc.out⟩
    by_cases k5 : kd = 5
    · subst k5
      rcases okb with _ | _
      · have RES := Lib.hid (show qq = 130 by rw [← HQQ.out]; rw [HCD.out]; simp)
        go_wp2
        all_goals go_returns
        all_goals exact ⟨by rw [RES.out]; rfl, HGc.out⟩
      · rcases ye with _ | _
        · by_cases l2 : el.length = 0
          rotate_left
          · have u2 : ((el.length : Int) == 0) = false := beq_eq_false_iff_ne.2 (by omega)
            have v2 : (el.length == 0) = false := beq_eq_false_iff_ne.2 (by omega)
            have RES := Lib.hid (show qq = 130 by rw [← HQQ.out]; rw [HCD.out]; simp [v2])
            clear l2
            go_wp2
            all_goals go_returns
            all_goals exact ⟨by rw [RES.out]; rfl, HGc.out⟩
          have u1 : decide ((el.length : Int) ≤ 1024) = true := decide_eq_true (by omega)
          have v1 : decide (el.length ≤ 1024) = true := decide_eq_true (by omega)
          have u2 : ((el.length : Int) == 0) = true := by simp [l2]
          have v2 : (el.length == 0) = true := by simp [l2]
          have RES := Lib.hid (show qq = 0 by rw [← HQQ.out]; rw [HCD.out]; simp [v1, v2])
          clear l2
          go_wp2
          all_goals go_returns
          all_goals exact ⟨by rw [RES.out]; rfl, HGc.out⟩
        · by_cases l1 : el.length ≤ 1024
          rotate_left
          · have u1 : decide ((el.length : Int) ≤ 1024) = false := decide_eq_false (by omega)
            have v1 : decide (el.length ≤ 1024) = false := decide_eq_false (by omega)
            have RES := Lib.hid (show qq = 130 by rw [← HQQ.out]; rw [HCD.out]; simp [v1])
            clear l1
            go_wp2
            all_goals go_returns
            all_goals exact ⟨by rw [RES.out]; rfl, HGc.out⟩
          have u1 : decide ((el.length : Int) ≤ 1024) = true := decide_eq_true (by omega)
          have v1 : decide (el.length ≤ 1024) = true := decide_eq_true (by omega)
          have RES := Lib.hid (show qq = 0 by rw [← HQQ.out]; rw [HCD.out]; simp [v1])
          clear l1
          go_wp2
          all_goals go_returns
          all_goals exact ⟨by rw [RES.out]; rfl, HGc.out⟩
    by_cases k6 : kd = 6
    · subst k6
      rcases okb with _ | _
      · have RES := Lib.hid (show qq = 130 by rw [← HQQ.out]; rw [HCD.out]; simp)
        go_wp2
        all_goals go_returns
        all_goals exact ⟨by rw [RES.out]; rfl, HGc.out⟩
      · rcases ye with _ | _
        · by_cases l2 : el.length = 0
          rotate_left
          · have u2 : ((el.length : Int) == 0) = false := beq_eq_false_iff_ne.2 (by omega)
            have v2 : (el.length == 0) = false := beq_eq_false_iff_ne.2 (by omega)
            have RES := Lib.hid (show qq = 130 by rw [← HQQ.out]; rw [HCD.out]; simp [v2])
            clear l2
            go_wp2
            all_goals go_returns
            all_goals exact ⟨by rw [RES.out]; rfl, HGc.out⟩
          have u1 : decide ((el.length : Int) ≤ 1024) = true := decide_eq_true (by omega)
          have v1 : decide (el.length ≤ 1024) = true := decide_eq_true (by omega)
          have u2 : ((el.length : Int) == 0) = true := by simp [l2]
          have v2 : (el.length == 0) = true := by simp [l2]
          by_cases l3 : wy = 0
          · have u3 : (wy == 0) = true := by simpa using l3
            have RES := Lib.hid (show qq = 130 by rw [← HQQ.out]; rw [HCD.out]; simp [v1, v2, u3])
            clear l2 l3
            go_wp2
            all_goals go_returns
            all_goals exact ⟨by rw [RES.out]; rfl, HGc.out⟩
          · have u3 : (wy == 0) = false := by simpa using l3
            have RES := Lib.hid (show qq = 0 by rw [← HQQ.out]; rw [HCD.out]; simp [v1, v2, u3])
            clear l2 l3
            go_wp2
            all_goals go_returns
            all_goals exact ⟨by rw [RES.out]; rfl, HGc.out⟩
        · by_cases l1 : el.length ≤ 1024
          rotate_left
          · have u1 : decide ((el.length : Int) ≤ 1024) = false := decide_eq_false (by omega)
            have v1 : decide (el.length ≤ 1024) = false := decide_eq_false (by omega)
            have RES := Lib.hid (show qq = 130 by rw [← HQQ.out]; rw [HCD.out]; simp [v1])
            clear l1
            go_wp2
            all_goals go_returns
            all_goals exact ⟨by rw [RES.out]; rfl, HGc.out⟩
          have u1 : decide ((el.length : Int) ≤ 1024) = true := decide_eq_true (by omega)
          have v1 : decide (el.length ≤ 1024) = true := decide_eq_true (by omega)
          by_cases l3 : wy = 0
          · have u3 : (wy == 0) = true := by simpa using l3
            have RES := Lib.hid (show qq = 0 by rw [← HQQ.out]; rw [HCD.out]; simp [v1, u3])
            clear l1 l3
            go_wp2
            all_goals go_returns
            all_goals exact ⟨by rw [RES.out]; rfl, HGc.out⟩
          · have u3 : (wy == 0) = false := by simpa using l3
            have RES := Lib.hid (show qq = 130 by rw [← HQQ.out]; rw [HCD.out]; simp [v1, u3])
            clear l1 l3
            go_wp2
            all_goals go_returns
            all_goals exact ⟨by rw [RES.out]; rfl, HGc.out⟩
    have i1 : (kd == 1) = false := by simpa using k1
    have i2 : (kd == 2) = false := by simpa using k2
    have i3 : (kd == 3) = false := by simpa using k3
    have i5 : (kd == 5) = false := by simpa using k5
    have i6 : (kd == 6) = false := by simpa using k6
    rcases okb with _ | _
    · have RES := Lib.hid (show qq = 130 by rw [← HQQ.out]; rw [HCD.out]; simp)
      clear k1 k2 k3 k5 k6
      go_wp2
      all_goals go_returns
      all_goals exact ⟨by rw [RES.out]; rfl, HGc.out⟩
    · have RES := Lib.hid (show qq = 0 by rw [← HQQ.out]; rw [HCD.out]; simp [k1, k2, k3, k5, k6])
      clear k1 k2 k3 k5 k6
      go_wp2
      all_goals go_returns
      all_goals exact ⟨by rw [RES.out]; rfl, HGc.out⟩
end Go.Proofs.YtmhibpmgnicolaaDoor
