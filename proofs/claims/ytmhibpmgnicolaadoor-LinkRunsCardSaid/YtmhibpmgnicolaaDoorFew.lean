/-
  Messages so small that all of them may be looked at.
-/
import Derived.Test.YtmhibpmgnicolaaDoorClone
import Derived.Test.YtmhibpmgnicolaaDoorGood
namespace Go.Proofs.YtmhibpmgnicolaaDoor
open Go.RowKit

def fR (r : Rc) : Bool := decide (r.2.size ≤ 500)
def fN (n : Nod) : Bool := decide (n.ins.length ≤ 20)
/-- so small that all of it may be looked at -/
def fewM (m : Msg) : Bool := decide (m.recs.length ≤ 200) && decide (m.chs.length ≤ 1000) && decide (m.ents.length ≤ 2000) && decide (m.drop.length ≤ 100) && decide (m.put.length ≤ 100) && decide (m.moves.length ≤ 100) && m.recs.all fR && m.put.all fN
theorem few_small {m : Msg} (h : fewM m = true) : Small m := by
  simp only [fewM, Bool.and_eq_true, decide_eq_true_eq] at h
  obtain ⟨⟨⟨⟨⟨⟨⟨h1, h2⟩, h3⟩, h4⟩, h5⟩, h6⟩, h7⟩, h8⟩ := h
  refine ⟨by omega, by omega, by omega, by omega, fun n hn => ?_, by omega, by omega⟩
  have := List.all_eq_true.1 h8 n hn
  simp only [fN, decide_eq_true_eq] at this
  omega

set_option maxRecDepth 100000 in
set_option maxHeartbeats 8000000 in
theorem few_any {B : Nat} {w : World} {s : Sls} {m : Msg} (h : SlAt B w s m) :
    Calls Tryd.prog 11 #[.agg (encG m s).toArray] w fun e w' => e = .returned (.bool (fewM m)) ∧ Ge w w' := by
  obtain ⟨kd, ve, p1, p2, ⟨te, td, t0, t1, t2, t3⟩, rl, cl, dl, pl, ml, cu, el, ye, wy⟩ := m
  obtain ⟨sr, sc, sd, sp, sm, se⟩ := s
  obtain ⟨h1, h2, h3, h4, h5, h6⟩ := h
  dsimp only at h1 h2 h3 h4 h5 h6
  obtain ⟨rs, hrs, hlen, hnod⟩ := h4
  obtain ⟨Ar, cr, rfl, _, hcr⟩ := h1
  obtain ⟨Ac, cc, rfl⟩ := h2.form
  obtain ⟨Ad, cd, rfl⟩ := h3.form
  obtain ⟨Ap, cp, rfl, _, hcp⟩ := hrs
  obtain ⟨Am, cm, rfl⟩ := h5.form
  obtain ⟨Ae, ce, rfl⟩ := h6.form
  rw [hlen]
  have HCR := Lib.hid hcr
  have HCP := Lib.hid hcp
  have HNOD := Lib.hid hnod
  have HLEN := Lib.hid hlen
  clear h2 h3 h5 h6 hcr hcp hnod hlen
  simp only [encG]
  obtain ⟨W2, hW2⟩ : ∃ x, x = w.alloc (.cells #[.int .i64 kd, .int .i64 ve, .int .i64 p1, .int .i64 p2, .int .i64 te, .int .i64 td, .int .i64 t0, .int .i64 t1, .int .i64 t2, .int .i64 t3, .slice Ar rl.length cr, .slice Ac cl.length cc, .slice Ad dl.length cd, .slice Ap pl.length cp, .slice Am ml.length cm, .int .i64 cu, .slice Ae el.length ce, .bool ye, .int .i64 wy] 45) := ⟨_, rfl⟩
  have X0 : Bx W2 w.heap.size 45 #[.int .i64 kd, .int .i64 ve, .int .i64 p1, .int .i64 p2, .int .i64 te, .int .i64 td, .int .i64 t0, .int .i64 t1, .int .i64 t2, .int .i64 t3, .slice Ar rl.length cr, .slice Ac cl.length cc, .slice Ad dl.length cd, .slice Ap pl.length cp, .slice Am ml.length cm, .int .i64 cu, .slice Ae el.length ce, .bool ye, .int .i64 wy] := by rw [hW2]; exact Bx.new w 45 _ rfl
  have GW := Lib.hid (show Ge w W2 by rw [hW2]; exact (Ge.refl w).alloc _)
  have HX0 := Lib.hid X0
  have c0 := X0.cell
  have n0 := X0.lt
  clear X0
  by_cases k0 : rl.length ≤ 200
  rotate_left
  · have RES := Lib.hid (show fewM ⟨kd, ve, p1, p2, ⟨te, td, t0, t1, t2, t3⟩, rl, cl, dl, pl, ml, cu, el, ye, wy⟩ = false by simp [fewM, k0])
    have u0 : decide ((200 : Int) < (rl.length : Int)) = true := decide_eq_true (by omega)
    clear k0
    go_enter Tryd.func11, Tryd.ntmps11
    go_upto_region 1 with (fail)
    rw [← hW2]
    clear hW2
    go_wp2
    go_returns
    exact ⟨by rw [RES.out]; rfl, GW.out⟩
  have u0 : decide ((200 : Int) < (rl.length : Int)) = false := decide_eq_false (by omega)
  by_cases k1 : cl.length ≤ 1000
  rotate_left
  · have RES := Lib.hid (show fewM ⟨kd, ve, p1, p2, ⟨te, td, t0, t1, t2, t3⟩, rl, cl, dl, pl, ml, cu, el, ye, wy⟩ = false by simp [fewM, k1])
    have u1 : decide ((1000 : Int) < (cl.length : Int)) = true := decide_eq_true (by omega)
    clear k1
    go_enter Tryd.func11, Tryd.ntmps11
    go_upto_region 1 with (fail)
    rw [← hW2]
    clear hW2
    go_wp2
    go_returns
    exact ⟨by rw [RES.out]; rfl, GW.out⟩
  have u1 : decide ((1000 : Int) < (cl.length : Int)) = false := decide_eq_false (by omega)
  by_cases k2 : el.length ≤ 2000
  rotate_left
  · have RES := Lib.hid (show fewM ⟨kd, ve, p1, p2, ⟨te, td, t0, t1, t2, t3⟩, rl, cl, dl, pl, ml, cu, el, ye, wy⟩ = false by simp [fewM, k2])
    have u2 : decide ((2000 : Int) < (el.length : Int)) = true := decide_eq_true (by omega)
    clear k2
    go_enter Tryd.func11, Tryd.ntmps11
    go_upto_region 1 with (fail)
    rw [← hW2]
    clear hW2
    go_wp2
    go_returns
    exact ⟨by rw [RES.out]; rfl, GW.out⟩
  have u2 : decide ((2000 : Int) < (el.length : Int)) = false := decide_eq_false (by omega)
  by_cases k3 : dl.length ≤ 100
  rotate_left
  · have RES := Lib.hid (show fewM ⟨kd, ve, p1, p2, ⟨te, td, t0, t1, t2, t3⟩, rl, cl, dl, pl, ml, cu, el, ye, wy⟩ = false by simp [fewM, k3])
    have u3 : decide ((100 : Int) < (dl.length : Int)) = true := decide_eq_true (by omega)
    clear k3
    go_enter Tryd.func11, Tryd.ntmps11
    go_upto_region 1 with (fail)
    rw [← hW2]
    clear hW2
    go_wp2
    go_returns
    exact ⟨by rw [RES.out]; rfl, GW.out⟩
  have u3 : decide ((100 : Int) < (dl.length : Int)) = false := decide_eq_false (by omega)
  by_cases k4 : pl.length ≤ 100
  rotate_left
  · have RES := Lib.hid (show fewM ⟨kd, ve, p1, p2, ⟨te, td, t0, t1, t2, t3⟩, rl, cl, dl, pl, ml, cu, el, ye, wy⟩ = false by simp [fewM, k4])
    have u4 : decide ((100 : Int) < (pl.length : Int)) = true := decide_eq_true (by omega)
    clear k4
    go_enter Tryd.func11, Tryd.ntmps11
    go_upto_region 1 with (fail)
    rw [← hW2]
    clear hW2
    go_wp2
    go_returns
    exact ⟨by rw [RES.out]; rfl, GW.out⟩
  have u4 : decide ((100 : Int) < (pl.length : Int)) = false := decide_eq_false (by omega)
  by_cases k5 : ml.length ≤ 100
  rotate_left
  · have RES := Lib.hid (show fewM ⟨kd, ve, p1, p2, ⟨te, td, t0, t1, t2, t3⟩, rl, cl, dl, pl, ml, cu, el, ye, wy⟩ = false by simp [fewM, k5])
    have u5 : decide ((100 : Int) < (ml.length : Int)) = true := decide_eq_true (by omega)
    clear k5
    go_enter Tryd.func11, Tryd.ntmps11
    go_upto_region 1 with (fail)
    rw [← hW2]
    clear hW2
    go_wp2
    go_returns
    exact ⟨by rw [RES.out]; rfl, GW.out⟩
  have u5 : decide ((100 : Int) < (ml.length : Int)) = false := decide_eq_false (by omega)
  have HFE := Lib.hid (show fewM ⟨kd, ve, p1, p2, ⟨te, td, t0, t1, t2, t3⟩, rl, cl, dl, pl, ml, cu, el, ye, wy⟩ = (rl.all fR && pl.all fN) by simp [fewM, k0, k1, k2, k3, k4, k5])
  have HK0 := Lib.hid k0
  have HK4 := Lib.hid k4
  clear k1 k2 k3 k5
  go_enter Tryd.func11, Tryd.ntmps11
  go_upto_region 1 with (fail)
  rw [← hW2]
  clear hW2
  go_upto_region 4 with (fail)
  clear u0 u1 u2 u3 u4 u5 c0
  go_loopw [47] (fun i wr => ∃ m : Nat, m ≤ rl.length ∧ i = .int .i64 (m : Int) ∧ (rl.take m).all fR = true ∧ Ge W2 wr) (fun i _ => rl.length - (intOf i).toNat)
  case atStart => exact ⟨0, by omega, rfl, rfl, Ge.refl _⟩
  case round =>
    obtain ⟨m, hm, rfl, htk, hgw⟩ := hrel
    have HT := Lib.hid htk
    have HG := Lib.hid (GW.out.trans hgw)
    have HG2 := Lib.hid hgw
    clear htk
    by_cases hlt : m < rl.length
    · obtain ⟨b1, o1, rfl, hb1, hc1⟩ := HCR.out (fun e => absurd (show rl.length = 0 from by rw [e]; rfl) (by omega))
      obtain ⟨x, hmx⟩ : ∃ x, rl[m]? = some x := ⟨_, List.getElem?_eq_getElem hlt⟩
      have HMX := Lib.hid hmx
      obtain ⟨xn, xs1⟩ := x
      have x0 := ((HG.out.kp B).cell hb1 _).trans (hc1 m _ hmx 0 _ rfl)
      have x1 := ((HG.out.kp B).cell hb1 _).trans (hc1 m _ hmx 1 _ rfl)
      simp only [eR, Nat.add_zero] at x0 x1
      have hlb : b1 < wr.heap.size := Nat.lt_of_lt_of_le hb1.1 HG.out.size
      have i1 : (0 : Int) ≤ (m : Int) := by omega
      have i2 : (m : Int) < (rl.length : Int) := by omega
      clear hc1 hmx hgw hb1
      by_cases hq : xs1.size ≤ 500
      rotate_left
      · have HQ := Lib.hid (show fR (xn, xs1) = false from decide_eq_false hq)
        have v1 : decide ((500 : Int) < (xs1.size : Int)) = true := decide_eq_true (by omega)
        have RES := Lib.hid (show (rl.all fR && pl.all fN) = false by rw [all_not HMX.out HQ.out, Bool.false_and])
        clear hq
        go_wp2
        go_returns
        exact ⟨by rw [HFE.out, RES.out]; rfl, HG.out.alloc _⟩
      · have HQ := Lib.hid (show fR (xn, xs1) = true from decide_eq_true hq)
        have v1 : decide ((500 : Int) < (xs1.size : Int)) = false := decide_eq_false (by omega)
        clear hq
        go_wp2
        go_roundw
        case rel => exact ⟨m + 1, by omega, by go_num, all_next HT.out HMX.out HQ.out, HG2.out.alloc _⟩
        case measure => simp [intOf]; omega
    · have hml : m = rl.length := by omega
      have HA := Lib.hid (show rl.all fR = true by
        have := HT.out
        rw [hml, List.take_length] at this
        exact this)
      have hdm : decide ((m : Int) < (rl.length : Int)) = false := by simp; omega
      have c0 := bx_all (HX0.out.ge hgw)
      have c1 := (HX0.out.ge hgw).cell
      have n1 := (HX0.out.ge hgw).lt
      clear hml hgw
      go_upto_region 10 with (fail)
      clear c1
      go_loopw [60] (fun i wr2 => ∃ m : Nat, m ≤ pl.length ∧ i = .int .i64 (m : Int) ∧ (pl.take m).all fN = true ∧ Ge wr wr2) (fun i _ => pl.length - (intOf i).toNat)
      case atStart => exact ⟨0, by omega, rfl, rfl, Ge.refl _⟩
      case round =>
        obtain ⟨m, hm, rfl, htk, hgw⟩ := hrel
        have HT2 := Lib.hid htk
        have HG3 := Lib.hid (HG.out.trans hgw)
        have HG4 := Lib.hid hgw
        clear htk
        by_cases hlt2 : m < pl.length
        · have hle := HLEN.out
          obtain ⟨b1, o1, rfl, hb1, hc1⟩ := HCP.out (fun e => absurd (show rs.length = 0 from by rw [e]; rfl) (by omega))
          obtain ⟨x, hmx⟩ : ∃ x, rs[m]? = some x := ⟨_, List.getElem?_eq_getElem (by omega)⟩
          obtain ⟨y, hmy⟩ : ∃ y, pl[m]? = some y := ⟨_, List.getElem?_eq_getElem hlt2⟩
          have HMY := Lib.hid hmy
          obtain ⟨Aq, cq, hins⟩ := (HNOD.out m x y hmx hmy).2.2.2.2.2.2.form
          obtain ⟨xi, xk, xin, ⟨xf1, xf2, xf3⟩, xnm, xcp, xd⟩ := x
          dsimp only at hins
          subst hins
          have x0 := ((HG3.out.kp B).cell hb1 _).trans (hc1 m _ hmx 0 _ rfl)
          have x1 := ((HG3.out.kp B).cell hb1 _).trans (hc1 m _ hmx 1 _ rfl)
          have x2 := ((HG3.out.kp B).cell hb1 _).trans (hc1 m _ hmx 2 _ rfl)
          have x3 := ((HG3.out.kp B).cell hb1 _).trans (hc1 m _ hmx 3 _ rfl)
          have x4 := ((HG3.out.kp B).cell hb1 _).trans (hc1 m _ hmx 4 _ rfl)
          have x5 := ((HG3.out.kp B).cell hb1 _).trans (hc1 m _ hmx 5 _ rfl)
          have x6 := ((HG3.out.kp B).cell hb1 _).trans (hc1 m _ hmx 6 _ rfl)
          have x7 := ((HG3.out.kp B).cell hb1 _).trans (hc1 m _ hmx 7 _ rfl)
          have x8 := ((HG3.out.kp B).cell hb1 _).trans (hc1 m _ hmx 8 _ rfl)
          simp only [eN, Nat.add_zero] at x0 x1 x2 x3 x4 x5 x6 x7 x8
          have hlb : b1 < wr.heap.size := Nat.lt_of_lt_of_le hb1.1 HG3.out.size
          have i1 : (0 : Int) ≤ (m : Int) := by omega
          have i2 : (m : Int) < (pl.length : Int) := by omega
          clear hc1 hmx hmy hgw hb1 hle
          by_cases hq : y.ins.length ≤ 20
          rotate_left
          · have HQ := Lib.hid (show fN y = false from decide_eq_false hq)
            have v1 : decide ((20 : Int) < (y.ins.length : Int)) = true := decide_eq_true (by omega)
            have RES := Lib.hid (show (rl.all fR && pl.all fN) = false by rw [all_not HMY.out HQ.out, Bool.and_false])
            clear hq
            go_wp2
            go_returns
            exact ⟨by rw [HFE.out, RES.out]; rfl, HG3.out.alloc _⟩
          · have HQ := Lib.hid (show fN y = true from decide_eq_true hq)
            have v1 : decide ((20 : Int) < (y.ins.length : Int)) = false := decide_eq_false (by omega)
            clear hq
            go_wp2
            go_roundw
            case rel => exact ⟨m + 1, by omega, by go_num, all_next HT2.out HMY.out HQ.out, HG4.out.alloc _⟩
            case measure => simp [intOf]; omega
        · have hml : m = pl.length := by omega
          have HA2 := Lib.hid (show pl.all fN = true by
            have := HT2.out
            rw [hml, List.take_length] at this
            exact this)
          have RES := Lib.hid (show (rl.all fR && pl.all fN) = true by rw [HA.out, HA2.out]; rfl)
          have hdm2 : decide ((m : Int) < (pl.length : Int)) = false := by simp; omega
          clear hml hgw
          go_wp2
          go_returns
          exact ⟨by rw [HFE.out, RES.out]; rfl, HG3.out⟩
end Go.Proofs.YtmhibpmgnicolaaDoor
