/-
  Which records, which changes may go in a message: the reference's.
-/
import Derived.Test.YtmhibpmgnicolaaDoorGood
namespace Go.Proofs.YtmhibpmgnicolaaDoor
open Go.RowKit
attribute [local go_sem] Dr.upT

set_option maxRecDepth 100000 in
set_option maxHeartbeats 8000000 in
theorem rgoodsR {B : Nat} {w : World} {v : Value} {xs : List Rc} (h : LAt eR B w v xs) (hl : xs.length ≤ 1000000) :
    Calls Tryd.prog 55 #[v] w fun e w' => e = .returned (.bool (goodR xs)) ∧ Ge w w' := by
  obtain ⟨A, ca, rfl, hlea, hca⟩ := h
  have HCA := Lib.hid hca
  clear hca
  go_enter Tryd.func55, Tryd.ntmps55
  go_wp2
  go_loopw [3] (fun i wr => ∃ m : Nat, m ≤ xs.length ∧ i = .int .i64 (m : Int) ∧ (xs.take m).all okR = true ∧ Ge w wr) (fun i _ => xs.length - (intOf i).toNat)
  case atStart => exact ⟨0, by omega, rfl, rfl, Ge.refl _⟩
  case round =>
    obtain ⟨m, hm, rfl, htk, hgw⟩ := hrel
    have HT := Lib.hid htk
    have HG := Lib.hid hgw
    clear htk
    by_cases hlt : m < xs.length
    · obtain ⟨b1, o1, rfl, hb1, hc1⟩ := HCA.out (fun e => absurd (show xs.length = 0 from by rw [e]; rfl) (by omega))
      obtain ⟨x, hmx⟩ : ∃ x, xs[m]? = some x := ⟨_, List.getElem?_eq_getElem hlt⟩
      have HMX := Lib.hid hmx
      obtain ⟨xn, xs1⟩ := x
      have x0 := ((hgw.kp B).cell hb1 _).trans (hc1 m _ hmx 0 _ rfl)
      have x1 := ((hgw.kp B).cell hb1 _).trans (hc1 m _ hmx 1 _ rfl)
      simp only [eR, Nat.add_zero] at x0 x1
      have hlb : b1 < wr.heap.size := Nat.lt_of_lt_of_le hb1.1 hgw.size
      have i1 : (0 : Int) ≤ (m : Int) := by omega
      have i2 : (m : Int) < (xs.length : Int) := by omega
      clear hc1 hmx hgw hb1
      have HK := Lib.hid (rcheck_any xn xs1 wr)
      rcases hq : okB xs1 with _ | _
      · have HQ := Lib.hid (show okR (xn, xs1) = false from hq)
        have hz : chkV xs1 = 50 := by unfold chkV; rw [hq]; rfl
        rw [hz] at HK
        clear hq hz
        go_wp2_with fail
        refine HK.out.mono ?_
        rintro e w3 ⟨rfl, hg3⟩
        have G3 := Lib.hid (HG.out.trans hg3)
        have RES := Lib.hid (show goodR xs = false by unfold goodR; rw [all_not HMX.out HQ.out, Bool.and_false])
        clear hg3 x0 x1
        go_wp2
        go_returns
        exact ⟨by rw [RES.out]; rfl, G3.out⟩
      · have HQ := Lib.hid (show okR (xn, xs1) = true from hq)
        have hz : chkV xs1 = 0 := by unfold chkV; rw [hq]; rfl
        rw [hz] at HK
        clear hq hz
        go_wp2_with fail
        refine HK.out.mono ?_
        rintro e w3 ⟨rfl, hg3⟩
        have G3 := Lib.hid (HG.out.trans hg3)
        clear hg3 x0 x1
        go_wp2
        go_roundw
        case rel => exact ⟨m + 1, by omega, by go_num, all_next HT.out HMX.out HQ.out, G3.out⟩
        case measure => simp [intOf]; omega
    · have hml : m = xs.length := by omega
      have HA := Lib.hid (show xs.all okR = true by
        have := HT.out
        rw [hml, List.take_length] at this
        exact this)
      have hdm : decide ((m : Int) < (xs.length : Int)) = false := by simp; omega
      clear hml hgw
      by_cases h1 : 1 ≤ xs.length
      rotate_left
      · have RES := Lib.hid (show goodR xs = false by unfold goodR; rw [decide_eq_false h1]; rfl)
        have u1 : decide ((1 : Int) ≤ (xs.length : Int)) = false := decide_eq_false (by omega)
        clear h1
        go_wp2
        go_returns
        exact ⟨by rw [RES.out]; rfl, HG.out⟩
      have u1 : decide ((1 : Int) ≤ (xs.length : Int)) = true := decide_eq_true (by omega)
      by_cases h2 : xs.length ≤ 64
      rotate_left
      · have RES := Lib.hid (show goodR xs = false by unfold goodR; rw [decide_eq_false h2, Bool.and_false]; rfl)
        have u2 : decide ((xs.length : Int) ≤ 64) = false := decide_eq_false (by omega)
        clear h1 h2
        go_wp2
        go_returns
        exact ⟨by rw [RES.out]; rfl, HG.out⟩
      have RES := Lib.hid (show goodR xs = true by unfold goodR; rw [decide_eq_true h1, decide_eq_true h2, HA.out]; rfl)
      have u2 : decide ((xs.length : Int) ≤ 64) = true := decide_eq_true (by omega)
      clear h1 h2
      go_wp2
      go_returns
      exact ⟨by rw [RES.out]; rfl, HG.out⟩

set_option maxRecDepth 100000 in
set_option maxHeartbeats 8000000 in
theorem rgoodsC {B : Nat} {w : World} {v : Value} {xs : List Chg} (h : LAt eC B w v xs) (hl : xs.length ≤ 1000000) :
    Calls Tryd.prog 56 #[v] w fun e w' => e = .returned (.bool (goodC xs)) ∧ Ge w w' := by
  obtain ⟨A, ca, rfl, hlea, hca⟩ := h
  have HCA := Lib.hid hca
  clear hca
  go_enter Tryd.func56, Tryd.ntmps56
  go_wp2
  go_loopw [3] (fun i wr => ∃ m : Nat, m ≤ xs.length ∧ i = .int .i64 (m : Int) ∧ (xs.take m).all okC = true ∧ Ge w wr) (fun i _ => xs.length - (intOf i).toNat)
  case atStart => exact ⟨0, by omega, rfl, rfl, Ge.refl _⟩
  case round =>
    obtain ⟨m, hm, rfl, htk, hgw⟩ := hrel
    have HT := Lib.hid htk
    have HG := Lib.hid hgw
    clear htk
    by_cases hlt : m < xs.length
    · obtain ⟨b1, o1, rfl, hb1, hc1⟩ := HCA.out (fun e => absurd (show xs.length = 0 from by rw [e]; rfl) (by omega))
      obtain ⟨x, hmx⟩ : ∃ x, xs[m]? = some x := ⟨_, List.getElem?_eq_getElem hlt⟩
      have HMX := Lib.hid hmx
      obtain ⟨xn, xp, ⟨xe, xd, xl0, xl1, xl2, xl3⟩, xc⟩ := x
      have x0 := ((hgw.kp B).cell hb1 _).trans (hc1 m _ hmx 0 _ rfl)
      have x1 := ((hgw.kp B).cell hb1 _).trans (hc1 m _ hmx 1 _ rfl)
      have x2 := ((hgw.kp B).cell hb1 _).trans (hc1 m _ hmx 2 _ rfl)
      have x3 := ((hgw.kp B).cell hb1 _).trans (hc1 m _ hmx 3 _ rfl)
      have x4 := ((hgw.kp B).cell hb1 _).trans (hc1 m _ hmx 4 _ rfl)
      have x5 := ((hgw.kp B).cell hb1 _).trans (hc1 m _ hmx 5 _ rfl)
      have x6 := ((hgw.kp B).cell hb1 _).trans (hc1 m _ hmx 6 _ rfl)
      have x7 := ((hgw.kp B).cell hb1 _).trans (hc1 m _ hmx 7 _ rfl)
      have x8 := ((hgw.kp B).cell hb1 _).trans (hc1 m _ hmx 8 _ rfl)
      simp only [eC, Nat.add_zero] at x0 x1 x2 x3 x4 x5 x6 x7 x8
      have hlb : b1 < wr.heap.size := Nat.lt_of_lt_of_le hb1.1 hgw.size
      have i1 : (0 : Int) ≤ (m : Int) := by omega
      have i2 : (m : Int) < (xs.length : Int) := by omega
      clear hc1 hmx hgw hb1
      have HK := Lib.hid (rtcheck_any ⟨xe, xd, xl0, xl1, xl2, xl3⟩ wr)
      by_cases hq : Chk ⟨xe, xd, xl0, xl1, xl2, xl3⟩
      rotate_left
      · have HQ := Lib.hid (show okC ⟨xn, xp, ⟨xe, xd, xl0, xl1, xl2, xl3⟩, xc⟩ = false by simp [okC, hq])
        have hz : chkE ⟨xe, xd, xl0, xl1, xl2, xl3⟩ = 10 := (chkE_no hq).symm
        rw [hz] at HK
        clear hq hz
        go_wp2_with fail
        refine HK.out.mono ?_
        rintro e w3 ⟨rfl, hg3⟩
        have G3 := Lib.hid (show Ge w w3 by rw [hg3]; exact HG.out.alloc _)
        have RES := Lib.hid (show goodC xs = false by unfold goodC; rw [all_not HMX.out HQ.out, Bool.and_false])
        clear hg3 x0 x1 x2 x3 x4 x5 x6 x7 x8
        go_wp2
        go_returns
        exact ⟨by rw [RES.out]; rfl, G3.out⟩
      have hz : chkE ⟨xe, xd, xl0, xl1, xl2, xl3⟩ = 0 := (chkE_yes hq).symm
      rw [hz] at HK
      by_cases hx : xc = 0
      · have t1 : (xc == 0) = true := by simp [hx]
        have HQ := Lib.hid (show okC ⟨xn, xp, ⟨xe, xd, xl0, xl1, xl2, xl3⟩, xc⟩ = false by simp [okC, hx])
        clear hq hz hx
        go_wp2_with fail
        refine HK.out.mono ?_
        rintro e w3 ⟨rfl, hg3⟩
        have hgr : Ge wr w3 := by rw [hg3]; exact (Ge.refl _).alloc _
        have G3 := Lib.hid (HG.out.trans hgr)
        have y8 := (hgr.cell (p := ⟨b1, o1 + m * 9 + 8, none⟩) hlb).trans x8
        have RES := Lib.hid (show goodC xs = false by unfold goodC; rw [all_not HMX.out HQ.out, Bool.and_false])
        clear hg3 hgr x0 x1 x2 x3 x4 x5 x6 x7 x8
        go_wp2
        go_returns
        exact ⟨by rw [RES.out]; rfl, G3.out⟩
      · have t1 : (xc == 0) = false := by simpa using hx
        have HQ := Lib.hid (show okC ⟨xn, xp, ⟨xe, xd, xl0, xl1, xl2, xl3⟩, xc⟩ = true by simp [okC, hx, hq])
        clear hq hz hx
        go_wp2_with fail
        refine HK.out.mono ?_
        rintro e w3 ⟨rfl, hg3⟩
        have hgr : Ge wr w3 := by rw [hg3]; exact (Ge.refl _).alloc _
        have G3 := Lib.hid (HG.out.trans hgr)
        have y8 := (hgr.cell (p := ⟨b1, o1 + m * 9 + 8, none⟩) hlb).trans x8
        clear hg3 hgr x0 x1 x2 x3 x4 x5 x6 x7 x8
        go_wp2
        go_roundw
        case rel => exact ⟨m + 1, by omega, by go_num, all_next HT.out HMX.out HQ.out, G3.out⟩
        case measure => simp [intOf]; omega
    · have hml : m = xs.length := by omega
      have HA := Lib.hid (show xs.all okC = true by
        have := HT.out
        rw [hml, List.take_length] at this
        exact this)
      have hdm : decide ((m : Int) < (xs.length : Int)) = false := by simp; omega
      clear hml hgw
      by_cases h1 : 1 ≤ xs.length
      rotate_left
      · have RES := Lib.hid (show goodC xs = false by unfold goodC; rw [decide_eq_false h1]; rfl)
        have u1 : decide ((1 : Int) ≤ (xs.length : Int)) = false := decide_eq_false (by omega)
        clear h1
        go_wp2
        go_returns
        exact ⟨by rw [RES.out]; rfl, HG.out⟩
      have u1 : decide ((1 : Int) ≤ (xs.length : Int)) = true := decide_eq_true (by omega)
      by_cases h2 : xs.length ≤ 512
      rotate_left
      · have RES := Lib.hid (show goodC xs = false by unfold goodC; rw [decide_eq_false h2, Bool.and_false]; rfl)
        have u2 : decide ((xs.length : Int) ≤ 512) = false := decide_eq_false (by omega)
        clear h1 h2
        go_wp2
        go_returns
        exact ⟨by rw [RES.out]; rfl, HG.out⟩
      have RES := Lib.hid (show goodC xs = true by unfold goodC; rw [decide_eq_true h1, decide_eq_true h2, HA.out]; rfl)
      have u2 : decide ((xs.length : Int) ≤ 512) = true := decide_eq_true (by omega)
      clear h1 h2
      go_wp2
      go_returns
      exact ⟨by rw [RES.out]; rfl, HG.out⟩
end Go.Proofs.YtmhibpmgnicolaaDoor
