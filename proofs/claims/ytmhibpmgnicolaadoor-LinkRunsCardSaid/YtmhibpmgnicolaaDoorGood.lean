/-
  Which records, which changes may go in a message: the program's, the reference's.
-/
import Derived.Test.YtmhibpmgnicolaaDoorValid
import Derived.Test.YtmhibpmgnicolaaDoorMsg
import Derived.Test.YtmhibpmgnicolaaDoorDraw
namespace Go.Proofs.YtmhibpmgnicolaaDoor
open Go.RowKit
attribute [local go_sem] Dr.upT

def okR (r : Rc) : Bool := okB r.2
def okC (c : Chg) : Bool := !(c.c == 0) && decide (Chk c.t)
def goodR (rs : List Rc) : Bool := decide (1 ≤ rs.length) && decide (rs.length ≤ 64) && rs.all okR
def goodC (cs : List Chg) : Bool := decide (1 ≤ cs.length) && decide (cs.length ≤ 512) && cs.all okC
theorem chkV_ne (s : ByteArray) : ((chkV s != 0) = true) = (okB s = false) := by
  unfold chkV
  cases okB s <;> simp
theorem chkE_ne (t : Tm) : ((chkE t != 0) = true) = (decide (Chk t) = false) := by
  unfold chkE
  by_cases h : Chk t <;> simp [h]
theorem all_next {α : Type} {p : α → Bool} {xs : List α} {k : Nat} {x : α} (h : (xs.take k).all p = true) (hx : xs[k]? = some x) (hp : p x = true) : (xs.take (k + 1)).all p = true := by
  obtain ⟨h1, rfl⟩ := List.getElem?_eq_some_iff.1 hx
  rw [List.take_succ_eq_append_getElem h1, List.all_append, h]
  simp [hp]
theorem all_not {α : Type} {p : α → Bool} {xs : List α} {k : Nat} {x : α} (hx : xs[k]? = some x) (hp : p x = false) : xs.all p = false := by
  rw [List.all_eq_false]
  exact ⟨x, List.mem_of_getElem? hx, by simp [hp]⟩

set_option maxHeartbeats 4000000 in
theorem clo73 {w : World} (hT : Tabs w) (r : Rc) : Calls Tryd.prog 73 #[.agg (encR r).toArray] w fun e w' => e = .returned (.bool (!okR r)) ∧ Ge w w' := by
  obtain ⟨n, s⟩ := r
  have HK := Lib.hid (check_any (hT.ge ((Ge.refl w).alloc (.cells #[.int .i64 n, .string s] 80))) n s)
  have e : okR (n, s) = okB s := rfl
  rw [e]
  simp only [encR]
  cases hq : okB s with
  | true =>
    have hz : chkV s = 0 := by unfold chkV; rw [hq]; rfl
    rw [hz] at HK
    clear hq hz
    go_enter Tryd.func73, Tryd.ntmps73
    go_wp2_with fail
    refine HK.out.mono ?_
    rintro e w1 ⟨rfl, hg⟩
    have G := Lib.hid (((Ge.refl w).alloc _).trans hg)
    clear hg
    go_wp2
    go_returns
    exact ⟨rfl, G.out⟩
  | false =>
    have hz : chkV s = 50 := by unfold chkV; rw [hq]; rfl
    rw [hz] at HK
    clear hq hz
    go_enter Tryd.func73, Tryd.ntmps73
    go_wp2_with fail
    refine HK.out.mono ?_
    rintro e w1 ⟨rfl, hg⟩
    have G := Lib.hid (((Ge.refl w).alloc _).trans hg)
    clear hg
    go_wp2
    go_returns
    exact ⟨rfl, G.out⟩

set_option maxHeartbeats 4000000 in
theorem clo76 {w : World} (c : Chg) : Calls Tryd.prog 76 #[.agg (encC c).toArray] w fun e w' => e = .returned (.bool (!okC c)) ∧ Ge w w' := by
  obtain ⟨n, p, t, x⟩ := c
  have HK := Lib.hid (tcheck_any t)
  simp only [encC, okC]
  by_cases hx : x = 0
  · have t1 : (x == 0) = true := by simp [hx]
    rw [t1]
    clear hx
    go_enter Tryd.func76, Tryd.ntmps76
    go_wp2
    go_returns
    exact ⟨rfl, (Ge.refl w).alloc _⟩
  have t1 : (x == 0) = false := by simpa using hx
  rw [t1]
  clear hx
  by_cases hq : Chk t
  · have hz : chkE t = 0 := (chkE_yes hq).symm
    rw [hz] at HK
    rw [decide_eq_true hq]
    clear hq hz
    go_enter Tryd.func76, Tryd.ntmps76
    go_wp2_with fail
    refine (HK.out _).mono ?_
    rintro e w1 ⟨rfl, hg⟩
    have G := Lib.hid (show Ge w w1 by rw [hg]; exact ((Ge.refl w).alloc _).alloc _)
    clear hg
    go_wp2
    go_returns
    exact ⟨rfl, G.out⟩
  · have hz : chkE t = 10 := (chkE_no hq).symm
    rw [hz] at HK
    rw [decide_eq_false hq]
    clear hq hz
    go_enter Tryd.func76, Tryd.ntmps76
    go_wp2_with fail
    refine (HK.out _).mono ?_
    rintro e w1 ⟨rfl, hg⟩
    have G := Lib.hid (show Ge w w1 by rw [hg]; exact ((Ge.refl w).alloc _).alloc _)
    clear hg
    go_wp2
    go_returns
    exact ⟨rfl, G.out⟩

set_option maxRecDepth 100000 in
set_option maxHeartbeats 8000000 in
theorem indexR {B : Nat} {w : World} {v : Value} {xs : List Rc} (hT : Tabs w) (h : LAt eR B w v xs) (hl : xs.length ≤ 1000000) :
    Calls Tryd.prog 78 #[v, .func (.func 73) #[] #[]] w fun e w' => ∃ q : Bool, ∃ z : Int, e = .returned (.int .i64 z) ∧ q = xs.all okR ∧ decide (0 ≤ z) = !q ∧ Ge w w' := by
  obtain ⟨A, ca, rfl, hlea, hca⟩ := h
  have HCA := Lib.hid hca
  have HTT := Lib.hid hT
  clear hca hT
  go_enter Tryd.func78, Tryd.ntmps78
  go_wp2
  go_loopw [8] (fun i wr => ∃ m : Nat, m ≤ xs.length ∧ i = .int .i64 (m : Int) ∧ (xs.take m).all okR = true ∧ Ge w wr) (fun i _ => xs.length - (intOf i).toNat)
  case atStart => exact ⟨0, by omega, rfl, rfl, Ge.refl _⟩
  case round =>
    obtain ⟨m, hm, rfl, htk, hgw⟩ := hrel
    have HT := Lib.hid htk
    have HG := Lib.hid hgw
    clear htk
    by_cases hlt : m < xs.length
    · obtain ⟨b1, o1, rfl, hb1, hc1⟩ := HCA.out (fun e => absurd (show xs.length = 0 from by rw [e]; rfl) (by omega))
      obtain ⟨x, hmx⟩ : ∃ x, xs[m]? = some x := ⟨_, List.getElem?_eq_getElem hlt⟩
      have HMX := Lib.hid hmx
      obtain ⟨xn, xs1⟩ := x
      have x0 := ((hgw.kp B).cell hb1 _).trans (hc1 m _ hmx 0 _ rfl)
      have x1 := ((hgw.kp B).cell hb1 _).trans (hc1 m _ hmx 1 _ rfl)
      simp only [eR, Nat.add_zero] at x0 x1
      have HCL := Lib.hid (clo73 (HTT.out.ge (HG.out)) (⟨xn, xs1⟩ : Rc))
      simp only [encR] at HCL
      have i1 : (0 : Int) ≤ (m : Int) := by omega
      have i2 : (m : Int) < (xs.length : Int) := by omega
      clear hc1 hmx hgw hb1
      rcases hq : okR ⟨xn, xs1⟩ with _ | _
      all_goals
        have HQ := Lib.hid hq
        rw [hq] at HCL
        clear hq
        go_wp2_with fail
        refine HCL.out.mono ?_
        rintro e w3 ⟨rfl, hg3⟩
        have G3 := Lib.hid (HG.out.trans hg3)
        clear hg3 x0 x1
        go_wp2
      · go_returns
        exact ⟨false, _, rfl, (all_not HMX.out HQ.out).symm, decide_eq_true (by omega), G3.out⟩
      · go_roundw
        case rel => exact ⟨m + 1, by omega, by go_num, all_next HT.out HMX.out HQ.out, G3.out⟩
        case measure => simp [intOf]; omega
    · have hml : m = xs.length := by omega
      have HA := Lib.hid (show xs.all okR = true by
        have := HT.out
        rw [hml, List.take_length] at this
        exact this)
      have hdm : decide ((m : Int) < (xs.length : Int)) = false := by simp; omega
      clear hml hgw
      go_wp2
      go_returns
      exact ⟨true, _, rfl, HA.out.symm, rfl, HG.out⟩

set_option maxRecDepth 100000 in
set_option maxHeartbeats 8000000 in
theorem containsR {B : Nat} {w : World} {v : Value} {xs : List Rc} (hT : Tabs w) (h : LAt eR B w v xs) (hl : xs.length ≤ 1000000) :
    Calls Tryd.prog 72 #[v, .func (.func 73) #[] #[]] w fun e w' => e = .returned (.bool (!xs.all okR)) ∧ Ge w w' := by
  have HI := Lib.hid (indexR hT h hl)
  clear hT h
  generalize hq : xs.all okR = q at *
  clear hq
  go_enter Tryd.func72, Tryd.ntmps72
  go_wp2_with fail
  refine HI.out.mono ?_
  rintro e w1 ⟨q', z, rfl, rfl, hz, hg⟩
  have G := Lib.hid hg
  clear hg
  go_wp2
  go_returns
  exact ⟨rfl, G.out⟩

set_option maxRecDepth 100000 in
set_option maxHeartbeats 8000000 in
theorem goodsR {B : Nat} {w : World} {v : Value} {xs : List Rc} (hT : Tabs w) (h : LAt eR B w v xs) (hl : xs.length ≤ 1000000) :
    Calls Tryd.prog 65 #[v] w fun e w' => e = .returned (.bool (goodR xs)) ∧ Ge w w' := by
  have HI := Lib.hid (containsR hT h hl)
  obtain ⟨A, ca, rfl⟩ := h.form
  clear hT h
  unfold goodR
  generalize xs.all okR = q at *
  by_cases h1 : 1 ≤ xs.length
  rotate_left
  · have t1 : decide (1 ≤ xs.length) = false := decide_eq_false h1
    rw [t1]
    have u1 : decide ((1 : Int) ≤ (xs.length : Int)) = false := decide_eq_false (by omega)
    clear h1
    go_enter Tryd.func65, Tryd.ntmps65
    go_wp2
    go_returns
    exact ⟨rfl, Ge.refl _⟩
  have t1 : decide (1 ≤ xs.length) = true := decide_eq_true h1
  rw [t1]
  have u1 : decide ((1 : Int) ≤ (xs.length : Int)) = true := decide_eq_true (by omega)
  by_cases h2 : xs.length ≤ 64
  rotate_left
  · have t2 : decide (xs.length ≤ 64) = false := decide_eq_false h2
    rw [t2]
    have u2 : decide ((xs.length : Int) ≤ 64) = false := decide_eq_false (by omega)
    clear h1 h2
    go_enter Tryd.func65, Tryd.ntmps65
    go_wp2
    go_returns
    exact ⟨rfl, Ge.refl _⟩
  have t2 : decide (xs.length ≤ 64) = true := decide_eq_true h2
  rw [t2]
  have u2 : decide ((xs.length : Int) ≤ 64) = true := decide_eq_true (by omega)
  clear h1 h2
  cases q
  all_goals
    go_enter Tryd.func65, Tryd.ntmps65
    go_wp2_with fail
    refine HI.out.mono ?_
    rintro e w1 ⟨rfl, hg⟩
    have G := Lib.hid hg
    clear hg
    go_wp2
    go_returns
    exact ⟨rfl, G.out⟩

set_option maxRecDepth 100000 in
set_option maxHeartbeats 8000000 in
theorem indexC {B : Nat} {w : World} {v : Value} {xs : List Chg} (h : LAt eC B w v xs) (hl : xs.length ≤ 1000000) :
    Calls Tryd.prog 80 #[v, .func (.func 76) #[] #[]] w fun e w' => ∃ q : Bool, ∃ z : Int, e = .returned (.int .i64 z) ∧ q = xs.all okC ∧ decide (0 ≤ z) = !q ∧ Ge w w' := by
  obtain ⟨A, ca, rfl, hlea, hca⟩ := h
  have HCA := Lib.hid hca
  clear hca
  go_enter Tryd.func80, Tryd.ntmps80
  go_wp2
  go_loopw [8] (fun i wr => ∃ m : Nat, m ≤ xs.length ∧ i = .int .i64 (m : Int) ∧ (xs.take m).all okC = true ∧ Ge w wr) (fun i _ => xs.length - (intOf i).toNat)
  case atStart => exact ⟨0, by omega, rfl, rfl, Ge.refl _⟩
  case round =>
    obtain ⟨m, hm, rfl, htk, hgw⟩ := hrel
    have HT := Lib.hid htk
    have HG := Lib.hid hgw
    clear htk
    by_cases hlt : m < xs.length
    · obtain ⟨b1, o1, rfl, hb1, hc1⟩ := HCA.out (fun e => absurd (show xs.length = 0 from by rw [e]; rfl) (by omega))
      obtain ⟨x, hmx⟩ : ∃ x, xs[m]? = some x := ⟨_, List.getElem?_eq_getElem hlt⟩
      have HMX := Lib.hid hmx
      obtain ⟨xn, xp, ⟨xe, xd, xl0, xl1, xl2, xl3⟩, xc⟩ := x
      have x0 := ((hgw.kp B).cell hb1 _).trans (hc1 m _ hmx 0 _ rfl)
      have x1 := ((hgw.kp B).cell hb1 _).trans (hc1 m _ hmx 1 _ rfl)
      have x2 := ((hgw.kp B).cell hb1 _).trans (hc1 m _ hmx 2 _ rfl)
      have x3 := ((hgw.kp B).cell hb1 _).trans (hc1 m _ hmx 3 _ rfl)
      have x4 := ((hgw.kp B).cell hb1 _).trans (hc1 m _ hmx 4 _ rfl)
      have x5 := ((hgw.kp B).cell hb1 _).trans (hc1 m _ hmx 5 _ rfl)
      have x6 := ((hgw.kp B).cell hb1 _).trans (hc1 m _ hmx 6 _ rfl)
      have x7 := ((hgw.kp B).cell hb1 _).trans (hc1 m _ hmx 7 _ rfl)
      have x8 := ((hgw.kp B).cell hb1 _).trans (hc1 m _ hmx 8 _ rfl)
      simp only [eC, Nat.add_zero] at x0 x1 x2 x3 x4 x5 x6 x7 x8
      have HCL := Lib.hid (clo76 (w := wr) (⟨xn, xp, ⟨xe, xd, xl0, xl1, xl2, xl3⟩, xc⟩ : Chg))
      simp only [encC] at HCL
      have i1 : (0 : Int) ≤ (m : Int) := by omega
      have i2 : (m : Int) < (xs.length : Int) := by omega
      clear hc1 hmx hgw hb1
      rcases hq : okC ⟨xn, xp, ⟨xe, xd, xl0, xl1, xl2, xl3⟩, xc⟩ with _ | _
      all_goals
        have HQ := Lib.hid hq
        rw [hq] at HCL
        clear hq
        go_wp2_with fail
        refine HCL.out.mono ?_
        rintro e w3 ⟨rfl, hg3⟩
        have G3 := Lib.hid (HG.out.trans hg3)
        clear hg3 x0 x1 x2 x3 x4 x5 x6 x7 x8
        go_wp2
      · go_returns
        exact ⟨false, _, rfl, (all_not HMX.out HQ.out).symm, decide_eq_true (by omega), G3.out⟩
      · go_roundw
        case rel => exact ⟨m + 1, by omega, by go_num, all_next HT.out HMX.out HQ.out, G3.out⟩
        case measure => simp [intOf]; omega
    · have hml : m = xs.length := by omega
      have HA := Lib.hid (show xs.all okC = true by
        have := HT.out
        rw [hml, List.take_length] at this
        exact this)
      have hdm : decide ((m : Int) < (xs.length : Int)) = false := by simp; omega
      clear hml hgw
      go_wp2
      go_returns
      exact ⟨true, _, rfl, HA.out.symm, rfl, HG.out⟩

set_option maxRecDepth 100000 in
set_option maxHeartbeats 8000000 in
theorem containsC {B : Nat} {w : World} {v : Value} {xs : List Chg} (h : LAt eC B w v xs) (hl : xs.length ≤ 1000000) :
    Calls Tryd.prog 75 #[v, .func (.func 76) #[] #[]] w fun e w' => e = .returned (.bool (!xs.all okC)) ∧ Ge w w' := by
  have HI := Lib.hid (indexC h hl)
  clear h
  generalize hq : xs.all okC = q at *
  clear hq
  go_enter Tryd.func75, Tryd.ntmps75
  go_wp2_with fail
  refine HI.out.mono ?_
  rintro e w1 ⟨q', z, rfl, rfl, hz, hg⟩
  have G := Lib.hid hg
  clear hg
  go_wp2
  go_returns
  exact ⟨rfl, G.out⟩

set_option maxRecDepth 100000 in
set_option maxHeartbeats 8000000 in
theorem goodsC {B : Nat} {w : World} {v : Value} {xs : List Chg} (h : LAt eC B w v xs) (hl : xs.length ≤ 1000000) :
    Calls Tryd.prog 66 #[v] w fun e w' => e = .returned (.bool (goodC xs)) ∧ Ge w w' := by
  have HI := Lib.hid (containsC h hl)
  obtain ⟨A, ca, rfl⟩ := h.form
  clear h
  unfold goodC
  generalize xs.all okC = q at *
  by_cases h1 : 1 ≤ xs.length
  rotate_left
  · have t1 : decide (1 ≤ xs.length) = false := decide_eq_false h1
    rw [t1]
    have u1 : decide ((1 : Int) ≤ (xs.length : Int)) = false := decide_eq_false (by omega)
    clear h1
    go_enter Tryd.func66, Tryd.ntmps66
    go_wp2
    go_returns
    exact ⟨rfl, Ge.refl _⟩
  have t1 : decide (1 ≤ xs.length) = true := decide_eq_true h1
  rw [t1]
  have u1 : decide ((1 : Int) ≤ (xs.length : Int)) = true := decide_eq_true (by omega)
  by_cases h2 : xs.length ≤ 512
  rotate_left
  · have t2 : decide (xs.length ≤ 512) = false := decide_eq_false h2
    rw [t2]
    have u2 : decide ((xs.length : Int) ≤ 512) = false := decide_eq_false (by omega)
    clear h1 h2
    go_enter Tryd.func66, Tryd.ntmps66
    go_wp2
    go_returns
    exact ⟨rfl, Ge.refl _⟩
  have t2 : decide (xs.length ≤ 512) = true := decide_eq_true h2
  rw [t2]
  have u2 : decide ((xs.length : Int) ≤ 512) = true := decide_eq_true (by omega)
  clear h1 h2
  cases q
  all_goals
    go_enter Tryd.func66, Tryd.ntmps66
    go_wp2_with fail
    refine HI.out.mono ?_
    rintro e w1 ⟨rfl, hg⟩
    have G := Lib.hid hg
    clear hg
    go_wp2
    go_returns
    exact ⟨rfl, G.out⟩
end Go.Proofs.YtmhibpmgnicolaaDoor
