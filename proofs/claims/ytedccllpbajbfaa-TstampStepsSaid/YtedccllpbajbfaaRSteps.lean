/-
  The reference's Enter, Leave, Next; Base and its reference.
-/
import Derived.Test.YtedccllpbajbfaaCheck
import Derived.Test.YtedccllpbajbfaaPlainB
import Derived.Lib.Hide
namespace Go.Proofs.Ytedccllpbajbfaa
open Go.RowKit

set_option maxHeartbeats 1000000 in
theorem renter_any (t : Tm) (w : World) :
    Calls Try.prog 25 #[.agg #[.int .i64 t.e, .int .i64 t.d, .int .i64 t.l0, .int .i64 t.l1, .int .i64 t.l2, .int .i64 t.l3]] w fun e w' =>
      e = .returned (.tuple #[.agg #[.int .i64 (enterT t).e, .int .i64 (enterT t).d, .int .i64 (enterT t).l0, .int .i64 (enterT t).l1, .int .i64 (enterT t).l2, .int .i64 (enterT t).l3], .int .i64 (enterE t)]) ∧ Below w.heap.size w w' := by
  by_cases hc : Chk t
  · have H := Lib.hid (rcheck_yes hc)
    have HH := Lib.hid hc
    have hd0 := hc.2.2.1
    have hd4 := hc.2.2.2.1
    clear hc
    by_cases hd : t.d = 4
    · have hd' : (t.d == 4) = true := by simp [hd]
      have HD := Lib.hid hd
      clear hd
      go_enter Try.func25, Try.ntmps25
      go_wp2_with fail
      refine (H.out _).mono ?_
      rintro e w1 ⟨rfl, rfl⟩
      go_wp2
      go_returns
      exact ⟨by simp [enterT, enterE, HH.out, HD.out, tz], by go_grown⟩
    · have hd' : (t.d == 4) = false := by simp [hd]
      have HD := Lib.hid hd
      clear hd
      go_enter Try.func25, Try.ntmps25
      go_wp2_with fail
      refine (H.out _).mono ?_
      rintro e w1 ⟨rfl, rfl⟩
      go_wp2
      go_returns
      exact ⟨by simp [enterT, enterE, HH.out, HD.out], by go_grown⟩
  · have H := Lib.hid (rcheck_no hc)
    have HH := Lib.hid hc
    clear hc
    go_enter Try.func25, Try.ntmps25
    go_wp2_with fail
    refine (H.out _).mono ?_
    rintro e w1 ⟨rfl, rfl⟩
    go_wp2
    go_returns
    exact ⟨by simp [enterT, enterE, HH.out, tz], by go_grown⟩

set_option maxHeartbeats 1000000 in
theorem rleave_any (t : Tm) (w : World) :
    Calls Try.prog 26 #[.agg #[.int .i64 t.e, .int .i64 t.d, .int .i64 t.l0, .int .i64 t.l1, .int .i64 t.l2, .int .i64 t.l3]] w fun e w' =>
      e = .returned (.tuple #[.agg #[.int .i64 (leaveT t).e, .int .i64 (leaveT t).d, .int .i64 (leaveT t).l0, .int .i64 (leaveT t).l1, .int .i64 (leaveT t).l2, .int .i64 (leaveT t).l3], .int .i64 (leaveE t)]) ∧ Below w.heap.size w w' := by
  by_cases hc : Chk t
  · have H := Lib.hid (rcheck_yes hc)
    have HH := Lib.hid hc
    have hd : t.d = 0 ∨ t.d = 1 ∨ t.d = 2 ∨ t.d = 3 ∨ t.d = 4 := by
      have hd0 := hc.2.2.1
      have hd4 := hc.2.2.2.1
      omega
    clear hc
    obtain ⟨e, d, l0, l1, l2, l3⟩ := t
    dsimp only at *
    rcases hd with rfl | rfl | rfl | rfl | rfl
    all_goals
      go_enter Try.func26, Try.ntmps26
      go_wp2_with fail
      refine (H.out _).mono ?_
      rintro e w1 ⟨rfl, rfl⟩
      go_wp2
      go_returns
      exact ⟨by simp [leaveT, leaveE, HH.out, tz, Tm.setAt], by go_grown⟩
  · have H := Lib.hid (rcheck_no hc)
    have HH := Lib.hid hc
    clear hc
    go_enter Try.func26, Try.ntmps26
    go_wp2_with fail
    refine (H.out _).mono ?_
    rintro e w1 ⟨rfl, rfl⟩
    go_wp2
    go_returns
    exact ⟨by simp [leaveT, leaveE, HH.out, tz], by go_grown⟩

set_option maxHeartbeats 2000000 in
theorem rnext_any (t : Tm) (w : World) :
    Calls Try.prog 27 #[.agg #[.int .i64 t.e, .int .i64 t.d, .int .i64 t.l0, .int .i64 t.l1, .int .i64 t.l2, .int .i64 t.l3]] w fun e w' =>
      e = .returned (.tuple #[.agg #[.int .i64 (nextT t).e, .int .i64 (nextT t).d, .int .i64 (nextT t).l0, .int .i64 (nextT t).l1, .int .i64 (nextT t).l2, .int .i64 (nextT t).l3], .int .i64 (nextE t)]) ∧ Below w.heap.size w w' := by
  by_cases hc : Chk t
  · have H := Lib.hid (rcheck_yes hc)
    have HH := Lib.hid hc
    have hd : t.d = 0 ∨ t.d = 1 ∨ t.d = 2 ∨ t.d = 3 ∨ t.d = 4 := by
      have hd0 := hc.2.2.1
      have hd4 := hc.2.2.2.1
      omega
    obtain ⟨e, d, l0, l1, l2, l3⟩ := t
    obtain ⟨he0, he1, -, -, ⟨h00, h01, -⟩, ⟨h10, h11, -⟩, ⟨h20, h21, -⟩, h30, h31, -⟩ := hc
    dsimp only at *
    rcases hd with rfl | rfl | rfl | rfl | rfl
    · by_cases hm : e = 1073741824
      · have hb : (e == 1073741824) = true := by simp [hm]
        have HM := Lib.hid hm
        clear hm
        go_enter Try.func27, Try.ntmps27
        go_wp2_with fail
        refine (H.out _).mono ?_
        rintro ee w1 ⟨rfl, rfl⟩
        go_wp2
        go_returns
        have hn : nextE ⟨e, 0, l0, l1, l2, l3⟩ = 12 := by unfold nextE; rw [if_pos HH.out]; simp [HM.out]
        have ht := nextT_no hn
        exact ⟨by rw [ht, hn]; rfl, by go_grown⟩
      · have hb : (e == 1073741824) = false := by simp [hm]
        have HM := Lib.hid hm
        clear hm
        go_enter Try.func27, Try.ntmps27
        go_wp2_with fail
        refine (H.out _).mono ?_
        rintro ee w1 ⟨rfl, rfl⟩
        go_wp2
        go_returns
        have hn : nextE ⟨e, 0, l0, l1, l2, l3⟩ = 0 := by unfold nextE; rw [if_pos HH.out]; simp [HM.out]
        have ht := nextT_yes hn
        exact ⟨by rw [ht, hn]; simp, by go_grown⟩
    · by_cases hm : l0 = 1048576
      · have hb : (l0 == 1048576) = true := by simp [hm]
        have HM := Lib.hid hm
        clear hm
        go_enter Try.func27, Try.ntmps27
        go_wp2_with fail
        refine (H.out _).mono ?_
        rintro ee w1 ⟨rfl, rfl⟩
        go_wp2
        go_returns
        have hn : nextE ⟨e, 1, l0, l1, l2, l3⟩ = 12 := by unfold nextE; rw [if_pos HH.out]; simp [HM.out, Tm.at]
        have ht := nextT_no hn
        exact ⟨by rw [ht, hn]; rfl, by go_grown⟩
      · have hb : (l0 == 1048576) = false := by simp [hm]
        have HM := Lib.hid hm
        clear hm
        go_enter Try.func27, Try.ntmps27
        go_wp2_with fail
        refine (H.out _).mono ?_
        rintro ee w1 ⟨rfl, rfl⟩
        go_wp2
        go_returns
        have hn : nextE ⟨e, 1, l0, l1, l2, l3⟩ = 0 := by unfold nextE; rw [if_pos HH.out]; simp [HM.out, Tm.at]
        have ht := nextT_yes hn
        exact ⟨by rw [ht, hn]; simp [Tm.at, Tm.setAt], by go_grown⟩
    · by_cases hm : l1 = 1048576
      · have hb : (l1 == 1048576) = true := by simp [hm]
        have HM := Lib.hid hm
        clear hm
        go_enter Try.func27, Try.ntmps27
        go_wp2_with fail
        refine (H.out _).mono ?_
        rintro ee w1 ⟨rfl, rfl⟩
        go_wp2
        go_returns
        have hn : nextE ⟨e, 2, l0, l1, l2, l3⟩ = 12 := by unfold nextE; rw [if_pos HH.out]; simp [HM.out, Tm.at]
        have ht := nextT_no hn
        exact ⟨by rw [ht, hn]; rfl, by go_grown⟩
      · have hb : (l1 == 1048576) = false := by simp [hm]
        have HM := Lib.hid hm
        clear hm
        go_enter Try.func27, Try.ntmps27
        go_wp2_with fail
        refine (H.out _).mono ?_
        rintro ee w1 ⟨rfl, rfl⟩
        go_wp2
        go_returns
        have hn : nextE ⟨e, 2, l0, l1, l2, l3⟩ = 0 := by unfold nextE; rw [if_pos HH.out]; simp [HM.out, Tm.at]
        have ht := nextT_yes hn
        exact ⟨by rw [ht, hn]; simp [Tm.at, Tm.setAt], by go_grown⟩
    · by_cases hm : l2 = 1048576
      · have hb : (l2 == 1048576) = true := by simp [hm]
        have HM := Lib.hid hm
        clear hm
        go_enter Try.func27, Try.ntmps27
        go_wp2_with fail
        refine (H.out _).mono ?_
        rintro ee w1 ⟨rfl, rfl⟩
        go_wp2
        go_returns
        have hn : nextE ⟨e, 3, l0, l1, l2, l3⟩ = 12 := by unfold nextE; rw [if_pos HH.out]; simp [HM.out, Tm.at]
        have ht := nextT_no hn
        exact ⟨by rw [ht, hn]; rfl, by go_grown⟩
      · have hb : (l2 == 1048576) = false := by simp [hm]
        have HM := Lib.hid hm
        clear hm
        go_enter Try.func27, Try.ntmps27
        go_wp2_with fail
        refine (H.out _).mono ?_
        rintro ee w1 ⟨rfl, rfl⟩
        go_wp2
        go_returns
        have hn : nextE ⟨e, 3, l0, l1, l2, l3⟩ = 0 := by unfold nextE; rw [if_pos HH.out]; simp [HM.out, Tm.at]
        have ht := nextT_yes hn
        exact ⟨by rw [ht, hn]; simp [Tm.at, Tm.setAt], by go_grown⟩
    · by_cases hm : l3 = 1048576
      · have hb : (l3 == 1048576) = true := by simp [hm]
        have HM := Lib.hid hm
        clear hm
        go_enter Try.func27, Try.ntmps27
        go_wp2_with fail
        refine (H.out _).mono ?_
        rintro ee w1 ⟨rfl, rfl⟩
        go_wp2
        go_returns
        have hn : nextE ⟨e, 4, l0, l1, l2, l3⟩ = 12 := by unfold nextE; rw [if_pos HH.out]; simp [HM.out, Tm.at]
        have ht := nextT_no hn
        exact ⟨by rw [ht, hn]; rfl, by go_grown⟩
      · have hb : (l3 == 1048576) = false := by simp [hm]
        have HM := Lib.hid hm
        clear hm
        go_enter Try.func27, Try.ntmps27
        go_wp2_with fail
        refine (H.out _).mono ?_
        rintro ee w1 ⟨rfl, rfl⟩
        go_wp2
        go_returns
        have hn : nextE ⟨e, 4, l0, l1, l2, l3⟩ = 0 := by unfold nextE; rw [if_pos HH.out]; simp [HM.out, Tm.at]
        have ht := nextT_yes hn
        exact ⟨by rw [ht, hn]; simp [Tm.at, Tm.setAt], by go_grown⟩
  · have H := Lib.hid (rcheck_no hc)
    have HH := Lib.hid hc
    clear hc
    go_enter Try.func27, Try.ntmps27
    go_wp2_with fail
    refine (H.out _).mono ?_
    rintro ee w1 ⟨rfl, rfl⟩
    go_wp2
    go_returns
    exact ⟨by simp [nextT, nextE, HH.out, tz], by go_grown⟩
def baseT (t : Tm) : Tm := if Chk t then ⟨t.e, 0, 0, 0, 0, 0⟩ else tz

set_option maxHeartbeats 1000000 in
theorem base_any (t : Tm) (w : World) :
    Calls Try.prog 31 #[.agg #[.int .i64 t.e, .int .i64 t.d, .int .i64 t.l0, .int .i64 t.l1, .int .i64 t.l2, .int .i64 t.l3]] w fun e w' =>
      e = .returned (.agg #[.int .i64 (baseT t).e, .int .i64 (baseT t).d, .int .i64 (baseT t).l0, .int .i64 (baseT t).l1, .int .i64 (baseT t).l2, .int .i64 (baseT t).l3]) ∧ Below w.heap.size w w' := by
  by_cases hc : Chk t
  · have H := Lib.hid (check_yes hc)
    have HH := Lib.hid hc
    clear hc
    go_enter Try.func31, Try.ntmps31
    go_wp2_with fail
    refine (H.out _).mono ?_
    rintro e w1 ⟨rfl, rfl⟩
    go_wp2
    go_returns
    exact ⟨by simp [baseT, HH.out], by go_grown⟩
  · have H := Lib.hid (check_no hc)
    have HH := Lib.hid hc
    clear hc
    go_enter Try.func31, Try.ntmps31
    go_wp2_with fail
    refine (H.out _).mono ?_
    rintro e w1 ⟨rfl, rfl⟩
    go_wp2
    go_returns
    exact ⟨by simp [baseT, HH.out, tz], by go_grown⟩

set_option maxHeartbeats 1000000 in
theorem rbase_any (t : Tm) (w : World) :
    Calls Try.prog 32 #[.agg #[.int .i64 t.e, .int .i64 t.d, .int .i64 t.l0, .int .i64 t.l1, .int .i64 t.l2, .int .i64 t.l3]] w fun e w' =>
      e = .returned (.agg #[.int .i64 (baseT t).e, .int .i64 (baseT t).d, .int .i64 (baseT t).l0, .int .i64 (baseT t).l1, .int .i64 (baseT t).l2, .int .i64 (baseT t).l3]) ∧ Below w.heap.size w w' := by
  by_cases hc : Chk t
  · have H := Lib.hid (rcheck_yes hc)
    have HH := Lib.hid hc
    clear hc
    go_enter Try.func32, Try.ntmps32
    go_wp2_with fail
    refine (H.out _).mono ?_
    rintro e w1 ⟨rfl, rfl⟩
    go_wp2
    go_returns
    exact ⟨by simp [baseT, HH.out], by go_grown⟩
  · have H := Lib.hid (rcheck_no hc)
    have HH := Lib.hid hc
    clear hc
    go_enter Try.func32, Try.ntmps32
    go_wp2_with fail
    refine (H.out _).mono ?_
    rintro e w1 ⟨rfl, rfl⟩
    go_wp2
    go_returns
    exact ⟨by simp [baseT, HH.out, tz], by go_grown⟩
end Go.Proofs.Ytedccllpbajbfaa
