/-
  Enter, Leave, Next: one loop more, one less, once more.
-/
import Derived.Test.YtedccllpbajbfaaCheck
import Derived.Test.YtedccllpbajbfaaPlainB
import Derived.Lib.Hide
namespace Go.Proofs.Ytedccllpbajbfaa
open Go.RowKit

theorem bcell {W w1 : World} (hb : Below W.heap.size W w1) : (∀ b o, b < W.heap.size → w1.cell? ⟨b, o, none⟩ = W.cell? ⟨b, o, none⟩) ∧ (∀ b o, b < W.heap.size → w1.frozen? ⟨b, o, none⟩ = W.frozen? ⟨b, o, none⟩) :=
  ⟨fun b o h => hb.cell (p := ⟨b, o, none⟩) h, fun b o h => hb.frozen (p := ⟨b, o, none⟩) h⟩

set_option maxHeartbeats 1000000 in
theorem enter_any (t : Tm) (w : World) :
    Calls Try.prog 11 #[.agg #[.int .i64 t.e, .int .i64 t.d, .int .i64 t.l0, .int .i64 t.l1, .int .i64 t.l2, .int .i64 t.l3]] w fun e w' =>
      e = .returned (.tuple #[.agg #[.int .i64 (enterT t).e, .int .i64 (enterT t).d, .int .i64 (enterT t).l0, .int .i64 (enterT t).l1, .int .i64 (enterT t).l2, .int .i64 (enterT t).l3], .int .i64 (enterE t)]) ∧ Below w.heap.size w w' := by
  by_cases hc : Chk t
  · have H := Lib.hid (check_yes hc)
    have HH := Lib.hid hc
    have hd0 := hc.2.2.1
    have hd4 := hc.2.2.2.1
    clear hc
    by_cases hd : t.d = 4
    · have hd' : (t.d == 4) = true := by simp [hd]
      have HD := Lib.hid hd
      clear hd
      go_enter Try.func11, Try.ntmps11
      go_wp2_with fail
      refine (H.out _).mono ?_
      rintro e w1 ⟨rfl, rfl⟩
      go_wp2
      go_returns
      exact ⟨by simp [enterT, enterE, HH.out, HD.out, tz], by go_grown⟩
    · have hd' : (t.d == 4) = false := by simp [hd]
      have HD := Lib.hid hd
      clear hd
      go_enter Try.func11, Try.ntmps11
      go_wp2_with fail
      refine (H.out _).mono ?_
      rintro e w1 ⟨rfl, rfl⟩
      go_wp2
      go_returns
      exact ⟨by simp [enterT, enterE, HH.out, HD.out], by go_grown⟩
  · have H := Lib.hid (check_no hc)
    have HH := Lib.hid hc
    clear hc
    go_enter Try.func11, Try.ntmps11
    go_wp2_with fail
    refine (H.out _).mono ?_
    rintro e w1 ⟨rfl, rfl⟩
    go_wp2
    go_returns
    exact ⟨by simp [enterT, enterE, HH.out, tz], by go_grown⟩

set_option maxHeartbeats 1000000 in
theorem leave_any (t : Tm) (w : World) :
    Calls Try.prog 12 #[.agg #[.int .i64 t.e, .int .i64 t.d, .int .i64 t.l0, .int .i64 t.l1, .int .i64 t.l2, .int .i64 t.l3]] w fun e w' =>
      e = .returned (.tuple #[.agg #[.int .i64 (leaveT t).e, .int .i64 (leaveT t).d, .int .i64 (leaveT t).l0, .int .i64 (leaveT t).l1, .int .i64 (leaveT t).l2, .int .i64 (leaveT t).l3], .int .i64 (leaveE t)]) ∧ Below w.heap.size w w' := by
  by_cases hc : Chk t
  · have H := Lib.hid (check_yes hc)
    have HH := Lib.hid hc
    have hd : t.d = 0 ∨ t.d = 1 ∨ t.d = 2 ∨ t.d = 3 ∨ t.d = 4 := by
      have hd0 := hc.2.2.1
      have hd4 := hc.2.2.2.1
      omega
    clear hc
    obtain ⟨e, d, l0, l1, l2, l3⟩ := t
    dsimp only at *
    rcases hd with rfl | rfl | rfl | rfl | rfl
    all_goals
      go_enter Try.func12, Try.ntmps12
      go_wp2_with fail
      refine (H.out _).mono ?_
      rintro e w1 ⟨rfl, rfl⟩
      go_wp2
      go_returns
      exact ⟨by simp [leaveT, leaveE, HH.out, tz, Tm.setAt], by go_grown⟩
  · have H := Lib.hid (check_no hc)
    have HH := Lib.hid hc
    clear hc
    go_enter Try.func12, Try.ntmps12
    go_wp2_with fail
    refine (H.out _).mono ?_
    rintro e w1 ⟨rfl, rfl⟩
    go_wp2
    go_returns
    exact ⟨by simp [leaveT, leaveE, HH.out, tz], by go_grown⟩

set_option maxHeartbeats 2000000 in
theorem next_any (t : Tm) (w : World) :
    Calls Try.prog 13 #[.agg #[.int .i64 t.e, .int .i64 t.d, .int .i64 t.l0, .int .i64 t.l1, .int .i64 t.l2, .int .i64 t.l3]] w fun e w' =>
      e = .returned (.tuple #[.agg #[.int .i64 (nextT t).e, .int .i64 (nextT t).d, .int .i64 (nextT t).l0, .int .i64 (nextT t).l1, .int .i64 (nextT t).l2, .int .i64 (nextT t).l3], .int .i64 (nextE t)]) ∧ Below w.heap.size w w' := by
  by_cases hc : Chk t
  · have H := Lib.hid (check_yes hc)
    have HH := Lib.hid hc
    have hd : t.d = 0 ∨ t.d = 1 ∨ t.d = 2 ∨ t.d = 3 ∨ t.d = 4 := by
      have hd0 := hc.2.2.1
      have hd4 := hc.2.2.2.1
      omega
    obtain ⟨e, d, l0, l1, l2, l3⟩ := t
    obtain ⟨he0, he1, -, -, ⟨h00, h01, -⟩, ⟨h10, h11, -⟩, ⟨h20, h21, -⟩, h30, h31, -⟩ := hc
    dsimp only at *
    rcases hd with rfl | rfl | rfl | rfl | rfl
    · by_cases hm : e = 1073741824
      · have hb : (e == 1073741824) = true := by simp [hm]
        have HM := Lib.hid hm
        clear hm
        go_enter Try.func13, Try.ntmps13
        go_wp2_with fail
        refine (H.out _).mono ?_
        rintro ee w1 ⟨rfl, rfl⟩
        go_wp2
        go_returns
        have hn : nextE ⟨e, 0, l0, l1, l2, l3⟩ = 12 := by unfold nextE; rw [if_pos HH.out]; simp [HM.out]
        have ht := nextT_no hn
        exact ⟨by rw [ht, hn]; rfl, by go_grown⟩
      · have hb : (e == 1073741824) = false := by simp [hm]
        have HM := Lib.hid hm
        clear hm
        go_enter Try.func13, Try.ntmps13
        go_wp2_with fail
        refine (H.out _).mono ?_
        rintro ee w1 ⟨rfl, rfl⟩
        go_wp2
        go_returns
        have hn : nextE ⟨e, 0, l0, l1, l2, l3⟩ = 0 := by unfold nextE; rw [if_pos HH.out]; simp [HM.out]
        have ht := nextT_yes hn
        exact ⟨by rw [ht, hn]; simp, by go_grown⟩
    · by_cases hm : l0 = 1048576
      · have hb : (l0 == 1048576) = true := by simp [hm]
        have HM := Lib.hid hm
        clear hm
        go_enter Try.func13, Try.ntmps13
        go_wp2_with fail
        refine (H.out _).mono ?_
        rintro ee w1 ⟨rfl, rfl⟩
        go_wp2
        go_returns
        have hn : nextE ⟨e, 1, l0, l1, l2, l3⟩ = 12 := by unfold nextE; rw [if_pos HH.out]; simp [HM.out, Tm.at]
        have ht := nextT_no hn
        exact ⟨by rw [ht, hn]; rfl, by go_grown⟩
      · have hb : (l0 == 1048576) = false := by simp [hm]
        have HM := Lib.hid hm
        clear hm
        go_enter Try.func13, Try.ntmps13
        go_wp2_with fail
        refine (H.out _).mono ?_
        rintro ee w1 ⟨rfl, rfl⟩
        go_wp2
        go_returns
        have hn : nextE ⟨e, 1, l0, l1, l2, l3⟩ = 0 := by unfold nextE; rw [if_pos HH.out]; simp [HM.out, Tm.at]
        have ht := nextT_yes hn
        exact ⟨by rw [ht, hn]; simp [Tm.at, Tm.setAt], by go_grown⟩
    · by_cases hm : l1 = 1048576
      · have hb : (l1 == 1048576) = true := by simp [hm]
        have HM := Lib.hid hm
        clear hm
        go_enter Try.func13, Try.ntmps13
        go_wp2_with fail
        refine (H.out _).mono ?_
        rintro ee w1 ⟨rfl, rfl⟩
        go_wp2
        go_returns
        have hn : nextE ⟨e, 2, l0, l1, l2, l3⟩ = 12 := by unfold nextE; rw [if_pos HH.out]; simp [HM.out, Tm.at]
        have ht := nextT_no hn
        exact ⟨by rw [ht, hn]; rfl, by go_grown⟩
      · have hb : (l1 == 1048576) = false := by simp [hm]
        have HM := Lib.hid hm
        clear hm
        go_enter Try.func13, Try.ntmps13
        go_wp2_with fail
        refine (H.out _).mono ?_
        rintro ee w1 ⟨rfl, rfl⟩
        go_wp2
        go_returns
        have hn : nextE ⟨e, 2, l0, l1, l2, l3⟩ = 0 := by unfold nextE; rw [if_pos HH.out]; simp [HM.out, Tm.at]
        have ht := nextT_yes hn
        exact ⟨by rw [ht, hn]; simp [Tm.at, Tm.setAt], by go_grown⟩
    · by_cases hm : l2 = 1048576
      · have hb : (l2 == 1048576) = true := by simp [hm]
        have HM := Lib.hid hm
        clear hm
        go_enter Try.func13, Try.ntmps13
        go_wp2_with fail
        refine (H.out _).mono ?_
        rintro ee w1 ⟨rfl, rfl⟩
        go_wp2
        go_returns
        have hn : nextE ⟨e, 3, l0, l1, l2, l3⟩ = 12 := by unfold nextE; rw [if_pos HH.out]; simp [HM.out, Tm.at]
        have ht := nextT_no hn
        exact ⟨by rw [ht, hn]; rfl, by go_grown⟩
      · have hb : (l2 == 1048576) = false := by simp [hm]
        have HM := Lib.hid hm
        clear hm
        go_enter Try.func13, Try.ntmps13
        go_wp2_with fail
        refine (H.out _).mono ?_
        rintro ee w1 ⟨rfl, rfl⟩
        go_wp2
        go_returns
        have hn : nextE ⟨e, 3, l0, l1, l2, l3⟩ = 0 := by unfold nextE; rw [if_pos HH.out]; simp [HM.out, Tm.at]
        have ht := nextT_yes hn
        exact ⟨by rw [ht, hn]; simp [Tm.at, Tm.setAt], by go_grown⟩
    · by_cases hm : l3 = 1048576
      · have hb : (l3 == 1048576) = true := by simp [hm]
        have HM := Lib.hid hm
        clear hm
        go_enter Try.func13, Try.ntmps13
        go_wp2_with fail
        refine (H.out _).mono ?_
        rintro ee w1 ⟨rfl, rfl⟩
        go_wp2
        go_returns
        have hn : nextE ⟨e, 4, l0, l1, l2, l3⟩ = 12 := by unfold nextE; rw [if_pos HH.out]; simp [HM.out, Tm.at]
        have ht := nextT_no hn
        exact ⟨by rw [ht, hn]; rfl, by go_grown⟩
      · have hb : (l3 == 1048576) = false := by simp [hm]
        have HM := Lib.hid hm
        clear hm
        go_enter Try.func13, Try.ntmps13
        go_wp2_with fail
        refine (H.out _).mono ?_
        rintro ee w1 ⟨rfl, rfl⟩
        go_wp2
        go_returns
        have hn : nextE ⟨e, 4, l0, l1, l2, l3⟩ = 0 := by unfold nextE; rw [if_pos HH.out]; simp [HM.out, Tm.at]
        have ht := nextT_yes hn
        exact ⟨by rw [ht, hn]; simp [Tm.at, Tm.setAt], by go_grown⟩
  · have H := Lib.hid (check_no hc)
    have HH := Lib.hid hc
    clear hc
    go_enter Try.func13, Try.ntmps13
    go_wp2_with fail
    refine (H.out _).mono ?_
    rintro ee w1 ⟨rfl, rfl⟩
    go_wp2
    go_returns
    exact ⟨by simp [nextT, nextE, HH.out, tz], by go_grown⟩
end Go.Proofs.Ytedccllpbajbfaa
