/-
  WireOrder: the walk.
-/
import Derived.Test.YtonpoloahagddaaLive
namespace Go.Proofs.Ytonpoloahagddaa
open Go.RowKit

theorem hasPre_no {a b : Int} (a0 : -9223372036854775808 ≤ a) (a1 : a ≤ 9223372036854775807) (b0 : -9223372036854775808 ≤ b) (b1 : b ≤ 9223372036854775807) (h : a ≠ b) : hasPre (intL a) (intL b) = false := by
  unfold hasPre eqL
  rw [Bool.and_eq_false_iff]
  refine .inr (decide_eq_false fun e => h ?_)
  refine intL_inj a0 a1 b0 b1 (ys := (intL a).drop (intL b).length) ?_
  have := List.take_append_drop (intL b).length (intL a)
  rw [e] at this
  exact this.symm

set_option maxHeartbeats 2000000 in
theorem order_any (a b : Int) (a0 : -9223372036854775808 ≤ a) (a1 : a ≤ 9223372036854775807) (b0 : -9223372036854775808 ≤ b) (b1 : b ≤ 9223372036854775807) (w : World) :
    Calls Try.prog 3 #[.int .i64 a, .int .i64 b] w fun e w' => e = .returned (.bool true) ∧ Ge w w' := by
  have HA := Lib.hid (intL_isB a)
  have HB := Lib.hid (intL_isB b)
  have LA := Lib.hid (intL_len a)
  have LB := Lib.hid (intL_len b)
  go_enter Try.func3, Try.ntmps3
  go_wp2_with fail
  refine (live_any _).mono ?_
  rintro e w1 ⟨rfl, hg1⟩
  have G1 := Lib.hid hg1
  clear hg1
  go_wp2_with fail
  refine (int_any _ a0 a1 _).mono ?_
  rintro e w2 ⟨x, rfl, hx, hg2⟩
  have X2 := Lib.hid hx.bytes
  have G2 := Lib.hid hg2
  clear hx hg2
  go_wp2_with fail
  refine (int_any _ b0 b1 _).mono ?_
  rintro e w3 ⟨y, rfl, hy, hg3⟩
  have Y3 := Lib.hid hy.bytes
  have X3 := Lib.hid (X2.out.ge hg3)
  have G3 := Lib.hid ((G1.out.trans G2.out).trans hg3)
  clear hy hg3 X2 G1 G2
  by_cases hab : a = b
  · subst hab
    go_wp2_with fail
    refine (equal_any X3.out Y3.out HA.out HA.out).mono ?_
    rintro e w4 ⟨rfl, rfl⟩
    rw [show eqL (intL a) (intL a) = true from by simp [eqL]]
    go_wp2
    go_returns
    exact ⟨rfl, G3.out⟩
  · have hab' : (a == b) = false := by simpa using hab
    have P1 := Lib.hid (hasPre_no a0 a1 b0 b1 hab)
    have P2 := Lib.hid (hasPre_no b0 b1 a0 a1 (Ne.symm hab))
    have O := Lib.hid (fun h1 h2 => @intL_order a b h1 a1 h2 b1)
    clear hab
    go_wp2_with fail
    refine (hasPrefix_any X3.out Y3.out HA.out HB.out (by have := LB.out; omega)).mono ?_
    rintro e w4 ⟨rfl, rfl⟩
    rw [P1.out]
    go_wp2_with fail
    refine (hasPrefix_any Y3.out X3.out HB.out HA.out (by have := LA.out; omega)).mono ?_
    rintro e w4 ⟨rfl, rfl⟩
    rw [P2.out]
    by_cases c1 : a ≤ 99
    · have c1' : decide (a ≤ 99) = true := by simpa using c1
      go_wp2
      go_returns
      exact ⟨rfl, G3.out⟩
    · have c1' : decide (a ≤ 99) = false := by simpa using c1
      by_cases c2 : b ≤ 99
      · have c2' : decide (b ≤ 99) = true := by simpa using c2
        go_wp2
        go_returns
        exact ⟨rfl, G3.out⟩
      · have c2' : decide (b ≤ 99) = false := by simpa using c2
        go_wp2_with fail
        refine (compare_any X3.out Y3.out HA.out HB.out).mono ?_
        rintro e w4 ⟨rfl, rfl⟩
        have E := Lib.hid (show (decide (cmpL (intL a) (intL b) < 0) == decide (a < b)) = true by
          have := O.out (by omega) (by omega)
          by_cases h : a < b
          · have h2 := this.2 h; simp [h, h2]
          · have h2 := fun k => h (this.1 k); simp [h]; omega)
        go_wp2
        go_returns
        exact ⟨by rw [← E.out]; rfl, G3.out⟩
end Go.Proofs.Ytonpoloahagddaa
