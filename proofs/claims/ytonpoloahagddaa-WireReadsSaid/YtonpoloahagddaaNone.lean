/-
  A reader that no call made.
-/
import Derived.Test.YtonpoloahagddaaReadB
import Derived.WalkLawsBesides
namespace Go.Proofs.Ytonpoloahagddaa
open Go.RowKit

/-- no call made it -/
def NM (w : World) (v : Value) : Prop := ∀ w', Ge w w' → Calls Try.prog 38 #[v] w' fun e w'' => e = .returned (.bool false) ∧ w'' = w'
theorem NM.ge {w w' : World} {v : Value} (h : NM w v) (hg : Ge w w') : NM w' v := fun w2 h2 => h w2 (hg.trans h2)

set_option maxHeartbeats 1000000 in
theorem nm_nil (w : World) : NM w (.pointer none) := by
  intro w' _
  go_enter Try.func38, Try.ntmps38
  go_wp2
  go_returns
  exact ⟨rfl, rfl⟩
set_option maxHeartbeats 1000000 in
theorem nm_zero {w : World} {g : Nat} {v1 v2 : Value} (X : Bx w g 54 #[.bool false, v1, v2]) : NM w (.pointer (some ⟨g, 0, none⟩)) := by
  intro w' hg
  have c := (X.ge hg).cell
  have l := (X.ge hg).lt
  go_enter Try.func38, Try.ntmps38
  go_wp2
  go_returns
  exact ⟨rfl, rfl⟩

set_option maxHeartbeats 1000000 in
theorem at_none {w : World} {v : Value} (h : NM w v) : Calls Try.prog 25 #[v] w fun e w' => e = .returned (.int .i64 0) ∧ w' = w := by
  have H := Lib.hid (h w (Ge.refl w))
  go_enter Try.func25, Try.ntmps25
  go_wp2_with fail
  refine H.out.mono ?_
  rintro e w1 ⟨rfl, rfl⟩
  go_wp2
  go_returns
  exact ⟨rfl, rfl⟩
set_option maxHeartbeats 1000000 in
theorem int_none {w : World} {v : Value} (h : NM w v) : Calls Try.prog 24 #[v] w fun e w' => e = .returned (.tuple #[.int .i64 0, .int .i64 2]) ∧ w' = w := by
  have H := Lib.hid (h w (Ge.refl w))
  go_enter Try.func24, Try.ntmps24
  go_wp2_with fail
  refine H.out.mono ?_
  rintro e w1 ⟨rfl, rfl⟩
  go_wp2
  go_returns
  exact ⟨rfl, rfl⟩
set_option maxHeartbeats 1000000 in
theorem end_none {w : World} {v : Value} (h : NM w v) : Calls Try.prog 26 #[v] w fun e w' => e = .returned (.int .i64 2) ∧ w' = w := by
  have H := Lib.hid (h w (Ge.refl w))
  go_enter Try.func26, Try.ntmps26
  go_wp2_with fail
  refine H.out.mono ?_
  rintro e w1 ⟨rfl, rfl⟩
  go_wp2
  go_returns
  exact ⟨rfl, rfl⟩
set_option maxHeartbeats 1000000 in
theorem back_none {w : World} {v : Value} (h : NM w v) (q : Int) : Calls Try.prog 37 #[v, .int .i64 q, .int .i64 2] w fun e w' => e = .returned (.int .i64 2) ∧ w' = w := by
  have H := Lib.hid (h w (Ge.refl w))
  go_enter Try.func37, Try.ntmps37
  go_wp2_with fail
  refine H.out.mono ?_
  rintro e w1 ⟨rfl, rfl⟩
  go_wp2
  go_returns
  exact ⟨rfl, rfl⟩
set_option maxHeartbeats 1000000 in
theorem len_none {w : World} {v : Value} (h : NM w v) (most : Int) : Calls Try.prog 36 #[v, .int .i64 most] w fun e w' => e = .returned (.tuple #[.int .i64 0, .int .i64 2]) ∧ w' = w := by
  have H := Lib.hid h
  clear h
  go_enter Try.func36, Try.ntmps36
  go_wp2_with fail
  refine (at_none H.out).mono ?_
  rintro e w1 ⟨rfl, rfl⟩
  go_wp2_with fail
  refine (int_none H.out).mono ?_
  rintro e w1 ⟨rfl, rfl⟩
  go_wp2_with fail
  refine (back_none H.out _).mono ?_
  rintro e w1 ⟨rfl, rfl⟩
  go_wp2
  go_returns
  exact ⟨rfl, rfl⟩
set_option maxHeartbeats 1000000 in
theorem text_none {w : World} {v : Value} (h : NM w v) : Calls Try.prog 23 #[v] w fun e w' => e = .returned (.tuple #[.string ⟨#[]⟩, .int .i64 2]) ∧ w' = w := by
  have H := Lib.hid h
  clear h
  go_enter Try.func23, Try.ntmps23
  go_wp2_with fail
  refine (at_none H.out).mono ?_
  rintro e w1 ⟨rfl, rfl⟩
  go_wp2_with fail
  refine (len_none H.out _).mono ?_
  rintro e w1 ⟨rfl, rfl⟩
  go_wp2
  go_returns
  exact ⟨rfl, rfl⟩
set_option maxHeartbeats 1000000 in
theorem count_none {w : World} {v : Value} (h : NM w v) : Calls Try.prog 41 #[v] w fun e w' => e = .returned (.tuple #[.int .i64 0, .int .i64 2]) ∧ w' = w := by
  have H := Lib.hid h
  clear h
  go_enter Try.func41, Try.ntmps41
  go_wp2_with fail
  refine (len_none H.out _).mono ?_
  rintro e w1 ⟨rfl, rfl⟩
  go_wp2
  go_returns
  exact ⟨rfl, rfl⟩
set_option maxHeartbeats 1000000 in
theorem within_none {w : World} {v : Value} (h : NM w v) (a b : Int) : Calls Try.prog 40 #[v, .int .i64 a, .int .i64 b] w fun e w' => e = .returned (.tuple #[.int .i64 0, .int .i64 2]) ∧ w' = w := by
  have H := Lib.hid h
  clear h
  go_enter Try.func40, Try.ntmps40
  go_wp2_with fail
  refine (at_none H.out).mono ?_
  rintro e w1 ⟨rfl, rfl⟩
  go_wp2_with fail
  refine (int_none H.out).mono ?_
  rintro e w1 ⟨rfl, rfl⟩
  go_wp2_with fail
  refine (back_none H.out _).mono ?_
  rintro e w1 ⟨rfl, rfl⟩
  go_wp2
  go_returns
  exact ⟨rfl, rfl⟩

set_option maxHeartbeats 2000000 in
theorem takes_none {w : World} {v : Value} (h : NM w v) (d a b : Int) :
    Calls Try.prog 27 #[v, .agg #[.int .i64 d, .int .i64 a, .int .i64 b]] w fun e w' => e = .returned (.agg #[.int .i64 0, .string ⟨#[]⟩, .int .i64 2]) ∧ Ge w w' := by
  have H := Lib.hid h
  clear h
  have H2 := Lib.hid (H.out.ge (((Ge.refl w).alloc (.cells #[.int .i64 d, .int .i64 a, .int .i64 b] 52)).alloc (.cells #[.int .i64 0, .string ⟨#[]⟩, .int .i64 0] 57)))
  by_cases d0 : d = 0
  · have e0 : (d == 0) = true := by simp [d0]
    clear d0
    go_enter Try.func27, Try.ntmps27
    go_wp2_with fail
    refine (int_none H2.out).mono ?_
    rintro e w1 ⟨rfl, rfl⟩
    go_wp2
    go_returns
    exact ⟨rfl, by go_grown⟩
  have e0 : (d == 0) = false := by simp [d0]
  clear d0
  by_cases d1 : d = 1
  · have e1 : (d == 1) = true := by simp [d1]
    clear d1
    go_enter Try.func27, Try.ntmps27
    go_wp2_with fail
    refine (within_none H2.out _ _).mono ?_
    rintro e w1 ⟨rfl, rfl⟩
    go_wp2
    go_returns
    exact ⟨rfl, by go_grown⟩
  have e1 : (d == 1) = false := by simp [d1]
  clear d1
  by_cases d2 : d = 2
  · have e2 : (d == 2) = true := by simp [d2]
    clear d2
    go_enter Try.func27, Try.ntmps27
    go_wp2_with fail
    refine (text_none H2.out).mono ?_
    rintro e w1 ⟨rfl, rfl⟩
    go_wp2
    go_returns
    exact ⟨rfl, by go_grown⟩
  have e2 : (d == 2) = false := by simp [d2]
  clear d2
  by_cases d3 : d = 3
  · have e3 : (d == 3) = true := by simp [d3]
    clear d3
    go_enter Try.func27, Try.ntmps27
    go_wp2_with fail
    refine (count_none H2.out).mono ?_
    rintro e w1 ⟨rfl, rfl⟩
    go_wp2
    go_returns
    exact ⟨rfl, by go_grown⟩
  have e3 : (d == 3) = false := by simp [d3]
  clear d3
  go_enter Try.func27, Try.ntmps27
  go_wp2_with fail
  refine (end_none H2.out).mono ?_
  rintro e w1 ⟨rfl, rfl⟩
  go_wp2
  go_returns
  exact ⟨rfl, by go_grown⟩
end Go.Proofs.Ytonpoloahagddaa
