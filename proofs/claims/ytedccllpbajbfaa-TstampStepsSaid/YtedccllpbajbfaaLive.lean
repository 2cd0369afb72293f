/-
  live(): true.
-/
import Derived.Test.YtedccllpbajbfaaText
import Derived.Test.YtedccllpbajbfaaMake
import Derived.Test.YtedccllpbajbfaaSteps
import Derived.Test.YtedccllpbajbfaaRegion
namespace Go.Proofs.Ytedccllpbajbfaa
open Go.RowKit

def t310 : Tm := ⟨3, 2, 1, 0, 0, 0⟩
def t311 : Tm := ⟨3, 2, 1, 1, 0, 0⟩
def t31 : Tm := ⟨3, 1, 1, 0, 0, 0⟩
theorem make_live : makeT 3 [1, 0] = t310 ∧ makeE 3 [1, 0] = 0 := ⟨rfl, rfl⟩
theorem next_live : nextT t310 = t311 ∧ nextE t310 = 0 := ⟨rfl, rfl⟩
theorem leave_live : leaveT t310 = t31 ∧ leaveE t310 = 0 := ⟨rfl, rfl⟩
theorem text_310 : strOfNums (textL t310) = ⟨#[51, 46, 49, 46, 48]⟩ := by decide
theorem text_311 : strOfNums (textL t311) = ⟨#[51, 46, 49, 46, 49]⟩ := by decide
theorem text_31 : strOfNums (textL t31) = ⟨#[51, 46, 49]⟩ := by decide

theorem live_make (b cap : Nat) (w : World) (hb : b < w.heap.size) (h0 : w.cell? ⟨b, 0, none⟩ = some (.int .i64 1)) (h1 : w.cell? ⟨b, 1, none⟩ = some (.int .i64 0)) :
    Calls Try.prog 15 #[.int .i64 3, .slice (some ⟨b, 0, none⟩) 2 cap] w fun e w' =>
      e = .returned (.tuple #[.agg #[.int .i64 3, .int .i64 2, .int .i64 1, .int .i64 0, .int .i64 0, .int .i64 0], .int .i64 0]) ∧ Below w.heap.size w w' := by
  have := make_any 3 (.slice (some ⟨b, 0, none⟩) 2 cap) [1, 0] w ⟨_, cap, rfl, fun _ => ⟨b, 0, rfl, hb, fun j hj => by
    rcases j with _ | _ | j
    · simpa using h0
    · simpa using h1
    · exact absurd hj (by simp)⟩⟩ (by simp)
  rw [make_live.1, make_live.2] at this
  exact this
theorem live_next (w : World) :
    Calls Try.prog 13 #[.agg #[.int .i64 3, .int .i64 2, .int .i64 1, .int .i64 0, .int .i64 0, .int .i64 0]] w fun e w' =>
      e = .returned (.tuple #[.agg #[.int .i64 3, .int .i64 2, .int .i64 1, .int .i64 1, .int .i64 0, .int .i64 0], .int .i64 0]) ∧ Below w.heap.size w w' := by
  have := next_any t310 w
  rw [next_live.1, next_live.2] at this
  exact this
theorem live_leave (w : World) :
    Calls Try.prog 12 #[.agg #[.int .i64 3, .int .i64 2, .int .i64 1, .int .i64 0, .int .i64 0, .int .i64 0]] w fun e w' =>
      e = .returned (.tuple #[.agg #[.int .i64 3, .int .i64 1, .int .i64 1, .int .i64 0, .int .i64 0, .int .i64 0], .int .i64 0]) ∧ Below w.heap.size w w' := by
  have := leave_any t310 w
  rw [leave_live.1, leave_live.2] at this
  exact this
theorem live_text0 (w : World) :
    Calls Try.prog 19 #[.agg #[.int .i64 3, .int .i64 2, .int .i64 1, .int .i64 0, .int .i64 0, .int .i64 0]] w fun e w' => e = .returned (.string ⟨#[51, 46, 49, 46, 48]⟩) ∧ Below w.heap.size w w' := by
  have := text_any t310 w
  rw [text_310] at this
  exact this
theorem live_text1 (w : World) :
    Calls Try.prog 19 #[.agg #[.int .i64 3, .int .i64 2, .int .i64 1, .int .i64 1, .int .i64 0, .int .i64 0]] w fun e w' => e = .returned (.string ⟨#[51, 46, 49, 46, 49]⟩) ∧ Below w.heap.size w w' := by
  have := text_any t311 w
  rw [text_311] at this
  exact this
theorem live_text2 (w : World) :
    Calls Try.prog 19 #[.agg #[.int .i64 3, .int .i64 1, .int .i64 1, .int .i64 0, .int .i64 0, .int .i64 0]] w fun e w' => e = .returned (.string ⟨#[51, 46, 49]⟩) ∧ Below w.heap.size w w' := by
  have := text_any t31 w
  rw [text_31] at this
  exact this

set_option maxHeartbeats 1000000 in
theorem live_any (w : World) : Calls Try.prog 10 #[] w fun e w' => e = .returned (.bool true) ∧ Below w.heap.size w w' := by
  go_enter Try.func10, Try.ntmps10
  go_wp2_with fail
  refine (live_make _ _ _ (by simp) (by simp [go_sem]) (by simp [go_sem])).mono ?_
  rintro e w1 ⟨rfl, hb1⟩
  have h1 := hb1.size
  simp only [World.size_alloc] at h1
  go_wp2_with fail
  refine (live_next _).mono ?_
  rintro e w2 ⟨rfl, hb2⟩
  obtain ⟨hc2, hf2⟩ := bcell hb2
  have h2 := hb2.size
  simp only [World.size_alloc] at h2
  have h2' : w1.heap.size < w2.heap.size := by omega
  simp only [World.size_alloc] at hc2
  go_wp2_with fail
  refine (live_leave _).mono ?_
  rintro e w3 ⟨rfl, hb3⟩
  obtain ⟨hc3, hf3⟩ := bcell hb3
  have h3 := hb3.size
  simp only [World.size_alloc] at h3
  have h3' : w2.heap.size < w3.heap.size := by omega
  have h3'' : w1.heap.size < w3.heap.size := by omega
  go_wp2_with fail
  refine (live_text0 _).mono ?_
  rintro e w4 ⟨rfl, hb4⟩
  obtain ⟨hc4, hf4⟩ := bcell hb4
  have h4 := hb4.size
  simp only [World.size_alloc] at h4
  have h4' : w3.heap.size < w4.heap.size := by omega
  have h4a : w2.heap.size < w4.heap.size := by omega
  go_wp2_with fail
  refine (live_text1 _).mono ?_
  rintro e w5 ⟨rfl, hb5⟩
  obtain ⟨hc5, hf5⟩ := bcell hb5
  have h5 := hb5.size
  go_wp2_with fail
  refine (live_text2 _).mono ?_
  rintro e w6 ⟨rfl, hb6⟩
  go_wp2
  go_ret
  refine ⟨rfl, ?_⟩
  exact (((((((((Ge.refl w).alloc _).trans hb1).alloc _).trans hb2).alloc _).trans hb3).alloc _).trans hb4).trans (Ge.trans hb5 hb6)
end Go.Proofs.Ytedccllpbajbfaa
