/-
  The reference's kinds of nodes; its Part and Parcels.
-/
import Derived.Test.YtidblliobkjeeaaDoorValid
import Derived.Test.YtidblliobkjeeaaDoorRBatch
import Derived.Test.YtidblliobkjeeaaDoorParcels
namespace Go.Proofs.YtidblliobkjeeaaDoor
open Go.RowKit

set_option maxHeartbeats 1000000 in
theorem rins_any (k : Int) (w : World) : Calls Tryd.prog 30 #[.int .i64 k] w fun e w' => e = .returned (.int .i64 (insV k)) ∧ w' = w := by
  by_cases c1 : k < 1
  · rw [insV_no (.inl c1)]
    have h1 : decide (k < 1) = true := by simpa using c1
    go_enter Tryd.func30, Tryd.ntmps30
    go_wp2
    go_returns
    exact ⟨rfl, rfl⟩
  have h1 : decide (k < 1) = false := by simpa using c1
  by_cases c2 : 16 < k
  · rw [insV_no (.inr c2)]
    have h2 : decide (16 < k) = true := by simpa using c2
    go_enter Tryd.func30, Tryd.ntmps30
    go_wp2
    go_returns
    exact ⟨rfl, rfl⟩
  have h2 : decide (16 < k) = false := by simpa using c2
  by_cases c3 : k = 1
  · rw [insV_one c3]
    subst c3
    go_enter Tryd.func30, Tryd.ntmps30
    go_wp2
    go_returns
    exact ⟨rfl, rfl⟩
  by_cases c4 : k = 5
  · rw [insV_two (.inl c4)]
    subst c4
    go_enter Tryd.func30, Tryd.ntmps30
    go_wp2
    go_returns
    exact ⟨rfl, rfl⟩
  by_cases c5 : k = 9
  · rw [insV_two (.inr c5)]
    subst c5
    go_enter Tryd.func30, Tryd.ntmps30
    go_wp2
    go_returns
    exact ⟨rfl, rfl⟩
  rw [insV_else (by omega) c3 (by omega)]
  have h3 : (k == 1) = false := by simpa using c3
  have h4 : (k == 5) = false := by simpa using c4
  have h5 : (k == 9) = false := by simpa using c5
  clear c1 c2 c3 c4 c5
  go_enter Tryd.func30, Tryd.ntmps30
  go_wp2
  go_returns
  exact ⟨rfl, rfl⟩

theorem keyB_alt (k : Int) : keyB k = ((k == 6) || (decide (7 ≤ k) && decide (k ≤ 11)) || (k == 16)) := by
  unfold keyB
  rw [Bool.eq_iff_iff]
  simp
  omega
set_option maxHeartbeats 1000000 in
theorem rkeyed_any (k : Int) (w : World) : Calls Tryd.prog 32 #[.int .i64 k] w fun e w' => e = .returned (.bool (keyB k)) ∧ w' = w := by
  rw [keyB_alt]
  rcases Bool.eq_false_or_eq_true (k == 6) with h1 | h1 <;> rcases Bool.eq_false_or_eq_true (decide (7 ≤ k)) with h2 | h2 <;> rcases Bool.eq_false_or_eq_true (decide (k ≤ 11)) with h3 | h3 <;> rcases Bool.eq_false_or_eq_true (k == 16) with h4 | h4
  all_goals
    rw [h1, h2, h3, h4]
    go_enter Tryd.func32, Tryd.ntmps32
    go_wp2
    go_returns
    exact ⟨rfl, rfl⟩

/-- the first loop: a record that may not be -/
theorem all_snoc {rs : List Rc} {k : Nat} {key : Int} {s : ByteArray} (h : rs[k]? = some (key, s)) (ha : (rs.take k).all (fun r => okB r.2) = true) (hs : okB s = true) : (rs.take (k + 1)).all (fun r => okB r.2) = true := by
  have hlt := (List.getElem?_eq_some_iff.1 h).1
  rw [List.take_succ_eq_append_getElem hlt, List.all_append, ha]
  rw [List.getElem?_eq_getElem hlt] at h
  rw [Option.some.inj h]
  simp [hs]
theorem rowL_next {kind worker workers : Int} {rs : List Rc} {k m : Nat} {r : Rc} (h : rs[k]? = some r) :
    rowL kind worker workers (rs.take (k + 1)) m = rowL kind worker workers (rs.take k) m ++ if toV kind worker workers r == (m : Int) then [r] else [] := by
  have hlt := (List.getElem?_eq_some_iff.1 h).1
  rw [List.take_succ_eq_append_getElem hlt]
  rw [List.getElem?_eq_getElem hlt] at h
  rw [Option.some.inj h]
  unfold rowL
  rw [List.filter_append]
  cases hq : (toV kind worker workers r == (m : Int)) <;> simp [hq]


/-- what the guard of Part says -/
theorem mayB_cases {worker workers : Int} (h : mayB worker workers = false) : workers < 1 ∨ (1 ≤ workers ∧ 16 < workers) ∨ (1 ≤ workers ∧ workers ≤ 16 ∧ worker < 0) ∨ (1 ≤ workers ∧ workers ≤ 16 ∧ 0 ≤ worker ∧ workers ≤ worker) := by
  have : ¬ (1 ≤ workers ∧ workers ≤ 16 ∧ 0 ≤ worker ∧ worker < workers) := fun hx => by rw [(mayB_iff _ _).2 hx] at h; cases h
  omega

set_option maxHeartbeats 2000000 in
theorem rpart_arg (w : World) (kind worker workers : Int) (A : Option Addr) (m cap : Nat) (h : mayB worker workers = false ∨ insV kind < 0) :
    Calls Tryd.prog 19 #[.int .i64 kind, .int .i64 worker, .int .i64 workers, .slice A m cap] w fun e w' => e = .returned (.tuple #[.slice none 0 0, .int .i64 1]) ∧ Ge w w' := by
  have hI := Lib.hid (rins_any kind)
  cases hm : mayB worker workers with
  | false =>
    rcases mayB_cases hm with h1 | ⟨h1, h2⟩ | ⟨h1, h2, h3⟩ | ⟨h1, h2, h3, h4⟩
    · have d1 : decide (workers < 1) = true := by simpa using h1
      clear hm h hI h1
      go_enter Tryd.func19, Tryd.ntmps19
      go_wp2
      go_returns
      exact ⟨rfl, Ge.refl _⟩
    · have d1 : decide (workers < 1) = false := by simpa using h1
      have d2 : decide (16 < workers) = true := by simpa using h2
      clear hm h hI h1 h2
      go_enter Tryd.func19, Tryd.ntmps19
      go_wp2
      go_returns
      exact ⟨rfl, Ge.refl _⟩
    · have d1 : decide (workers < 1) = false := by simpa using h1
      have d2 : decide (16 < workers) = false := by simpa using h2
      have d3 : decide (worker < 0) = true := by simpa using h3
      clear hm h hI h1 h2 h3
      go_enter Tryd.func19, Tryd.ntmps19
      go_wp2
      go_returns
      exact ⟨rfl, Ge.refl _⟩
    · have d1 : decide (workers < 1) = false := by simpa using h1
      have d2 : decide (16 < workers) = false := by simpa using h2
      have d3 : decide (worker < 0) = false := by simpa using h3
      have d4 : decide (workers ≤ worker) = true := by simpa using h4
      clear hm h hI h1 h2 h3 h4
      go_enter Tryd.func19, Tryd.ntmps19
      go_wp2
      go_returns
      exact ⟨rfl, Ge.refl _⟩
  | true =>
    have hi : insV kind < 0 := by
      rcases h with h | h
      · rw [hm] at h; cases h
      · exact h
    obtain ⟨h1, h2, h3, h4⟩ := (mayB_iff _ _).1 hm
    have d1 : decide (workers < 1) = false := by simpa using h1
    have d2 : decide (16 < workers) = false := by simpa using h2
    have d3 : decide (worker < 0) = false := by simpa using h3
    have d4 : decide (workers ≤ worker) = false := by simpa using h4
    clear hm h h1 h2 h3 h4
    generalize insV kind = z at *
    have d5 : decide (z < 0) = true := by simpa using hi
    clear hi
    go_enter Tryd.func19, Tryd.ntmps19
    go_wp2_with fail
    refine (hI.out _).mono ?_
    rintro e w1 ⟨rfl, rfl⟩
    go_wp2
    go_returns
    exact ⟨rfl, Ge.refl _⟩
end Go.Proofs.YtidblliobkjeeaaDoor
