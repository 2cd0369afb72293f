/-
  few; Equal of the same numbers.
-/
import Derived.Test.YtidblliobkjeeaaDoorSame
namespace Go.Proofs.YtidblliobkjeeaaDoor
open Go.RowKit

set_option maxHeartbeats 4000000 in
theorem few_any {w : World} {v : Value} {rs : List Rc} (h : RecsAt w v rs) (hl : rs.length ≤ 9223372036854775807) :
    Calls Tryd.prog 14 #[v] w fun e w' => ∃ q : Bool, e = .returned (.bool q) ∧ (q = true → rs.length ≤ 300) ∧ Ge w w' := by
  have H := Lib.hid h
  obtain ⟨A, cap, rfl, hle, hc⟩ := h
  have HC := Lib.hid hc
  clear hc
  obtain ⟨k0, hk0⟩ : ∃ k, k = if rs.length ≤ 400 then rs.length else 400 := ⟨_, rfl⟩
  have hk0l : k0 ≤ rs.length := by rw [hk0]; split <;> omega
  have hk04 : k0 ≤ 400 := by rw [hk0]; split <;> omega
  have hmin : min (rs.length : Int) 400 = (k0 : Int) := by rw [hk0]; split <;> omega
  have hT := take_run H.out hk0l
  clear hk0
  go_enter Tryd.func14, Tryd.ntmps14
  go_wp2
  clear hT hmin
  go_loopw [3, 12] (fun n i wr => ∃ (k : Nat) (z : Int), k ≤ k0 ∧ i = .int .i64 (k : Int) ∧ n = .int .i64 z ∧ 0 ≤ z ∧ z ≤ 1048576 ∧ Ge w wr) (fun _ i _ => k0 - (intOf i).toNat)
  case atStart => exact ⟨0, 0, by omega, rfl, rfl, by omega, by omega, Ge.refl _⟩
  case round =>
    obtain ⟨k, z, hk, rfl, rfl, z0, z1, hge⟩ := hrel
    have G := Lib.hid hge
    by_cases hlt : k < k0
    · obtain ⟨b, off, rfl, hb, hcell⟩ := HC.out (by intro e; rw [e] at hk0l; simp at hk0l; omega)
      obtain ⟨⟨key, s⟩, hr⟩ : ∃ r : Rc, rs[k]? = some r := ⟨_, List.getElem?_eq_getElem (by omega)⟩
      have c0 := (hge.cell (p := ⟨b, off + k * 2, none⟩) hb).trans (hcell k _ hr).1
      have c1 := (hge.cell (p := ⟨b, off + k * 2 + 1, none⟩) hb).trans (hcell k _ hr).2
      dsimp only at c0 c1
      have i1 : (0 : Int) ≤ (k : Int) := by omega
      have i2 : (k : Int) < (k0 : Int) := by omega
      obtain ⟨y, hy⟩ : ∃ y, min (s.size : Int) 1048576 = y := ⟨_, rfl⟩
      have y0 : 0 ≤ y := by omega
      have y1 : y ≤ 1048576 := by omega
      obtain ⟨x, hx⟩ : ∃ x, min (z + y) 1048576 = x := ⟨_, rfl⟩
      have x0 : 0 ≤ x := by omega
      have x1 : x ≤ 1048576 := by omega
      clear hr hcell hge
      go_wp2
      go_roundw
      case rel => exact ⟨k + 1, x, by omega, by go_num, rfl, x0, x1, G.out.alloc _⟩
      case measure => simp [intOf]; omega
    · have hkk : k = k0 := by omega
      subst hkk
      clear hge
      by_cases h3 : rs.length ≤ 300
      · have d3 : decide ((rs.length : Int) ≤ 300) = true := by simp; omega
        rcases Bool.eq_false_or_eq_true (decide (z ≤ 9000)) with d4 | d4
        all_goals
          have H3 := Lib.hid h3
          go_wp2
          go_returns
          exact ⟨_, rfl, fun _ => H3.out, G.out⟩
      · have d3 : decide ((rs.length : Int) ≤ 300) = false := by simp; omega
        clear h3
        go_wp2
        go_returns
        exact ⟨false, rfl, (fun h => (by cases h)), G.out⟩
end Go.Proofs.YtidblliobkjeeaaDoor
