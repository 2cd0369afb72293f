/-
  New: links without messages.
-/
import Derived.Test.YtmhibpmgnicolaaDoorNetB
namespace Go.Proofs.YtmhibpmgnicolaaDoor
open Go.RowKit

theorem info87 : (Tryd.prog.info? 87).map (fun i => (i.zero, i.size, decide (i.bytes ≤ 1000))) = some (some (.agg #[.slice none 0 0, .int .i64 0, .int .i64 0]), 3, true) := by kernel_rfl
def zRows (k : Nat) : List Lk := List.replicate (k * k) ⟨[], 0, 0⟩
theorem new_bad {w : World} {k room : Int} (h : k < 1 ∨ 16 < k ∨ room < 1 ∨ 64 < room) :
    Calls Tryd.prog 9 #[.int .i64 k, .int .i64 room] w fun e w' => e = .returned (.tuple #[.pointer none, .int .i64 1]) ∧ Ge w w' := by
  by_cases h1 : k < 1
  · have u1 : decide (k < 1) = true := decide_eq_true h1
    clear h h1
    go_enter Tryd.func9, Tryd.ntmps9
    go_wp2
    go_returns
    exact ⟨rfl, Ge.refl _⟩
  have u1 : decide (k < 1) = false := decide_eq_false h1
  by_cases h2 : 16 < k
  · have u2 : decide (16 < k) = true := decide_eq_true h2
    clear h h1 h2
    go_enter Tryd.func9, Tryd.ntmps9
    go_wp2
    go_returns
    exact ⟨rfl, Ge.refl _⟩
  have u2 : decide (16 < k) = false := decide_eq_false h2
  by_cases h3 : room < 1
  · have u3 : decide (room < 1) = true := decide_eq_true h3
    clear h h1 h2 h3
    go_enter Tryd.func9, Tryd.ntmps9
    go_wp2
    go_returns
    exact ⟨rfl, Ge.refl _⟩
  have u3 : decide (room < 1) = false := decide_eq_false h3
  have u4 : decide (64 < room) = true := decide_eq_true (by omega)
  clear h h1 h2 h3
  go_enter Tryd.func9, Tryd.ntmps9
  go_wp2
  go_returns
  exact ⟨rfl, Ge.refl _⟩

set_option maxHeartbeats 4000000 in
theorem new_ok {B : Nat} {w : World} (hB : B ≤ w.heap.size) {k room : Nat} (k1 : 1 ≤ k) (k2 : k ≤ 16) (r1 : 1 ≤ room) (r2 : room ≤ 64) :
    Calls Tryd.prog 9 #[.int .i64 (k : Int), .int .i64 (room : Int)] w fun e w' => ∃ p q C, e = .returned (.tuple #[.pointer (some ⟨p, 0, none⟩), .int .i64 0]) ∧ NetC B w' p q (fun _ => none) ⟨k, room, zRows k⟩ C ∧ Ge w w' ∧ w.heap.size ≤ p ∧ w.heap.size ≤ q := by
  obtain ⟨i, hi, hz, h3, hby⟩ : ∃ i, Tryd.prog.info? 87 = some i ∧ i.zero = some (.agg #[.slice none 0 0, .int .i64 0, .int .i64 0]) ∧ i.size = 3 ∧ i.bytes ≤ 1000 := by
    have := info87
    rcases hq : Tryd.prog.info? 87 with _ | i
    · rw [hq] at this; cases this
    · rw [hq] at this
      simp at this
      exact ⟨i, rfl, this.1, this.2.1, this.2.2⟩
  have hkk : k * k ≤ 16 * 16 := Nat.mul_le_mul k2 k2
  have e1 : IntKind.i64.wrap ((k : Int) * (k : Int)) = ((k * k : Nat) : Int) := by
    rw [← Int.natCast_mul]
    exact IntWalk.i64_in _ (by omega)
  have u1 : decide ((k : Int) < 1) = false := decide_eq_false (by omega)
  have u2 : decide (16 < (k : Int)) = false := decide_eq_false (by omega)
  have u3 : decide ((room : Int) < 1) = false := decide_eq_false (by omega)
  have u4 : decide (64 < (room : Int)) = false := decide_eq_false (by omega)
  have hbb : i.bytes * (k * k) ≤ 281474976710656 := by
    have := Nat.mul_le_mul hby hkk
    omega
  have hmx : k * k ≤ maxLen := by simp only [maxLen]; omega
  have HF : ∀ (w1 : World), w1.ownsRow w.heap.size 87 3 (.slice (some ⟨w.heap.size, 0, none⟩) (k * k) (k * k)) (k * k) (madeCells (Value.cells (.agg #[.slice none 0 0, .int .i64 0, .int .i64 0])) (k * k * 3)).toList → w.grownBy w1 none →
      ∃ C, NetC B (w1.alloc (.cells #[.int .i64 (k : Int), .int .i64 (room : Int), .slice (some ⟨w.heap.size, 0, none⟩) (k * k) (k * k)] 58)) w1.heap.size w.heap.size (fun _ => none) ⟨k, room, zRows k⟩ C ∧
        Ge w (w1.alloc (.cells #[.int .i64 (k : Int), .int .i64 (room : Int), .slice (some ⟨w.heap.size, 0, none⟩) (k * k) (k * k)] 58)) ∧ w.heap.size ≤ w1.heap.size := by
    intro w1 hown hgr
    have hge : Ge w w1 := ⟨hgr.os, hgr.tape, hgr.output, hgr.size, fun b hb => hgr.block b hb (by simp)⟩
    rcases hown.2 with ⟨h0, _⟩ | ⟨g, cap, cur, hv, hb, hh, hle, hm, hs, htk⟩
    · cases h0
    · cases hv
      have hcur : cur = madeCells (Value.cells (.agg #[.slice none 0 0, .int .i64 0, .int .i64 0])) (k * k * 3) := by
        apply Array.toList_inj.1
        rw [← htk, List.take_of_length_le]
        rw [Array.length_toList, hs]
        exact Nat.le_refl _
      have hx : Bx w1 w.heap.size 87 cur := hh
      refine ⟨cur, ⟨Bx.new _ 58 _ rfl, ⟨k1, k2, r1, r2, by simp [zRows], ?_⟩, Nat.le_trans hB hge.size, hB, fun b j e => (by cases e), hx.alloc _, hs, ?_⟩, hge.alloc _, hge.size⟩
      · intro r hr
        rw [List.eq_of_mem_replicate hr]
        exact Nat.zero_le _
      · intro j r hj
        have hjl : j < k * k := by
          have := (List.getElem?_eq_some_iff.1 hj).1
          simpa [zRows] using this
        have hr : r = ⟨[], 0, 0⟩ := List.eq_of_mem_replicate (List.mem_of_getElem? hj)
        subst hr
        have hc : ∀ t, t < 3 → cur[j * 3 + t]? = some ((Value.cells (.agg #[.slice none 0 0, .int .i64 0, .int .i64 0]))[t]!) := by
          intro t ht
          rw [hcur]
          unfold madeCells
          rw [Array.getElem?_map, Array.getElem?_range, if_pos (by omega)]
          show some ((Value.cells (.agg #[.slice none 0 0, .int .i64 0, .int .i64 0]))[(j * 3 + t) % 3]!) = _
          rw [show (j * 3 + t) % 3 = t by omega]
        exact ⟨.slice none 0 0, hc 0 (by omega), hc 1 (by omega), hc 2 (by omega), RowAt.nil _ _ _⟩
  have HF := Lib.hid HF
  go_enter Tryd.func9, Tryd.ntmps9
  go_wp2_with (refine wpList_make_full _ (by rfl) (.tmp 24) (.tmp 24) 56 (by rfl) w.heap.size 87 i _ 3 Tryd.underlying56 hi hz h3 .i64 .i64 _ _ (k * k) (by rfl) (by rfl) rfl rfl hbb hmx (Nat.le_refl _) ?_; intro w1 hown hgr; have HC := HF.out w1 hown hgr; clear hown hgr)
  obtain ⟨C, hC, hge, hsz⟩ := HC
  go_returns
  exact ⟨_, _, C, rfl, hC, hge, hsz, Nat.le_refl _⟩
end Go.Proofs.YtmhibpmgnicolaaDoor
