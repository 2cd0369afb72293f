/-
  The reference's TakeCount and TakeText.
-/
import Derived.Test.YtonpoloahagddaaRTake
import Derived.Test.YtonpoloahagddaaReadB
namespace Go.Proofs.Ytonpoloahagddaa
open Go.RowKit
attribute [local go_sem] Dr.upT

set_option maxHeartbeats 2000000 in
theorem rcount_any {w : World} {v : Value} {xs : List Int} (h : BytesAt w v xs) (hb : IsB xs) (hl : xs.length ≤ 140737488355328) :
    Calls Try.prog 45 #[v] w fun e w' => e = .returned (.tuple #[.int .i64 (lenL xs 65536).1, .int .i64 (lenL xs 65536).2.1, .int .i64 (lenL xs 65536).2.2]) ∧ Ge w w' := by
  have HI := Lib.hid (rtake_any h hb hl)
  have hL : lenL xs 65536 = if (takeL xs).2.2 ≠ 0 then (0, 0, (takeL xs).2.2) else if (takeL xs).1 < 0 then (0, 0, 70) else if 65536 < (takeL xs).1 then (0, 0, 3) else ((takeL xs).1, (takeL xs).2.1, 0) := rfl
  unfold takeV at HI
  generalize takeL xs = T at *
  obtain ⟨n, k, ee⟩ := T
  dsimp only at HI hL
  generalize lenL xs 65536 = L at *
  obtain ⟨la, lk, le⟩ := L
  have HL := Lib.hid hL
  clear hL h hb hl
  dsimp only
  go_enter Try.func45, Try.ntmps45
  go_wp2_with fail
  refine HI.out.mono ?_
  rintro e w2 ⟨rfl, hg2⟩
  have G2 := Lib.hid hg2
  clear hg2 HI
  by_cases c1 : ee = 0
  · subst c1
    by_cases c2 : n < 0
    · go_wp2
      go_returns
      have hL := HL.out
      rw [if_neg (by simp), if_pos (by omega)] at hL
      cases hL
      exact ⟨rfl, G2.out⟩
    · by_cases c3 : 65536 < n
      · go_wp2
        go_returns
        have hL := HL.out
        rw [if_neg (by simp), if_neg (by omega), if_pos c3] at hL
        cases hL
        exact ⟨rfl, G2.out⟩
      · go_wp2
        go_returns
        have hL := HL.out
        rw [if_neg (by simp), if_neg (by omega), if_neg (by omega)] at hL
        cases hL
        exact ⟨rfl, G2.out⟩
  · have c1' : (ee != 0) = true := by simpa using c1
    have C1 := Lib.hid c1
    clear c1
    go_wp2
    go_returns
    have hL := HL.out
    rw [if_pos C1.out] at hL
    cases hL
    exact ⟨rfl, G2.out⟩


theorem txtL_take (xs : List Int) : txtL xs = if (takeL xs).2.2 ≠ 0 then ([], 0, (takeL xs).2.2) else if (takeL xs).1 < 0 then ([], 0, 70) else if 65536 < (takeL xs).1 then ([], 0, 3) else
    if (xs.length : Int) - ((takeL xs).2.1 : Int) < (takeL xs).1 then ([], 0, 71) else ((xs.drop (takeL xs).2.1).take (takeL xs).1.toNat, (takeL xs).2.1 + (takeL xs).1.toNat, 0) := by
  unfold txtL lenL
  by_cases c1 : (takeL xs).2.2 = 0
  · by_cases c2 : (takeL xs).1 < 0
    · simp [c1, c2]
    · by_cases c3 : 65536 < (takeL xs).1
      · simp [c1, c2, c3]
      · simp [c1, c2, c3]
  · simp [c1]

theorem BytesAt.none (w : World) (A : Option Addr) (c : Nat) : BytesAt w (.slice A 0 c) [] := ⟨A, c, rfl, Nat.zero_le _, fun h => absurd rfl h⟩
theorem BytesAt.part {w : World} {A : Option Addr} {xs : List Int} {cap q m : Nat} (hb : BytesAt w (.slice A xs.length cap) xs) (hq : q + m ≤ xs.length) :
    BytesAt w (.slice (Option.map (fun x => x.add q) A) m (cap - q)) ((xs.drop q).take m) := by
  have hl : ((xs.drop q).take m).length = m := by simp; omega
  obtain ⟨A', cap', e, hle, hc⟩ := hb
  cases e
  refine ⟨_, _, by rw [hl], by omega, fun hne => ?_⟩
  have hm : m ≠ 0 := by intro e; subst e; simp at hne
  obtain ⟨b, off, rfl, hblt, hcell⟩ := hc (by intro e; rw [e] at hq; simp at hq; omega)
  refine ⟨b, off + q, by simp [addr_add], hblt, fun j hj => ?_⟩
  rw [hl] at hj
  have := hcell (q + j) (by omega)
  rw [Nat.add_assoc, this, List.getElem?_take, if_pos hj, List.getElem?_drop]

set_option maxHeartbeats 4000000 in
theorem reftext_any {w : World} {v : Value} {xs : List Int} (h : BytesAt w v xs) (hb : IsB xs) (hl : xs.length ≤ 140737488355328) :
    Calls Try.prog 44 #[v] w fun e w' => e = .returned (.tuple #[.string (strOfNums (txtL xs).1), .int .i64 (txtL xs).2.1, .int .i64 (txtL xs).2.2]) ∧ Ge w w' := by
  have HI := Lib.hid (rtake_any h hb hl)
  have HB := Lib.hid h
  have hT := txtL_take xs
  unfold takeV at HI
  have hk := takeL_le xs
  generalize takeL xs = T at *
  obtain ⟨n, k, ee⟩ := T
  dsimp only at HI hT hk
  generalize txtL xs = L at *
  obtain ⟨la, lk, le⟩ := L
  have HL := Lib.hid hT
  clear hT hb
  dsimp only
  obtain ⟨A, cap, rfl, hle, hc⟩ := h
  have HC := Lib.hid hc
  clear hc
  go_enter Try.func44, Try.ntmps44
  go_wp2_with fail
  refine HI.out.mono ?_
  rintro e w2 ⟨rfl, hg2⟩
  have G2 := Lib.hid hg2
  clear hg2 HI
  by_cases c1 : ee = 0
  · subst c1
    by_cases c2 : n < 0
    · go_wp2
      go_returns
      have hL := HL.out
      rw [if_neg (by simp), if_pos (by omega)] at hL
      cases hL
      exact ⟨rfl, G2.out⟩
    · by_cases c3 : 65536 < n
      · go_wp2
        go_returns
        have hL := HL.out
        rw [if_neg (by simp), if_neg (by omega), if_pos c3] at hL
        cases hL
        exact ⟨rfl, G2.out⟩
      · obtain ⟨m, rfl⟩ : ∃ m : Nat, n = (m : Int) := ⟨n.toNat, by omega⟩
        by_cases c4 : (xs.length : Int) - (k : Int) < (m : Int)
        · go_wp2
          go_returns
          have hL := HL.out
          rw [if_neg (by simp), if_neg (by omega), if_neg (by omega), if_pos c4] at hL
          cases hL
          exact ⟨rfl, G2.out⟩
        · by_cases h5 : cap = k
          · obtain rfl : m = 0 := by omega
            have k1 := conv_bytes (BytesAt.none w2 A (cap - k))
            have k2 := conv_bytes (BytesAt.none w2 A 0)
            go_wp2
            go_returns
            have hL := HL.out
            rw [if_neg (by simp), if_neg (by omega), if_neg (by omega), if_neg (by omega)] at hL
            cases hL
            exact ⟨by simp, G2.out⟩
          · have k1 := conv_bytes ((HB.out.ge G2.out).part (q := k) (m := m) (by omega))
            go_wp2
            go_returns
            have hL := HL.out
            rw [if_neg (by simp), if_neg (by omega), if_neg (by omega), if_neg (by omega)] at hL
            cases hL
            exact ⟨by simp, G2.out⟩
  · have c1' : (ee != 0) = true := by simpa using c1
    have C1 := Lib.hid c1
    clear c1
    go_wp2
    go_returns
    have hL := HL.out
    rw [if_pos C1.out] at hL
    cases hL
    exact ⟨rfl, G2.out⟩
end Go.Proofs.Ytonpoloahagddaa
