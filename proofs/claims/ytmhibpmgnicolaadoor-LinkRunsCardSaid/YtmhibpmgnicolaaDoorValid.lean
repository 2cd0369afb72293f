/-
  The reference's Valid and Check.
-/
import Derived.Test.YtmhibpmgnicolaaDoorWidth
namespace Go.Proofs.YtmhibpmgnicolaaDoor
open Go.RowKit Go.Lib

theorem chk_ref (n b0 b1 b2 b3 : Nat) (h0 : 128 ≤ b0) (h1 : b0 < 256) :
    checkN n b1 b2 b3 (firstT b0 % 8) (accLo (firstT b0 / 16)) (accHi (firstT b0 / 16)) = if refW n b0 b1 b2 b3 = 0 then none else some (refW n b0 b1 b2 b3) := by
  have key : ∀ v, firstT b0 = v → (checkN n b1 b2 b3 (v % 8) (accLo (v / 16)) (accHi (v / 16)) = if refW n b0 b1 b2 b3 = 0 then none else some (refW n b0 b1 b2 b3)) →
      checkN n b1 b2 b3 (firstT b0 % 8) (accLo (firstT b0 / 16)) (accHi (firstT b0 / 16)) = if refW n b0 b1 b2 b3 = 0 then none else some (refW n b0 b1 b2 b3) := fun v e h => by rw [e]; exact h
  have two : ∀ lo hi, lo = 128 → hi = 191 → 194 ≤ b0 → b0 ≤ 223 → checkN n b1 b2 b3 2 lo hi = if refW n b0 b1 b2 b3 = 0 then none else some (refW n b0 b1 b2 b3) := by
    rintro lo hi rfl rfl p1 p2
    by_cases c : 194 ≤ b0 ∧ b0 ≤ 223 ∧ 2 ≤ n ∧ 128 ≤ b1 ∧ b1 ≤ 191
    · have hE : refW n b0 b1 b2 b3 = 2 := by rw [refW, if_neg (by omega), if_pos c]
      rw [hE, checkN, if_pos rfl, if_neg (by omega)]
      rfl
    · have hE : refW n b0 b1 b2 b3 = 0 := by rw [refW, if_neg (by omega), if_neg c, if_neg (by omega), if_neg (by omega)]
      rw [hE, checkN, if_pos rfl, if_pos (by omega)]
      rfl
  have three : ∀ lo hi, 224 ≤ b0 → b0 ≤ 239 → (b0 = 224 ∧ lo = 160 ∧ hi = 191 ∨ b0 = 237 ∧ lo = 128 ∧ hi = 159 ∨ b0 ≠ 224 ∧ b0 ≠ 237 ∧ lo = 128 ∧ hi = 191) → checkN n b1 b2 b3 3 lo hi = if refW n b0 b1 b2 b3 = 0 then none else some (refW n b0 b1 b2 b3) := by
    intro lo hi p1 p2 hl
    by_cases c : 224 ≤ b0 ∧ b0 ≤ 239 ∧ 3 ≤ n ∧ 128 ≤ b1 ∧ b1 ≤ 191 ∧ 128 ≤ b2 ∧ b2 ≤ 191
    · by_cases d : b0 = 224 ∧ b1 < 160 ∨ b0 = 237 ∧ 159 < b1
      · have hE : refW n b0 b1 b2 b3 = 0 := by rw [refW, if_neg (by omega), if_neg (by omega), if_pos c, if_pos d]
        rw [hE, checkN, if_neg (by decide), if_pos rfl, if_pos (by omega)]
        rfl
      · have hE : refW n b0 b1 b2 b3 = 3 := by rw [refW, if_neg (by omega), if_neg (by omega), if_pos c, if_neg d]
        rw [hE, checkN, if_neg (by decide), if_pos rfl, if_neg (by omega)]
        rfl
    · have hE : refW n b0 b1 b2 b3 = 0 := by rw [refW, if_neg (by omega), if_neg (by omega), if_neg c, if_neg (by omega)]
      rw [hE, checkN, if_neg (by decide), if_pos rfl, if_pos (by omega)]
      rfl
  have four : ∀ lo hi, 240 ≤ b0 → b0 ≤ 244 → (b0 = 240 ∧ lo = 144 ∧ hi = 191 ∨ b0 = 244 ∧ lo = 128 ∧ hi = 143 ∨ b0 ≠ 240 ∧ b0 ≠ 244 ∧ lo = 128 ∧ hi = 191) → checkN n b1 b2 b3 4 lo hi = if refW n b0 b1 b2 b3 = 0 then none else some (refW n b0 b1 b2 b3) := by
    intro lo hi p1 p2 hl
    by_cases c : 240 ≤ b0 ∧ b0 ≤ 244 ∧ 4 ≤ n ∧ 128 ≤ b1 ∧ b1 ≤ 191 ∧ 128 ≤ b2 ∧ b2 ≤ 191 ∧ 128 ≤ b3 ∧ b3 ≤ 191
    · by_cases d : b0 = 240 ∧ b1 < 144 ∨ b0 = 244 ∧ 143 < b1
      · have hE : refW n b0 b1 b2 b3 = 0 := by rw [refW, if_neg (by omega), if_neg (by omega), if_neg (by omega), if_pos c, if_pos d]
        rw [hE, checkN, if_neg (by decide), if_neg (by decide), if_pos rfl, if_pos (by omega)]
        rfl
      · have hE : refW n b0 b1 b2 b3 = 4 := by rw [refW, if_neg (by omega), if_neg (by omega), if_neg (by omega), if_pos c, if_neg d]
        rw [hE, checkN, if_neg (by decide), if_neg (by decide), if_pos rfl, if_neg (by omega)]
        rfl
    · have hE : refW n b0 b1 b2 b3 = 0 := by rw [refW, if_neg (by omega), if_neg (by omega), if_neg (by omega), if_neg c]
      rw [hE, checkN, if_neg (by decide), if_neg (by decide), if_pos rfl, if_pos (by omega)]
      rfl
  have bad : b0 < 194 ∨ 244 < b0 → checkN n b1 b2 b3 (241 % 8) (accLo (241 / 16)) (accHi (241 / 16)) = if refW n b0 b1 b2 b3 = 0 then none else some (refW n b0 b1 b2 b3) := by
    intro hb
    have : refW n b0 b1 b2 b3 = 0 := by
      unfold refW
      rw [if_neg (by omega), if_neg (by omega), if_neg (by omega), if_neg (by omega)]
    rw [this]
    rfl
  by_cases c0 : b0 < 194
  · exact key 241 (by unfold firstT; rw [if_neg (by omega), if_pos c0]) (bad (.inl c0))
  by_cases c1 : b0 < 224
  · exact key 2 (by unfold firstT; rw [if_neg (by omega), if_neg c0, if_pos c1]) (two _ _ rfl rfl (by omega) (by omega))
  by_cases c2 : b0 = 224
  · exact key 19 (by unfold firstT; rw [if_neg (by omega), if_neg c0, if_neg c1, if_pos c2]) (three _ _ (by omega) (by omega) (.inl ⟨c2, rfl, rfl⟩))
  by_cases c3 : b0 < 237
  · exact key 3 (by unfold firstT; rw [if_neg (by omega), if_neg c0, if_neg c1, if_neg c2, if_pos c3]) (three _ _ (by omega) (by omega) (.inr (.inr ⟨c2, by omega, rfl, rfl⟩)))
  by_cases c4 : b0 = 237
  · exact key 35 (by unfold firstT; rw [if_neg (by omega), if_neg c0, if_neg c1, if_neg c2, if_neg c3, if_pos c4]) (three _ _ (by omega) (by omega) (.inr (.inl ⟨c4, rfl, rfl⟩)))
  by_cases c5 : b0 < 240
  · exact key 3 (by unfold firstT; rw [if_neg (by omega), if_neg c0, if_neg c1, if_neg c2, if_neg c3, if_neg c4, if_pos c5]) (three _ _ (by omega) (by omega) (.inr (.inr ⟨c2, c4, rfl, rfl⟩)))
  by_cases c6 : b0 = 240
  · exact key 52 (by unfold firstT; rw [if_neg (by omega), if_neg c0, if_neg c1, if_neg c2, if_neg c3, if_neg c4, if_neg c5, if_pos c6]) (four _ _ (by omega) (by omega) (.inl ⟨c6, rfl, rfl⟩))
  by_cases c7 : b0 < 244
  · exact key 4 (by unfold firstT; rw [if_neg (by omega), if_neg c0, if_neg c1, if_neg c2, if_neg c3, if_neg c4, if_neg c5, if_neg c6, if_pos c7]) (four _ _ (by omega) (by omega) (.inr (.inr ⟨c6, by omega, rfl, rfl⟩)))
  by_cases c8 : b0 = 244
  · exact key 68 (by unfold firstT; rw [if_neg (by omega), if_neg c0, if_neg c1, if_neg c2, if_neg c3, if_neg c4, if_neg c5, if_neg c6, if_neg c7, if_pos c8]) (four _ _ (by omega) (by omega) (.inr (.inl ⟨c8, rfl, rfl⟩)))
  · exact key 241 (by unfold firstT; rw [if_neg (by omega), if_neg c0, if_neg c1, if_neg c2, if_neg c3, if_neg c4, if_neg c5, if_neg c6, if_neg c7, if_neg c8]) (bad (.inr (by omega)))

/-- the width at the head of these bytes -/
def wid (l : List UInt8) : Nat := refW l.length (l.getD 0 0).toNat (l.getD 1 0).toNat (l.getD 2 0).toNat (l.getD 3 0).toNat
theorem valid_step (l : List UInt8) (hne : l ≠ []) : validD l = if wid l = 0 then false else validD (l.drop (wid l)) := by
  by_cases h : (l.getD 0 0).toNat < 128
  · have hw : wid l = 1 := by unfold wid refW; rw [if_pos h]
    rw [hw, if_neg (by decide)]
    cases l with
    | nil => exact absurd rfl hne
    | cons b t =>
      rw [validD_cons b t (by simpa using h)]
      rfl
  · rw [validD_lead l hne (by omega), chk_ref _ _ _ _ _ (by omega) (l.getD 0 0).toNat_lt]
    by_cases h0 : wid l = 0
    · have h0' := h0
      unfold wid at h0'
      rw [if_pos h0', if_pos h0]
    · have h0' := h0
      unfold wid at h0'
      rw [if_neg h0', if_neg h0]
      rfl
theorem wid_le (l : List UInt8) (hne : l ≠ []) : wid l ≤ l.length := by
  have hl : 1 ≤ l.length := List.length_pos_iff.2 hne
  unfold wid refW
  repeat' split
  all_goals omega

set_option maxHeartbeats 2000000 in
theorem valid_any (s : ByteArray) (hs : s.size ≤ 64) (w : World) :
    Calls Tryd.prog 77 #[.string s] w fun e w' => e = .returned (.bool (validD s.data.toList)) ∧ w = w' := by
  have hlen : s.data.toList.length = s.size := by simp
  have HLEN := Lib.hid hlen
  clear hlen
  go_enter Tryd.func77, Tryd.ntmps77
  go_wp2
  go_loop [3] (fun i => ∃ k : Nat, k ≤ s.size ∧ i = .int .i64 (k : Int) ∧ validD s.data.toList = validD (s.data.toList.drop k)) (fun i => s.size - (RowKit.intOf i).toNat)
  case atStart => exact ⟨0, by omega, rfl, by simp⟩
  case round =>
    obtain ⟨k, hk, rfl, hv⟩ := hrel
    have HV := Lib.hid hv
    clear hv
    by_cases hlt : k < s.size
    · have hne : s.data.toList.drop k ≠ [] := by
        intro e
        have := congrArg List.length e
        rw [List.length_drop, HLEN.out] at this
        simp at this
        omega
      have hst := valid_step _ hne
      have hwl := wid_le _ hne
      have hdl : (s.data.toList.drop k).length = s.size - k := by rw [List.length_drop, HLEN.out]
      rw [hdl] at hwl
      have hg : ∀ j, (s.data.toList.drop k).getD j 0 = s.data.toList.getD (k + j) 0 := fun j => by simp [List.getD, List.getElem?_drop]
      have hW := width_any s k (s.size - k) (s.data.toList.getD k 0).toNat (s.data.toList.getD (k + 1) 0).toNat (s.data.toList.getD (k + 2) 0).toNat (s.data.toList.getD (k + 3) 0).toNat (by omega) (by omega)
        (strIndex s k hlt) (fun h w => by have := strIndex s (k + 1) (by omega) w; simpa using this) (fun h w => by have := strIndex s (k + 2) (by omega) w; simpa using this) (fun h w => by have := strIndex s (k + 3) (by omega) w; simpa using this)
        hs (by have := (s.data.toList.getD k 0).toNat_lt; omega)
      have hwid : wid (s.data.toList.drop k) = refW (s.size - k) (s.data.toList.getD k 0).toNat (s.data.toList.getD (k + 1) 0).toNat (s.data.toList.getD (k + 2) 0).toNat (s.data.toList.getD (k + 3) 0).toNat := by
        unfold wid
        rw [hdl, hg, hg, hg, hg, Nat.add_zero]
      rw [← hwid] at hW
      have HW := Lib.hid hW
      have HST := Lib.hid hst
      clear hwid hW hst hg hdl
      generalize wid (s.data.toList.drop k) = m at *
      by_cases h0 : m = 0
      · subst h0
        go_wp2_with fail
        refine (HW.out _).mono ?_
        rintro e w1 ⟨rfl, rfl⟩
        go_wp2
        go_returns
        have h1 : validD (s.data.toList.drop k) = false := by simpa using HST.out
        exact ⟨by rw [HV.out, h1]; rfl, rfl⟩
      · have h0b : ((m : Int) == 0) = false := by simp; omega
        have HN := Lib.hid h0
        clear h0
        go_wp2_with fail
        refine (HW.out _).mono ?_
        rintro e w1 ⟨rfl, rfl⟩
        go_wp2
        go_round
        case rel =>
          refine ⟨k + m, by omega, by go_num, ?_⟩
          have h1 := HST.out
          rw [if_neg HN.out, List.drop_drop] at h1
          rw [HV.out, h1]
        case measure => have := HN.out; simp [RowKit.intOf]; omega
    · have hks : k = s.size := by omega
      subst hks
      go_wp2
      go_returns
      refine ⟨?_, rfl⟩
      rw [HV.out, List.drop_eq_nil_of_le (by rw [HLEN.out]; exact Nat.le_refl _)]
      rfl

set_option maxHeartbeats 2000000 in
theorem rcheck_any (k : Int) (s : ByteArray) (w : World) :
    Calls Tryd.prog 67 #[.agg #[.int .i64 k, .string s]] w fun e w' => e = .returned (.int .i64 (chkV s)) ∧ Ge w w' := by
  unfold chkV okB
  by_cases h64 : 64 < s.size
  · have hd : decide (s.size ≤ 64) = false := by simpa using h64
    rw [hd]
    have h64' : (64 : Int) < (s.size : Int) := by omega
    go_enter Tryd.func67, Tryd.ntmps67
    go_wp2
    go_returns
    exact ⟨rfl, (Ge.refl w).alloc _⟩
  · have hd : decide (s.size ≤ 64) = true := by simp; omega
    rw [hd]
    have h64' : decide ((64 : Int) < (s.size : Int)) = false := by simp; omega
    have HV := Lib.hid (valid_any s (by omega))
    clear h64
    cases hv : Lib.validD s.data.toList with
    | false =>
      rw [hv] at HV
      clear hv
      go_enter Tryd.func67, Tryd.ntmps67
      go_wp2_with fail
      refine (HV.out _).mono ?_
      rintro e w1 ⟨rfl, rfl⟩
      go_wp2
      go_returns
      exact ⟨rfl, (Ge.refl w).alloc _⟩
    | true =>
      rw [hv] at HV
      clear hv
      go_enter Tryd.func67, Tryd.ntmps67
      go_wp2_with fail
      refine (HV.out _).mono ?_
      rintro e w1 ⟨rfl, rfl⟩
      go_wp2
      go_returns
      exact ⟨rfl, (Ge.refl w).alloc _⟩
end Go.Proofs.YtmhibpmgnicolaaDoor
