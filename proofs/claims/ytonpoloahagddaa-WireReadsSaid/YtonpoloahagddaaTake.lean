/-
  take: the number with which bytes begin.
-/
import Derived.Test.YtonpoloahagddaaInt
import Derived.Test.YtonpoloahagddaaBytes
import Derived.Test.YtonpoloahagddaaDraw
import Derived.Laws.BitsAllLaws
namespace Go.Proofs.Ytonpoloahagddaa
open Go.RowKit
attribute [local go_sem] Dr.upT

theorem shl_or (u : Nat) (x : Int) (hu : u < 72057594037927936) (h0 : 0 ≤ x) (h1 : x ≤ 255) : bits .or .u64 (IntKind.u64.wrap ((u : Int) * 256)) (IntKind.u64.wrap x) = ((u * 256 + x.toNat : Nat) : Int) := by
  rw [IntWalk.u64_in _ (by omega), IntWalk.u64_in _ (by omega), u64_or _ _ (by omega) (by omega) (by omega) (by omega), nat_join8 _ _ (by omega) (by omega)]
  omega
theorem val_next (t : List Int) (j : Nat) (hj : j < t.length) : valL (t.take (j + 1)) = valL (t.take j) * 256 + (t[j]?.getD 0).toNat := by
  rw [List.take_succ_eq_append_getElem hj, valL_snoc, List.getElem?_eq_getElem hj]
  rfl
theorem val_low {t : List Int} (hb : IsB t) {j m : Nat} (hj : j ≤ m) : valL (t.take j) < 256 ^ m := by
  have h1 := valL_lt (t.take j) (hb.take j)
  have h2 : (t.take j).length ≤ m := by rw [List.length_take]; omega
  exact Nat.lt_of_lt_of_le h1 (Nat.pow_le_pow_right (by decide) h2)

theorem takeL_up {c : Int} {t : List Int} (h0 : 200 ≤ c) (h1 : c ≤ 207) {k : Nat} (hk : c - 199 = (k : Int)) (hl : ¬ t.length < k) :
    takeL (c :: t) = if valL (t.take k) < 9223372036854775808 ∧ intL (valL (t.take k) : Int) = c :: t.take k then ((valL (t.take k) : Int), k + 1, 0) else (0, 0, 70) := by
  have e : (c - 199).toNat = k := by omega
  rw [takeL, if_neg (by omega), if_neg (by omega), if_neg (by omega), if_neg (by omega), if_pos h1, e, if_neg hl]
theorem takeL_down {c : Int} {t : List Int} (h0 : 208 ≤ c) (h1 : c ≤ 215) {k : Nat} (hk : c - 207 = (k : Int)) (hl : ¬ t.length < k) :
    takeL (c :: t) = if valL (t.take k) < 9223372036854775808 ∧ intL (-1 - (valL (t.take k) : Int)) = c :: t.take k then (-1 - (valL (t.take k) : Int), k + 1, 0) else (0, 0, 70) := by
  have e : (c - 207).toNat = k := by omega
  rw [takeL, if_neg (by omega), if_neg (by omega), if_neg (by omega), if_neg (by omega), if_neg (by omega), e, if_neg hl]

def takeV (xs : List Int) : Value := .tuple #[.int .i64 (takeL xs).1, .int .i64 (takeL xs).2.1, .int .i64 (takeL xs).2.2]

set_option maxHeartbeats 1000000 in
theorem take_nil {w : World} {v : Value} (h : BytesAt w v []) :
    Calls Try.prog 39 #[v] w fun e w' => e = .returned (takeV []) ∧ Ge w w' := by
  obtain ⟨A, cap, rfl, hle, hc⟩ := h
  clear hc
  go_enter Try.func39, Try.ntmps39
  go_wp2
  go_returns
  exact ⟨rfl, Ge.refl _⟩

set_option maxHeartbeats 1000000 in
theorem take_one {w : World} {v : Value} {c : Int} {t : List Int} (h : BytesAt w v (c :: t)) (h0 : 0 ≤ c) (h1 : c ≤ 255) (hh : c ≤ 199 ∨ 215 < c) :
    Calls Try.prog 39 #[v] w fun e w' => e = .returned (takeV (c :: t)) ∧ Ge w w' := by
  obtain ⟨A, cap, rfl, hle, hc⟩ := h
  obtain ⟨b, off, rfl, hlt, hcell⟩ := hc (by simp)
  have hc0 := hcell 0 (by simp)
  simp only [Nat.add_zero, List.getElem?_cons_zero, Option.getD_some] at hc0
  clear hc hcell
  have hz : ((c :: t).length == 0) = false := by simp
  obtain ⟨n, hn⟩ : ∃ n, n = (c :: t).length := ⟨_, rfl⟩
  rw [← hn] at hz hle ⊢
  have hpos : 0 < n := by rw [hn]; simp
  clear hn hz
  by_cases c1 : c < 50
  · have E : Hid (takeV (c :: t) = .tuple #[.int .i64 (c - 50), .int .i64 1, .int .i64 0]) := by
      show takeV (c :: t) = _
      unfold takeV takeL; simp [c1]
    go_enter Try.func39, Try.ntmps39
    go_wp2
    go_returns
    exact ⟨by rw [E.out]; rfl, Ge.refl _⟩
  · by_cases c2 : c < 100
    · have E : Hid (takeV (c :: t) = .tuple #[.int .i64 0, .int .i64 0, .int .i64 70]) := by
        show takeV (c :: t) = _
        unfold takeV takeL; simp [c1, c2]
      go_enter Try.func39, Try.ntmps39
      go_wp2
      go_returns
      exact ⟨by rw [E.out]; rfl, Ge.refl _⟩
    · by_cases c3 : c ≤ 199
      · have E : Hid (takeV (c :: t) = .tuple #[.int .i64 (c - 100), .int .i64 1, .int .i64 0]) := by
          show takeV (c :: t) = _
          unfold takeV takeL; simp [c1, c2, c3]
        go_enter Try.func39, Try.ntmps39
        go_wp2
        go_returns
        exact ⟨by rw [E.out]; rfl, Ge.refl _⟩
      · have c4 : 215 < c := by omega
        have E : Hid (takeV (c :: t) = .tuple #[.int .i64 0, .int .i64 0, .int .i64 70]) := by
          show takeV (c :: t) = _
          unfold takeV takeL; simp [c1, c2, c3, c4]
        clear hh
        go_enter Try.func39, Try.ntmps39
        go_wp2
        go_returns
        exact ⟨by rw [E.out]; rfl, Ge.refl _⟩

set_option maxHeartbeats 2000000 in
theorem take_up {w : World} {v : Value} {c : Int} {t : List Int} (h : BytesAt w v (c :: t)) (hb : IsB t) (h0 : 200 ≤ c) (h1 : c ≤ 207) (hl : t.length ≤ 140737488355328) :
    Calls Try.prog 39 #[v] w fun e w' => e = .returned (takeV (c :: t)) ∧ Ge w w' := by
  have HBY := Lib.hid h
  obtain ⟨A, cap, rfl, hle, hc⟩ := h
  obtain ⟨b, off, rfl, hlt, hcell⟩ := hc (by simp)
  have hc0 := hcell 0 (by simp)
  simp only [Nat.add_zero, List.getElem?_cons_zero, Option.getD_some] at hc0
  have g1 : ¬ c < 50 := by omega
  have g2 : ¬ c < 100 := by omega
  have g3 : ¬ c ≤ 199 := by omega
  have g4 : ¬ 215 < c := by omega
  have g5 : ¬ 207 < c := by omega
  have HB := Lib.hid hb
  have HC := Lib.hid hcell
  clear hb hcell hc
  simp only [List.length_cons] at hle ⊢
  obtain ⟨k, hk⟩ : ∃ k : Nat, c - 199 = (k : Int) := ⟨(c - 199).toNat, by omega⟩
  have hk0 : 1 ≤ k := by omega
  have hk8 : k ≤ 8 := by omega
  have HK := Lib.hid hk
  clear hk
  by_cases hlen : t.length < k
  · have hle2 : ((t.length : Int) + 1) ≤ c - 199 := by have := HK.out; omega
    have E : Hid (takeV (c :: t) = .tuple #[.int .i64 0, .int .i64 0, .int .i64 71]) := by
      have := HK.out
      show takeV (c :: t) = _
      unfold takeV takeL; simp [g1, g2, g3, g4, h1]; rw [if_pos (by omega)]; simp
    go_enter Try.func39, Try.ntmps39
    go_wp2
    go_returns
    exact ⟨by rw [E.out]; rfl, Ge.refl _⟩
  · have hle2 : ¬ ((t.length : Int) + 1) ≤ c - 199 := by have := HK.out; omega
    have hle3 : c - 199 ≤ (t.length : Int) := by have := HK.out; omega
    have hle4 : c - 199 + 1 ≤ (cap : Int) := by have := HK.out; omega
    have hle5 : 0 ≤ c - 199 := by omega
    go_enter Try.func39, Try.ntmps39
    go_wp2
    rw [show (c - 199 + 1).toNat - 1 = k by have := HK.out; omega]
    go_loop [7, 54] (fun u i => ∃ j : Nat, j ≤ k ∧ i = .int .i64 (j : Int) ∧ u = .int .u64 (valL (t.take j) : Int)) (fun _ i => k - (intOf i).toNat)
    case atStart => exact ⟨0, by omega, rfl, by simp [valL]⟩
    case round =>
      obtain ⟨j, hj, rfl, rfl⟩ := hrel
      by_cases hjk : j < k
      · have hcj := HC.out (j + 1) (by simp; omega)
        rw [show off + (j + 1) = off + 1 + j by omega, List.getElem?_cons_succ] at hcj
        obtain ⟨x, hx⟩ : ∃ x, x = t[j]?.getD 0 := ⟨_, rfl⟩
        rw [← hx] at hcj
        have HX := Lib.hid hx
        clear hx
        obtain ⟨u, hu⟩ : ∃ u, u = valL (t.take j) := ⟨_, rfl⟩
        rw [← hu]
        have HU := Lib.hid hu
        clear hu
        go_wp2
        go_round
        case rel =>
          refine ⟨j + 1, by omega, by go_num, ?_⟩
          have hxb : 0 ≤ x ∧ x ≤ 255 := by
            rw [HX.out, List.getElem?_eq_getElem (by omega)]
            exact HB.out _ (List.getElem_mem _)
          have h7 := val_low HB.out (show j ≤ 7 by omega)
          rw [shl_or u x (by rw [HU.out]; omega) hxb.1 hxb.2, val_next t j (by omega), ← HX.out, ← HU.out]
        case measure => simp [intOf]; omega
      · obtain rfl : j = k := by omega
        obtain ⟨u, hu⟩ : ∃ u, u = valL (t.take j) := ⟨_, rfl⟩
        rw [← hu]
        have h8 := val_low HB.out (show j ≤ 8 by omega)
        rw [← hu] at h8
        have HU := Lib.hid hu
        clear hu
        have E : Hid (takeV (c :: t) = if u < 9223372036854775808 ∧ intL (u : Int) = c :: t.take j then .tuple #[.int .i64 (u : Int), .int .i64 (j + 1 : Int), .int .i64 0] else .tuple #[.int .i64 0, .int .i64 0, .int .i64 70]) := by
          show takeV (c :: t) = _
          rw [takeV, takeL_up h0 h1 HK.out hlen, ← HU.out]
          split <;> rfl
        by_cases hs : u < 9223372036854775808
        · go_wp2
          have hwr : IntKind.i64.wrap (c - 199 + 1) = c - 199 + 1 := IntWalk.i64_in _ (by omega)
          have hwu : 0 ≤ c - 199 + 1 := by omega
          refine Dr.wp_region_T (by kernel_rfl) (by kernel_rfl) ?_
          iterate 2 (apply Dr.wpT_det; · (intro y w2 hw hF; clear hF; go_simp; first | exact ⟨Ge.refl _, rfl⟩ | exact Ge.refl _ | rfl))
          refine Dr.wpT_det (.bool false) ?_ ?_
          · intro y w2 hw hF
            clear hF
            go_simp
            first | exact ⟨Ge.refl _, by simp; omega⟩ | exact ⟨Ge.refl _, by simp⟩ | (refine ⟨Ge.refl _, ?_⟩; rw [IntKind.wrap_i64]; omega) | exact Ge.refl _
          iterate 2 (apply Dr.wpT_det; · (intro y w2 hw hF; clear hF; go_simp; first | exact ⟨Ge.refl _, rfl⟩ | exact Ge.refl _ | rfl))
          apply Dr.wpT_non (fun v w => BytesAt w v (intL (u : Int)))
          · exact fun v w1 w2 hg hx => hx.ge hg
          · intro y w2 hw hF
            clear hF
            go_simp
            refine (int_any _ (by omega) (by omega) _).mono ?_
            rintro e w3 ⟨v, rfl, ho, hg⟩
            exact ⟨_, rfl, hg, ho.bytes⟩
          iterate 4 (apply Dr.wpT_det; · (intro y w2 hw hF; clear hF; go_simp; first | exact ⟨Ge.refl _, rfl⟩ | exact Ge.refl _ | rfl))
          obtain ⟨q, hq⟩ : ∃ q, q = eqL (intL (u : Int)) (c :: t.take j) := ⟨_, rfl⟩
          have HQ := Lib.hid hq
          clear hq
          refine Dr.wpT_det (.bool q) ?_ ?_
          · intro y w2 hw hF
            have h5 := hF 5 (by kernel_rfl)
            clear hF
            simp at h5
            have hj1 : (c - 199 + 1).toNat = j + 1 := by have := HK.out; omega
            have hb2 : BytesAt w2 (.slice (some ⟨b, off, none⟩) (c - 199 + 1).toNat cap) (c :: t.take j) := by
              rw [hj1]
              exact (HBY.out.ge hw).take (k := j + 1) (by simp; omega)
            have hib : IsB (c :: t.take j) := IsB.cons (by omega) (HB.out.take j)
            have C := Lib.hid (equal_any h5 hb2 (intL_isB _) hib)
            rw [← HQ.out] at C
            clear h5 hb2 hib hj1
            go_simp
            refine C.out.mono ?_
            rintro e w3 ⟨rfl, rfl⟩
            exact ⟨rfl, Ge.refl _⟩
          iterate 2 (apply Dr.wpT_det; · (intro y w2 hw hF; clear hF; go_simp; first | exact ⟨Ge.refl _, rfl⟩ | exact Ge.refl _ | rfl))
          intro y w2 hw hF
          clear hF
          simp only [Act.put, List.setIfInBounds_toArray, List.set_cons_zero, List.set_cons_succ]
          cases q
          · go_wp2
            go_returns
            refine ⟨?_, hw⟩
            rw [E.out, if_neg (fun h => ?_)]
            · rfl
            · have := HQ.out
              rw [eqL, decide_eq_true h.2] at this
              cases this
          · go_wp2
            go_returns
            refine ⟨?_, hw⟩
            have hj2 : ((j : Int) + 1) = c - 199 + 1 := by have := HK.out; omega
            rw [E.out, if_pos ⟨hs, by have := HQ.out; simpa [eqL] using this.symm⟩, hj2]
            rfl
        · have hw : IntKind.i64.wrap (u : Int) = (u : Int) - 18446744073709551616 := by rw [IntKind.wrap_i64]; omega
          have HW := Lib.hid hw
          clear hw
          have hneg : wrap64 (u : Int) < 0 := by unfold wrap64; omega
          go_wp2
          refine Dr.wp_region_T (by kernel_rfl) (by kernel_rfl) ?_
          iterate 2 (apply Dr.wpT_det; · (intro y w2 hw hF; clear hF; go_simp; first | exact ⟨Ge.refl _, rfl⟩ | exact Ge.refl _ | rfl))
          refine Dr.wpT_det (.bool true) ?_ ?_
          · intro y w2 hw hF
            clear hF
            go_simp
            first | exact ⟨Ge.refl _, by simp; omega⟩ | exact ⟨Ge.refl _, by simp⟩ | (refine ⟨Ge.refl _, ?_⟩; rw [IntKind.wrap_i64]; omega) | exact Ge.refl _
          iterate 10 (apply Dr.wpT_det; · (intro y w2 hw hF; clear hF; go_simp; first | exact ⟨Ge.refl _, rfl⟩ | exact Ge.refl _ | rfl))
          intro y w2 hw hF
          clear hF
          simp only [Act.put, List.setIfInBounds_toArray, List.set_cons_zero, List.set_cons_succ]
          go_wp2
          go_returns
          refine ⟨?_, hw⟩
          rw [E.out, if_neg (fun h => hs h.1)]
          rfl

set_option maxHeartbeats 2000000 in
theorem take_down {w : World} {v : Value} {c : Int} {t : List Int} (h : BytesAt w v (c :: t)) (hb : IsB t) (h0 : 208 ≤ c) (h1 : c ≤ 215) (hl : t.length ≤ 140737488355328) :
    Calls Try.prog 39 #[v] w fun e w' => e = .returned (takeV (c :: t)) ∧ Ge w w' := by
  have HBY := Lib.hid h
  obtain ⟨A, cap, rfl, hle, hc⟩ := h
  obtain ⟨b, off, rfl, hlt, hcell⟩ := hc (by simp)
  have hc0 := hcell 0 (by simp)
  simp only [Nat.add_zero, List.getElem?_cons_zero, Option.getD_some] at hc0
  have g1 : ¬ c < 50 := by omega
  have g2 : ¬ c < 100 := by omega
  have g3 : ¬ c ≤ 199 := by omega
  have g4 : ¬ 215 < c := by omega
  have g5 : 207 < c := by omega
  have HB := Lib.hid hb
  have HC := Lib.hid hcell
  clear hb hcell hc
  simp only [List.length_cons] at hle ⊢
  obtain ⟨k, hk⟩ : ∃ k : Nat, c - 207 = (k : Int) := ⟨(c - 207).toNat, by omega⟩
  have hk0 : 1 ≤ k := by omega
  have hk8 : k ≤ 8 := by omega
  have HK := Lib.hid hk
  clear hk
  by_cases hlen : t.length < k
  · have hle2 : ((t.length : Int) + 1) ≤ c - 207 := by have := HK.out; omega
    have E : Hid (takeV (c :: t) = .tuple #[.int .i64 0, .int .i64 0, .int .i64 71]) := by
      have := HK.out
      show takeV (c :: t) = _
      rw [takeV, takeL, if_neg g1, if_neg g2, if_neg g3, if_neg g4, if_neg (by omega), if_pos (by omega)]; rfl
    go_enter Try.func39, Try.ntmps39
    go_wp2
    go_returns
    exact ⟨by rw [E.out]; rfl, Ge.refl _⟩
  · have hle2 : ¬ ((t.length : Int) + 1) ≤ c - 207 := by have := HK.out; omega
    have hle3 : c - 207 ≤ (t.length : Int) := by have := HK.out; omega
    have hle4 : c - 207 + 1 ≤ (cap : Int) := by have := HK.out; omega
    have hle5 : 0 ≤ c - 207 := by omega
    go_enter Try.func39, Try.ntmps39
    go_wp2
    rw [show (c - 207 + 1).toNat - 1 = k by have := HK.out; omega]
    go_loop [7, 54] (fun u i => ∃ j : Nat, j ≤ k ∧ i = .int .i64 (j : Int) ∧ u = .int .u64 (valL (t.take j) : Int)) (fun _ i => k - (intOf i).toNat)
    case atStart => exact ⟨0, by omega, rfl, by simp [valL]⟩
    case round =>
      obtain ⟨j, hj, rfl, rfl⟩ := hrel
      by_cases hjk : j < k
      · have hcj := HC.out (j + 1) (by simp; omega)
        rw [show off + (j + 1) = off + 1 + j by omega, List.getElem?_cons_succ] at hcj
        obtain ⟨x, hx⟩ : ∃ x, x = t[j]?.getD 0 := ⟨_, rfl⟩
        rw [← hx] at hcj
        have HX := Lib.hid hx
        clear hx
        obtain ⟨u, hu⟩ : ∃ u, u = valL (t.take j) := ⟨_, rfl⟩
        rw [← hu]
        have HU := Lib.hid hu
        clear hu
        go_wp2
        go_round
        case rel =>
          refine ⟨j + 1, by omega, by go_num, ?_⟩
          have hxb : 0 ≤ x ∧ x ≤ 255 := by
            rw [HX.out, List.getElem?_eq_getElem (by omega)]
            exact HB.out _ (List.getElem_mem _)
          have h7 := val_low HB.out (show j ≤ 7 by omega)
          rw [shl_or u x (by rw [HU.out]; omega) hxb.1 hxb.2, val_next t j (by omega), ← HX.out, ← HU.out]
        case measure => simp [intOf]; omega
      · obtain rfl : j = k := by omega
        obtain ⟨u, hu⟩ : ∃ u, u = valL (t.take j) := ⟨_, rfl⟩
        rw [← hu]
        have h8 := val_low HB.out (show j ≤ 8 by omega)
        rw [← hu] at h8
        have HU := Lib.hid hu
        clear hu
        have E : Hid (takeV (c :: t) = if u < 9223372036854775808 ∧ intL (-1 - (u : Int)) = c :: t.take j then .tuple #[.int .i64 (-1 - (u : Int)), .int .i64 (j + 1 : Int), .int .i64 0] else .tuple #[.int .i64 0, .int .i64 0, .int .i64 70]) := by
          show takeV (c :: t) = _
          rw [takeV, takeL_down h0 h1 HK.out hlen, ← HU.out]
          split <;> rfl
        by_cases hs : u < 9223372036854775808
        · go_wp2
          have hwr : IntKind.i64.wrap (c - 207 + 1) = c - 207 + 1 := IntWalk.i64_in _ (by omega)
          have hwu : 0 ≤ c - 207 + 1 := by omega
          refine Dr.wp_region_T (by kernel_rfl) (by kernel_rfl) ?_
          iterate 2 (apply Dr.wpT_det; · (intro y w2 hw hF; clear hF; go_simp; first | exact ⟨Ge.refl _, rfl⟩ | exact Ge.refl _ | rfl))
          refine Dr.wpT_det (.bool false) ?_ ?_
          · intro y w2 hw hF
            clear hF
            go_simp
            first | exact ⟨Ge.refl _, by simp; omega⟩ | exact ⟨Ge.refl _, by simp⟩ | (refine ⟨Ge.refl _, ?_⟩; rw [IntKind.wrap_i64]; omega) | exact Ge.refl _
          iterate 2 (apply Dr.wpT_det; · (intro y w2 hw hF; clear hF; go_simp; first | exact ⟨Ge.refl _, rfl⟩ | exact Ge.refl _ | rfl))
          apply Dr.wpT_non (fun v w => BytesAt w v (intL (-1 - (u : Int))))
          · exact fun v w1 w2 hg hx => hx.ge hg
          · intro y w2 hw hF
            clear hF
            go_simp
            refine (int_any _ (by omega) (by omega) _).mono ?_
            rintro e w3 ⟨v, rfl, ho, hg⟩
            exact ⟨_, rfl, hg, ho.bytes⟩
          iterate 4 (apply Dr.wpT_det; · (intro y w2 hw hF; clear hF; go_simp; first | exact ⟨Ge.refl _, rfl⟩ | exact Ge.refl _ | rfl))
          obtain ⟨q, hq⟩ : ∃ q, q = eqL (intL (-1 - (u : Int))) (c :: t.take j) := ⟨_, rfl⟩
          have HQ := Lib.hid hq
          clear hq
          refine Dr.wpT_det (.bool q) ?_ ?_
          · intro y w2 hw hF
            have h5 := hF 5 (by kernel_rfl)
            clear hF
            simp at h5
            have hj1 : (c - 207 + 1).toNat = j + 1 := by have := HK.out; omega
            have hb2 : BytesAt w2 (.slice (some ⟨b, off, none⟩) (c - 207 + 1).toNat cap) (c :: t.take j) := by
              rw [hj1]
              exact (HBY.out.ge hw).take (k := j + 1) (by simp; omega)
            have hib : IsB (c :: t.take j) := IsB.cons (by omega) (HB.out.take j)
            have C := Lib.hid (equal_any h5 hb2 (intL_isB _) hib)
            rw [← HQ.out] at C
            clear h5 hb2 hib hj1
            go_simp
            refine C.out.mono ?_
            rintro e w3 ⟨rfl, rfl⟩
            exact ⟨rfl, Ge.refl _⟩
          iterate 2 (apply Dr.wpT_det; · (intro y w2 hw hF; clear hF; go_simp; first | exact ⟨Ge.refl _, rfl⟩ | exact Ge.refl _ | rfl))
          intro y w2 hw hF
          clear hF
          simp only [Act.put, List.setIfInBounds_toArray, List.set_cons_zero, List.set_cons_succ]
          cases q
          · go_wp2
            go_returns
            refine ⟨?_, hw⟩
            rw [E.out, if_neg (fun h => ?_)]
            · rfl
            · have := HQ.out
              rw [eqL, decide_eq_true h.2] at this
              cases this
          · go_wp2
            go_returns
            refine ⟨?_, hw⟩
            have hj2 : ((j : Int) + 1) = c - 207 + 1 := by have := HK.out; omega
            rw [E.out, if_pos ⟨hs, by have := HQ.out; simpa [eqL] using this.symm⟩, hj2]
            rfl
        · have hw : IntKind.i64.wrap (u : Int) = (u : Int) - 18446744073709551616 := by rw [IntKind.wrap_i64]; omega
          have HW := Lib.hid hw
          clear hw
          have hneg : wrap64 (u : Int) < 0 := by unfold wrap64; omega
          go_wp2
          refine Dr.wp_region_T (by kernel_rfl) (by kernel_rfl) ?_
          iterate 2 (apply Dr.wpT_det; · (intro y w2 hw hF; clear hF; go_simp; first | exact ⟨Ge.refl _, rfl⟩ | exact Ge.refl _ | rfl))
          refine Dr.wpT_det (.bool true) ?_ ?_
          · intro y w2 hw hF
            clear hF
            go_simp
            first | exact ⟨Ge.refl _, by simp; omega⟩ | exact ⟨Ge.refl _, by simp⟩ | (refine ⟨Ge.refl _, ?_⟩; rw [IntKind.wrap_i64]; omega) | exact Ge.refl _
          iterate 10 (apply Dr.wpT_det; · (intro y w2 hw hF; clear hF; go_simp; first | exact ⟨Ge.refl _, rfl⟩ | exact Ge.refl _ | rfl))
          intro y w2 hw hF
          clear hF
          simp only [Act.put, List.setIfInBounds_toArray, List.set_cons_zero, List.set_cons_succ]
          go_wp2
          go_returns
          refine ⟨?_, hw⟩
          rw [E.out, if_neg (fun h => hs h.1)]
          rfl

theorem take_any {w : World} {v : Value} {xs : List Int} (h : BytesAt w v xs) (hb : IsB xs) (hl : xs.length ≤ 140737488355328) :
    Calls Try.prog 39 #[v] w fun e w' => e = .returned (takeV xs) ∧ Ge w w' := by
  cases xs with
  | nil => exact take_nil h
  | cons c t =>
    have hc := hb c (by simp)
    have ht : IsB t := fun z hz => hb z (by simp [hz])
    simp only [List.length_cons] at hl
    by_cases c1 : c ≤ 199 ∨ 215 < c
    · exact take_one h hc.1 hc.2 c1
    · by_cases c2 : c ≤ 207
      · exact take_up h ht (by omega) c2 (by omega)
      · exact take_down h ht (by omega) (by omega) (by omega)
end Go.Proofs.Ytonpoloahagddaa
