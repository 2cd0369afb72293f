/-
  The reference's TakeInt.
-/
import Derived.Test.YtonpoloahagddaaTake
import Derived.Test.YtonpoloahagddaaRInt
namespace Go.Proofs.Ytonpoloahagddaa
open Go.RowKit
attribute [local go_sem] Dr.upT

theorem mul_add (u : Nat) (x : Int) (hu : u < 72057594037927936) (h0 : 0 ≤ x) (h1 : x ≤ 255) : IntKind.u64.wrap (IntKind.u64.wrap ((u : Int) * 256) + IntKind.u64.wrap x) = ((u * 256 + x.toNat : Nat) : Int) := by
  rw [IntWalk.u64_in ((u : Int) * 256) (by omega), IntWalk.u64_in x (by omega), IntWalk.u64_in _ (by omega)]
  omega

set_option maxHeartbeats 1000000 in
theorem rtake_nil {w : World} {v : Value} (h : BytesAt w v []) :
    Calls Try.prog 30 #[v] w fun e w' => e = .returned (takeV []) ∧ Ge w w' := by
  obtain ⟨A, cap, rfl, hle, hc⟩ := h
  clear hc
  go_enter Try.func30, Try.ntmps30
  go_wp2
  go_returns
  exact ⟨rfl, Ge.refl _⟩

set_option maxHeartbeats 1000000 in
theorem rtake_one {w : World} {v : Value} {c : Int} {t : List Int} (h : BytesAt w v (c :: t)) (h0 : 0 ≤ c) (h1 : c ≤ 255) (hh : c ≤ 199 ∨ 215 < c) :
    Calls Try.prog 30 #[v] w fun e w' => e = .returned (takeV (c :: t)) ∧ Ge w w' := by
  obtain ⟨A, cap, rfl, hle, hc⟩ := h
  obtain ⟨b, off, rfl, hlt, hcell⟩ := hc (by simp)
  have hc0 := hcell 0 (by simp)
  simp only [Nat.add_zero, List.getElem?_cons_zero, Option.getD_some] at hc0
  clear hc hcell
  have hz : ((c :: t).length == 0) = false := by simp
  obtain ⟨n, hn⟩ : ∃ n, n = (c :: t).length := ⟨_, rfl⟩
  rw [← hn] at hz hle ⊢
  have hpos : 0 < n := by rw [hn]; simp
  clear hn hz
  by_cases c1 : c < 50
  · have E : Hid (takeV (c :: t) = .tuple #[.int .i64 (c - 50), .int .i64 1, .int .i64 0]) := by
      show takeV (c :: t) = _
      unfold takeV takeL; simp [c1]
    go_enter Try.func30, Try.ntmps30
    go_wp2
    go_returns
    exact ⟨by rw [E.out]; rfl, Ge.refl _⟩
  · by_cases c2 : c < 100
    · have E : Hid (takeV (c :: t) = .tuple #[.int .i64 0, .int .i64 0, .int .i64 70]) := by
        show takeV (c :: t) = _
        unfold takeV takeL; simp [c1, c2]
      go_enter Try.func30, Try.ntmps30
      go_wp2
      go_returns
      exact ⟨by rw [E.out]; rfl, Ge.refl _⟩
    · by_cases c3 : c ≤ 199
      · have E : Hid (takeV (c :: t) = .tuple #[.int .i64 (c - 100), .int .i64 1, .int .i64 0]) := by
          show takeV (c :: t) = _
          unfold takeV takeL; simp [c1, c2, c3]
        go_enter Try.func30, Try.ntmps30
        go_wp2
        go_returns
        exact ⟨by rw [E.out]; rfl, Ge.refl _⟩
      · have c4 : 215 < c := by omega
        have E : Hid (takeV (c :: t) = .tuple #[.int .i64 0, .int .i64 0, .int .i64 70]) := by
          show takeV (c :: t) = _
          unfold takeV takeL; simp [c1, c2, c3, c4]
        clear hh
        go_enter Try.func30, Try.ntmps30
        go_wp2
        go_returns
        exact ⟨by rw [E.out]; rfl, Ge.refl _⟩

set_option maxHeartbeats 2000000 in
theorem rtake_up {w : World} {v : Value} {c : Int} {t : List Int} (h : BytesAt w v (c :: t)) (hb : IsB t) (h0 : 200 ≤ c) (h1 : c ≤ 207) (hl : t.length ≤ 140737488355328) :
    Calls Try.prog 30 #[v] w fun e w' => e = .returned (takeV (c :: t)) ∧ Ge w w' := by
  have HBY := Lib.hid h
  obtain ⟨A, cap, rfl, hle, hc⟩ := h
  obtain ⟨b, off, rfl, hlt, hcell⟩ := hc (by simp)
  have hc0 := hcell 0 (by simp)
  simp only [Nat.add_zero, List.getElem?_cons_zero, Option.getD_some] at hc0
  have g1 : ¬ c < 50 := by omega
  have g2 : ¬ c < 100 := by omega
  have g3 : ¬ c ≤ 199 := by omega
  have g4 : ¬ 215 < c := by omega
  have g5 : ¬ 207 < c := by omega
  have HB := Lib.hid hb
  have HC := Lib.hid hcell
  clear hb hcell hc
  simp only [List.length_cons] at hle ⊢
  obtain ⟨k, hk⟩ : ∃ k : Nat, c - 199 = (k : Int) := ⟨(c - 199).toNat, by omega⟩
  have hk0 : 1 ≤ k := by omega
  have hk8 : k ≤ 8 := by omega
  have HK := Lib.hid hk
  clear hk
  by_cases hlen : t.length < k
  · have hle2 : ((t.length : Int) + 1) ≤ c - 199 := by have := HK.out; omega
    have E : Hid (takeV (c :: t) = .tuple #[.int .i64 0, .int .i64 0, .int .i64 71]) := by
      have := HK.out
      show takeV (c :: t) = _
      unfold takeV takeL; simp [g1, g2, g3, g4, h1]; rw [if_pos (by omega)]; simp
    go_enter Try.func30, Try.ntmps30
    go_wp2
    go_returns
    exact ⟨by rw [E.out]; rfl, Ge.refl _⟩
  · have hle2 : ¬ ((t.length : Int) + 1) ≤ c - 199 := by have := HK.out; omega
    have hle3 : c - 199 ≤ (t.length : Int) := by have := HK.out; omega
    have hle4 : c - 199 + 1 ≤ (cap : Int) := by have := HK.out; omega
    have hle5 : 0 ≤ c - 199 := by omega
    go_enter Try.func30, Try.ntmps30
    go_wp2
    go_loop [7, 8] (fun u i => ∃ j : Nat, j ≤ k ∧ i = .int .i64 ((j : Int) + 1) ∧ u = .int .u64 (valL (t.take j) : Int)) (fun _ i => k + 1 - (intOf i).toNat)
    case atStart => exact ⟨0, by omega, rfl, by simp [valL]⟩
    case round =>
      obtain ⟨j, hj, rfl, rfl⟩ := hrel
      by_cases hjk : j < k
      · have hjc : (j : Int) + 1 ≤ c - 199 := by have := HK.out; omega
        have hji : (0 : Int) ≤ (j : Int) + 1 := by omega
        have hjl : (j : Int) + 1 < (t.length : Int) + 1 := by omega
        have hcj := HC.out (j + 1) (by simp; omega)
        rw [List.getElem?_cons_succ] at hcj
        obtain ⟨x, hx⟩ : ∃ x, x = t[j]?.getD 0 := ⟨_, rfl⟩
        rw [← hx] at hcj
        have HX := Lib.hid hx
        clear hx
        obtain ⟨u, hu⟩ : ∃ u, u = valL (t.take j) := ⟨_, rfl⟩
        rw [← hu]
        have HU := Lib.hid hu
        clear hu
        go_wp2
        go_round
        case rel =>
          refine ⟨j + 1, by omega, by go_num, ?_⟩
          have hxb : 0 ≤ x ∧ x ≤ 255 := by
            rw [HX.out, List.getElem?_eq_getElem (by omega)]
            exact HB.out _ (List.getElem_mem _)
          have h7 := val_low HB.out (show j ≤ 7 by omega)
          rw [mul_add u x (by rw [HU.out]; omega) hxb.1 hxb.2, val_next t j (by omega), ← HX.out, ← HU.out]
        case measure => simp [intOf]; omega
      · obtain rfl : j = k := by omega
        have hjc : ¬ (j : Int) + 1 ≤ c - 199 := by have := HK.out; omega
        obtain ⟨u, hu⟩ : ∃ u, u = valL (t.take j) := ⟨_, rfl⟩
        rw [← hu]
        have h8 := val_low HB.out (show j ≤ 8 by omega)
        rw [← hu] at h8
        have HU := Lib.hid hu
        clear hu
        have E : Hid (takeV (c :: t) = if u < 9223372036854775808 ∧ intL (u : Int) = c :: t.take j then .tuple #[.int .i64 (u : Int), .int .i64 (j + 1 : Int), .int .i64 0] else .tuple #[.int .i64 0, .int .i64 0, .int .i64 70]) := by
          show takeV (c :: t) = _
          rw [takeV, takeL_up h0 h1 HK.out hlen, ← HU.out]
          split <;> rfl
        by_cases hs : u < 9223372036854775808
        · go_wp2
          have hwr : IntKind.i64.wrap (c - 199 + 1) = c - 199 + 1 := IntWalk.i64_in _ (by omega)
          have hwu : 0 ≤ c - 199 + 1 := by omega
          obtain ⟨q, hq⟩ : ∃ q, q = eqL (intL ((u : Int))) (c :: t.take j) := ⟨_, rfl⟩
          have HQ := Lib.hid hq
          clear hq
          refine Dr.wp_region_T (by kernel_rfl) (by kernel_rfl) ?_
          iterate 1 (apply Dr.wpT_det; · (intro y w2 hw hF; clear hF; go_simp; first | exact ⟨Ge.refl _, rfl⟩ | exact Ge.refl _ | rfl))
          refine Dr.wpT_det (.bool false) ?_ ?_
          · intro y w2 hw hF
            clear hF
            go_simp
            first | exact ⟨Ge.refl _, by simp; omega⟩ | exact ⟨Ge.refl _, by simp⟩ | (refine ⟨Ge.refl _, ?_⟩; omega) | exact Ge.refl _
          iterate 2 (apply Dr.wpT_det; · (intro y w2 hw hF; clear hF; go_simp; first | exact ⟨Ge.refl _, rfl⟩ | exact Ge.refl _ | rfl))
          apply Dr.wpT_non (fun v w => BytesAt w v (intL ((u : Int))))
          · exact fun v w1 w2 hg hx => hx.ge hg
          · intro y w2 hw hF
            clear hF
            go_simp
            refine (refInt_any _ (by omega) (by omega) _).mono ?_
            rintro e w3 ⟨v, rfl, ho, hg⟩
            exact ⟨_, rfl, hg, ho.bytes⟩
          refine Dr.wpT_det (.string (strOfNums (intL ((u : Int))))) ?_ ?_
          · intro y w2 hw hF
            have h4 := hF 4 (by kernel_rfl)
            clear hF
            simp at h4
            have k1 := conv_bytes h4
            clear h4
            go_simp
            first | exact ⟨Ge.refl _, rfl⟩ | exact Ge.refl _
          iterate 4 (apply Dr.wpT_det; · (intro y w2 hw hF; clear hF; go_simp; first | exact ⟨Ge.refl _, rfl⟩ | exact Ge.refl _ | rfl))
          refine Dr.wpT_det (.string (strOfNums (c :: t.take j))) ?_ ?_
          · intro y w2 hw hF
            clear hF
            have hj1 : (c - 199 + 1).toNat = j + 1 := by have := HK.out; omega
            have hb2 : BytesAt w2 (.slice (some ⟨b, off, none⟩) (c - 199 + 1).toNat cap) (c :: t.take j) := by
              rw [hj1]
              exact (HBY.out.ge hw).take (k := j + 1) (by simp; omega)
            have k1 := conv_bytes hb2
            clear hb2 hj1
            go_simp
            first | exact ⟨Ge.refl _, rfl⟩ | exact Ge.refl _
          refine Dr.wpT_det (.bool (!q)) ?_ ?_
          · intro y w2 hw hF
            clear hF
            have hib : IsB (c :: t.take j) := IsB.cons (by omega) (HB.out.take j)
            have hne : ((strOfNums (intL ((u : Int)))).toList != (strOfNums (c :: t.take j)).toList) = !q := by
              rw [bne, nums_eq (intL_isB _) hib, HQ.out]
              rfl
            have hne2 : (!((strOfNums (intL ((u : Int)))).toList == (strOfNums (c :: t.take j)).toList)) = !q := hne
            go_simp
            first | exact ⟨Ge.refl _, by rw [hne]⟩ | exact ⟨Ge.refl _, rfl⟩ | exact Ge.refl _ | exact ⟨Ge.refl _, hne⟩ | trace_state
          iterate 1 (apply Dr.wpT_det; · (intro y w2 hw hF; clear hF; go_simp; first | exact ⟨Ge.refl _, rfl⟩ | exact Ge.refl _ | rfl))
          intro y w2 hw hF
          clear hF
          simp only [Act.put, List.setIfInBounds_toArray, List.set_cons_zero, List.set_cons_succ]
          cases q
          · go_wp2
            go_returns
            refine ⟨?_, hw⟩
            rw [E.out, if_neg (fun h => ?_)]
            · rfl
            · have := HQ.out
              rw [eqL, decide_eq_true h.2] at this
              cases this
          · go_wp2
            go_returns
            refine ⟨?_, hw⟩
            have hj2 : ((j : Int) + 1) = c - 199 + 1 := by have := HK.out; omega
            rw [E.out, if_pos ⟨hs, by have := HQ.out; simpa [eqL] using this.symm⟩, hj2]
            rfl
        · go_wp2
          refine Dr.wp_region_T (by kernel_rfl) (by kernel_rfl) ?_
          iterate 1 (apply Dr.wpT_det; · (intro y w2 hw hF; clear hF; go_simp; first | exact ⟨Ge.refl _, rfl⟩ | exact Ge.refl _ | rfl))
          refine Dr.wpT_det (.bool true) ?_ ?_
          · intro y w2 hw hF
            clear hF
            go_simp
            first | exact ⟨Ge.refl _, by simp; omega⟩ | exact ⟨Ge.refl _, by simp⟩ | (refine ⟨Ge.refl _, ?_⟩; omega) | exact Ge.refl _
          iterate 11 (apply Dr.wpT_det; · (intro y w2 hw hF; clear hF; go_simp; first | exact ⟨Ge.refl _, rfl⟩ | exact Ge.refl _ | rfl))
          intro y w2 hw hF
          clear hF
          simp only [Act.put, List.setIfInBounds_toArray, List.set_cons_zero, List.set_cons_succ]
          go_wp2
          go_returns
          refine ⟨?_, hw⟩
          rw [E.out, if_neg (fun h => hs h.1)]
          rfl

set_option maxHeartbeats 2000000 in
theorem rtake_down {w : World} {v : Value} {c : Int} {t : List Int} (h : BytesAt w v (c :: t)) (hb : IsB t) (h0 : 208 ≤ c) (h1 : c ≤ 215) (hl : t.length ≤ 140737488355328) :
    Calls Try.prog 30 #[v] w fun e w' => e = .returned (takeV (c :: t)) ∧ Ge w w' := by
  have HBY := Lib.hid h
  obtain ⟨A, cap, rfl, hle, hc⟩ := h
  obtain ⟨b, off, rfl, hlt, hcell⟩ := hc (by simp)
  have hc0 := hcell 0 (by simp)
  simp only [Nat.add_zero, List.getElem?_cons_zero, Option.getD_some] at hc0
  have g1 : ¬ c < 50 := by omega
  have g2 : ¬ c < 100 := by omega
  have g3 : ¬ c ≤ 199 := by omega
  have g4 : ¬ 215 < c := by omega
  have g5 : 207 < c := by omega
  have HB := Lib.hid hb
  have HC := Lib.hid hcell
  clear hb hcell hc
  simp only [List.length_cons] at hle ⊢
  obtain ⟨k, hk⟩ : ∃ k : Nat, c - 207 = (k : Int) := ⟨(c - 207).toNat, by omega⟩
  have hk0 : 1 ≤ k := by omega
  have hk8 : k ≤ 8 := by omega
  have HK := Lib.hid hk
  clear hk
  by_cases hlen : t.length < k
  · have hle2 : ((t.length : Int) + 1) ≤ c - 207 := by have := HK.out; omega
    have E : Hid (takeV (c :: t) = .tuple #[.int .i64 0, .int .i64 0, .int .i64 71]) := by
      have := HK.out
      show takeV (c :: t) = _
      rw [takeV, takeL, if_neg g1, if_neg g2, if_neg g3, if_neg g4, if_neg (by omega), if_pos (by omega)]; rfl
    go_enter Try.func30, Try.ntmps30
    go_wp2
    go_returns
    exact ⟨by rw [E.out]; rfl, Ge.refl _⟩
  · have hle2 : ¬ ((t.length : Int) + 1) ≤ c - 207 := by have := HK.out; omega
    have hle3 : c - 207 ≤ (t.length : Int) := by have := HK.out; omega
    have hle4 : c - 207 + 1 ≤ (cap : Int) := by have := HK.out; omega
    have hle5 : 0 ≤ c - 207 := by omega
    go_enter Try.func30, Try.ntmps30
    go_wp2
    go_loop [7, 8] (fun u i => ∃ j : Nat, j ≤ k ∧ i = .int .i64 ((j : Int) + 1) ∧ u = .int .u64 (valL (t.take j) : Int)) (fun _ i => k + 1 - (intOf i).toNat)
    case atStart => exact ⟨0, by omega, rfl, by simp [valL]⟩
    case round =>
      obtain ⟨j, hj, rfl, rfl⟩ := hrel
      by_cases hjk : j < k
      · have hjc : (j : Int) + 1 ≤ c - 207 := by have := HK.out; omega
        have hji : (0 : Int) ≤ (j : Int) + 1 := by omega
        have hjl : (j : Int) + 1 < (t.length : Int) + 1 := by omega
        have hcj := HC.out (j + 1) (by simp; omega)
        rw [List.getElem?_cons_succ] at hcj
        obtain ⟨x, hx⟩ : ∃ x, x = t[j]?.getD 0 := ⟨_, rfl⟩
        rw [← hx] at hcj
        have HX := Lib.hid hx
        clear hx
        obtain ⟨u, hu⟩ : ∃ u, u = valL (t.take j) := ⟨_, rfl⟩
        rw [← hu]
        have HU := Lib.hid hu
        clear hu
        go_wp2
        go_round
        case rel =>
          refine ⟨j + 1, by omega, by go_num, ?_⟩
          have hxb : 0 ≤ x ∧ x ≤ 255 := by
            rw [HX.out, List.getElem?_eq_getElem (by omega)]
            exact HB.out _ (List.getElem_mem _)
          have h7 := val_low HB.out (show j ≤ 7 by omega)
          rw [mul_add u x (by rw [HU.out]; omega) hxb.1 hxb.2, val_next t j (by omega), ← HX.out, ← HU.out]
        case measure => simp [intOf]; omega
      · obtain rfl : j = k := by omega
        have hjc : ¬ (j : Int) + 1 ≤ c - 207 := by have := HK.out; omega
        obtain ⟨u, hu⟩ : ∃ u, u = valL (t.take j) := ⟨_, rfl⟩
        rw [← hu]
        have h8 := val_low HB.out (show j ≤ 8 by omega)
        rw [← hu] at h8
        have HU := Lib.hid hu
        clear hu
        have E : Hid (takeV (c :: t) = if u < 9223372036854775808 ∧ intL (-1 - (u : Int)) = c :: t.take j then .tuple #[.int .i64 (-1 - (u : Int)), .int .i64 (j + 1 : Int), .int .i64 0] else .tuple #[.int .i64 0, .int .i64 0, .int .i64 70]) := by
          show takeV (c :: t) = _
          rw [takeV, takeL_down h0 h1 HK.out hlen, ← HU.out]
          split <;> rfl
        by_cases hs : u < 9223372036854775808
        · go_wp2
          have hwr : IntKind.i64.wrap (c - 207 + 1) = c - 207 + 1 := IntWalk.i64_in _ (by omega)
          have hwu : 0 ≤ c - 207 + 1 := by omega
          obtain ⟨q, hq⟩ : ∃ q, q = eqL (intL (-1 - (u : Int))) (c :: t.take j) := ⟨_, rfl⟩
          have HQ := Lib.hid hq
          clear hq
          refine Dr.wp_region_T (by kernel_rfl) (by kernel_rfl) ?_
          iterate 1 (apply Dr.wpT_det; · (intro y w2 hw hF; clear hF; go_simp; first | exact ⟨Ge.refl _, rfl⟩ | exact Ge.refl _ | rfl))
          refine Dr.wpT_det (.bool false) ?_ ?_
          · intro y w2 hw hF
            clear hF
            go_simp
            first | exact ⟨Ge.refl _, by simp; omega⟩ | exact ⟨Ge.refl _, by simp⟩ | (refine ⟨Ge.refl _, ?_⟩; omega) | exact Ge.refl _
          iterate 2 (apply Dr.wpT_det; · (intro y w2 hw hF; clear hF; go_simp; first | exact ⟨Ge.refl _, rfl⟩ | exact Ge.refl _ | rfl))
          apply Dr.wpT_non (fun v w => BytesAt w v (intL (-1 - (u : Int))))
          · exact fun v w1 w2 hg hx => hx.ge hg
          · intro y w2 hw hF
            clear hF
            go_simp
            refine (refInt_any _ (by omega) (by omega) _).mono ?_
            rintro e w3 ⟨v, rfl, ho, hg⟩
            exact ⟨_, rfl, hg, ho.bytes⟩
          refine Dr.wpT_det (.string (strOfNums (intL (-1 - (u : Int))))) ?_ ?_
          · intro y w2 hw hF
            have h4 := hF 4 (by kernel_rfl)
            clear hF
            simp at h4
            have k1 := conv_bytes h4
            clear h4
            go_simp
            first | exact ⟨Ge.refl _, rfl⟩ | exact Ge.refl _
          iterate 4 (apply Dr.wpT_det; · (intro y w2 hw hF; clear hF; go_simp; first | exact ⟨Ge.refl _, rfl⟩ | exact Ge.refl _ | rfl))
          refine Dr.wpT_det (.string (strOfNums (c :: t.take j))) ?_ ?_
          · intro y w2 hw hF
            clear hF
            have hj1 : (c - 207 + 1).toNat = j + 1 := by have := HK.out; omega
            have hb2 : BytesAt w2 (.slice (some ⟨b, off, none⟩) (c - 207 + 1).toNat cap) (c :: t.take j) := by
              rw [hj1]
              exact (HBY.out.ge hw).take (k := j + 1) (by simp; omega)
            have k1 := conv_bytes hb2
            clear hb2 hj1
            go_simp
            first | exact ⟨Ge.refl _, rfl⟩ | exact Ge.refl _
          refine Dr.wpT_det (.bool (!q)) ?_ ?_
          · intro y w2 hw hF
            clear hF
            have hib : IsB (c :: t.take j) := IsB.cons (by omega) (HB.out.take j)
            have hne : ((strOfNums (intL (-1 - (u : Int)))).toList != (strOfNums (c :: t.take j)).toList) = !q := by
              rw [bne, nums_eq (intL_isB _) hib, HQ.out]
              rfl
            have hne2 : (!((strOfNums (intL (-1 - (u : Int)))).toList == (strOfNums (c :: t.take j)).toList)) = !q := hne
            go_simp
            first | exact ⟨Ge.refl _, by rw [hne]⟩ | exact ⟨Ge.refl _, rfl⟩ | exact Ge.refl _ | exact ⟨Ge.refl _, hne⟩ | trace_state
          iterate 1 (apply Dr.wpT_det; · (intro y w2 hw hF; clear hF; go_simp; first | exact ⟨Ge.refl _, rfl⟩ | exact Ge.refl _ | rfl))
          intro y w2 hw hF
          clear hF
          simp only [Act.put, List.setIfInBounds_toArray, List.set_cons_zero, List.set_cons_succ]
          cases q
          · go_wp2
            go_returns
            refine ⟨?_, hw⟩
            rw [E.out, if_neg (fun h => ?_)]
            · rfl
            · have := HQ.out
              rw [eqL, decide_eq_true h.2] at this
              cases this
          · go_wp2
            go_returns
            refine ⟨?_, hw⟩
            have hj2 : ((j : Int) + 1) = c - 207 + 1 := by have := HK.out; omega
            rw [E.out, if_pos ⟨hs, by have := HQ.out; simpa [eqL] using this.symm⟩, hj2]
            rfl
        · go_wp2
          refine Dr.wp_region_T (by kernel_rfl) (by kernel_rfl) ?_
          iterate 1 (apply Dr.wpT_det; · (intro y w2 hw hF; clear hF; go_simp; first | exact ⟨Ge.refl _, rfl⟩ | exact Ge.refl _ | rfl))
          refine Dr.wpT_det (.bool true) ?_ ?_
          · intro y w2 hw hF
            clear hF
            go_simp
            first | exact ⟨Ge.refl _, by simp; omega⟩ | exact ⟨Ge.refl _, by simp⟩ | (refine ⟨Ge.refl _, ?_⟩; omega) | exact Ge.refl _
          iterate 11 (apply Dr.wpT_det; · (intro y w2 hw hF; clear hF; go_simp; first | exact ⟨Ge.refl _, rfl⟩ | exact Ge.refl _ | rfl))
          intro y w2 hw hF
          clear hF
          simp only [Act.put, List.setIfInBounds_toArray, List.set_cons_zero, List.set_cons_succ]
          go_wp2
          go_returns
          refine ⟨?_, hw⟩
          rw [E.out, if_neg (fun h => hs h.1)]
          rfl

theorem rtake_any {w : World} {v : Value} {xs : List Int} (h : BytesAt w v xs) (hb : IsB xs) (hl : xs.length ≤ 140737488355328) :
    Calls Try.prog 30 #[v] w fun e w' => e = .returned (takeV xs) ∧ Ge w w' := by
  cases xs with
  | nil => exact rtake_nil h
  | cons c t =>
    have hc := hb c (by simp)
    have ht : IsB t := fun z hz => hb z (by simp [hz])
    simp only [List.length_cons] at hl
    by_cases c1 : c ≤ 199 ∨ 215 < c
    · exact rtake_one h hc.1 hc.2 c1
    · by_cases c2 : c ≤ 207
      · exact rtake_up h ht (by omega) c2 (by omega)
      · exact rtake_down h ht (by omega) (by omega) (by omega)
end Go.Proofs.Ytonpoloahagddaa
