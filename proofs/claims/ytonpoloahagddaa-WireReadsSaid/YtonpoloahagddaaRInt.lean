/-
  The reference's Int.
-/
import Derived.Test.YtonpoloahagddaaInt
import Derived.Test.YtonpoloahagddaaBytes
namespace Go.Proofs.Ytonpoloahagddaa
open Go.RowKit

set_option maxHeartbeats 4000000 in
theorem rint_up (n : Int) (hn0 : 100 ≤ n) (hn1 : n ≤ 9223372036854775807) (w : World) :
    Calls Try.prog 17 #[.int .i64 n] w fun e w' => ∃ v, e = .returned v ∧ OwnB w' w.heap.size v (intL n) ∧ Ge w w' := by
  have h00 : 0 ≤ n := by omega
  have hd : decide (n < 100) = false := by simp; omega
  have he : intL n = (199 + ((be n.toNat).length : Int)) :: be n.toNat := by unfold intL; rw [if_neg (by omega), if_neg (by omega), if_pos (by omega)]
  have HE := Lib.hid he
  clear he
  go_enter Try.func17, Try.ntmps17
  go_wp2
  go_loopw [5, 3] (fun b u wr => IntRel n.toNat w.heap.size w b u wr) (fun _ u _ => (intOf u).toNat)
  case atStart =>
    refine ⟨n.toNat, [], ?_, OwnB.nil _ _, by simp, by simp; omega, by simp, Ge.refl _⟩
    rw [show ((n.toNat : Nat) : Int) = n from by omega]
  case round =>
    obtain ⟨uk, xs, rfl, hb, hbe, hlt, hlen, hge⟩ := hrel
    have hz := hge.size
    by_cases h0 : uk = 0
    · subst h0
      rw [show ((0 : Nat) : Int) = 0 from rfl]
      have hbe' : be n.toNat = xs := by rw [hbe]; rfl
      have hxl : xs.length ≤ 8 := hlen
      obtain ⟨A, cap, rfl, hle, hc⟩ := hb.bytes
      have hown1 : OwnB (wr.alloc (.cells #[.int .u8 (199 + (xs.length : Int))] 5)) w.heap.size (.slice (some ⟨wr.heap.size, 0, none⟩) 1 1) [199 + (xs.length : Int)] :=
        OwnB.lit _ (by show (wr.heap.push _)[wr.heap.size]? = _; simp) hz rfl (by simp [maxLen])
      have hby := hb.bytes.ge ((Ge.refl wr).alloc (.cells #[.int .u8 (199 + (xs.length : Int))] 5))
      have H1 := Lib.hid hown1.bytes
      have HB := Lib.hid hb.bytes
      have HBE := Lib.hid hbe'
      have HGE := Lib.hid (hge.alloc (.cells #[.int .u8 (199 + (xs.length : Int))] 5))
      have C1 := Lib.hid (show ([] : List Int).length + [199 + (xs.length : Int)].length ≤ 140737488355328 by simp)
      have C2 := Lib.hid HGE.out.size
      have HY := Lib.hid hby
      clear hbe hbe' hge hown1 hb hby hc hlt
      go_wp2_with (first | (at_builtin; refine wpList_app rfl (.tmp 47) (.tmp 53) rfl rfl rfl (OwnB.nil _ w.heap.size) H1.out C1.out C2.out ?_; intro v1 w1 hown hgrow _hat; have HO := Lib.hid hown; have HG := Lib.hid (ge_app (Ge.refl _) (OwnB.nil _ (wr.heap.size + 1)) (by simp) hgrow); clear hown hgrow _hat; have C3 := Lib.hid (show ([] ++ [199 + (xs.length : Int)]).length + xs.length ≤ 140737488355328 by simp; omega); have HG1 := Lib.hid (HGE.out.trans HG.out); have C4 := Lib.hid HG1.out.size; have HY1 := Lib.hid (HY.out.ge HG.out)) | (at_builtin; refine wpList_app rfl (.tmp 54) (.tmp 55) rfl rfl rfl HO.out HY1.out C3.out C4.out ?_; intro v2 w2 hown hgrow _hat; have HO2 := Lib.hid hown; have HG2 := Lib.hid hgrow; clear hown hgrow _hat))
      go_returns
      refine ⟨_, rfl, ?_, ge_app HG1.out HO.out (Nat.le_refl _) HG2.out⟩
      rw [HE.out, HBE.out]
      exact HO2.out
    · have hpos : 0 < uk := by omega
      have hu8 : uk < 18446744073709551616 := Nat.lt_of_lt_of_le hlt (Nat.le_trans (Nat.pow_le_pow_right (by decide) (by omega : 8 - xs.length ≤ 8)) (by decide))
      have hown1 : OwnB (wr.alloc (.cells #[.int .u8 ((uk : Int) % 256)] 5)) w.heap.size (.slice (some ⟨wr.heap.size, 0, none⟩) 1 1) [(uk : Int) % 256] :=
        OwnB.lit _ (by show (wr.heap.push _)[wr.heap.size]? = _; simp) hz rfl (by simp [maxLen])
      have hby := hb.bytes.ge ((Ge.refl wr).alloc (.cells #[.int .u8 ((uk : Int) % 256)] 5))
      have H1 := Lib.hid hown1.bytes
      have HY := Lib.hid hby
      have HBE := Lib.hid hbe
      have HLT := Lib.hid hlt
      have HGE := Lib.hid (hge.alloc (.cells #[.int .u8 ((uk : Int) % 256)] 5))
      clear hbe hlt hge hown1 hb h0 hby
      have C1 := Lib.hid (show ([] : List Int).length + [(uk : Int) % 256].length ≤ 140737488355328 by simp)
      have C2 := Lib.hid HGE.out.size
      go_wp2_with (first | (at_builtin; refine wpList_app rfl (.tmp 37) (.tmp 41) rfl rfl rfl (OwnB.nil _ w.heap.size) H1.out C1.out C2.out ?_; intro v1 w1 hown hgrow _hat; have HO := Lib.hid hown; have HG := Lib.hid (ge_app (Ge.refl _) (OwnB.nil _ (wr.heap.size + 1)) (by simp) hgrow); clear hown hgrow _hat; have C3 := Lib.hid (show ([] ++ [(uk : Int) % 256]).length + xs.length ≤ 140737488355328 by simp; omega); have HG1 := Lib.hid (HGE.out.trans HG.out); have C4 := Lib.hid HG1.out.size; have HY1 := Lib.hid (HY.out.ge HG.out)) | (at_builtin; refine wpList_app rfl (.tmp 42) (.tmp 43) rfl rfl rfl HO.out HY1.out C3.out C4.out ?_; intro v2 w2 hown hgrow _hat; have HO2 := Lib.hid hown; have HG2 := Lib.hid hgrow; clear hown hgrow _hat))
      go_roundw
      case rel =>
        have h256 : uk < 256 ^ 8 := Nat.lt_of_lt_of_le HLT.out (Nat.pow_le_pow_right (by decide) (by omega))
        have hx8 : xs.length < 8 := by
          rcases Nat.lt_or_ge xs.length 8 with h | h
          · exact h
          · have := HLT.out
            rw [show 8 - xs.length = 0 by omega] at this
            simp at this
            omega
        refine ⟨uk / 256, [(uk : Int) % 256] ++ xs, by simp, by simpa using HO2.out, ?_, ?_, by simp; omega, ge_app HG1.out HO.out (Nat.le_refl _) HG2.out⟩
        · rw [HBE.out, be_step h256 (by omega)]
          simp
        · rw [Nat.div_lt_iff_lt_mul (by decide), ← Nat.pow_succ]
          have := HLT.out
          rwa [show (8 - ([(uk : Int) % 256] ++ xs).length).succ = 8 - xs.length by simp; omega]
      case measure => simp [intOf]; omega

set_option maxHeartbeats 4000000 in
theorem rint_down (n : Int) (hn0 : n ≤ -51) (hn1 : -9223372036854775808 ≤ n) (w : World) :
    Calls Try.prog 17 #[.int .i64 n] w fun e w' => ∃ v, e = .returned v ∧ OwnB w' w.heap.size v (intL n) ∧ Ge w w' := by
  have h00 : n < 0 := by omega
  have h01 : ¬ 0 ≤ n := by omega
  have hd : decide (-50 ≤ n) = false := by simp; omega
  have he : intL n = (207 + ((be (-1 - n).toNat).length : Int)) :: be (-1 - n).toNat := by unfold intL; rw [if_neg (by omega), if_neg (by omega), if_neg (by omega)]
  have HE := Lib.hid he
  clear he
  go_enter Try.func17, Try.ntmps17
  go_wp2
  go_loopw [5, 3] (fun b u wr => IntRel (-1 - n).toNat w.heap.size w b u wr) (fun _ u _ => (intOf u).toNat)
  case atStart =>
    refine ⟨(-1 - n).toNat, [], ?_, OwnB.nil _ _, by simp, by simp; omega, by simp, Ge.refl _⟩
    rw [show (((-1 - n).toNat : Nat) : Int) = (-1 - n) from by omega]
  case round =>
    obtain ⟨uk, xs, rfl, hb, hbe, hlt, hlen, hge⟩ := hrel
    have hz := hge.size
    by_cases h0 : uk = 0
    · subst h0
      rw [show ((0 : Nat) : Int) = 0 from rfl]
      have hbe' : be (-1 - n).toNat = xs := by rw [hbe]; rfl
      have hxl : xs.length ≤ 8 := hlen
      obtain ⟨A, cap, rfl, hle, hc⟩ := hb.bytes
      have hown1 : OwnB (wr.alloc (.cells #[.int .u8 (207 + (xs.length : Int))] 5)) w.heap.size (.slice (some ⟨wr.heap.size, 0, none⟩) 1 1) [207 + (xs.length : Int)] :=
        OwnB.lit _ (by show (wr.heap.push _)[wr.heap.size]? = _; simp) hz rfl (by simp [maxLen])
      have hby := hb.bytes.ge ((Ge.refl wr).alloc (.cells #[.int .u8 (207 + (xs.length : Int))] 5))
      have H1 := Lib.hid hown1.bytes
      have HB := Lib.hid hb.bytes
      have HBE := Lib.hid hbe'
      have HGE := Lib.hid (hge.alloc (.cells #[.int .u8 (207 + (xs.length : Int))] 5))
      have C1 := Lib.hid (show ([] : List Int).length + [207 + (xs.length : Int)].length ≤ 140737488355328 by simp)
      have C2 := Lib.hid HGE.out.size
      have HY := Lib.hid hby
      clear hbe hbe' hge hown1 hb hby hc hlt
      go_wp2_with (first | (at_builtin; refine wpList_app rfl (.tmp 47) (.tmp 53) rfl rfl rfl (OwnB.nil _ w.heap.size) H1.out C1.out C2.out ?_; intro v1 w1 hown hgrow _hat; have HO := Lib.hid hown; have HG := Lib.hid (ge_app (Ge.refl _) (OwnB.nil _ (wr.heap.size + 1)) (by simp) hgrow); clear hown hgrow _hat; have C3 := Lib.hid (show ([] ++ [207 + (xs.length : Int)]).length + xs.length ≤ 140737488355328 by simp; omega); have HG1 := Lib.hid (HGE.out.trans HG.out); have C4 := Lib.hid HG1.out.size; have HY1 := Lib.hid (HY.out.ge HG.out)) | (at_builtin; refine wpList_app rfl (.tmp 54) (.tmp 55) rfl rfl rfl HO.out HY1.out C3.out C4.out ?_; intro v2 w2 hown hgrow _hat; have HO2 := Lib.hid hown; have HG2 := Lib.hid hgrow; clear hown hgrow _hat))
      go_returns
      refine ⟨_, rfl, ?_, ge_app HG1.out HO.out (Nat.le_refl _) HG2.out⟩
      rw [HE.out, HBE.out]
      exact HO2.out
    · have hpos : 0 < uk := by omega
      have hu8 : uk < 18446744073709551616 := Nat.lt_of_lt_of_le hlt (Nat.le_trans (Nat.pow_le_pow_right (by decide) (by omega : 8 - xs.length ≤ 8)) (by decide))
      have hown1 : OwnB (wr.alloc (.cells #[.int .u8 ((uk : Int) % 256)] 5)) w.heap.size (.slice (some ⟨wr.heap.size, 0, none⟩) 1 1) [(uk : Int) % 256] :=
        OwnB.lit _ (by show (wr.heap.push _)[wr.heap.size]? = _; simp) hz rfl (by simp [maxLen])
      have hby := hb.bytes.ge ((Ge.refl wr).alloc (.cells #[.int .u8 ((uk : Int) % 256)] 5))
      have H1 := Lib.hid hown1.bytes
      have HY := Lib.hid hby
      have HBE := Lib.hid hbe
      have HLT := Lib.hid hlt
      have HGE := Lib.hid (hge.alloc (.cells #[.int .u8 ((uk : Int) % 256)] 5))
      clear hbe hlt hge hown1 hb h0 hby
      have C1 := Lib.hid (show ([] : List Int).length + [(uk : Int) % 256].length ≤ 140737488355328 by simp)
      have C2 := Lib.hid HGE.out.size
      go_wp2_with (first | (at_builtin; refine wpList_app rfl (.tmp 37) (.tmp 41) rfl rfl rfl (OwnB.nil _ w.heap.size) H1.out C1.out C2.out ?_; intro v1 w1 hown hgrow _hat; have HO := Lib.hid hown; have HG := Lib.hid (ge_app (Ge.refl _) (OwnB.nil _ (wr.heap.size + 1)) (by simp) hgrow); clear hown hgrow _hat; have C3 := Lib.hid (show ([] ++ [(uk : Int) % 256]).length + xs.length ≤ 140737488355328 by simp; omega); have HG1 := Lib.hid (HGE.out.trans HG.out); have C4 := Lib.hid HG1.out.size; have HY1 := Lib.hid (HY.out.ge HG.out)) | (at_builtin; refine wpList_app rfl (.tmp 42) (.tmp 43) rfl rfl rfl HO.out HY1.out C3.out C4.out ?_; intro v2 w2 hown hgrow _hat; have HO2 := Lib.hid hown; have HG2 := Lib.hid hgrow; clear hown hgrow _hat))
      go_roundw
      case rel =>
        have h256 : uk < 256 ^ 8 := Nat.lt_of_lt_of_le HLT.out (Nat.pow_le_pow_right (by decide) (by omega))
        have hx8 : xs.length < 8 := by
          rcases Nat.lt_or_ge xs.length 8 with h | h
          · exact h
          · have := HLT.out
            rw [show 8 - xs.length = 0 by omega] at this
            simp at this
            omega
        refine ⟨uk / 256, [(uk : Int) % 256] ++ xs, by simp, by simpa using HO2.out, ?_, ?_, by simp; omega, ge_app HG1.out HO.out (Nat.le_refl _) HG2.out⟩
        · rw [HBE.out, be_step h256 (by omega)]
          simp
        · rw [Nat.div_lt_iff_lt_mul (by decide), ← Nat.pow_succ]
          have := HLT.out
          rwa [show (8 - ([(uk : Int) % 256] ++ xs).length).succ = 8 - xs.length by simp; omega]
      case measure => simp [intOf]; omega

set_option maxHeartbeats 1000000 in
theorem refInt_any (n : Int) (hn0 : -9223372036854775808 ≤ n) (hn1 : n ≤ 9223372036854775807) (w : World) :
    Calls Try.prog 17 #[.int .i64 n] w fun e w' => ∃ v, e = .returned v ∧ OwnB w' w.heap.size v (intL n) ∧ Ge w w' := by
  by_cases c1 : 0 ≤ n ∧ n < 100
  · have e := intL_small c1
    rw [e]
    clear e
    obtain ⟨a1, a2⟩ := c1
    go_enter Try.func17, Try.ntmps17
    go_wp2
    go_returns
    refine ⟨_, rfl, ?_, by go_grown⟩
    exact OwnB.lit _ (by show (w.heap.push _)[w.heap.size]? = _; simp) (Nat.le_refl _) rfl (by simp [maxLen])
  · by_cases c2 : n < 0 ∧ -50 ≤ n
    · have e := intL_minus c2
      rw [e]
      clear e c1
      obtain ⟨a1, a2⟩ := c2
      go_enter Try.func17, Try.ntmps17
      go_wp2
      go_returns
      refine ⟨_, rfl, ?_, by go_grown⟩
      exact OwnB.lit _ (by show (w.heap.push _)[w.heap.size]? = _; simp) (Nat.le_refl _) rfl (by simp [maxLen])
    · by_cases c3 : 0 ≤ n
      · exact rint_up n (by omega) hn1 w
      · exact rint_down n (by omega) hn0 w
end Go.Proofs.Ytonpoloahagddaa
