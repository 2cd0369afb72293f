/-
  LinkAgain: the walk.
-/
import Derived.Test.YtmhibpmgnicolaaDoorNS
import Derived.Test.YtmhibpmgnicolaaDoorMsgIn
import Derived.Test.YtmhibpmgnicolaaDoorFew
import Derived.Test.YtmhibpmgnicolaaDoorRCheck
import Derived.Test.YtmhibpmgnicolaaDoorLive
namespace Go.Proofs.YtmhibpmgnicolaaDoor
open Go.RowKit

set_option maxRecDepth 100000 in
set_option maxHeartbeats 16000000 in
theorem again_any {w : World} (hT : Tabs w) {m r : Msg} {sm sr : Sls} (hm : SlAt w.heap.size w sm m) (hr : SlAt w.heap.size w sr r) (room : Nat) (hroom : room ≤ 255) :
    Calls Tryd.prog 7 #[.int .u8 (room : Int), .agg (encG m sm).toArray, .agg (encG r sr).toArray] w fun e w' => e = .returned (.bool true) ∧ Ge w w' := by
  obtain ⟨W2, hW2⟩ : ∃ x, x = (w.alloc (.cells (encG m sm).toArray 45)).alloc (.cells (encG r sr).toArray 45) := ⟨_, rfl⟩
  have gW : Ge w W2 := by rw [hW2]; exact ((Ge.refl w).alloc _).alloc _
  have GW := Lib.hid gW
  have HB1 := Lib.hid (show Bx W2 w.heap.size 45 (encG m sm).toArray by rw [hW2]; exact (Bx.new w 45 _ rfl).alloc _)
  have HB2 := Lib.hid (show Bx W2 (w.heap.size + 1) 45 (encG r sr).toArray by rw [hW2]; simpa using Bx.new (w.alloc (.cells (encG m sm).toArray 45)) 45 _ rfl)
  obtain ⟨kk, hkk⟩ : ∃ k : Nat, k = room % 8 + 1 := ⟨_, rfl⟩
  have HLIVE := Lib.hid (fun w' (g : Ge W2 w') => live_any (hT.ge (gW.trans g)))
  have HFM := Lib.hid (fun w' (g : Ge W2 w') => few_any (hm.ge (gW.trans g)))
  have HFR := Lib.hid (fun w' (g : Ge W2 w') => few_any (hr.ge (gW.trans g)))
  have HSM := Lib.hid (@few_small m)
  have HSR := Lib.hid (@few_small r)
  have HKM := Lib.hid (fun w' (g : Ge W2 w') (hs : Small m) => rcheck_msg (hm.ge (gW.trans g)) hs)
  have HKR := Lib.hid (fun w' (g : Ge W2 w') (hs : Small r) => rcheck_msg (hr.ge (gW.trans g)) hs)
  have HNEW := Lib.hid (fun w' (g : Ge W2 w') => nr_new (a := W2) (B := w.heap.size) (kk := kk) gW.size g (by omega) (by omega))
  have HSEND := Lib.hid (fun w' p l (hs : Small m) (hc : chkM m = 0) (h : NR W2 w.heap.size p kk l w') (hl : l.length < kk) => nr_send (hT.ge gW) h (hm.ge gW) hs hc hl)
  have HSENDR := Lib.hid (fun w' p l (hs : Small r) (hc : chkM r = 0) (h : NR W2 w.heap.size p kk l w') (hl : l.length < kk) => nr_send (hT.ge gW) h (hr.ge gW) hs hc hl)
  have HFULL := Lib.hid (fun w' p l (hs : Small r) (hc : chkM r = 0) (h : NR W2 w.heap.size p kk l w') (hl : kk ≤ l.length) => nr_full (hT.ge gW) h (hr.ge gW) hs hc hl)
  have HSAME := Lib.hid (fun w' s' (g : Ge W2 w') (hs : Small m) (h : SlAt w.heap.size w' s' m) => rsame h (hm.ge (gW.trans g)) hs)
  have HSAMER := Lib.hid (fun w' s' (g : Ge W2 w') (hs : Small r) (h : SlAt w.heap.size w' s' r) => rsame h (hr.ge (gW.trans g)) hs)
  rw [decide_eq_true rfl] at HSAME HSAMER
  have HSZ1 := Lib.hid (show (encG m sm).toArray.size = 19 from rfl)
  have HSZ2 := Lib.hid (show (encG r sr).toArray.size = 19 from rfl)
  have HC1 := Lib.hid (chk_two m)
  have HC2 := Lib.hid (chk_two r)
  clear hm hr hT gW
  generalize (encG m sm).toArray = CM at *
  generalize (encG r sr).toArray = CR at *
  generalize hq1 : fewM m = q1 at *
  generalize hq2 : fewM r = q2 at *
  generalize hc1 : chkM m = c1 at *
  generalize hc2 : chkM r = c2 at *
  go_enter Tryd.func7, Tryd.ntmps7
  go_upto_region 1 with (fail)
  rw [← hW2]
  clear hW2
  go_wp2_with fail
  refine (HLIVE.out _ (Ge.refl _)).mono ?_
  rintro e w3 ⟨rfl, g3⟩
  have HG := Lib.hid g3
  have HX1 := Lib.hid (HB1.out.ge g3)
  have HX2 := Lib.hid (HB2.out.ge g3)
  clear g3
  go_wp2_with (first | (refine wpList_load_rowG (by go_simp) (.tmp 4) (by rfl) w.heap.size (by rfl) CM HX1.out HSZ1.out ?_) | (refine wpList_load_rowG (by go_simp) (.tmp 5) (by rfl) (w.heap.size + 1) (by rfl) CR HX2.out HSZ2.out ?_))
  refine (HFM.out _ HG.out).mono ?_
  rintro e w4 ⟨rfl, g4⟩
  replace HG := Lib.hid (HG.out.trans g4)
  replace HX1 := Lib.hid (HX1.out.ge g4)
  replace HX2 := Lib.hid (HX2.out.ge g4)
  clear g4
  rcases q1 with _ | _
  · go_wp2
    go_returns
    exact ⟨rfl, GW.out.trans HG.out⟩
  go_wp2_with (first | (refine wpList_load_rowG (by go_simp) (.tmp 4) (by rfl) w.heap.size (by rfl) CM HX1.out HSZ1.out ?_) | (refine wpList_load_rowG (by go_simp) (.tmp 5) (by rfl) (w.heap.size + 1) (by rfl) CR HX2.out HSZ2.out ?_))
  refine (HFR.out _ HG.out).mono ?_
  rintro e w5 ⟨rfl, g5⟩
  replace HG := Lib.hid (HG.out.trans g5)
  replace HX1 := Lib.hid (HX1.out.ge g5)
  replace HX2 := Lib.hid (HX2.out.ge g5)
  clear g5
  rcases q2 with _ | _
  · go_wp2
    go_returns
    exact ⟨rfl, GW.out.trans HG.out⟩
  have HSM1 := Lib.hid (HSM.out (by first | trivial | rfl))
  have HSR1 := Lib.hid (HSR.out (by first | trivial | rfl))
  clear HSM HSR
  go_wp2_with (first | (refine wpList_load_rowG (by go_simp) (.tmp 4) (by rfl) w.heap.size (by rfl) CM HX1.out HSZ1.out ?_) | (refine wpList_load_rowG (by go_simp) (.tmp 5) (by rfl) (w.heap.size + 1) (by rfl) CR HX2.out HSZ2.out ?_))
  refine (HKM.out _ HG.out HSM1.out).mono ?_
  rintro e w6 ⟨rfl, g6⟩
  replace HG := Lib.hid (HG.out.trans g6)
  replace HX1 := Lib.hid (HX1.out.ge g6)
  replace HX2 := Lib.hid (HX2.out.ge g6)
  clear g6
  have hcc := HC1.out
  clear HC1
  rcases hcc with rfl | rfl
  rotate_left
  · go_wp2
    go_returns
    exact ⟨rfl, GW.out.trans HG.out⟩
  go_wp2_with (first | (refine wpList_load_rowG (by go_simp) (.tmp 4) (by rfl) w.heap.size (by rfl) CM HX1.out HSZ1.out ?_) | (refine wpList_load_rowG (by go_simp) (.tmp 5) (by rfl) (w.heap.size + 1) (by rfl) CR HX2.out HSZ2.out ?_))
  refine (HKR.out _ HG.out HSR1.out).mono ?_
  rintro e w7 ⟨rfl, g7⟩
  replace HG := Lib.hid (HG.out.trans g7)
  replace HX1 := Lib.hid (HX1.out.ge g7)
  replace HX2 := Lib.hid (HX2.out.ge g7)
  clear g7
  have hcc := HC2.out
  clear HC2
  rcases hcc with rfl | rfl
  rotate_left
  · go_wp2
    go_returns
    exact ⟨rfl, GW.out.trans HG.out⟩
  have EKK := Lib.hid (show (room : Int) % 8 + 1 = (kk : Int) by omega)
  have HK1 := Lib.hid (show 1 ≤ kk by omega)
  have HK64 := Lib.hid (show kk ≤ 64 by omega)
  go_wp2_with fail
  rw [EKK.out]
  clear EKK hkk hroom
  refine (HNEW.out _ HG.out).mono ?_
  rintro e w8 ⟨p, rfl, hn⟩
  have HN := Lib.hid hn
  replace HX1 := Lib.hid (HB1.out.ge hn.ge)
  replace HX2 := Lib.hid (HB2.out.ge hn.ge)
  clear hn
  go_upto_region 10 with (fail)
  go_loopw [51] (fun i wr => ∃ j : Nat, j ≤ kk ∧ i = .int .i64 (j : Int) ∧ NR W2 w.heap.size p kk (List.replicate j m) wr) (fun i _ => kk - (intOf i).toNat)
  case atStart => exact ⟨0, by omega, rfl, HN.out⟩
  case round =>
    obtain ⟨j, hj, rfl, hn⟩ := hrel
    have HN := Lib.hid hn
    replace HX1 := Lib.hid (HB1.out.ge hn.ge)
    replace HX2 := Lib.hid (HB2.out.ge hn.ge)
    clear hn
    have hk64 := HK64.out
    by_cases hlt : j < kk
    · go_wp2_with (refine wpList_load_rowG (by go_simp) (.tmp 4) (by rfl) w.heap.size (by rfl) CM HX1.out HSZ1.out ?_)
      refine (HSEND.out _ _ _ HSM1.out (by first | trivial | rfl) HN.out (by simpa using hlt)).mono ?_
      rintro e w9 ⟨rfl, hn⟩
      have HN9 := Lib.hid (show NR W2 w.heap.size p kk (List.replicate (j + 1) m) w9 by rw [List.replicate_succ']; exact hn)
      clear hn
      go_wp2
      go_roundw
      case rel => exact ⟨j + 1, by omega, by go_num, HN9.out⟩
      case measure => simp [intOf]; omega
    · obtain rfl : j = kk := by omega
      have hdm : decide ((j : Int) < (j : Int)) = false := by simp
      go_wp2_with (refine wpList_load_rowG (by go_simp) (.tmp 5) (by rfl) (w.heap.size + 1) (by rfl) CR HX2.out HSZ2.out ?_)
      refine (HFULL.out _ _ _ HSR1.out (by first | trivial | rfl) HN.out (by simp)).mono ?_
      rintro e w9 ⟨rfl, hn⟩
      replace HN := Lib.hid hn
      have HLEFT := Lib.hid (nr_left hn)
      rw [List.length_replicate] at HLEFT
      clear hn
      go_wp2_with fail
      refine HLEFT.out.mono ?_
      rintro e w10 ⟨rfl, hn⟩
      obtain ⟨k, rfl⟩ : ∃ k, j = k + 1 := ⟨j - 1, by have := HK1.out; omega⟩
      rw [List.replicate_succ] at hn
      have HTK := Lib.hid (nr_take hn)
      clear hn HLEFT HN
      go_wp2_with fail
      refine HTK.out.mono ?_
      rintro e w11 ⟨⟨s1, rfl, hsl⟩, hn⟩
      have HN := Lib.hid hn
      have HSA := Lib.hid (fun w' (g : Ge w11 w') => HSAME.out w' s1 (hn.ge.trans g) HSM1.out (hsl.ge g))
      have HLS := Lib.hid (show (encG m s1).toArray.size = 19 from rfl)
      have HL1 := Lib.hid (show ∀ u ∈ (encG m s1).toArray.toList, u.oneCell' = true from fun u hu => encG_one hsl u (by simpa using hu))
      clear hn hsl HTK
      generalize (encG m s1).toArray = L1 at *
      go_wp2_with (first | (refine wpList_store_msg (by rfl) (.tmp 10) (.tmp 71) (by rfl) w11.heap.size L1 (by rfl) (by rfl) (Bx.new _ 45 _ rfl) rfl HLS.out HL1.out (w0 := w11) (Nat.le_refl _) ((Ge.refl _).alloc _) ?_; intro wn x5 g5 f5; clear f5; have HBX := Lib.hid x5; have HGN := Lib.hid g5; clear x5 g5; replace HN := Lib.hid (HN.out.next HGN.out); replace HX1 := Lib.hid (HB1.out.ge HN.out.ge); replace HX2 := Lib.hid (HB2.out.ge HN.out.ge)) | (refine wpList_load_rowG (by go_simp) (.tmp 10) (by rfl) w11.heap.size (by rfl) L1 HBX.out HLS.out ?_) | (refine wpList_load_rowG (by go_simp) (.tmp 4) (by rfl) w.heap.size (by rfl) CM HX1.out HSZ1.out ?_))
      refine (HSA.out _ HGN.out).mono ?_
      rintro e w12 ⟨rfl, g12⟩
      replace HN := Lib.hid (HN.out.next g12)
      replace HX2 := Lib.hid (HB2.out.ge HN.out.ge)
      clear g12 HSA HBX HLS HL1 HGN
      go_wp2_with (refine wpList_load_rowG (by go_simp) (.tmp 5) (by rfl) (w.heap.size + 1) (by rfl) CR HX2.out HSZ2.out ?_)
      refine (HSENDR.out _ _ _ HSR1.out (by first | trivial | rfl) HN.out (by simp)).mono ?_
      rintro e w13 ⟨rfl, hn⟩
      replace HN := Lib.hid hn
      clear hn
      go_upto_region 20 with (fail)
      have HK := Lib.hid (show k + 1 ≤ 64 from HK64.out)
      clear hk64 hdm hj
      go_loopw [89] (fun i wr => ∃ j : Nat, j ≤ k ∧ i = .int .i64 (j : Int) ∧ NR W2 w.heap.size p (k + 1) (List.replicate (k - j) m ++ [r]) wr) (fun i _ => k - (intOf i).toNat)
      case atStart => exact ⟨0, by omega, rfl, HN.out⟩
      case round =>
        obtain ⟨j, hj, rfl, hn⟩ := hrel
        have HN := Lib.hid hn
        replace HX1 := Lib.hid (HB1.out.ge hn.ge)
        replace HX2 := Lib.hid (HB2.out.ge hn.ge)
        clear hn
        have hk64 := HK.out
        by_cases hlt : j < k
        · obtain ⟨d, hd⟩ : ∃ d, k - j = d + 1 := ⟨k - j - 1, by omega⟩
          have HD := Lib.hid (show k - (j + 1) = d by omega)
          have hn := HN.out
          rw [hd, List.replicate_succ, List.cons_append] at hn
          have HTK := Lib.hid (nr_take hn)
          clear hn hd
          go_wp2_with fail
          refine HTK.out.mono ?_
          rintro e w14 ⟨⟨s1, rfl, hsl⟩, hn⟩
          replace HN := Lib.hid hn
          have HSA := Lib.hid (fun w' (g : Ge w14 w') => HSAME.out w' s1 (hn.ge.trans g) HSM1.out (hsl.ge g))
          have HLS := Lib.hid (show (encG m s1).toArray.size = 19 from rfl)
          have HL1 := Lib.hid (show ∀ u ∈ (encG m s1).toArray.toList, u.oneCell' = true from fun u hu => encG_one hsl u (by simpa using hu))
          clear hn hsl HTK
          generalize (encG m s1).toArray = L1 at *
          go_wp2_with (first | (refine wpList_store_msg (by rfl) (.tmp 12) (.tmp 94) (by rfl) w14.heap.size L1 (by rfl) (by rfl) (Bx.new _ 45 _ rfl) rfl HLS.out HL1.out (w0 := w14) (Nat.le_refl _) ((Ge.refl _).alloc _) ?_; intro wn x5 g5 f5; clear f5; have HBX := Lib.hid x5; have HGN := Lib.hid g5; clear x5 g5; replace HN := Lib.hid (HN.out.next HGN.out); replace HX1 := Lib.hid (HB1.out.ge HN.out.ge); replace HX2 := Lib.hid (HB2.out.ge HN.out.ge)) | (refine wpList_load_rowG (by go_simp) (.tmp 12) (by rfl) w14.heap.size (by rfl) L1 HBX.out HLS.out ?_) | (refine wpList_load_rowG (by go_simp) (.tmp 4) (by rfl) w.heap.size (by rfl) CM HX1.out HSZ1.out ?_))
          refine (HSA.out _ HGN.out).mono ?_
          rintro e w15 ⟨rfl, g15⟩
          replace HN := Lib.hid (HN.out.next g15)
          clear g15 HSA HBX HLS HL1 HGN
          go_wp2
          go_roundw
          case rel => exact ⟨j + 1, by omega, by go_num, by rw [HD.out]; exact HN.out⟩
          case measure => simp [intOf]; omega
        · obtain rfl : j = k := by omega
          have hdm : decide ((j : Int) < (j : Int)) = false := by simp
          have hn := HN.out
          rw [Nat.sub_self, List.replicate_zero, List.nil_append] at hn
          have HTK := Lib.hid (nr_take hn)
          clear hn
          go_wp2_with fail
          refine HTK.out.mono ?_
          rintro e w14 ⟨⟨s1, rfl, hsl⟩, hn⟩
          replace HN := Lib.hid hn
          have HSA := Lib.hid (fun w' (g : Ge w14 w') => HSAMER.out w' s1 (hn.ge.trans g) HSR1.out (hsl.ge g))
          have HLS := Lib.hid (show (encG r s1).toArray.size = 19 from rfl)
          have HL1 := Lib.hid (show ∀ u ∈ (encG r s1).toArray.toList, u.oneCell' = true from fun u hu => encG_one hsl u (by simpa using hu))
          clear hn hsl HTK
          generalize (encG r s1).toArray = L1 at *
          go_wp2_with (first | (refine wpList_store_msg (by rfl) (.tmp 14) (.tmp 108) (by rfl) w14.heap.size L1 (by rfl) (by rfl) (Bx.new _ 45 _ rfl) rfl HLS.out HL1.out (w0 := w14) (Nat.le_refl _) ((Ge.refl _).alloc _) ?_; intro wn x5 g5 f5; clear f5; have HBX := Lib.hid x5; have HGN := Lib.hid g5; clear x5 g5; replace HN := Lib.hid (HN.out.next HGN.out); replace HX1 := Lib.hid (HB1.out.ge HN.out.ge); replace HX2 := Lib.hid (HB2.out.ge HN.out.ge)) | (refine wpList_load_rowG (by go_simp) (.tmp 14) (by rfl) w14.heap.size (by rfl) L1 HBX.out HLS.out ?_) | (refine wpList_load_rowG (by go_simp) (.tmp 5) (by rfl) (w.heap.size + 1) (by rfl) CR HX2.out HSZ2.out ?_))
          refine (HSA.out _ HGN.out).mono ?_
          rintro e w15 ⟨rfl, g15⟩
          replace HN := Lib.hid (HN.out.next g15)
          have HLF := Lib.hid (nr_left HN.out)
          clear g15 HSA HBX HLS HL1 HGN
          go_wp2_with fail
          refine HLF.out.mono ?_
          rintro e w16 ⟨rfl, hn⟩
          have HG16 := Lib.hid (GW.out.trans hn.ge)
          clear hn HLF
          go_wp2
          go_returns
          exact ⟨rfl, HG16.out⟩
end Go.Proofs.YtmhibpmgnicolaaDoor
