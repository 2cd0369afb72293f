/-
  LinkOrder: the walk.
-/
import Derived.Test.YtmhibpmgnicolaaDoorOrderL
import Derived.Test.YtmhibpmgnicolaaDoorFew
import Derived.Test.YtmhibpmgnicolaaDoorLive
import Derived.Test.YtmhibpmgnicolaaDoorRCheck
namespace Go.Proofs.YtmhibpmgnicolaaDoor
open Go.RowKit
attribute [local go_sem] Dr.upT

set_option maxRecDepth 100000 in
set_option maxHeartbeats 16000000 in
theorem order_any {w : World} (hT : Tabs w) {v : Value} {xs : List Dor} (hxs : LAt eD w.heap.size w v xs) (kxs : ∀ a ∈ xs, SlAt w.heap.size w a.s a.m) (room : Nat) (hroom : room ≤ 255) :
    Calls Tryd.prog 6 #[.int .u8 (room : Int), v] w fun e w' => e = .returned (.bool true) ∧ Ge w w' := by
  obtain ⟨A, cap, rfl, hle, hc⟩ := hxs
  obtain ⟨kk, hkk⟩ : ∃ k : Nat, k = room % 8 + 1 := ⟨_, rfl⟩
  obtain ⟨n, hn⟩ : ∃ n : Nat, n = min xs.length 200 := ⟨_, rfl⟩
  have HT := Lib.hid hT
  have HC := Lib.hid hc
  have HSL := Lib.hid kxs
  have HNL := Lib.hid (show n ≤ xs.length ∧ n ≤ 200 by omega)
  have HKK := Lib.hid (show 1 ≤ kk ∧ kk ≤ 8 by omega)
  have EKK := Lib.hid (show (room : Int) % 8 + 1 = (kk : Int) by omega)
  have hmin : min (xs.length : Int) 200 = (n : Int) := by omega
  have hnc : (n : Int) ≤ (cap : Int) := by omega
  clear hT hc kxs hn hkk hle
  go_enter Tryd.func6, Tryd.ntmps6
  go_wp2_with fail
  refine (live_any HT.out).mono ?_
  rintro e w3 ⟨rfl, g3⟩
  have HG := Lib.hid g3
  clear g3
  go_wp2_with fail
  rw [EKK.out]
  refine (os_new kk HKK.out.1 (by have := HKK.out; omega) HG.out).mono ?_
  rintro e w4 ⟨p, rfl, hos⟩
  have HOS := Lib.hid hos
  clear hos HG
  go_upto_region 8 with (fail)
  clear hmin hnc
  go_loopw [7, 8, 41] (fun s7 s8 i wr => ∃ (j : Nat) (sent taken l : List Msg), j ≤ n ∧ i = .int .i64 (j : Int) ∧ OS w (fun _ => False) p kk s7 s8 sent taken l wr ∧ sent = taken ++ l ∧ l.length ≤ kk ∧ sent.length ≤ j ∧ ∀ m ∈ sent, Small m) (fun _ _ i _ => n - (intOf i).toNat)
  case atStart => exact ⟨0, [], [], [], by omega, rfl, HOS.out, rfl, Nat.zero_le _, Nat.le_refl _, fun _ h => by cases h⟩
  case round =>
    obtain ⟨j, sent, taken, l, hj, rfl, hos, heq, hlk, hsj, hsm⟩ := hrel
    have HSMS := Lib.hid hsm
    clear hsm
    have HOS := Lib.hid hos
    have HEQ := Lib.hid heq
    have HLK := Lib.hid hlk
    have HSJ := Lib.hid hsj
    clear hos heq hlk hsj
    have hn200 : n ≤ 200 := HNL.out.2
    by_cases hlt : j < n
    · obtain ⟨b, off, rfl, hb, hcell⟩ := HC.out (fun e => by have := HNL.out.1; rw [e] at this; simp at this; omega)
      obtain ⟨d, hd⟩ : ∃ d, xs[j]? = some d := ⟨_, List.getElem?_eq_getElem (by have := HNL.out.1; omega)⟩
      have HRA := Lib.hid (show wr.rangeAt b (off + j * 22) (encD d) from fun i u hu => ((HOS.out.ge.kp w.heap.size).cell hb _).trans (hcell j d hd i u hu))
      have hsl := HSL.out d (List.mem_of_getElem? hd)
      have HS := Lib.hid hsl
      have hlb : b < wr.heap.size := Nat.lt_of_lt_of_le hb.1 HOS.out.ge.size
      have i1 : (0 : Int) ≤ (j : Int) := by omega
      have i2 : (j : Int) < (n : Int) := by omega
      have HLEN := Lib.hid (show (encD d).length = 22 from rfl)
      have HONE := Lib.hid (show ∀ u ∈ (encD d).toArray.toList, u.oneCell' = true from fun u hu => encD_one hsl u (by simpa using hu))
      have HFEW := Lib.hid (fun w' (g : Ge w w') => few_any (hsl.ge g))
      have HSM := Lib.hid (@few_small d.m)
      have hD0 : (encD d).toArray[0]? = some (.int .i64 d.kind) := rfl
      have hD1 : (encD d).toArray[1]? = some (.int .i64 d.from') := rfl
      have hD2 : (encD d).toArray[2]? = some (.int .i64 d.to') := rfl
      have HD3 := Lib.hid (show ∀ j v, (encG d.m d.s)[j]? = some v → (encD d).toArray[3 + j]? = some v from fun j v hv => by simp only [encD]; rw [show 3 + j = j + 1 + 1 + 1 by omega]; simpa using hv)
      have HEL := Lib.hid (show (encG d.m d.s).length = 19 from rfl)
      clear hcell hb hsl hd
      generalize encD d = ED at *
      generalize hEM : encG d.m d.s = EM at *
      have HEM := Lib.hid hEM
      clear hEM
      generalize d.kind = kd at *
      generalize d.from' = fr at *
      generalize d.to' = tt at *
      generalize hq : fewM d.m = q at *
      have HQ := Lib.hid hq
      clear hq
      go_wp2_with (first | (refine wpList_load_do (by rfl) (.tmp 43) (by rfl) b (off + j * 22) (by rfl) ED HRA.out HLEN.out ?_) | (refine wpList_store_do (by rfl) (.tmp 10) (.tmp 44) (by rfl) wr.heap.size ED.toArray (by rfl) (by rfl) (Bx.new _ 47 _ rfl) rfl (by simp [HLEN.out]) HONE.out (w0 := wr) (Nat.le_refl _) ((Ge.refl _).alloc _) ?_; intro w5 x5 g5; have HB5 := Lib.hid x5; have HO5 := Lib.hid (HOS.out.fresh g5 x5.lt); have HM5 := Lib.hid (show w5.rangeAt wr.heap.size 3 EM from fun j v hj => (x5.cell _).trans (HD3.out j v hj)); clear x5 g5) | (refine wpList_load_at (by go_simp) (.tmp 45) (by rfl) wr.heap.size 3 (by rfl) EM HM5.out HEL.out ?_))
      refine (HFEW.out _ HO5.out.ge).mono ?_
      rintro e w6 ⟨rfl, g6⟩
      replace HB5 := Lib.hid (HB5.out.ge g6)
      replace HO5 := Lib.hid (HO5.out.next g6)
      clear g6 HM5
      rcases q with _ | _
      · go_wp2
        go_roundw
        case rel => exact ⟨j + 1, sent, taken, l, by omega, by go_num, HO5.out.free, HEQ.out, HLK.out, Nat.le_trans HSJ.out (Nat.le_succ _), HSMS.out⟩
        case measure => simp [intOf]; omega
      have HSML := Lib.hid (HSM.out (by first | trivial | rfl))
      clear HQ HSM HFEW
      have c0 := (HB5.out.cell 0).trans hD0
      have c1 := (HB5.out.cell 1).trans hD1
      have c2 := (HB5.out.cell 2).trans hD2
      have lB := HB5.out.lt
      go_upto_block 2 with (fail)
      go_cut [7, 8, 11, 12, 13] from 42 to 131 (fun s7 s8 s11 s12 s13 wx => ∃ (sent taken l : List Msg), OS w (fun _ => False) p kk s7 s8 sent taken l wx ∧ sent = taken ++ l ∧ l.length ≤ kk ∧ sent.length ≤ j + 1 ∧ ∀ m ∈ sent, Small m)
      case first =>
        by_cases k0 : kd = 0
        · subst k0
          have HM6 := Lib.hid (show w6.rangeAt wr.heap.size 3 EM from fun j v hj => (HB5.out.cell _).trans (HD3.out j v hj))
          have HSND := Lib.hid (os_send HT.out HO5.out fr tt HS.out HSML.out)
          rw [HEM.out] at HSND
          go_wp2_with (refine wpList_load_at (by go_simp) (.tmp 58) (by rfl) wr.heap.size 3 (by rfl) EM HM6.out HEL.out ?_)
          refine HSND.out.mono ?_
          rintro e w7 ⟨c, l', rfl, hos7, hkeep, hyes, hno⟩
          have HB7 := Lib.hid (show Bx w7 wr.heap.size 47 ED.toArray from (hkeep _ rfl).trans HB5.out)
          have HO7 := Lib.hid hos7
          have HY := Lib.hid hyes
          have HNO := Lib.hid hno
          clear hos7 hkeep hyes hno HSND HM6 c0 c1 c2 lB
          have c1 := (HB7.out.cell 1).trans hD1
          have c2 := (HB7.out.cell 2).trans hD2
          have lB := HB7.out.lt
          by_cases hf : fr = 0
          rotate_left
          · have e1 : (fr == 0) = false := by simpa using hf
            obtain rfl := HNO.out (fun h => hf h.1)
            clear hf
            go_wp2_with fail
            go_meet
            exact ⟨sent, taken, _, HO7.out.free, HEQ.out, HLK.out, Nat.le_trans HSJ.out (Nat.le_succ _), HSMS.out⟩
          subst hf
          by_cases ht : tt = 1
          rotate_left
          · have e1 : (tt == 1) = false := by simpa using ht
            obtain rfl := HNO.out (fun h => ht h.2.1)
            clear ht
            go_wp2_with fail
            go_meet
            exact ⟨sent, taken, _, HO7.out.free, HEQ.out, HLK.out, Nat.le_trans HSJ.out (Nat.le_succ _), HSMS.out⟩
          subst ht
          by_cases hc0 : c = 0
          rotate_left
          · have e1 : (c == 0) = false := by simpa using hc0
            obtain rfl := HNO.out (fun h => hc0 h.2.2)
            clear hc0
            go_wp2_with fail
            go_meet
            exact ⟨sent, taken, _, HO7.out.free, HEQ.out, HLK.out, Nat.le_trans HSJ.out (Nat.le_succ _), HSMS.out⟩
          subst hc0
          obtain ⟨rfl, hll⟩ := HY.out ⟨rfl, rfl, rfl⟩
          have HLL := Lib.hid hll
          obtain ⟨v9, w9, hrun, hos9⟩ := os_app7 (HO7.out.next ((Ge.refl w7).alloc (.cells EM.toArray 45))) (by have := HSJ.out; omega) w7.heap.size d.m d.s (by rw [HEM.out]; exact Bx.new w7 45 _ rfl) (HS.out.ge (HO7.out.ge.trans ((Ge.refl _).alloc _))) 72
          have HRUN := Lib.hid hrun
          have HO9 := Lib.hid hos9
          have HM7 := Lib.hid (show w7.rangeAt wr.heap.size 3 EM from fun j v hj => (HB7.out.cell _).trans (HD3.out j v hj))
          clear hll hrun hos9
          go_wp2_with (first | (refine wpList_load_at (by go_simp) (.tmp 74) (by rfl) wr.heap.size 3 (by rfl) EM HM7.out HEL.out ?_) | (refine wpList_one (by rfl) (.tmp 75) (by rfl) EM.toArray (by rfl) (by simp [HEL.out]) ?_) | (refine wpList_app72 (by rfl) (.tmp 73) (.tmp 76) (by rfl) _ _ v9 w9 (by rfl) (by rfl) HRUN.out ?_))
          go_meet
          exact ⟨sent ++ [d.m], taken, l ++ [d.m], HO9.out.free, by rw [HEQ.out, List.append_assoc], by simp; have := HLL.out; omega, by simp; have := HSJ.out; omega, fun m hm => (List.mem_append.1 hm).elim (HSMS.out m) (fun h => by rw [List.mem_singleton.1 h]; exact HSML.out)⟩
        have e0 : (kd == 0) = false := by simpa using k0
        by_cases k1 : kd = 1
        · subst k1
          clear e0 k0
          have HTK := Lib.hid (os_take HO5.out fr tt)
          go_wp2_with fail
          refine HTK.out.mono ?_
          rintro e w7 ⟨c, m1, s1, l', rfl, hsl1, hos7, hkeep, hyes, hno⟩
          have HB7 := Lib.hid (show Bx w7 wr.heap.size 47 ED.toArray from (hkeep _ rfl).trans HB5.out)
          have HO7 := Lib.hid hos7
          have HY := Lib.hid hyes
          have HNO := Lib.hid hno
          have HLS := Lib.hid (show (encG m1 s1).toArray.size = 19 from rfl)
          have HL1 := Lib.hid (show ∀ u ∈ (encG m1 s1).toArray.toList, u.oneCell' = true from fun u hu => encG_one hsl1 u (by simpa using hu))
          have HSL1 := Lib.hid hsl1
          clear hos7 hkeep hyes hno HTK c0 c1 c2 lB hsl1
          generalize hL1 : encG m1 s1 = L1 at *
          have HE1 := Lib.hid hL1
          clear hL1
          by_cases hf : fr = 0
          rotate_left
          · have e1 : (fr == 0) = false := by simpa using hf
            obtain rfl := HNO.out (fun h => hf h.1)
            clear hf
            go_wp2_with (first | (refine wpList_store_msg (by rfl) (.tmp 12) (.tmp 87) (by rfl) w7.heap.size L1.toArray (by rfl) (by rfl) (Bx.new _ 45 _ rfl) rfl HLS.out HL1.out (w0 := w7) (Nat.le_refl _) ((Ge.refl _).alloc _) ?_; intro w8 x5 g5 f5; clear f5; have HBX := Lib.hid x5; replace HB7 := Lib.hid (HB7.out.ge g5); replace HO7 := Lib.hid (HO7.out.next g5); replace HSL1 := Lib.hid (HSL1.out.ge g5); clear x5 g5; have c1 := (HB7.out.cell 1).trans hD1; have c2 := (HB7.out.cell 2).trans hD2; have lB := HB7.out.lt))
            go_meet
            exact ⟨sent, taken, _, HO7.out.free, HEQ.out, HLK.out, Nat.le_trans HSJ.out (Nat.le_succ _), HSMS.out⟩
          subst hf
          by_cases ht : tt = 1
          rotate_left
          · have e1 : (tt == 1) = false := by simpa using ht
            obtain rfl := HNO.out (fun h => ht h.2.1)
            clear ht
            go_wp2_with (first | (refine wpList_store_msg (by rfl) (.tmp 12) (.tmp 87) (by rfl) w7.heap.size L1.toArray (by rfl) (by rfl) (Bx.new _ 45 _ rfl) rfl HLS.out HL1.out (w0 := w7) (Nat.le_refl _) ((Ge.refl _).alloc _) ?_; intro w8 x5 g5 f5; clear f5; have HBX := Lib.hid x5; replace HB7 := Lib.hid (HB7.out.ge g5); replace HO7 := Lib.hid (HO7.out.next g5); replace HSL1 := Lib.hid (HSL1.out.ge g5); clear x5 g5; have c1 := (HB7.out.cell 1).trans hD1; have c2 := (HB7.out.cell 2).trans hD2; have lB := HB7.out.lt))
            go_meet
            exact ⟨sent, taken, _, HO7.out.free, HEQ.out, HLK.out, Nat.le_trans HSJ.out (Nat.le_succ _), HSMS.out⟩
          subst ht
          by_cases hc0 : c = 0
          rotate_left
          · have e1 : (c == 0) = false := by simpa using hc0
            obtain rfl := HNO.out (fun h => hc0 h.2.2)
            clear hc0
            go_wp2_with (first | (refine wpList_store_msg (by rfl) (.tmp 12) (.tmp 87) (by rfl) w7.heap.size L1.toArray (by rfl) (by rfl) (Bx.new _ 45 _ rfl) rfl HLS.out HL1.out (w0 := w7) (Nat.le_refl _) ((Ge.refl _).alloc _) ?_; intro w8 x5 g5 f5; clear f5; have HBX := Lib.hid x5; replace HB7 := Lib.hid (HB7.out.ge g5); replace HO7 := Lib.hid (HO7.out.next g5); replace HSL1 := Lib.hid (HSL1.out.ge g5); clear x5 g5; have c1 := (HB7.out.cell 1).trans hD1; have c2 := (HB7.out.cell 2).trans hD2; have lB := HB7.out.lt))
            go_meet
            exact ⟨sent, taken, _, HO7.out.free, HEQ.out, HLK.out, Nat.le_trans HSJ.out (Nat.le_succ _), HSMS.out⟩
          subst hc0
          have HLL := Lib.hid (HY.out ⟨rfl, rfl, rfl⟩)
          go_upto_region 19 with (first | (refine wpList_store_msg (by rfl) (.tmp 12) (.tmp 87) (by rfl) w7.heap.size L1.toArray (by rfl) (by rfl) (Bx.new _ 45 _ rfl) rfl HLS.out HL1.out (w0 := w7) (Nat.le_refl _) ((Ge.refl _).alloc _) ?_; intro w8 x5 g5 f5; clear f5; have HBX := Lib.hid x5; replace HB7 := Lib.hid (HB7.out.ge g5); replace HO7 := Lib.hid (HO7.out.next g5); replace HSL1 := Lib.hid (HSL1.out.ge g5); clear x5 g5; have c1 := (HB7.out.cell 1).trans hD1; have c2 := (HB7.out.cell 2).trans hD2; have lB := HB7.out.lt))
          obtain ⟨v9, w9, hrun, hos9⟩ := os_app8 (HO7.out.next ((Ge.refl w8).alloc (.cells L1.toArray 45))) (by have h1 := HSJ.out; have h2 := congrArg List.length HEQ.out; simp at h2; omega) w8.heap.size m1 s1 (by rw [HE1.out]; exact Bx.new w8 45 _ rfl) (HSL1.out.ge ((Ge.refl _).alloc _)) 72
          have HRUN := Lib.hid hrun
          have HO9 := Lib.hid hos9
          clear hrun hos9 c1 c2 lB
          go_wp2_with (first | (refine wpList_load_rowG (by go_simp) (.tmp 12) (by rfl) w7.heap.size (by rfl) L1.toArray HBX.out HLS.out ?_) | (refine wpList_one (by rfl) (.tmp 102) (by rfl) L1.toArray (by rfl) HLS.out ?_) | (refine wpList_app72 (by rfl) (.tmp 101) (.tmp 103) (by rfl) _ _ v9 w9 (by rfl) (by rfl) HRUN.out ?_))
          go_meet
          exact ⟨sent, taken ++ [m1], l', HO9.out.free, by rw [HEQ.out, HLL.out]; simp, by have h1 := HLK.out; rw [HLL.out] at h1; simp at h1; omega, Nat.le_trans HSJ.out (Nat.le_succ _), HSMS.out⟩
        have e1 : (kd == 1) = false := by simpa using k1
        clear k0 k1
        go_wp2_with fail
        go_meet
        exact ⟨sent, taken, l, HO5.out.free, HEQ.out, HLK.out, Nat.le_trans HSJ.out (Nat.le_succ _), HSMS.out⟩
      case rest =>
        obtain ⟨sent, taken, l, hos, heq, hlk, hsj, hsm⟩ := hcut
        have HSM2 := Lib.hid hsm
        clear hsm
        have HOS := Lib.hid hos
        have HEQ := Lib.hid heq
        have HLK := Lib.hid hlk
        have HSJ := Lib.hid hsj
        clear c0 c1 c2 lB
        obtain ⟨A7, cap7, rfl, _, _⟩ := hos.form7
        obtain ⟨A8, cap8, rfl, _⟩ := hos.form8
        have hrm := os_room hos
        rw [← EKK.out] at hrm
        have HROOM := Lib.hid hrm
        have hls : sent.length = taken.length + l.length := by rw [heq, List.length_append]
        have ew : wrap64 ((sent.length : Int) - (taken.length : Int)) = (l.length : Int) := by unfold wrap64; omega
        have u1 : decide ((l.length : Int) < 0) = false := by simp
        have u2 : decide ((room : Int) % 8 + 1 < (l.length : Int)) = false := by
          have := EKK.out
          simp
          omega
        have hl8 : l.length ≤ 8 := by have := HKK.out; omega
        clear hls hrm hos heq hlk hsj
        generalize hl0 : l.length = ll at *
        have HL0 := Lib.hid hl0
        clear hl0
        go_wp2_with fail
        refine HROOM.out.mono ?_
        rintro e w9 ⟨rfl, g9⟩
        replace HOS := Lib.hid (HOS.out.next g9)
        clear g9 HROOM
        go_wp2
        go_roundw
        case rel => exact ⟨j + 1, sent, taken, l, by omega, by go_num, HOS.out, HEQ.out, by rw [HL0.out]; exact HLK.out, HSJ.out, HSM2.out⟩
        case measure => simp [intOf]; omega
    · obtain rfl : j = n := by omega
      have hos := HOS.out
      have hls : sent.length = taken.length + l.length := by have h2 := congrArg List.length HEQ.out; simpa using h2
      obtain ⟨A7, cap7, rfl, hle7, hA7⟩ := hos.form7
      obtain ⟨A8, cap8, rfl, _⟩ := hos.form8
      have HA7 := Lib.hid hA7
      have HK7 := Lib.hid (show taken.length ≤ sent.length by omega)
      have HC7 := Lib.hid hle7
      obtain ⟨ll, hll⟩ : ∃ n : Nat, n = l.length := ⟨_, rfl⟩
      have HLX := Lib.hid (show sent.length - taken.length = ll by omega)
      have HLL := Lib.hid hll
      have HSN := Lib.hid (show sent.length ≤ 200 by have := HSJ.out; omega)
      have hl8 : ll ≤ 8 := by have := HKK.out; have := HLK.out; omega
      have hdm : decide ((j : Int) < (j : Int)) = false := by simp
      clear hos hls hA7 hle7 hll hlt hj HSJ HLK
      go_upto_region 25 with (refine wpList_tail (by rfl) (.tmp 132) (.tmp 134) (by rfl) A7 sent.length cap7 taken.length (by rfl) (by rfl) HA7.out HK7.out HC7.out ?_; rw [HLX.out]; intro A9)
      clear HA7 HK7 HC7 HLX hdm hn200
      go_loopw [8, 137] (fun s8 i wr => ∃ (j : Nat) (taken l : List Msg), j + l.length = ll ∧ i = .int .i64 (j : Int) ∧ OS w (fun _ => False) p kk (.slice A7 sent.length cap7) s8 sent taken l wr ∧ sent = taken ++ l) (fun _ i _ => ll - (intOf i).toNat)
      case atStart => exact ⟨0, taken, l, by have := HLL.out; omega, rfl, HOS.out, HEQ.out⟩
      case round =>
        clear HOS HEQ HLL
        obtain ⟨j, taken, l, hjl, rfl, hos, heq⟩ := hrel
        have HOS := Lib.hid hos
        have HEQ := Lib.hid heq
        clear hos heq
        rcases l with _ | ⟨m1, l⟩
        rotate_left
        · have hlt : j < ll := by simp at hjl; omega
          have HJL := Lib.hid (show j + 1 + l.length = ll by simp at hjl; omega)
          have HTK := Lib.hid (os_take1 HOS.out)
          clear hjl
          go_wp2_with fail
          refine HTK.out.mono ?_
          rintro e w7 ⟨s1, rfl, hsl1, hos7⟩
          have HO7 := Lib.hid hos7
          have HLS := Lib.hid (show (encG m1 s1).toArray.size = 19 from rfl)
          have HL1 := Lib.hid (show ∀ u ∈ (encG m1 s1).toArray.toList, u.oneCell' = true from fun u hu => encG_one hsl1 u (by simpa using hu))
          have HSL1 := Lib.hid hsl1
          clear hos7 HTK hsl1 HOS
          generalize hL1 : encG m1 s1 = L1 at *
          have HE1 := Lib.hid hL1
          clear hL1
          go_upto_region 29 with (refine wpList_store_msg (by rfl) (.tmp 15) (.tmp 142) (by rfl) w7.heap.size L1.toArray (by rfl) (by rfl) (Bx.new _ 45 _ rfl) rfl HLS.out HL1.out (w0 := w7) (Nat.le_refl _) ((Ge.refl _).alloc _) ?_; intro w8 x5 g5 f5; clear f5; have HBX := Lib.hid x5; replace HO7 := Lib.hid (HO7.out.next g5); replace HSL1 := Lib.hid (HSL1.out.ge g5); clear x5 g5)
          obtain ⟨v9, w9, hrun, hos9⟩ := os_app8 (HO7.out.next ((Ge.refl w8).alloc (.cells L1.toArray 45))) (by have h1 := HSN.out; have h2 := congrArg List.length HEQ.out; simp at h2; omega) w8.heap.size m1 s1 (by rw [HE1.out]; exact Bx.new w8 45 _ rfl) (HSL1.out.ge ((Ge.refl _).alloc _)) 72
          have HRUN := Lib.hid hrun
          have HO9 := Lib.hid hos9
          clear hrun hos9
          go_wp2_with (first | (refine wpList_load_rowG (by go_simp) (.tmp 15) (by rfl) w7.heap.size (by rfl) L1.toArray HBX.out HLS.out ?_) | (refine wpList_one (by rfl) (.tmp 147) (by rfl) L1.toArray (by rfl) HLS.out ?_) | (refine wpList_app72 (by rfl) (.tmp 146) (.tmp 148) (by rfl) _ _ v9 w9 (by rfl) (by rfl) HRUN.out ?_))
          go_roundw
          case rel => exact ⟨j + 1, taken ++ [m1], l, HJL.out, by go_num, HO9.out, by rw [HEQ.out]; simp⟩
          case measure => simp [intOf]; omega
        · obtain rfl : j = ll := by simpa using hjl
          obtain rfl : sent = taken := by simpa using HEQ.out
          have hdm : decide ((j : Int) < (j : Int)) = false := by simp
          obtain ⟨A8, cap8, rfl, _⟩ := HOS.out.form8
          clear hjl HEQ
          have hsn := HSN.out
          obtain ⟨k3, hk3⟩ : ∃ n : Nat, n = sent.length := ⟨_, rfl⟩
          rw [← hk3] at hsn HOS ⊢
          have HK3 := Lib.hid hk3
          clear hk3
          go_upto_region 32 with (fail)
          clear hdm
          go_loopw [153] (fun i wr => ∃ (j : Nat), j ≤ k3 ∧ i = .int .i64 (j : Int) ∧ OS w (fun _ => False) p kk (.slice A7 k3 cap7) (.slice A8 k3 cap8) sent sent [] wr) (fun i _ => k3 - (intOf i).toNat)
          case atStart => exact ⟨0, by omega, rfl, HOS.out⟩
          case round =>
            clear HOS
            obtain ⟨j, hj, rfl, hos⟩ := hrel
            by_cases hlt : j < k3
            · obtain ⟨m, hm⟩ : ∃ m, sent[j]? = some m := ⟨_, List.getElem?_eq_getElem (by rw [← HK3.out]; exact hlt)⟩
              obtain ⟨g7, o7, s7, rfl, hg7, hs7, hr7⟩ := hos.at7 hm
              obtain ⟨g8, o8, s8, rfl, hg8, hs8, hr8⟩ := hos.at8 hm
              have HOS := Lib.hid hos
              have HR7 := Lib.hid hr7
              have HR8 := Lib.hid (hr8 wr (Ge.refl _))
              have HLS8 := Lib.hid (show (encG m s8).toArray.size = 19 from rfl)
              have HLL8 := Lib.hid (show (encG m s8).length = 19 from rfl)
              have HLL7 := Lib.hid (show (encG m s7).length = 19 from rfl)
              have HL8 := Lib.hid (show ∀ u ∈ (encG m s8).toArray.toList, u.oneCell' = true from fun u hu => encG_one hs8 u (by simpa using hu))
              have hsame := (fun w' (g : Ge wr w') => rsame (hs8.ge g) (hs7.ge g) (HSMS.out m (List.mem_of_getElem? hm)))
              rw [decide_eq_true rfl] at hsame
              have HSAME := Lib.hid hsame
              have i1 : (0 : Int) ≤ (j : Int) := by omega
              have i2 : (j : Int) < (k3 : Int) := by omega
              have u1 : decide ((k3 : Int) ≤ (j : Int)) = false := by simp; omega
              clear hos hr7 hr8 hs7 hs8 hm hsame
              generalize encG m s7 = E7 at *
              generalize encG m s8 = E8 at *
              go_upto_region 34 with (first | (refine wpList_load_at (by go_simp) (.tmp 156) (by rfl) g8 (o8 + j * 19) (by rfl) E8 HR8.out HLL8.out ?_) | (refine wpList_store_msg (by rfl) (.tmp 18) (.tmp 157) (by rfl) wr.heap.size E8.toArray (by rfl) (by rfl) (Bx.new _ 45 _ rfl) rfl HLS8.out HL8.out (w0 := wr) (Nat.le_refl _) ((Ge.refl _).alloc _) ?_; intro w5 x5 g5 f5; clear f5; have HBX := Lib.hid x5; have HG5 := Lib.hid g5; clear x5 g5))
              refine Dr.wp_region_T (by kernel_rfl) (by kernel_rfl) ?_
              iterate 5 (apply Dr.wpT_det; · (intro u w7 hw hF; clear hF; go_simp; first | exact ⟨Ge.refl _, rfl⟩ | exact Ge.refl _ | rfl))
              refine wpT_msg (.tmp 18) wr.heap.size E8.toArray (by rfl) (by intro u; go_simp) (fun _ g => HBX.out.ge g) HLS8.out (by intro u; go_simp) ?_
              iterate 3 (apply Dr.wpT_det; · (intro u w7 hw hF; clear hF; go_simp; first | exact ⟨Ge.refl _, rfl⟩ | exact Ge.refl _ | rfl))
              refine wpT_msg_at (.tmp 166) g7 (o7 + j * 19) E7 (by rfl) (by intro u; go_simp) (fun _ g => HR7.out _ (HG5.out.trans g)) HLL7.out (by intro u; go_simp) ?_
              refine wpT_call 17 #[.agg E8.toArray, .agg E7.toArray] (.bool true) (by intro u; go_simp) (by intro u w7; go_simp) (fun w7 g => HSAME.out w7 (HG5.out.trans g)) ?_
              iterate 2 (apply Dr.wpT_det; · (intro u w7 hw hF; clear hF; go_simp; first | exact ⟨Ge.refl _, rfl⟩ | exact Ge.refl _ | rfl))
              intro u w7 hw hF
              clear hF
              have HO7 := Lib.hid (HOS.out.next (HG5.out.trans hw))
              clear hw
              simp only [Act.put, List.setIfInBounds_toArray, List.set_cons_zero, List.set_cons_succ]
              go_wp2
              go_roundw
              case rel => exact ⟨j + 1, by omega, by go_num, HO7.out⟩
              case measure => simp [intOf]; omega
            · obtain rfl : j = k3 := by omega
              have hdm : decide ((j : Int) < (j : Int)) = false := by simp
              have HTK := Lib.hid (os_take0 hos)
              have HG := Lib.hid hos.ge
              clear hos hlt hj
              go_wp2_with fail
              refine HTK.out.mono ?_
              generalize (encG mzero nilS).toArray = ZM
              rintro e w8 ⟨rfl, g8⟩
              have HG8 := Lib.hid (HG.out.trans g8)
              clear g8
              go_wp2
              go_returns
              exact ⟨rfl, HG8.out⟩
end Go.Proofs.YtmhibpmgnicolaaDoor
