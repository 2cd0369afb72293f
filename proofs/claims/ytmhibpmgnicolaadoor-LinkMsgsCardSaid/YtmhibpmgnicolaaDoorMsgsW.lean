/-
  LinkMsgs: the walk.
-/
import Derived.Test.YtmhibpmgnicolaaDoorLive
import Derived.Test.YtmhibpmgnicolaaDoorFew
import Derived.Test.YtmhibpmgnicolaaDoorRCheck
namespace Go.Proofs.YtmhibpmgnicolaaDoor
open Go.RowKit
attribute [local go_sem] Dr.upT

set_option maxRecDepth 100000 in
set_option maxHeartbeats 16000000 in
theorem msgs_any {w : World} (hT : Tabs w) {a b : Msg} {s r : Sls} (ha : SlAt w.heap.size w s a) (hb : SlAt w.heap.size w r b) :
    Calls Tryd.prog 5 #[.agg (encG a s).toArray, .agg (encG b r).toArray] w fun e w' => e = .returned (.bool true) ∧ Ge w w' := by
  have HLV := Lib.hid (fun w' (g : Ge w w') => live_any (hT.ge g))
  have HFA := Lib.hid (fun w' (g : Ge w w') => few_any (ha.ge g))
  have HFB := Lib.hid (fun w' (g : Ge w w') => few_any (hb.ge g))
  have HCLN := Lib.hid (fun w' (g : Ge w w') (hs : Small a) => clone_any (ha.ge g) hs g.size)
  have HKF := Lib.hid (fun w' (g : Ge w w') (hs : Small a) => check_msg (hT.ge g) (ha.ge g) hs g.size)
  have HRKF := Lib.hid (fun w' (g : Ge w w') (hs : Small a) => rcheck_msg (ha.ge g) hs)
  have HSMF := Lib.hid (fun w' (g : Ge w w') (hs : Small a) => same (ha.ge g) (hb.ge g) hs)
  have HRSF := Lib.hid (fun w' (g : Ge w w') (hs : Small a) => rsame (ha.ge g) (hb.ge g) hs)
  have HCS := Lib.hid (fun w' (s1 : Sls) (g : Ge w w') (h1 : SlAt w.heap.size w' s1 a) (hs : Small a) => rsame h1 (ha.ge g) hs)
  have HSA := Lib.hid (show (encG a s).toArray.size = 19 from rfl)
  have HSB := Lib.hid (show (encG b r).toArray.size = 19 from rfl)
  have HFS := Lib.hid (fun (h : fewM a = true) => few_small h)
  clear ha hb hT
  generalize (encG a s).toArray = CA at *
  generalize (encG b r).toArray = CB at *
  have HIA := Lib.hid (show (Tryd.prog.info? 45).map (·.size) = some CA.size by rw [HSA.out]; exact i45)
  obtain ⟨W2, hW2⟩ : ∃ x, x = (w.alloc (.cells CA 45)).alloc (.cells CB 45) := ⟨_, rfl⟩
  have HA2 := Lib.hid (show Bx W2 w.heap.size 45 CA by rw [hW2]; exact (Bx.new w 45 _ rfl).alloc _)
  have HB2 := Lib.hid (show Bx W2 (w.heap.size + 1) 45 CB by rw [hW2]; exact Bx.new _ 45 _ (by simp))
  have GW := Lib.hid (show Ge w W2 by rw [hW2]; exact ((Ge.refl w).alloc _).alloc _)
  go_enter Tryd.func5, Tryd.ntmps5
  go_upto_region 1 with (fail)
  rw [← hW2]
  clear hW2
  go_wp2_with fail
  refine (HLV.out _ GW.out).mono ?_
  rintro e w3 ⟨rfl, g3⟩
  have HG3 := Lib.hid (GW.out.trans g3)
  have HA3 := Lib.hid (HA2.out.ge g3)
  have HB3 := Lib.hid (HB2.out.ge g3)
  clear g3
  go_wp2_with (refine wpList_load_rowG (by go_simp) (.tmp 2) (by rfl) w.heap.size (by rfl) CA HA3.out HSA.out ?_)
  refine (HFA.out _ HG3.out).mono ?_
  rintro e w4 ⟨rfl, g4⟩
  have HG4 := Lib.hid (HG3.out.trans g4)
  have HA4 := Lib.hid (HA3.out.ge g4)
  have HB4 := Lib.hid (HB3.out.ge g4)
  clear g4
  rcases hfa : fewM a with _ | _
  · clear hfa
    go_wp2
    all_goals go_returns
    all_goals exact ⟨rfl, HG4.out⟩
  have HSMALL := Lib.hid (HFS.out hfa)
  clear hfa
  go_wp2_with (refine wpList_load_rowG (by go_simp) (.tmp 3) (by rfl) (w.heap.size + 1) (by rfl) CB HB4.out HSB.out ?_)
  refine (HFB.out _ HG4.out).mono ?_
  rintro e w5 ⟨rfl, g5⟩
  have HG50 := Lib.hid (HG4.out.trans g5)
  have HA50 := Lib.hid (HA4.out.ge g5)
  have HB50 := Lib.hid (HB4.out.ge g5)
  clear g5
  rcases hfb : fewM b with _ | _
  · clear hfb
    go_wp2
    all_goals go_returns
    all_goals exact ⟨rfl, HG50.out⟩
  clear hfb
  go_wp2_with (refine wpList_load_rowG (by go_simp) (.tmp 2) (by rfl) w.heap.size (by rfl) CA HA50.out HSA.out ?_)
  refine (HCLN.out _ HG50.out HSMALL.out).mono ?_
  rintro e w6 ⟨s', rfl, hsl, g6⟩
  have HG6 := Lib.hid (HG50.out.trans g6)
  have HONE := Lib.hid (all_oneCell_toArray (encG_one hsl))
  have HLEN := Lib.hid (show (encG a s').toArray.size = 19 from rfl)
  have HCL6 := Lib.hid (fun w' (g : Ge w6 w') => HCS.out w' s' (HG6.out.trans g) (hsl.ge g) HSMALL.out)
  have HA6 := Lib.hid (HA50.out.ge g6)
  have HB6 := Lib.hid (HB50.out.ge g6)
  clear hsl g6
  generalize encG a s' = L at *
  have HI2 := Lib.hid (show (Tryd.prog.info? 45).map (·.size) = some L.toArray.size by rw [HLEN.out]; exact i45)
  obtain ⟨W7, hW7⟩ : ∃ x, x = w6.alloc (.cells #[.int .i64 0, .int .i64 0, .int .i64 0, .int .i64 0, .int .i64 0, .int .i64 0, .int .i64 0, .int .i64 0, .int .i64 0, .int .i64 0, .slice none 0 0, .slice none 0 0, .slice none 0 0, .slice none 0 0, .slice none 0 0, .int .i64 0, .slice none 0 0, .bool false, .int .i64 0] 45) := ⟨_, rfl⟩
  have HB7 := Lib.hid (show Bx W7 w6.heap.size 45 #[.int .i64 0, .int .i64 0, .int .i64 0, .int .i64 0, .int .i64 0, .int .i64 0, .int .i64 0, .int .i64 0, .int .i64 0, .int .i64 0, .slice none 0 0, .slice none 0 0, .slice none 0 0, .slice none 0 0, .slice none 0 0, .int .i64 0, .slice none 0 0, .bool false, .int .i64 0] by rw [hW7]; exact Bx.new w6 45 _ rfl)
  have HG7 := Lib.hid (show Ge w6 W7 by rw [hW7]; exact (Ge.refl _).alloc _)
  have HT7 := Lib.hid (show W7.there w6.heap.size 0 L.toArray.size from by rw [HLEN.out]; exact HB7.out.there)
  have HW7 := Lib.hid hW7
  clear hW7
  go_wp2_with (rw [← HW7.out]; refine wpList_store_mid (by rfl) 45 (.tmp 5) (.tmp 17) (by rfl) w6.heap.size 0 L.toArray (by rfl) (by rfl) HT7.out HI2.out HONE.out ?_; generalize hW8 : W7.setCells w6.heap.size 0 L.toArray.toList = W8; have HW8 := Lib.hid hW8; clear hW8)
  have G8 : Ge w6 W8 := by rw [← HW8.out]; exact below_sets (Nat.le_refl _) _ _ _ HG7.out
  have HC5 := Lib.hid (show Bx W8 w6.heap.size 45 L.toArray by
    have := HB7.out.fill L.toArray.toList (by simpa using HLEN.out)
    rw [HW8.out] at this
    exact this)
  have HG5 := Lib.hid (HG6.out.trans G8)
  have HA5 := Lib.hid (HA6.out.ge G8)
  have HB5 := Lib.hid (HB6.out.ge G8)
  have HCL5 := Lib.hid (show ∀ w7, Ge W8 w7 → Calls Tryd.prog 17 #[.agg L.toArray, .agg CA] w7 fun e w' => e = .returned (.bool true) ∧ Ge w7 w' from fun w7 g => by
    have := HCL6.out w7 (G8.trans g)
    rwa [decide_true] at this)
  have HK := Lib.hid (fun w' (g : Ge w w') => HKF.out w' g HSMALL.out)
  have HRK := Lib.hid (fun w' (g : Ge w w') => HRKF.out w' g HSMALL.out)
  have HSM := Lib.hid (fun w' (g : Ge w w') => HSMF.out w' g HSMALL.out)
  have HRS := Lib.hid (fun w' (g : Ge w w') => HRSF.out w' g HSMALL.out)
  clear G8 HKF HRKF HSMF HRSF HCLN HCL6 HCS HFA HFB HFS
  generalize chkM a = ck at *
  generalize decide (a = b) = sm at *
  refine Dr.wp_region_T (by kernel_rfl) (by kernel_rfl) ?_
  refine wpT_msg (.tmp 2) w.heap.size CA (by rfl) (by intro u; go_simp) (fun _ g => HA5.out.ge g) HSA.out (by intro u; go_simp) ?_
  refine wpT_call 25 #[.agg CA] (.int .i64 ck) (by intro u; go_simp) (by intro u w7; go_simp) (fun w7 g => HK.out w7 (HG5.out.trans g)) ?_
  refine wpT_msg (.tmp 2) w.heap.size CA (by rfl) (by intro u; go_simp) (fun _ g => HA5.out.ge g) HSA.out (by intro u; go_simp) ?_
  refine wpT_call 26 #[.agg CA] (.int .i64 ck) (by intro u; go_simp) (by intro u w7; go_simp) (fun w7 g => HRK.out w7 (HG5.out.trans g)) ?_
  iterate 2 (apply Dr.wpT_det; · (intro u w7 hw hF; clear hF; go_simp; first | exact ⟨Ge.refl _, rfl⟩ | exact Ge.refl _ | rfl))
  refine wpT_msg (.tmp 2) w.heap.size CA (by rfl) (by intro u; go_simp) (fun _ g => HA5.out.ge g) HSA.out (by intro u; go_simp) ?_
  refine wpT_msg (.tmp 3) (w.heap.size + 1) CB (by rfl) (by intro u; go_simp) (fun _ g => HB5.out.ge g) HSB.out (by intro u; go_simp) ?_
  refine wpT_call 27 #[.agg CA, .agg CB] (.bool sm) (by intro u; go_simp) (by intro u w7; go_simp) (fun w7 g => HSM.out w7 (HG5.out.trans g)) ?_
  refine wpT_msg (.tmp 2) w.heap.size CA (by rfl) (by intro u; go_simp) (fun _ g => HA5.out.ge g) HSA.out (by intro u; go_simp) ?_
  refine wpT_msg (.tmp 3) (w.heap.size + 1) CB (by rfl) (by intro u; go_simp) (fun _ g => HB5.out.ge g) HSB.out (by intro u; go_simp) ?_
  refine wpT_call 17 #[.agg CA, .agg CB] (.bool sm) (by intro u; go_simp) (by intro u w7; go_simp) (fun w7 g => HRS.out w7 (HG5.out.trans g)) ?_
  iterate 3 (apply Dr.wpT_det; · (intro u w7 hw hF; clear hF; go_simp; first | exact ⟨Ge.refl _, rfl⟩ | exact Ge.refl _ | rfl))
  refine wpT_msg (.tmp 5) w6.heap.size L.toArray (by rfl) (by intro u; go_simp) (fun _ g => HC5.out.ge g) HLEN.out (by intro u; go_simp) ?_
  refine wpT_msg (.tmp 2) w.heap.size CA (by rfl) (by intro u; go_simp) (fun _ g => HA5.out.ge g) HSA.out (by intro u; go_simp) ?_
  refine wpT_call 17 #[.agg L.toArray, .agg CA] (.bool true) (by intro u; go_simp) (by intro u w7; go_simp) HCL5.out ?_
  iterate 2 (apply Dr.wpT_det; · (intro u w7 hw hF; clear hF; go_simp; first | exact ⟨Ge.refl _, rfl⟩ | exact Ge.refl _ | rfl))
  intro u w7 hw hF
  clear hF
  have G9 := Lib.hid (HG5.out.trans hw)
  clear hw
  simp only [Act.put, List.setIfInBounds_toArray, List.set_cons_zero, List.set_cons_succ]
  go_wp2
  all_goals go_returns
  all_goals exact ⟨rfl, G9.out⟩
end Go.Proofs.YtmhibpmgnicolaaDoor
