/-
  TstampBack: the walk.
-/
import Derived.Test.YtedccllpbajbfaaMakesW
import Derived.Test.YtedccllpbajbfaaDraw
namespace Go.Proofs.Ytedccllpbajbfaa
open Go.RowKit
attribute [local go_sem] Dr.upT

theorem text_len (t : Tm) : (textL t).length ≤ 100 := by
  by_cases hc : Chk t
  · rw [text_alt hc]
    have h1 := decF_le 10 t.e
    have h2 := flat_le (lpL t)
    have h3 := lpL_len t
    have e : dec t.e = decF 10 t.e := rfl
    rw [List.length_append, e]
    omega
  · have e : textL t = [] := dif_neg hc
    rw [e]; simp
theorem bI_strOf (t : Tm) : bI (strOfNums (textL t)) = textL t := by
  unfold bI
  rw [strOfNums_data, List.map_map]
  refine (List.map_congr_left (g := id) fun x hx => ?_).trans (List.map_id _)
  have := text_isB t x hx
  simp
  omega

set_option maxRecDepth 100000 in
set_option maxHeartbeats 4000000 in
theorem back_any (a b : Tm) (w : World) :
    Calls Try.prog 5 #[.agg #[.int .i64 a.e, .int .i64 a.d, .int .i64 a.l0, .int .i64 a.l1, .int .i64 a.l2, .int .i64 a.l3], .agg #[.int .i64 b.e, .int .i64 b.d, .int .i64 b.l0, .int .i64 b.l1, .int .i64 b.l2, .int .i64 b.l3]] w fun e w' => e = .returned (.bool true) ∧ Ge w w' := by
  go_enter Try.func5, Try.ntmps5
  go_wp2_with fail
  refine (live_any _).mono ?_
  rintro e w1 ⟨rfl, hg1⟩
  have hge1 : Ge ((w.alloc (.cells #[.int .i64 a.e, .int .i64 a.d, .int .i64 a.l0, .int .i64 a.l1, .int .i64 a.l2, .int .i64 a.l3] 24)).alloc (.cells #[.int .i64 b.e, .int .i64 b.d, .int .i64 b.l0, .int .i64 b.l1, .int .i64 b.l2, .int .i64 b.l3] 24)) w1 := hg1
  have XA : Bx w1 w.heap.size 24 #[.int .i64 a.e, .int .i64 a.d, .int .i64 a.l0, .int .i64 a.l1, .int .i64 a.l2, .int .i64 a.l3] := ((Bx.new _ _ _ rfl).alloc _).ge hge1
  have XB : Bx w1 (w.heap.size + 1) 24 #[.int .i64 b.e, .int .i64 b.d, .int .i64 b.l0, .int .i64 b.l1, .int .i64 b.l2, .int .i64 b.l3] := (Bx.new _ _ _ (by simp)).ge hge1
  have G1 := Lib.hid ((((Ge.refl w).alloc _).alloc _).trans hge1)
  clear hg1 hge1
  have ca := XA.cell
  have la := XA.lt
  go_wp2_with fail
  refine (text_any a _).mono ?_
  rintro e w2 ⟨rfl, hb2⟩
  replace XA := XA.ge hb2
  replace XB := XB.ge hb2
  have G2 := Lib.hid (G1.out.trans hb2)
  clear hb2 ca la
  have ca := XA.cell
  have la := XA.lt
  by_cases hc : Chk a
  · have H := Lib.hid (rcheck_yes hc)
    have HC := Lib.hid hc
    clear hc
    go_wp2_with fail
    refine (H.out _).mono ?_
    rintro e w3 ⟨rfl, hw3⟩
    have hg3 : Ge w2 w3 := by rw [hw3]; exact (Ge.refl w2).alloc _
    replace XA := XA.ge hg3
    replace XB := XB.ge hg3
    have G3 := Lib.hid (G2.out.trans hg3)
    clear hw3 hg3 ca la
    have hsz : (strOfNums (textL a)).size ≤ 100 := by rw [strOfNums_size]; exact text_len a
    go_wp2_with fail
    refine (parse_any (strOfNums (textL a)) (by omega) _).mono ?_
    intro e w4 hpe
    obtain ⟨t4, n4, rfl, P4, hb4⟩ := parse_end hpe
    have P5 : PE (strOfNums (textL a)) a 0 := .inl ⟨⟨HC.out, (bI_strOf a).symm⟩, rfl⟩
    obtain ⟨rfl, rfl⟩ := P4.uniq P5
    replace XA := XA.ge hb4
    replace XB := XB.ge hb4
    have G4 := Lib.hid (G3.out.trans hb4)
    clear hpe P4 P5 hb4
    have XT : Bx (w4.alloc (.cells #[.int .i64 t4.e, .int .i64 t4.d, .int .i64 t4.l0, .int .i64 t4.l1, .int .i64 t4.l2, .int .i64 t4.l3] 24)) w4.heap.size 24 #[.int .i64 t4.e, .int .i64 t4.d, .int .i64 t4.l0, .int .i64 t4.l1, .int .i64 t4.l2, .int .i64 t4.l3] := Bx.new _ _ _ rfl
    have q0 := fun w' => neq_tm t4 t4 w'
    rw [eqB_self] at q0
    have ca := XA.cell
    have la := XA.lt
    go_wp2
    obtain ⟨w5, hw5⟩ : ∃ w5, w5 = w4.alloc (.cells #[.int .i64 t4.e, .int .i64 t4.d, .int .i64 t4.l0, .int .i64 t4.l1, .int .i64 t4.l2, .int .i64 t4.l3] 24) := ⟨_, rfl⟩
    rw [← hw5]
    have hg5 : Ge w4 w5 := by rw [hw5]; exact (Ge.refl w4).alloc _
    replace XA := XA.ge hg5
    replace XB := XB.ge hg5
    have G5 := Lib.hid (G4.out.trans hg5)
    clear hw5 hg5 ca la XT
    refine Dr.wp_region_T (by kernel_rfl) (by kernel_rfl) ?_
    by_cases hcb : Chk b
    · have HCB := Lib.hid hcb
      have RB := Lib.hid (rcheck_yes hcb)
      have TT := Lib.hid (show (((strOfNums (textL b)).toList == (strOfNums (textL t4)).toList) == eqB t4 b) = true by
        by_cases h : t4 = b
        · subst h; simp [eqB_self]
        · have h1 : eqB t4 b = false := by
            rcases hh : eqB t4 b with _ | _
            · rfl
            · exact absurd ((eqB_iff _ _).1 hh) h
          have h2 : ¬ (strOfNums (textL b)).toList = (strOfNums (textL t4)).toList := by
            have hne : textL b ≠ bI (strOfNums (textL t4)) := by
              rw [bI_strOf]
              exact fun e => h (text_inj HC.out hcb e.symm)
            exact text_ne hne
          simp [h1, h2])
      clear hcb
      have q1 := fun w' => eql_tm t4 b w'
      iterate 1 (apply Dr.wpT_det; · (intro u w6 hw hF; clear hF; have cA := (XA.ge hw).cell; have lA := (XA.ge hw).lt; have cB := (XB.ge hw).cell; have lB := (XB.ge hw).lt; go_simp; first | exact ⟨Ge.refl _, rfl⟩ | exact Ge.refl _ | rfl))
      refine Dr.wpT_det (.int .i64 0) ?_ ?_
      · intro u w6 hw hF
        clear hF
        go_simp
        refine (RB.out _).mono ?_
        rintro e w7 ⟨rfl, hg7⟩
        exact ⟨rfl, (show Ge w6 w7 by rw [hg7]; exact (Ge.refl w6).alloc _)⟩
      iterate 3 (apply Dr.wpT_det; · (intro u w6 hw hF; clear hF; have cA := (XA.ge hw).cell; have lA := (XA.ge hw).lt; have cB := (XB.ge hw).cell; have lB := (XB.ge hw).lt; go_simp; first | exact ⟨Ge.refl _, rfl⟩ | exact Ge.refl _ | rfl))
      refine Dr.wpT_det (.string (strOfNums (textL b))) ?_ ?_
      · intro u w6 hw hF
        clear hF
        go_simp
        refine (text_any b _).mono ?_
        rintro e w7 ⟨rfl, hg7⟩
        exact ⟨rfl, hg7⟩
      iterate 1 (apply Dr.wpT_det; · (intro u w6 hw hF; clear hF; have cA := (XA.ge hw).cell; have lA := (XA.ge hw).lt; have cB := (XB.ge hw).cell; have lB := (XB.ge hw).lt; go_simp; first | exact ⟨Ge.refl _, rfl⟩ | exact Ge.refl _ | rfl))
      iterate 1 (apply Dr.wpT_det; · (intro u w6 hw hF; clear hF; have cA := (XA.ge hw).cell; have lA := (XA.ge hw).lt; have cB := (XB.ge hw).cell; have lB := (XB.ge hw).lt; go_simp; first | exact ⟨Ge.refl _, rfl⟩ | exact Ge.refl _ | rfl))
      iterate 2 (apply Dr.wpT_det; · (intro u w6 hw hF; clear hF; have cA := (XA.ge hw).cell; have lA := (XA.ge hw).lt; have cB := (XB.ge hw).cell; have lB := (XB.ge hw).lt; go_simp; first | exact ⟨Ge.refl _, rfl⟩ | exact Ge.refl _ | rfl))
      iterate 1 (apply Dr.wpT_det; · (intro u w6 hw hF; clear hF; have cA := (XA.ge hw).cell; have lA := (XA.ge hw).lt; have cB := (XB.ge hw).cell; have lB := (XB.ge hw).lt; go_simp; first | exact ⟨Ge.refl _, rfl⟩ | exact Ge.refl _ | rfl))
      refine Dr.wpT_det (.bool true) ?_ ?_
      · intro u w6 hw hF
        clear hF
        go_simp
        first | exact ⟨Ge.refl _, by rw [TT.out]⟩ | (refine ⟨Ge.refl _, ?_⟩; have := TT.out; simpa using this) | trace_state
      iterate 2 (apply Dr.wpT_det; · (intro u w6 hw hF; clear hF; have cA := (XA.ge hw).cell; have lA := (XA.ge hw).lt; have cB := (XB.ge hw).cell; have lB := (XB.ge hw).lt; go_simp; first | exact ⟨Ge.refl _, rfl⟩ | exact Ge.refl _ | rfl))
      intro u w6 hw hF
      clear hF
      simp only [Act.put, List.setIfInBounds_toArray, List.set_cons_zero, List.set_cons_succ]
      go_wp2
      go_returns
      exact ⟨rfl, G5.out.trans hw⟩
    · have RB := Lib.hid (rcheck_no hcb)
      clear hcb
      iterate 1 (apply Dr.wpT_det; · (intro u w6 hw hF; clear hF; have cA := (XA.ge hw).cell; have lA := (XA.ge hw).lt; have cB := (XB.ge hw).cell; have lB := (XB.ge hw).lt; go_simp; first | exact ⟨Ge.refl _, rfl⟩ | exact Ge.refl _ | rfl))
      refine Dr.wpT_det (.int .i64 10) ?_ ?_
      · intro u w6 hw hF
        clear hF
        go_simp
        refine (RB.out _).mono ?_
        rintro e w7 ⟨rfl, hg7⟩
        exact ⟨rfl, (show Ge w6 w7 by rw [hg7]; exact (Ge.refl w6).alloc _)⟩
      iterate 12 (apply Dr.wpT_det; · (intro u w6 hw hF; clear hF; have cA := (XA.ge hw).cell; have lA := (XA.ge hw).lt; have cB := (XB.ge hw).cell; have lB := (XB.ge hw).lt; go_simp; first | exact ⟨Ge.refl _, rfl⟩ | exact Ge.refl _ | rfl))
      intro u w6 hw hF
      clear hF
      simp only [Act.put, List.setIfInBounds_toArray, List.set_cons_zero, List.set_cons_succ]
      go_wp2
      go_returns
      exact ⟨rfl, G5.out.trans hw⟩
  · have H := Lib.hid (rcheck_no hc)
    have e0 : strOfNums (textL a) = ⟨#[]⟩ := by rw [show textL a = [] from dif_neg hc]; rfl
    rw [e0]
    clear hc e0
    go_wp2_with fail
    refine (H.out _).mono ?_
    rintro e w3 ⟨rfl, hw3⟩
    have hg3 : Ge w2 w3 := by rw [hw3]; exact (Ge.refl w2).alloc _
    have G3 := Lib.hid (G2.out.trans hg3)
    clear hw3 hg3 ca la
    go_wp2
    go_returns
    exact ⟨rfl, G3.out⟩
end Go.Proofs.Ytedccllpbajbfaa
