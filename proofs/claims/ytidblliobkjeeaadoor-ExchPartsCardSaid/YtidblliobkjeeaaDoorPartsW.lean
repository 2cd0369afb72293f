/-
  ExchParts, its walk.
-/
import Derived.Test.YtidblliobkjeeaaDoorKeys
import Derived.Test.YtidblliobkjeeaaDoorBegun
import Derived.Test.YtidblliobkjeeaaDoorRParcels
import Derived.Test.YtidblliobkjeeaaDoorFew
import Derived.IntWalk
namespace Go.Proofs.YtidblliobkjeeaaDoor
open Go.RowKit
attribute [local go_sem] Dr.upT

theorem IntsAt.take {w : World} {A : Option Addr} {cap n : Nat} {xs : List Int} (h : IntsAt w (.slice A xs.length cap) xs) (hn : n ≤ xs.length) : IntsAt w (.slice A n cap) (xs.take n) := by
  obtain ⟨A0, cap0, e, hle, hc⟩ := h
  cases e
  refine ⟨A, cap, by rw [List.length_take, Nat.min_eq_left hn], by rw [List.length_take]; omega, fun hne => ?_⟩
  obtain ⟨b, off, hA, hb, hcell⟩ := hc (fun e => hne (by rw [e]; simp))
  refine ⟨b, off, hA, hb, fun j x hj => hcell j x ?_⟩
  rw [List.getElem?_take] at hj
  split at hj
  · exact hj
  · cases hj
theorem take_ints {w : World} {A : Option Addr} {cap k : Nat} {xs : List Int} (h : IntsAt w (.slice A xs.length cap) xs) (hk : k ≤ xs.length) (w' : World) :
    (Instr.slice 50 (.slice A xs.length cap) none (some (.int .i64 (k : Int))) none).run Tryd.prog w' = .ok (.slice A k cap) w' := by
  obtain ⟨A0, cap0, e, hle, hc⟩ := h
  cases e
  have h1 : (k : Int) ≤ (xs.length : Int) := by omega
  have h2 : (k : Int) ≤ (cap : Int) := by omega
  go_simp

theorem told_999 {w : World} {Bt : Nat} {v : Value} {xs : List Int} (hX : Boxed w Bt 50 v) (hv : IntsAt w v xs) (hxl : xs.length ≤ 1000000) :
    Calls Tryd.prog 23 #[.func (.func 41) #[] #[.pointer (some ⟨Bt, 0, none⟩)], .int .i64 999] w fun e w' => ∃ v', e = .returned v' ∧ IntsAt w' v' (xs.take 999) ∧ Ge w w' :=
  told_any 999 (by omega) hX hv hxl
theorem parcelL_len {m : Nat} : ∀ (ps : List (Int × List Rc)), (∀ p ∈ ps, p.2.length ≤ m) → (parcelL ps).length ≤ ps.length * m
  | [], _ => by simp [parcelL]
  | p :: ps, h => by
    have h1 := parcelL_len ps (fun q hq => h q (List.mem_cons_of_mem _ hq))
    have h2 := h p List.mem_cons_self
    have h3 := batL_len p.2
    have e : parcelL (p :: ps) = (batL p.2).map (fun b => (p.1, b)) ++ parcelL ps := rfl
    rw [e, List.length_append, List.length_map, List.length_cons, Nat.add_mul]
    omega
theorem parcelL_mem {ps : List (Int × List Rc)} {p : Int × List Rc} (h : p ∈ parcelL ps) : ∃ q ∈ ps, p.1 = q.1 ∧ p.2 ∈ batL q.2 := by
  obtain ⟨q, hq, hp⟩ := List.mem_flatMap.1 h
  obtain ⟨b, hb, rfl⟩ := List.mem_map.1 hp
  exact ⟨q, hq, rfl, hb⟩
theorem parcelP_len (kind worker workers : Int) (rs : List Rc) (hl : rs.length ≤ 1000000) : (parcelL (partP kind worker workers rs)).length ≤ 100000000 := by
  obtain ⟨h1, h2⟩ := partP_bounds kind worker workers rs
  have h3 := parcelL_len (m := 1000000) _ (fun p hp => Nat.le_trans (h2 p hp) hl)
  omega
theorem parcelP_mem (kind worker workers : Int) (rs : List Rc) : ∀ p ∈ parcelL (partP kind worker workers rs), p.2.length ≤ 1000000 := by
  intro p hp
  obtain ⟨q, _, _, hb⟩ := parcelL_mem hp
  have := (batF_mem _ _ _ hb).2.2
  omega

set_option maxRecDepth 100000 in
set_option maxHeartbeats 8000000 in
theorem parts_walk {w : World} (hT : Tabs w) (kind worker workers : Int) (most : Nat) (hm : most ≤ 255) {v : Value} {rs : List Rc} (hv : RecsAt w v rs) (hl : rs.length ≤ 9223372036854775807) :
    Calls Tryd.prog 6 #[.int .i64 kind, .int .i64 worker, .int .i64 workers, v, .int .u8 (most : Int)] w fun e w' => e = .returned (.bool true) ∧ Ge w w' := by
  have HT := Lib.hid hT
  have HB := Lib.hid (begun_any hT)
  have HV := Lib.hid (fun w' (h : Ge w w') => hv.ge h)
  clear hT hv
  go_enter Tryd.func6, Tryd.ntmps6
  go_wp2_with fail
  refine HB.out.mono ?_
  rintro e w1 ⟨rfl, hg1⟩
  have HF := Lib.hid (few_any (HV.out w1 hg1) hl)
  have G1 := Lib.hid hg1
  clear hg1
  go_wp2_with fail
  refine HF.out.mono ?_
  rintro e w2 ⟨q, rfl, hq, hg2⟩
  have G2 := Lib.hid (G1.out.trans hg2)
  clear hg2
  rcases q with _ | _
  · have HB2 := Lib.hid (begun_any (HT.out.ge G2.out))
    go_wp2_with fail
    refine HB2.out.mono ?_
    rintro e w3 ⟨rfl, hg3⟩
    have G3 := Lib.hid (G2.out.trans hg3)
    clear hg3
    go_wp2
    go_returns
    exact ⟨rfl, G3.out⟩
  replace hq := hq rfl
  replace hl : rs.length ≤ 1000000 := by omega
  have HP := Lib.hid (part_any (HT.out.ge G2.out) kind worker workers (HV.out w2 G2.out) hl)
  unfold PartOut at HP
  go_wp2_with fail
  refine HP.out.mono ?_
  rintro e w3 ⟨va, rfl, hpa, hg3⟩
  have G3 := Lib.hid (G2.out.trans hg3)
  have HQ := Lib.hid (rpart_any kind worker workers (HV.out w3 G3.out) hl)
  unfold PartOut at HQ
  have A3 := Lib.hid hpa
  clear hg3 hpa
  go_wp2_with fail
  refine HQ.out.mono ?_
  rintro e w4 ⟨vb, rfl, hpb, hg4⟩
  have G4 := Lib.hid (G3.out.trans hg4)
  have G34 := Lib.hid hg4
  have HR := Lib.hid (parcels_any (HT.out.ge G4.out) kind worker workers (HV.out w4 G4.out) hl)
  unfold ParcelsOut at HR
  have A4 := Lib.hid hpb
  clear hg4 hpb
  go_wp2_with fail
  refine HR.out.mono ?_
  rintro e w5 ⟨vc, rfl, hpc, hg5⟩
  have G5 := Lib.hid (G4.out.trans hg5)
  have G45 := Lib.hid hg5
  have HS := Lib.hid (rparcels_any kind worker workers (HV.out w5 G5.out) hl)
  unfold ParcelsOut at HS
  have A5 := Lib.hid hpc
  clear hg5 hpc
  go_wp2_with fail
  refine HS.out.mono ?_
  rintro e w6 ⟨vd, rfl, hpd, hg6⟩
  have G6 := Lib.hid (G5.out.trans hg6)
  have G56 := Lib.hid hg6
  have HK := Lib.hid (rkeys_any worker workers (HV.out w6 G6.out) hl)
  have A6 := Lib.hid hpd
  clear hg6 hpd
  go_wp2_with fail
  refine HK.out.mono ?_
  rintro e w7 ⟨ve, rfl, hpe, hg7⟩
  have G7 := Lib.hid (G6.out.trans hg7)
  have Q3 := Lib.hid (fun w' (h : Ge w7 w') => A3.out.ge (G34.out.trans (G45.out.trans (G56.out.trans (hg7.trans h)))))
  have Q4 := Lib.hid (fun w' (h : Ge w7 w') => A4.out.ge (G45.out.trans (G56.out.trans (hg7.trans h))))
  have Q5 := Lib.hid (fun w' (h : Ge w7 w') => A5.out.ge (G56.out.trans (hg7.trans h)))
  have Q6 := Lib.hid (fun w' (h : Ge w7 w') => A6.out.ge (hg7.trans h))
  have Q7 := Lib.hid (fun w' (h : Ge w7 w') => hpe.ge h)
  have HL := Lib.hid (keysL_len' worker workers rs)
  have PB := Lib.hid (partP_bounds kind worker workers rs)
  have PC1 := Lib.hid (parcelP_len kind worker workers rs hl)
  have PC2 := Lib.hid (parcelP_mem kind worker workers rs)
  clear hg7 hpe HP HQ HR HS HK HF HB
  generalize partE kind worker workers rs = pe at *
  generalize partP kind worker workers rs = pp at *
  go_wp2_with fail
  have HKF := Lib.hid (fun w' (h : Ge w w') => keysf_any worker workers (HV.out w' h) hl)
  generalize keysL worker workers rs = ks at *
  obtain ⟨A9, c9, rfl, hle9, hc9⟩ := Q7.out w7 (Ge.refl _)
  clear hc9
  have hkl := HL.out
  obtain ⟨n9, hn9⟩ : ∃ n, n = min ks.length most := ⟨_, rfl⟩
  have hmin : min (ks.length : Int) (most : Int) = (n9 : Int) := by omega
  have hn9l : n9 ≤ ks.length := by omega
  have hT9 := take_ints (Q7.out w7 (Ge.refl _)) hn9l
  have htk : ks.take n9 = ks.take most := by
    rw [hn9]; rcases Nat.le_total ks.length most with h | h
    · rw [Nat.min_eq_left h, List.take_of_length_le h, List.take_of_length_le (Nat.le_refl _)]
    · rw [Nat.min_eq_right h]
  have HTO := Lib.hid (fun (w8 : World) (Bt : Nat) (v' : Value) (h1 : Boxed w8 Bt 50 v') (h2 : IntsAt w8 v' ks) => told_999 h1 h2 (by omega))
  have HTM := Lib.hid (fun (w8 : World) (Bt : Nat) (v' : Value) (h1 : Boxed w8 Bt 50 v') (h2 : IntsAt w8 v' ks) => told_any most (by omega) h1 h2 (by omega))
  have HTK := Lib.hid htk
  clear hn9 htk
  have hwm : IntKind.i64.wrap (most : Int) = (most : Int) := IntWalk.i64_in _ (by omega)
  refine Dr.wp_region_T (by kernel_rfl) (by kernel_rfl) ?_
  iterate 2 (apply Dr.wpT_det; · (intro u w8 hw hF; clear hF; go_simp; first | exact ⟨Ge.refl _, rfl⟩ | exact Ge.refl _ | rfl))
  refine Dr.wpT_det (.bool true) ?_ ?_
  · intro u w8 hw hF
    clear hF
    go_simp
    exact (same_any (Q3.out w8 hw) (Q4.out w8 hw) (by have := PB.out.1; omega) (fun p hp => by have := PB.out.2 p hp; omega))
  iterate 8 (apply Dr.wpT_det; · (intro u w8 hw hF; clear hF; go_simp; first | exact ⟨Ge.refl _, rfl⟩ | exact Ge.refl _ | rfl))
  refine Dr.wpT_det (.bool true) ?_ ?_
  · intro u w8 hw hF
    clear hF
    go_simp
    exact (same_any (Q5.out w8 hw) (Q6.out w8 hw) PC1.out PC2.out)
  iterate 10 (apply Dr.wpT_det; · (intro u w8 hw hF; clear hF; go_simp; first | exact ⟨Ge.refl _, rfl⟩ | exact Ge.refl _ | rfl))
  refine Dr.wpT_non (fun v wv => ∃ Bt : Nat, v = .func (.func 41) #[] #[.pointer (some ⟨Bt, 0, none⟩)] ∧ ∃ v' : Value, Boxed wv Bt 50 v' ∧ IntsAt wv v' ks) (fun v wa wb hg ⟨Bt, h1, v', h2, h3⟩ => ⟨Bt, h1, v', (hg.block Bt h2.lt).trans h2, h3.ge hg⟩) ?_ ?_
  · intro u w8 hw hF
    clear hF
    go_simp
    refine (HKF.out w8 (G7.out.trans hw)).mono ?_
    rintro e w9 ⟨Bt, v', rfl, h1, h2, h3⟩
    exact ⟨_, rfl, h3, Bt, rfl, v', h1, h2⟩
  refine Dr.wpT_non (fun v wv => IntsAt wv v (ks.take 999)) (fun v wa wb hg h => h.ge hg) ?_ ?_
  · intro u w8 hw hF
    have hf22 := Lib.hid (hF 22 (by simp [Dr.befB, Region.binds]))
    clear hF
    go_simp
    have hf := hf22.out
    simp only [if_true] at hf
    obtain ⟨Bt, hu, v', h1, h2⟩ := hf
    rw [hu]
    refine (HTO.out w8 Bt v' h1 h2).mono ?_
    rintro e w9 ⟨v9, rfl, h4, h5⟩
    exact ⟨_, rfl, h5, h4⟩
  iterate 1 (apply Dr.wpT_det; · (intro u w8 hw hF; clear hF; go_simp; first | exact ⟨Ge.refl _, rfl⟩ | exact Ge.refl _ | rfl))
  refine Dr.wpT_det (.bool true) ?_ ?_
  · intro u w8 hw hF
    have hi : IntsAt w8 (u 23) (ks.take 999) := by have hf := hF 23 (by simp [Dr.befB, Region.binds]); simp only [if_true] at hf; exact hf
    rw [show ks.take 999 = ks from List.take_of_length_le (by omega)] at hi
    clear hF
    go_simp
    exact (sequal_any hi (Q7.out w8 hw) (by omega))
  iterate 5 (apply Dr.wpT_det; · (intro u w8 hw hF; clear hF; go_simp; first | exact ⟨Ge.refl _, rfl⟩ | exact Ge.refl _ | rfl))
  refine Dr.wpT_non (fun v wv => ∃ Bt : Nat, v = .func (.func 41) #[] #[.pointer (some ⟨Bt, 0, none⟩)] ∧ ∃ v' : Value, Boxed wv Bt 50 v' ∧ IntsAt wv v' ks) (fun v wa wb hg ⟨Bt, h1, v', h2, h3⟩ => ⟨Bt, h1, v', (hg.block Bt h2.lt).trans h2, h3.ge hg⟩) ?_ ?_
  · intro u w8 hw hF
    clear hF
    go_simp
    refine (HKF.out w8 (G7.out.trans hw)).mono ?_
    rintro e w9 ⟨Bt, v', rfl, h1, h2, h3⟩
    exact ⟨_, rfl, h3, Bt, rfl, v', h1, h2⟩
  iterate 2 (apply Dr.wpT_det; · (intro u w8 hw hF; clear hF; go_simp; first | exact ⟨Ge.refl _, rfl⟩ | exact Ge.refl _ | rfl))
  refine Dr.wpT_non (fun v wv => IntsAt wv v (ks.take most)) (fun v wa wb hg h => h.ge hg) ?_ ?_
  · intro u w8 hw hF
    have hf31 := Lib.hid (hF 31 (by simp [Dr.befB, Region.binds]))
    clear hF
    go_simp
    have hf := hf31.out
    simp only [if_true] at hf
    obtain ⟨Bt, hu, v', h1, h2⟩ := hf
    rw [hu]
    refine (HTM.out w8 Bt v' h1 h2).mono ?_
    rintro e w9 ⟨v9, rfl, h4, h5⟩
    exact ⟨_, rfl, h5, h4⟩
  iterate 7 (apply Dr.wpT_det; · (intro u w8 hw hF; clear hF; go_simp; first | exact ⟨Ge.refl _, rfl⟩ | exact Ge.refl _ | rfl))
  refine Dr.wpT_det (.bool true) ?_ ?_
  · intro u w8 hw hF
    have hi : IntsAt w8 (u 34) (ks.take most) := by have hf := hF 34 (by simp [Dr.befB, Region.binds]); simp only [if_true] at hf; exact hf
    have hj := (Q7.out w8 hw).take hn9l
    rw [HTK.out] at hj
    clear hF
    go_simp
    exact (sequal_any hi hj (by rw [List.length_take]; omega))
  iterate 2 (apply Dr.wpT_det; · (intro u w8 hw hF; clear hF; go_simp; first | exact ⟨Ge.refl _, rfl⟩ | exact Ge.refl _ | rfl))
  intro u w8 hw hF
  clear hF
  simp only [Act.put, List.setIfInBounds_toArray, List.set_cons_zero, List.set_cons_succ]
  have G8 := Lib.hid (G7.out.trans hw)
  clear hw
  go_wp2
  go_returns
  exact ⟨rfl, G8.out⟩
end Go.Proofs.YtidblliobkjeeaaDoor
