/-
  A reader: back, length, Text, End.
-/
import Derived.Test.YtonpoloahagddaaRead
namespace Go.Proofs.Ytonpoloahagddaa
open Go.RowKit
attribute [local go_sem] Dr.upT

set_option maxHeartbeats 1000000 in
theorem back_no {w : World} {g : Nat} {bs : List Int} {p q : Nat} {e : Int} (h : Rd w g bs p) (hq : q ≤ bs.length) (he : e ≠ 0) :
    Calls Try.prog 37 #[.pointer (some ⟨g, 0, none⟩), .int .i64 (q : Int), .int .i64 e] w fun r w' => r = .returned (.int .i64 e) ∧ Rd w' g bs q ∧ Gg g w w' := by
  have HR := Lib.hid h
  have he' : (e != 0) = true := by simpa using he
  obtain ⟨A, X, -⟩ := h
  go_enter Try.func37, Try.ntmps37
  go_wp2_with fail
  refine (made_yes X).mono ?_
  rintro e w1 ⟨rfl, rfl⟩
  have c := X.cell
  have l := X.lt
  have fz := X.frozen
  go_wp2
  go_returns
  exact ⟨rfl, HR.out.set hq, Gg.set _ _ _ _⟩

set_option maxHeartbeats 1000000 in
theorem back_yes {w : World} {g : Nat} {bs : List Int} {p : Nat} {q : Int} (h : Rd w g bs p) :
    Calls Try.prog 37 #[.pointer (some ⟨g, 0, none⟩), .int .i64 q, .int .i64 0] w fun r w' => r = .returned (.int .i64 0) ∧ w' = w := by
  obtain ⟨A, X, -⟩ := h
  go_enter Try.func37, Try.ntmps37
  go_wp2_with fail
  refine (made_yes X).mono ?_
  rintro e w1 ⟨rfl, rfl⟩
  go_wp2
  go_returns
  exact ⟨rfl, rfl⟩

/-- a length with which bytes begin -/
def lenL (xs : List Int) (most : Int) : Int × Nat × Int :=
  if (takeL xs).2.2 ≠ 0 then (0, 0, (takeL xs).2.2) else if (takeL xs).1 < 0 then (0, 0, 70) else if most < (takeL xs).1 then (0, 0, 3) else ((takeL xs).1, (takeL xs).2.1, 0)

theorem takeL_bounds {xs : List Int} (hb : IsB xs) : -9223372036854775808 ≤ (takeL xs).1 ∧ (takeL xs).1 ≤ 9223372036854775807 := by
  by_cases h : (takeL xs).2.2 = 0
  · exact (takeL_back hb (n := (takeL xs).1) (k := (takeL xs).2.1) (by rw [← h])).2.2.2
  · have h0 : (takeL xs).1 = 0 := by
      cases xs with
      | nil => rfl
      | cons c t =>
        rw [takeL] at *
        (repeat' split) <;> simp_all
    rw [h0]; omega

set_option maxHeartbeats 2000000 in
theorem rlen_any {w : World} {g : Nat} {bs : List Int} {p : Nat} (h : Rd w g bs p) (most : Int) :
    Calls Try.prog 36 #[.pointer (some ⟨g, 0, none⟩), .int .i64 most] w fun e w' =>
      e = .returned (.tuple #[.int .i64 (lenL (bs.drop p) most).1, .int .i64 (lenL (bs.drop p) most).2.2]) ∧ Rd w' g bs (p + (lenL (bs.drop p) most).2.1) ∧ Gg g w w' := by
  have HR := Lib.hid h
  have hp : p ≤ bs.length := by obtain ⟨A, X, hb, hi, hp, r⟩ := h; exact hp
  clear h
  have hL : lenL (bs.drop p) most = if (takeL (bs.drop p)).2.2 ≠ 0 then (0, 0, (takeL (bs.drop p)).2.2) else if (takeL (bs.drop p)).1 < 0 then (0, 0, 70) else if most < (takeL (bs.drop p)).1 then (0, 0, 3) else ((takeL (bs.drop p)).1, (takeL (bs.drop p)).2.1, 0) := rfl
  have HI := Lib.hid (rint_any HR.out)
  generalize takeL (bs.drop p) = T at *
  obtain ⟨n, k, ee⟩ := T
  dsimp only at HI hL
  generalize lenL (bs.drop p) most = L at *
  obtain ⟨la, lk, le⟩ := L
  have HL := Lib.hid hL
  clear hL
  dsimp only
  go_enter Try.func36, Try.ntmps36
  go_wp2_with fail
  refine (at_any HR.out).mono ?_
  rintro e w1 ⟨rfl, rfl⟩
  go_wp2_with fail
  refine HI.out.mono ?_
  rintro e w2 ⟨rfl, hr2, hg2⟩
  have R2 := Lib.hid hr2
  have G2 := Lib.hid hg2
  clear hr2 hg2 HI
  by_cases c1 : ee = 0
  · subst c1
    by_cases c2 : n < 0
    · go_wp2_with fail
      refine (back_no R2.out hp (by decide)).mono ?_
      rintro e w3 ⟨rfl, hr3, hg3⟩
      have R3 := Lib.hid hr3
      have G3 := Lib.hid (G2.out.trans hg3)
      clear hr3 hg3
      go_wp2
      go_returns
      have hL := HL.out
      rw [if_neg (by simp), if_pos (by omega)] at hL
      cases hL
      exact ⟨rfl, R3.out, G3.out⟩
    · by_cases c3 : most < n
      · go_wp2_with fail
        refine (back_no R2.out hp (by decide)).mono ?_
        rintro e w3 ⟨rfl, hr3, hg3⟩
        have R3 := Lib.hid hr3
        have G3 := Lib.hid (G2.out.trans hg3)
        clear hr3 hg3
        go_wp2
        go_returns
        have hL := HL.out
        rw [if_neg (by simp), if_neg (by omega), if_pos c3] at hL
        cases hL
        exact ⟨rfl, R3.out, G3.out⟩
      · go_wp2_with fail
        refine (back_yes R2.out).mono ?_
        rintro e w3 ⟨rfl, rfl⟩
        go_wp2
        go_returns
        have hL := HL.out
        rw [if_neg (by simp), if_neg (by omega), if_neg (by omega)] at hL
        cases hL
        exact ⟨rfl, R2.out, G2.out⟩
  · have c1' : (ee != 0) = true := by simpa using c1
    have C1 := Lib.hid c1
    clear c1
    go_wp2_with fail
    refine (back_no R2.out hp C1.out).mono ?_
    rintro e w3 ⟨rfl, hr3, hg3⟩
    have R3 := Lib.hid hr3
    have G3 := Lib.hid (G2.out.trans hg3)
    clear hr3 hg3
    go_wp2
    go_returns
    have hL := HL.out
    rw [if_pos C1.out] at hL
    cases hL
    exact ⟨rfl, R3.out, G3.out⟩

/-- a text with which bytes begin -/
def txtL (xs : List Int) : List Int × Nat × Int :=
  if (lenL xs 65536).2.2 ≠ 0 then ([], 0, (lenL xs 65536).2.2) else if (xs.length : Int) - ((lenL xs 65536).2.1 : Int) < (lenL xs 65536).1 then ([], 0, 71) else
    ((xs.drop (lenL xs 65536).2.1).take (lenL xs 65536).1.toNat, (lenL xs 65536).2.1 + (lenL xs 65536).1.toNat, 0)

theorem lenL_bounds (xs : List Int) (most : Int) (h : 0 ≤ most) : 0 ≤ (lenL xs most).1 ∧ (lenL xs most).1 ≤ most ∧ (lenL xs most).2.1 ≤ xs.length ∧ ((lenL xs most).2.2 ≠ 0 → (lenL xs most).2.1 = 0) := by
  have := takeL_le xs
  unfold lenL
  split
  · exact ⟨by simp, by simpa using h, by simp, fun _ => rfl⟩
  · split
    · exact ⟨by simp, by simpa using h, by simp, fun _ => rfl⟩
    · split
      · exact ⟨by simp, by simpa using h, by simp, fun _ => rfl⟩
      · dsimp only; exact ⟨by omega, by omega, by omega, fun h => absurd rfl h⟩

theorem BytesAt.mid {w : World} {bs : List Int} {q m b : Nat} (hb : BytesAt w (.slice (some ⟨b, 0, none⟩) bs.length bs.length) bs) (hq : q + m ≤ bs.length) :
    BytesAt w (.slice (if m = 0 then some ⟨b, 0, none⟩ else some ⟨b, q, none⟩) m m) ((bs.drop q).take m) := by
  have hl : ((bs.drop q).take m).length = m := by simp; omega
  refine ⟨_, _, by rw [hl], by omega, fun hne => ?_⟩
  have hm : m ≠ 0 := by intro e; subst e; simp at hne
  obtain ⟨A', cap', e, hle, hc⟩ := hb
  cases e
  obtain ⟨b', off', e, hblt, hcell⟩ := hc (by intro e; rw [e] at hq; simp at hq; omega)
  cases e
  refine ⟨b, q, by rw [if_neg hm], hblt, fun j hj => ?_⟩
  rw [hl] at hj
  have := hcell (q + j) (by omega)
  rw [Nat.zero_add] at this
  rw [this, List.getElem?_take, if_pos hj, List.getElem?_drop]

set_option maxHeartbeats 4000000 in
theorem rtext_any {w : World} {g : Nat} {bs : List Int} {p : Nat} (h : Rd w g bs p) :
    Calls Try.prog 23 #[.pointer (some ⟨g, 0, none⟩)] w fun e w' =>
      e = .returned (.tuple #[.string (strOfNums (txtL (bs.drop p)).1), .int .i64 (txtL (bs.drop p)).2.2]) ∧ Rd w' g bs (p + (txtL (bs.drop p)).2.1) ∧ Gg g w w' := by
  have HR := Lib.hid h
  have hp : p ≤ bs.length := by obtain ⟨A, X, hb, hi, hp, r⟩ := h; exact hp
  clear h
  have hT : txtL (bs.drop p) = if (lenL (bs.drop p) 65536).2.2 ≠ 0 then ([], 0, (lenL (bs.drop p) 65536).2.2) else if ((bs.drop p).length : Int) - ((lenL (bs.drop p) 65536).2.1 : Int) < (lenL (bs.drop p) 65536).1 then ([], 0, 71) else
    (((bs.drop p).drop (lenL (bs.drop p) 65536).2.1).take (lenL (bs.drop p) 65536).1.toNat, (lenL (bs.drop p) 65536).2.1 + (lenL (bs.drop p) 65536).1.toNat, 0) := rfl
  have HI := Lib.hid (rlen_any HR.out 65536)
  have hbd := lenL_bounds (bs.drop p) 65536 (by decide)
  rw [List.length_drop] at hbd hT
  generalize lenL (bs.drop p) 65536 = T at *
  obtain ⟨n, k, ee⟩ := T
  dsimp only at HI hT hbd
  obtain ⟨hn0, hn1, hk, hk0⟩ := hbd
  have HK0 := Lib.hid hk0
  clear hk0
  obtain ⟨m, rfl⟩ : ∃ m : Nat, n = (m : Int) := ⟨n.toNat, by omega⟩
  rw [Int.toNat_natCast] at hT
  generalize txtL (bs.drop p) = L at *
  obtain ⟨la, lk, le⟩ := L
  have HL := Lib.hid hT
  clear hT
  dsimp only
  go_enter Try.func23, Try.ntmps23
  go_wp2_with fail
  refine (at_any HR.out).mono ?_
  rintro e w1 ⟨rfl, rfl⟩
  go_wp2_with fail
  refine HI.out.mono ?_
  rintro e w2 ⟨rfl, hr2, hg2⟩
  have R2 := Lib.hid hr2
  have G2 := Lib.hid hg2
  clear hr2 hg2 HI
  by_cases c1 : ee = 0
  · subst c1
    obtain ⟨A, X, hb, hi, hp2, hl, hA⟩ := R2.out
    have HB := Lib.hid hb
    clear hb hi
    go_wp2
    refine Dr.wp_region_T (by kernel_rfl) (by kernel_rfl) ?_
    iterate 9 (apply Dr.wpT_det; · (intro y w2 hw hF; clear hF; have c := (X.ge hw).cell; have l := (X.ge hw).lt; go_simp; first | exact ⟨Ge.refl _, rfl⟩ | exact Ge.refl _ | rfl))
    refine Dr.wpT_det (.int .i64 ((bs.length : Int) - ((p : Int) + (k : Int)))) ?_ ?_
    · intro y w2 hw hF
      clear hF
      go_simp
      exact ⟨Ge.refl _, by rw [IntWalk.i64_in _ (by omega)]⟩
    iterate 1 (apply Dr.wpT_det; · (intro y w2 hw hF; clear hF; have c := (X.ge hw).cell; have l := (X.ge hw).lt; go_simp; first | exact ⟨Ge.refl _, rfl⟩ | exact Ge.refl _ | rfl))
    by_cases c2 : (bs.length : Int) - ((p : Int) + (k : Int)) < (m : Int)
    · refine Dr.wpT_det (.bool true) ?_ ?_
      · intro y w2 hw hF
        clear hF
        go_simp
        exact Ge.refl _
      intro y w3 hw hF
      clear hF
      have HW := Lib.hid hw
      have R3 := Lib.hid (R2.out.ge hw)
      clear hw
      simp only [Act.put, List.setIfInBounds_toArray, List.set_cons_zero, List.set_cons_succ]
      go_wp2_with fail
      refine (back_no R3.out hp (by decide)).mono ?_
      rintro e w4 ⟨rfl, hr4, hg4⟩
      have R4 := Lib.hid hr4
      have G4 := Lib.hid ((G2.out.trans (Gg.of_ge HW.out)).trans hg4)
      clear hr4 hg4
      go_wp2
      go_returns
      have hL := HL.out
      rw [if_neg (by simp), if_pos (by omega)] at hL
      cases hL
      exact ⟨rfl, R4.out, G4.out⟩
    · refine Dr.wpT_det (.bool false) ?_ ?_
      · intro y w2 hw hF
        clear hF
        go_simp
        exact Ge.refl _
      intro y w3 hw hF
      clear hF
      have HW := Lib.hid hw
      have R3 := Lib.hid (R2.out.ge hw)
      replace X := X.ge hw
      have HB3 := Lib.hid (HB.out.ge hw)
      clear hw
      simp only [Act.put, List.setIfInBounds_toArray, List.set_cons_zero, List.set_cons_succ]
      go_wp2
      refine Dr.wp_region_T (by kernel_rfl) (by kernel_rfl) ?_
      iterate 13 (apply Dr.wpT_det; · (intro y w2 hw hF; clear hF; have c := (X.ge hw).cell; have l := (X.ge hw).lt; go_simp; first | exact ⟨Ge.refl _, rfl⟩ | exact Ge.refl _ | rfl))
      refine Dr.wpT_det (.int .i64 ((p : Int) + (k : Int) + (m : Int))) ?_ ?_
      · intro y w2 hw hF
        clear hF
        go_simp
        exact ⟨Ge.refl _, by rw [IntWalk.i64_in _ (by omega)]⟩
      iterate 5 (apply Dr.wpT_det; · (intro y w2 hw hF; clear hF; have c := (X.ge hw).cell; have l := (X.ge hw).lt; go_simp; first | exact ⟨Ge.refl _, rfl⟩ | exact Ge.refl _ | rfl))
      refine Dr.wpT_det (.int .i64 ((p : Int) + (k : Int) + (m : Int))) ?_ ?_
      · intro y w2 hw hF
        clear hF
        go_simp
        exact ⟨Ge.refl _, by rw [IntWalk.i64_in _ (by omega)]⟩
      rcases hA with ⟨rfl, rfl⟩ | ⟨b, rfl, hbg⟩
      · obtain rfl : p = 0 := by simpa using hp
        obtain rfl : k = 0 := by simpa using hk
        obtain rfl : m = 0 := by simp at c2; omega
        refine Dr.wpT_det (.slice none 0 0) ?_ ?_
        · intro y w2 hw hF
          clear hF
          go_simp
          first | exact Ge.refl _ | exact ⟨Ge.refl _, rfl⟩
        have hmid : BytesAt w3 (.slice none 0 0) ((List.drop (0 + 0) ([] : List Int)).take 0) := ⟨none, 0, rfl, Nat.le_refl _, fun h => absurd rfl h⟩
        have HM := Lib.hid hmid
        clear hmid
        refine Dr.wpT_det (.string (strOfNums ((List.drop (0 + 0) ([] : List Int)).take 0))) ?_ ?_
        · intro y w2 hw hF
          clear hF
          have k1 := conv_bytes (HM.out.ge hw)
          go_simp
          first | exact ⟨Ge.refl _, rfl⟩ | exact Ge.refl _
        iterate 1 (apply Dr.wpT_det; · (intro y w2 hw hF; clear hF; have c := (X.ge hw).cell; have l := (X.ge hw).lt; go_simp; first | exact ⟨Ge.refl _, rfl⟩ | exact Ge.refl _ | rfl))
        intro y w4 hw hF
        clear hF
        have HW4 := Lib.hid hw
        have R4 := Lib.hid (R3.out.ge hw)
        have X4 := X.ge hw
        have c := X4.cell
        have l := X4.lt
        have fz := X4.frozen
        clear hw
        simp only [Act.put, List.setIfInBounds_toArray, List.set_cons_zero, List.set_cons_succ]
        go_wp2
        go_returns
        have hL := HL.out
        rw [if_neg (by simp), if_neg (by omega)] at hL
        cases hL
        refine ⟨rfl, ?_, ((G2.out.trans (Gg.of_ge HW.out)).trans (Gg.of_ge HW4.out)).trans (Gg.set _ _ _ _)⟩
        exact R4.out.set (q := 0) (by simp)
      · have u1 : 0 ≤ (p : Int) + (k : Int) + (m : Int) := by omega
        have u2 : (p : Int) + (k : Int) + (m : Int) ≤ (bs.length : Int) := by omega
        have u3 : 0 ≤ (p : Int) + (k : Int) := by omega
        have u4 : (p : Int) + (k : Int) ≤ (p : Int) + (k : Int) + (m : Int) := by omega
        have u5 : max ((p : Int) + (k : Int) + (m : Int)) 0 = (p : Int) + (k : Int) + (m : Int) := by omega
        have u6 : ((p : Int) + (k : Int) + (m : Int)).toNat = p + k + m := by omega
        have u7 : ((p : Int) + (k : Int)).toNat = p + k := by omega
        obtain ⟨ad, had⟩ : ∃ ad : Option Addr, (if m = 0 then some ⟨b, 0, none⟩ else some ⟨b, p + k, none⟩) = ad := ⟨_, rfl⟩
        refine Dr.wpT_det (.slice ad m m) ?_ ?_
        · intro y w2 hw hF
          clear hF
          go_simp
          first | exact Ge.refl _ | exact ⟨Ge.refl _, had⟩
        have hmid := BytesAt.mid HB3.out (q := p + k) (m := m) (by omega)
        rw [had] at hmid
        have HAD := Lib.hid had
        clear had u1 u2 u3 u4 u5 u6 u7
        have HM := Lib.hid hmid
        clear hmid
        refine Dr.wpT_det (.string (strOfNums ((bs.drop (p + k)).take m))) ?_ ?_
        · intro y w2 hw hF
          clear hF
          have k1 := conv_bytes (HM.out.ge hw)
          go_simp
          first | exact ⟨Ge.refl _, rfl⟩ | exact Ge.refl _
        iterate 1 (apply Dr.wpT_det; · (intro y w2 hw hF; clear hF; have c := (X.ge hw).cell; have l := (X.ge hw).lt; go_simp; first | exact ⟨Ge.refl _, rfl⟩ | exact Ge.refl _ | rfl))
        intro y w4 hw hF
        clear hF
        have HW4 := Lib.hid hw
        have R4 := Lib.hid (R3.out.ge hw)
        have X4 := X.ge hw
        have c := X4.cell
        have l := X4.lt
        have fz := X4.frozen
        clear hw
        simp only [Act.put, List.setIfInBounds_toArray, List.set_cons_zero, List.set_cons_succ]
        go_wp2
        go_returns
        have hL := HL.out
        rw [if_neg (by simp), if_neg (by omega)] at hL
        cases hL
        refine ⟨by rw [List.drop_drop]; rfl, ?_, ((G2.out.trans (Gg.of_ge HW.out)).trans (Gg.of_ge HW4.out)).trans (Gg.set _ _ _ _)⟩
        rw [← Nat.add_assoc]
        exact R4.out.set (q := p + k + m) (by omega)
  · have c1' : (ee != 0) = true := by simpa using c1
    have C1 := Lib.hid c1
    clear c1
    obtain rfl : k = 0 := HK0.out C1.out
    go_wp2
    go_returns
    have hL := HL.out
    rw [if_pos C1.out] at hL
    cases hL
    exact ⟨rfl, R2.out, G2.out⟩

set_option maxHeartbeats 1000000 in
theorem end_more {w : World} {g : Nat} {bs : List Int} {p : Nat} (h : Rd w g bs p) (hlt : p < bs.length) :
    Calls Try.prog 26 #[.pointer (some ⟨g, 0, none⟩)] w fun e w' => e = .returned (.int .i64 72) ∧ Ge w w' := by
  obtain ⟨A, X, hb, hi, hp2, hl, hA⟩ := h
  clear hb hi hA
  go_enter Try.func26, Try.ntmps26
  go_wp2_with fail
  refine (made_yes X).mono ?_
  rintro e w1 ⟨rfl, rfl⟩
  go_wp2
  refine Dr.wp_region_T (by kernel_rfl) (by kernel_rfl) ?_
  iterate 11 (apply Dr.wpT_det; · (intro y w2 hw hF; clear hF; have c := (X.ge hw).cell; have l := (X.ge hw).lt; go_simp; first | exact ⟨Ge.refl _, rfl⟩ | exact Ge.refl _ | rfl))
  intro y w3 hw hF
  clear hF
  simp only [Act.put, List.setIfInBounds_toArray, List.set_cons_zero, List.set_cons_succ]
  go_wp2
  go_returns
  exact ⟨rfl, hw⟩
set_option maxHeartbeats 1000000 in
theorem end_done {w : World} {g : Nat} {bs : List Int} {p : Nat} (h : Rd w g bs p) (hlt : ¬ p < bs.length) :
    Calls Try.prog 26 #[.pointer (some ⟨g, 0, none⟩)] w fun e w' => e = .returned (.int .i64 0) ∧ Ge w w' := by
  obtain ⟨A, X, hb, hi, hp2, hl, hA⟩ := h
  clear hb hi hA
  go_enter Try.func26, Try.ntmps26
  go_wp2_with fail
  refine (made_yes X).mono ?_
  rintro e w1 ⟨rfl, rfl⟩
  go_wp2
  refine Dr.wp_region_T (by kernel_rfl) (by kernel_rfl) ?_
  iterate 11 (apply Dr.wpT_det; · (intro y w2 hw hF; clear hF; have c := (X.ge hw).cell; have l := (X.ge hw).lt; go_simp; first | exact ⟨Ge.refl _, rfl⟩ | exact Ge.refl _ | rfl))
  intro y w3 hw hF
  clear hF
  simp only [Act.put, List.setIfInBounds_toArray, List.set_cons_zero, List.set_cons_succ]
  go_wp2
  go_returns
  exact ⟨rfl, hw⟩
end Go.Proofs.Ytonpoloahagddaa
