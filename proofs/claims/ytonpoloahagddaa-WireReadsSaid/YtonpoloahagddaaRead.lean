/-
  A reader: New, isMade, At, Int, End, back.
-/
import Derived.Test.YtonpoloahagddaaTake
import Derived.Test.YtonpoloahagddaaPut
namespace Go.Proofs.Ytonpoloahagddaa
open Go.RowKit
attribute [local go_sem] Dr.upT

theorem Bx.set {w : World} {b : Nat} {t : TypeId} {cs : Array Value} (h : Bx w b t cs) (k : Nat) (v : Value) : Bx (w.setCell ⟨b, k, none⟩ v) b t (cs.setIfInBounds k v) := by
  unfold Bx at *
  simp [World.setCell, Array.getElem?_modify, h]
theorem Bx.set_ne {w : World} {b b' : Nat} {t : TypeId} {cs : Array Value} (h : Bx w b t cs) (k : Nat) (v : Value) (hne : b ≠ b') : Bx (w.setCell ⟨b', k, none⟩ v) b t cs :=
  (Below.heap_setCell _ _ _ _ hne).trans h

/-- only block g, and what is new, has turned -/
abbrev Gg (g : Nat) (w w' : World) : Prop := w.grownBy w' (some g)
theorem Gg.of_ge {g : Nat} {w w' : World} (h : Ge w w') : Gg g w w' := ⟨h.os, h.tape, h.output, h.size, fun k hk _ => h.block k hk⟩
theorem Gg.trans {g : Nat} {a b c : World} (h : Gg g a b) (k : Gg g b c) : Gg g a c :=
  ⟨k.os.trans h.os, k.tape.trans h.tape, k.output.trans h.output, Nat.le_trans h.size k.size, fun i hi hne => (k.block i (Nat.lt_of_lt_of_le hi h.size) hne).trans (h.block i hi hne)⟩
theorem Gg.set (g : Nat) (w : World) (k : Nat) (v : Value) : Gg g w (w.setCell ⟨g, k, none⟩ v) :=
  ⟨rfl, rfl, rfl, by simp [World.setCell], fun i _ hne => Below.heap_setCell w _ v i (fun e => hne (by rw [e]))⟩
theorem Gg.ge {g : Nat} {a b c : World} (h : Ge a b) (k : Gg g b c) (hg : a.heap.size ≤ g) : Ge a c := Below.grown h k h.size (fun j hj => by cases hj; exact hg)
theorem BytesAt.gg {g : Nat} {w w' : World} {b : Nat} {off n cap : Nat} {xs : List Int} (h : BytesAt w (.slice (some ⟨b, off, none⟩) n cap) xs) (hg : Gg g w w') (hne : b ≠ g) : BytesAt w' (.slice (some ⟨b, off, none⟩) n cap) xs := by
  obtain ⟨A, cap', e, hle, hc⟩ := h
  cases e
  refine ⟨_, _, rfl, hle, fun hx => ?_⟩
  obtain ⟨b', off', e, hlt, hcell⟩ := hc hx
  cases e
  exact ⟨b, off, rfl, Nat.lt_of_lt_of_le hlt hg.size, fun j hj => (World.cell?_of_block (a := ⟨b, off + j, none⟩) (hg.block b hlt (fun e => hne (by cases e; rfl)))).trans (hcell j hj)⟩

set_option maxHeartbeats 1000000 in
theorem clone_any {w : World} {v : Value} {xs : List Int} (h : BytesAt w v xs) (hl : xs.length ≤ 140737488355328) :
    Calls Try.prog 35 #[v] w fun e w' => ∃ v', e = .returned v' ∧ OwnB w' w.heap.size v' xs ∧ Ge w w' := by
  have HB := Lib.hid h
  have q23 := fun (w : World) (a : Option Addr) (n c n' c' : Nat) => Lib.run_eql_slice_nil (P := Try.prog) w 23 5 a n c n' c' Try.underlying23
  obtain ⟨A, cap, rfl, hle, hc⟩ := h
  cases A with
  | none =>
    have hy : xs = [] := by
      rcases xs with _ | ⟨y, ys⟩
      · rfl
      · obtain ⟨b, off, h, _⟩ := hc (by simp)
        cases h
    subst hy
    clear hc
    go_enter Try.func35, Try.ntmps35
    go_wp2
    go_returns
    exact ⟨_, rfl, OwnB.nil _ _, Ge.refl _⟩
  | some a =>
    clear hc
    have hown1 : OwnB (w.alloc (.cells #[] 5)) w.heap.size (.slice (some ⟨w.heap.size, 0, none⟩) 0 0) [] :=
      OwnB.lit _ (by show (w.heap.push _)[w.heap.size]? = _; simp) (Nat.le_refl _) rfl (by simp [maxLen])
    have H1 := Lib.hid hown1
    have HB1 := Lib.hid (HB.out.ge ((Ge.refl w).alloc (.cells #[] 5)))
    have C1 := Lib.hid (show ([] : List Int).length + xs.length ≤ 140737488355328 by simpa using hl)
    have C2 := Lib.hid (show w.heap.size ≤ (w.alloc (.cells #[] 5)).heap.size by simp)
    clear hown1
    go_enter Try.func35, Try.ntmps35
    go_wp2_with (at_builtin; refine wpList_app rfl (.tmp 5) (.tmp 6) rfl rfl rfl H1.out HB1.out C1.out C2.out ?_; intro v' w1 hown hgrow _hat; have HO := Lib.hid hown; have HG := Lib.hid hgrow; clear hown hgrow _hat)
    go_returns
    exact ⟨_, rfl, HO.out, ge_app ((Ge.refl w).alloc _) H1.out (Nat.le_refl _) HG.out⟩

/-- a reader of bytes, at a place -/
def Rd (w : World) (g : Nat) (bs : List Int) (p : Nat) : Prop :=
  ∃ A, Bx w g 54 #[.bool true, .slice A bs.length bs.length, .int .i64 (p : Int)] ∧ BytesAt w (.slice A bs.length bs.length) bs ∧ IsB bs ∧ p ≤ bs.length ∧ bs.length ≤ 100000000000 ∧
    (A = none ∧ bs = [] ∨ ∃ b, A = some ⟨b, 0, none⟩ ∧ b ≠ g)
theorem Rd.ge {w w' : World} {g : Nat} {bs : List Int} {p : Nat} (h : Rd w g bs p) (hg : Ge w w') : Rd w' g bs p := by
  obtain ⟨A, hx, hb, r⟩ := h
  exact ⟨A, hx.ge hg, hb.ge hg, r⟩
theorem Rd.set {w : World} {g : Nat} {bs : List Int} {p q : Nat} (h : Rd w g bs p) (hq : q ≤ bs.length) : Rd (w.setCell ⟨g, 2, none⟩ (.int .i64 (q : Int))) g bs q := by
  obtain ⟨A, hx, hb, hi, hp, hl, hA⟩ := h
  refine ⟨A, hx.set 2 _, ?_, hi, hq, hl, hA⟩
  rcases hA with ⟨rfl, rfl⟩ | ⟨b, rfl, hne⟩
  · exact ⟨none, 0, rfl, Nat.le_refl _, fun h => absurd rfl h⟩
  · exact hb.gg (Gg.set g w 2 _) hne

set_option maxHeartbeats 1000000 in
theorem new_any {w : World} {v : Value} {xs : List Int} (h : BytesAt w v xs) (hi : IsB xs) (hl : xs.length ≤ 100000000000) :
    Calls Try.prog 22 #[v] w fun e w' => ∃ g, e = .returned (.pointer (some ⟨g, 0, none⟩)) ∧ w.heap.size ≤ g ∧ Rd w' g xs 0 ∧ Ge w w' := by
  go_enter Try.func22, Try.ntmps22
  go_wp2_with fail
  refine (clone_any h (by omega)).mono ?_
  rintro e w1 ⟨v', rfl, hown, hge⟩
  have HO := Lib.hid hown
  have HG := Lib.hid hge
  have HI := Lib.hid hi
  rcases hown.2 with ⟨rfl, hn⟩ | ⟨g, cap, cur, rfl, hgb, hh, hle, hm, hs, ht⟩
  · have : xs = [] := List.eq_nil_of_length_eq_zero hn
    subst this
    clear hown hge hn hi h
    go_wp2
    go_returns
    refine ⟨_, rfl, HG.out.size, ⟨none, Bx.new _ _ _ rfl, ⟨none, 0, rfl, Nat.le_refl _, fun h => absurd rfl h⟩, IsB.nil, Nat.le_refl _, by simp, .inl ⟨rfl, rfl⟩⟩, HG.out.alloc _⟩
  · have hg := (Array.getElem?_eq_some_iff.1 hh).1
    clear hown hge hi h hh ht hs
    go_wp2
    go_returns
    refine ⟨_, rfl, HG.out.size, ⟨some ⟨g, 0, none⟩, Bx.new _ _ _ rfl, ?_, HI.out, by omega, by omega, .inr ⟨g, rfl, by omega⟩⟩, HG.out.alloc _⟩
    have := HO.out.bytes.ge ((Ge.refl w1).alloc (.cells #[.bool true, .slice (some ⟨g, 0, none⟩) xs.length xs.length, .int .i64 0] 54))
    obtain ⟨A, c2, e, h1, h2⟩ := this
    cases e
    exact ⟨_, _, rfl, Nat.le_refl _, h2⟩

set_option maxHeartbeats 1000000 in
theorem made_yes {w : World} {g : Nat} {v1 v2 : Value} (X : Bx w g 54 #[.bool true, v1, v2]) :
    Calls Try.prog 38 #[.pointer (some ⟨g, 0, none⟩)] w fun e w' => e = .returned (.bool true) ∧ w' = w := by
  have c := X.cell
  have l := X.lt
  go_enter Try.func38, Try.ntmps38
  go_wp2
  go_returns
  exact ⟨rfl, rfl⟩

set_option maxHeartbeats 1000000 in
theorem at_any {w : World} {g : Nat} {bs : List Int} {p : Nat} (h : Rd w g bs p) :
    Calls Try.prog 25 #[.pointer (some ⟨g, 0, none⟩)] w fun e w' => e = .returned (.int .i64 (p : Int)) ∧ w' = w := by
  obtain ⟨A, X, -⟩ := h
  go_enter Try.func25, Try.ntmps25
  go_wp2_with fail
  refine (made_yes X).mono ?_
  rintro e w1 ⟨rfl, rfl⟩
  have c := X.cell
  have l := X.lt
  go_wp2
  go_returns
  exact ⟨rfl, rfl⟩

theorem takeL_le (xs : List Int) : (takeL xs).2.1 ≤ xs.length := by
  cases xs with
  | nil => simp [takeL]
  | cons c t =>
    rw [takeL]
    split
    · simp
    · split
      · simp
      · split
        · simp
        · split
          · simp
          · split
            · split
              · simp
              · split
                · simp; omega
                · simp
            · split
              · simp
              · split
                · simp; omega
                · simp

theorem BytesAt.rest {w : World} {bs : List Int} {p b : Nat} (hb : BytesAt w (.slice (some ⟨b, 0, none⟩) bs.length bs.length) bs) :
    BytesAt w (.slice (if bs.length = p then some ⟨b, 0, none⟩ else some ⟨b, p, none⟩) (bs.length - p) (bs.length - p)) (bs.drop p) := by
  refine ⟨_, _, by rw [List.length_drop], by simp, fun hne => ?_⟩
  have hlt : p < bs.length := by
    rcases Nat.lt_or_ge p bs.length with h | h
    · exact h
    · exact absurd (List.drop_eq_nil_of_le h) hne
  obtain ⟨A', cap', e, hle, hc⟩ := hb
  cases e
  obtain ⟨b', off', e, hblt, hcell⟩ := hc (by intro e; rw [e] at hlt; simp at hlt)
  cases e
  refine ⟨b, p, by rw [if_neg (by omega)], hblt, fun j hj => ?_⟩
  rw [List.length_drop] at hj
  have := hcell (p + j) (by omega)
  rw [Nat.zero_add] at this
  rw [this, List.getElem?_drop]

set_option maxHeartbeats 2000000 in
theorem rint_any {w : World} {g : Nat} {bs : List Int} {p : Nat} (h : Rd w g bs p) :
    Calls Try.prog 24 #[.pointer (some ⟨g, 0, none⟩)] w fun e w' =>
      e = .returned (.tuple #[.int .i64 (takeL (bs.drop p)).1, .int .i64 (takeL (bs.drop p)).2.2]) ∧ Rd w' g bs (p + (takeL (bs.drop p)).2.1) ∧ Gg g w w' := by
  have HR := Lib.hid h
  obtain ⟨A, X, hb, hi, hp, hl, hA⟩ := h
  have HI := Lib.hid hi
  have HB := Lib.hid hb
  have hk := takeL_le (bs.drop p)
  rw [List.length_drop] at hk
  obtain ⟨k, hke⟩ : ∃ k, k = (takeL (bs.drop p)).2.1 := ⟨_, rfl⟩
  obtain ⟨n, hne⟩ : ∃ n, n = (takeL (bs.drop p)).1 := ⟨_, rfl⟩
  obtain ⟨ee, hee⟩ : ∃ ee, ee = (takeL (bs.drop p)).2.2 := ⟨_, rfl⟩
  have hT : takeV (bs.drop p) = .tuple #[.int .i64 n, .int .i64 (k : Int), .int .i64 ee] := by rw [takeV, ← hke, ← hne, ← hee]
  rw [← hke] at hk
  rw [← hke, ← hne, ← hee]
  have HT := Lib.hid hT
  clear hT hke hne hee hi hb
  rcases hA with ⟨rfl, rfl⟩ | ⟨b, rfl, hbg⟩
  · obtain rfl : p = 0 := by simpa using hp
    have HRest := Lib.hid HB.out
    go_enter Try.func24, Try.ntmps24
    go_wp2_with fail
    refine (made_yes X).mono ?_
    rintro e w1 ⟨rfl, rfl⟩
    go_wp2
    refine Dr.wp_region_T (by kernel_rfl) (by kernel_rfl) ?_
    iterate 9 (apply Dr.wpT_det; · (intro y w2 hw hF; clear hF; have c := (X.ge hw).cell; have l := (X.ge hw).lt; go_simp; first | exact ⟨Ge.refl _, rfl⟩ | exact Ge.refl _ | rfl))
    refine Dr.wpT_det (.tuple #[.int .i64 n, .int .i64 (k : Int), .int .i64 ee]) ?_ ?_
    · intro y w2 hw hF
      clear hF
      have C := Lib.hid (take_any (HRest.out.ge hw) (HI.out.drop 0) (by simp))
      rw [show takeV [] = _ from HT.out] at C
      go_simp
      refine C.out.mono ?_
      rintro e w3 ⟨rfl, hg⟩
      exact ⟨rfl, hg⟩
    iterate 7 (apply Dr.wpT_det; · (intro y w2 hw hF; clear hF; have c := (X.ge hw).cell; have l := (X.ge hw).lt; go_simp; first | exact ⟨Ge.refl _, rfl⟩ | exact Ge.refl _ | rfl))
    intro y w2 hw hF
    clear hF
    simp only [Act.put, List.setIfInBounds_toArray, List.set_cons_zero, List.set_cons_succ]
    have HW := Lib.hid hw
    have X2 := X.ge hw
    have c := X2.cell
    have l := X2.lt
    have fz := X2.frozen
    clear hw
    go_wp2
    go_returns
    refine ⟨rfl, ?_, (Gg.of_ge HW.out).trans (Gg.set _ _ _ _)⟩
    rw [Nat.zero_add]
    exact (HR.out.ge HW.out).set (q := k) (by simpa using hk)
  · have HRest := Lib.hid (HB.out.rest (p := p))
    go_enter Try.func24, Try.ntmps24
    go_wp2_with fail
    refine (made_yes X).mono ?_
    rintro e w1 ⟨rfl, rfl⟩
    go_wp2
    refine Dr.wp_region_T (by kernel_rfl) (by kernel_rfl) ?_
    iterate 9 (apply Dr.wpT_det; · (intro y w2 hw hF; clear hF; have c := (X.ge hw).cell; have l := (X.ge hw).lt; go_simp; first | exact ⟨Ge.refl _, rfl⟩ | exact Ge.refl _ | rfl))
    refine Dr.wpT_det (.tuple #[.int .i64 n, .int .i64 (k : Int), .int .i64 ee]) ?_ ?_
    · intro y w2 hw hF
      clear hF
      have C := Lib.hid (take_any (HRest.out.ge hw) (HI.out.drop p) (by simp; omega))
      rw [HT.out] at C
      go_simp
      refine C.out.mono ?_
      rintro e w3 ⟨rfl, hg⟩
      exact ⟨rfl, hg⟩
    iterate 7 (apply Dr.wpT_det; · (intro y w2 hw hF; clear hF; have c := (X.ge hw).cell; have l := (X.ge hw).lt; go_simp; first | exact ⟨Ge.refl _, rfl⟩ | exact Ge.refl _ | rfl))
    intro y w2 hw hF
    clear hF
    simp only [Act.put, List.setIfInBounds_toArray, List.set_cons_zero, List.set_cons_succ]
    have HW := Lib.hid hw
    have X2 := X.ge hw
    have c := X2.cell
    have l := X2.lt
    have fz := X2.frozen
    clear hw
    go_wp2
    all_goals
      go_returns
      refine ⟨rfl, ?_, (Gg.of_ge HW.out).trans (Gg.set _ _ _ _)⟩
      exact (HR.out.ge HW.out).set (q := p + k) (by omega)
end Go.Proofs.Ytonpoloahagddaa
