/-
  The reference's both, Join, Meet.
-/
import Derived.Test.YtedccllpbajbfaaMerge
import Derived.Test.YtedccllpbajbfaaBoth
import Derived.Test.YtedccllpbajbfaaRText
namespace Go.Proofs.Ytedccllpbajbfaa
open Go.RowKit
attribute [local go_sem] Dr.upT

def bArr (up : Bool) (a b : Tm) (d k : Nat) : Array Value := #[.int .i64 (gU up a.e b.e), .int .i64 (d : Int), .int .i64 (if 0 < k then gU up a.l0 b.l0 else a.l0), .int .i64 (if 1 < k then gU up a.l1 b.l1 else a.l1), .int .i64 (if 2 < k then gU up a.l2 b.l2 else a.l2), .int .i64 (if 3 < k then gU up a.l3 b.l3 else a.l3)]
theorem bArr_set (up : Bool) (a b : Tm) (d k : Nat) (hk : k < 4) : (bArr up a b d k).setIfInBounds (2 + k) (.int .i64 (gU up (cntAt a k) (cntAt b k))) = bArr up a b d (k + 1) := by
  have : k = 0 ∨ k = 1 ∨ k = 2 ∨ k = 3 := by omega
  unfold bArr
  rcases this with rfl | rfl | rfl | rfl <;> simp [cntAt]
theorem bArr_keep (up : Bool) (a b : Tm) (d k : Nat) (hk : k < 4) (h : gU up (cntAt a k) (cntAt b k) = cntAt a k) : bArr up a b d k = bArr up a b d (k + 1) := by
  have : k = 0 ∨ k = 1 ∨ k = 2 ∨ k = 3 := by omega
  unfold bArr
  rcases this with rfl | rfl | rfl | rfl <;> simp [cntAt] at * <;> exact h.symm

def BoRel (up : Bool) (a b : Tm) (d : Nat) (w w1 : World) (i : Value) (wr : World) : Prop :=
  ∃ k : Nat, k ≤ d ∧ i = .int .i64 (k : Int) ∧ Bx wr w1.heap.size 24 (bArr up a b d k) ∧ Bx wr w.heap.size 24 #[.int .i64 a.e, .int .i64 (d : Int), .int .i64 a.l0, .int .i64 a.l1, .int .i64 a.l2, .int .i64 a.l3] ∧ Bx wr (w.heap.size + 1) 24 #[.int .i64 b.e, .int .i64 (d : Int), .int .i64 b.l0, .int .i64 b.l1, .int .i64 b.l2, .int .i64 b.l3] ∧ Bx wr (w.heap.size + 1 + 1) 24 #[.int .i64 0, .int .i64 0, .int .i64 0, .int .i64 0, .int .i64 0, .int .i64 0] ∧ Ge w wr

theorem cell4 (t : Tm) (d : Int) (k : Nat) (h : k < 4) : (#[Value.int .i64 t.e, .int .i64 d, .int .i64 t.l0, .int .i64 t.l1, .int .i64 t.l2, .int .i64 t.l3])[2 + k]? = some (.int .i64 (cntAt t k)) := by
  have : k = 0 ∨ k = 1 ∨ k = 2 ∨ k = 3 := by omega
  rcases this with rfl | rfl | rfl | rfl <;> rfl
theorem bCell (up : Bool) (a b : Tm) (d k : Nat) (h : k < 4) : ∃ v, (bArr up a b d k)[2 + k]? = some (.int .i64 v) := by
  have : k = 0 ∨ k = 1 ∨ k = 2 ∨ k = 3 := by omega
  rcases this with rfl | rfl | rfl | rfl <;> exact ⟨_, rfl⟩

set_option maxRecDepth 100000 in
set_option maxHeartbeats 8000000 in
theorem rboth_yes (up : Bool) (a b : Tm) (d : Nat) (hda : a.d = (d : Int)) (hdb : b.d = (d : Int)) (w : World) (hca : Chk a) (hcb : Chk b) :
    Calls Try.prog 43 #[.agg #[.int .i64 a.e, .int .i64 (d : Int), .int .i64 a.l0, .int .i64 a.l1, .int .i64 a.l2, .int .i64 a.l3], .agg #[.int .i64 b.e, .int .i64 (d : Int), .int .i64 b.l0, .int .i64 b.l1, .int .i64 b.l2, .int .i64 b.l3], .bool up] w fun e' w' => e' = .returned (.tuple #[.agg #[.int .i64 (gU up a.e b.e), .int .i64 (d : Int), .int .i64 (gU up a.l0 b.l0), .int .i64 (gU up a.l1 b.l1), .int .i64 (gU up a.l2 b.l2), .int .i64 (gU up a.l3 b.l3)], .int .i64 0]) ∧ Ge w w' := by
  have HA := Lib.hid (rcheck_yes hca)
  have HB := Lib.hid (rcheck_yes hcb)
  rw [hda] at HA
  rw [hdb] at HB
  have hd4 : d ≤ 4 := by have := hca.2.2.2.1; omega
  have HR := Lib.hid (show bArr up a b d d = #[.int .i64 (gU up a.e b.e), .int .i64 (d : Int), .int .i64 (gU up a.l0 b.l0), .int .i64 (gU up a.l1 b.l1), .int .i64 (gU up a.l2 b.l2), .int .i64 (gU up a.l3 b.l3)] by
    obtain ⟨-, -, -, -, ⟨-, -, z0⟩, ⟨-, -, z1⟩, ⟨-, -, z2⟩, -, -, z3⟩ := hca
    obtain ⟨-, -, -, -, ⟨-, -, y0⟩, ⟨-, -, y1⟩, ⟨-, -, y2⟩, -, -, y3⟩ := hcb
    have h0 : gU up 0 0 = 0 := by cases up <;> rfl
    unfold bArr
    congr 1
    have e0 : (if 0 < d then gU up a.l0 b.l0 else a.l0) = gU up a.l0 b.l0 := by
      split
      · rfl
      · rw [z0 (by omega), y0 (by omega), h0]
    have e1 : (if 1 < d then gU up a.l1 b.l1 else a.l1) = gU up a.l1 b.l1 := by
      split
      · rfl
      · rw [z1 (by omega), y1 (by omega), h0]
    have e2 : (if 2 < d then gU up a.l2 b.l2 else a.l2) = gU up a.l2 b.l2 := by
      split
      · rfl
      · rw [z2 (by omega), y2 (by omega), h0]
    have e3 : (if 3 < d then gU up a.l3 b.l3 else a.l3) = gU up a.l3 b.l3 := by
      split
      · rfl
      · rw [z3 (by omega), y3 (by omega), h0]
    rw [e0, e1, e2, e3])
  clear hca hcb hda hdb
  rcases Bool.eq_false_or_eq_true (decide (a.e < b.e) == up) with z | z
  · have z' : gU up a.e b.e = b.e := gU_yes z
    have HZ := Lib.hid z'
    have Zq := Lib.hid z
    have hq : (decide (a.e < b.e) == up) = true := z
    clear z' z
    go_enter Try.func43, Try.ntmps43
    go_wp2_with fail
    refine (HA.out _).mono ?_
    rintro e w0 ⟨rfl, rfl⟩
    go_wp2_with fail
    refine (HB.out _).mono ?_
    rintro e w1 ⟨rfl, hw1⟩
    have hg1 : Ge (((w.alloc (.cells #[.int .i64 a.e, .int .i64 (d : Int), .int .i64 a.l0, .int .i64 a.l1, .int .i64 a.l2, .int .i64 a.l3] 24)).alloc (.cells #[.int .i64 b.e, .int .i64 (d : Int), .int .i64 b.l0, .int .i64 b.l1, .int .i64 b.l2, .int .i64 b.l3] 24)).alloc (.cells #[.int .i64 0, .int .i64 0, .int .i64 0, .int .i64 0, .int .i64 0, .int .i64 0] 24)) w1 := by rw [hw1]; exact ((Ge.refl _).alloc _).alloc _
    have XA := Lib.hid (show Bx w1 w.heap.size 24 #[.int .i64 a.e, .int .i64 (d : Int), .int .i64 a.l0, .int .i64 a.l1, .int .i64 a.l2, .int .i64 a.l3] from (((Bx.new _ _ _ rfl).alloc _).alloc _).ge hg1)
    have XB := Lib.hid (show Bx w1 (w.heap.size + 1) 24 #[.int .i64 b.e, .int .i64 (d : Int), .int .i64 b.l0, .int .i64 b.l1, .int .i64 b.l2, .int .i64 b.l3] from ((Bx.new _ _ _ (by simp)).alloc _).ge hg1)
    have XZ := Lib.hid (show Bx w1 (w.heap.size + 1 + 1) 24 #[.int .i64 0, .int .i64 0, .int .i64 0, .int .i64 0, .int .i64 0, .int .i64 0] from (Bx.new _ _ _ (by simp)).ge hg1)
    have G1 := Lib.hid ((((Ge.refl w).alloc _).alloc _).alloc _ |>.trans hg1)
    have hs1 : w.heap.size + 3 ≤ w1.heap.size := by have := hg1.size; simp at this; omega
    have cA := XA.out.cell
    have lA := XA.out.lt
    have cB := XB.out.cell
    have lB := XB.out.lt
    clear hw1 hg1
    go_wp2
    clear cA lA cB lB hq
    go_loopw [9] (fun i wr => BoRel up a b d w w1 i wr) (fun i _ => d - (intOf i).toNat)
    case atStart =>
      refine ⟨0, by omega, rfl, ?_, XA.out.alloc _, XB.out.alloc _, XZ.out.alloc _, G1.out.alloc _⟩
      unfold bArr
      rw [HZ.out]
      exact Bx.new _ _ _ rfl
    case round =>
      obtain ⟨k, hk, rfl, hxr, hxa, hxb, hxz, hge⟩ := hrel
      have XR := Lib.hid hxr
      replace XA := Lib.hid hxa
      replace XB := Lib.hid hxb
      replace XZ := Lib.hid hxz
      have G := Lib.hid hge
      have cA := XA.out.cell
      have lA := XA.out.lt
      clear hxr hxa hxb hxz hge
      by_cases hlt : k < d
      · have hk4 : k < 4 := by omega
        have k0 : (0 : Int) ≤ (k : Int) := by omega
        have k4 : (k : Int) < 4 := by omega
        have hdk : decide ((k : Int) < (d : Int)) = true := by simp; omega
        go_wp2_with fail
        clear cA lA
        have HKA := Lib.hid (fun (w3 : World) (hw : Ge wr w3) => ((XA.out.ge hw).cell (2 + k)).trans (cell4 a (d : Int) k hk4))
        have HKB := Lib.hid (fun (w3 : World) (hw : Ge wr w3) => ((XB.out.ge hw).cell (2 + k)).trans (cell4 b (d : Int) k hk4))
        have HS := Lib.hid (bArr_set up a b d k hk4)
        have HN := Lib.hid (bArr_keep up a b d k hk4)
        obtain ⟨x, hx⟩ : ∃ x, x = cntAt a k := ⟨_, rfl⟩
        obtain ⟨y, hy⟩ : ∃ y, y = cntAt b k := ⟨_, rfl⟩
        rw [← hx] at HKA HS HN
        rw [← hy] at HKB HS HN
        clear hx hy
        refine Dr.wp_region_T (by kernel_rfl) (by kernel_rfl) ?_
        iterate 11 (apply Dr.wpT_det; · (intro u w3 hw hF; clear hF; have kA := HKA.out w3 hw; have kB := HKB.out w3 hw; have lA := (XA.out.ge hw).lt; have lB := (XB.out.ge hw).lt; go_simp; first | exact ⟨Ge.refl _, rfl⟩ | exact Ge.refl _ | rfl))
        intro u w3 hw hF
        clear hF
        simp only [Act.put, List.setIfInBounds_toArray, List.set_cons_zero, List.set_cons_succ]
        have G3 := Lib.hid (G.out.trans hw)
        have XA3 := Lib.hid (XA.out.ge hw)
        have XB3 := Lib.hid (XB.out.ge hw)
        have XZ3 := Lib.hid (XZ.out.ge hw)
        have XR3 := Lib.hid (XR.out.ge hw)
        have kB := HKB.out w3 hw
        have lB := XB3.out.lt
        clear hw
        rcases Bool.eq_false_or_eq_true (decide (x < y) == up) with q | q
        · have hq := gU_yes q
          simp only [q]
          clear q
          rw [hq] at HS
          have lR := XR3.out.lt
          have fR := XR3.out.frozen (2 + k)
          obtain ⟨old, hold⟩ := bCell up a b d k hk4
          have cR : w3.cell? ⟨w1.heap.size, 2 + k, none⟩ = some (.int .i64 old) := (XR3.out.cell (2 + k)).trans hold
          clear hold hq
          go_wp2
          refine ⟨⟨k + 1, by omega, by go_num, by rw [← HS.out]; exact XR3.out.set _ _, XA3.out.set_ne _ _ (by omega), XB3.out.set_ne _ _ (by omega), XZ3.out.set_ne _ _ (by omega), Below.setCell G3.out (by show w.heap.size ≤ w1.heap.size; omega) _⟩, by simp [intOf]; omega⟩
        · have hq := gU_no q
          simp only [q]
          clear q
          have HE := Lib.hid (HN.out hq)
          clear hq
          go_wp2
          refine ⟨⟨k + 1, by omega, by go_num, by rw [← HE.out]; exact XR3.out, XA3.out, XB3.out, XZ3.out, G3.out⟩, by simp [intOf]; omega⟩
      · obtain rfl : k = d := by omega
        have hdk : decide ((k : Int) < (k : Int)) = false := by simp
        rw [HR.out] at XR
        have cR := XR.out.cell
        have lR := XR.out.lt
        have cz := XZ.out.cell
        have lz := XZ.out.lt
        have fz := XZ.out.frozen
        go_wp2_with fail
        obtain ⟨wz, hwz⟩ : ∃ wz, wz = ((((((wr.setCell ⟨w.heap.size + 1 + 1, 0, none⟩ (.int .i64 (gU up a.e b.e))).setCell ⟨w.heap.size + 1 + 1, 1, none⟩ (.int .i64 (k : Int))).setCell ⟨w.heap.size + 1 + 1, 2, none⟩ (.int .i64 (gU up a.l0 b.l0))).setCell ⟨w.heap.size + 1 + 1, 3, none⟩ (.int .i64 (gU up a.l1 b.l1))).setCell ⟨w.heap.size + 1 + 1, 4, none⟩ (.int .i64 (gU up a.l2 b.l2))).setCell ⟨w.heap.size + 1 + 1, 5, none⟩ (.int .i64 (gU up a.l3 b.l3))) := ⟨_, rfl⟩
        have XW : Bx wz (w.heap.size + 1 + 1) 24 #[.int .i64 (gU up a.e b.e), .int .i64 (k : Int), .int .i64 (gU up a.l0 b.l0), .int .i64 (gU up a.l1 b.l1), .int .i64 (gU up a.l2 b.l2), .int .i64 (gU up a.l3 b.l3)] := by rw [hwz]; exact (((((XZ.out.set 0 _).set 1 _).set 2 _).set 3 _).set 4 _).set 5 _
        have GZ : Ge w wz := by rw [hwz]; exact (Below.setCell (Below.setCell (Below.setCell (Below.setCell (Below.setCell (Below.setCell G.out (by show w.heap.size ≤ w.heap.size + 1 + 1; omega) _) (by show w.heap.size ≤ w.heap.size + 1 + 1; omega) _) (by show w.heap.size ≤ w.heap.size + 1 + 1; omega) _) (by show w.heap.size ≤ w.heap.size + 1 + 1; omega) _) (by show w.heap.size ≤ w.heap.size + 1 + 1; omega) _) (by show w.heap.size ≤ w.heap.size + 1 + 1; omega) _)
        rw [← hwz]
        have cW := XW.cell
        clear hwz
        refine bodyPost_ret (by simp [results, Try.results43, go_sem, cW]; try rfl) rfl ?_
        exact ⟨rfl, GZ⟩
  · have z' : gU up a.e b.e = a.e := gU_no z
    have HZ := Lib.hid z'
    have Zq := Lib.hid z
    have hq : (decide (a.e < b.e) == up) = false := z
    clear z' z
    go_enter Try.func43, Try.ntmps43
    go_wp2_with fail
    refine (HA.out _).mono ?_
    rintro e w0 ⟨rfl, rfl⟩
    go_wp2_with fail
    refine (HB.out _).mono ?_
    rintro e w1 ⟨rfl, hw1⟩
    have hg1 : Ge (((w.alloc (.cells #[.int .i64 a.e, .int .i64 (d : Int), .int .i64 a.l0, .int .i64 a.l1, .int .i64 a.l2, .int .i64 a.l3] 24)).alloc (.cells #[.int .i64 b.e, .int .i64 (d : Int), .int .i64 b.l0, .int .i64 b.l1, .int .i64 b.l2, .int .i64 b.l3] 24)).alloc (.cells #[.int .i64 0, .int .i64 0, .int .i64 0, .int .i64 0, .int .i64 0, .int .i64 0] 24)) w1 := by rw [hw1]; exact ((Ge.refl _).alloc _).alloc _
    have XA := Lib.hid (show Bx w1 w.heap.size 24 #[.int .i64 a.e, .int .i64 (d : Int), .int .i64 a.l0, .int .i64 a.l1, .int .i64 a.l2, .int .i64 a.l3] from (((Bx.new _ _ _ rfl).alloc _).alloc _).ge hg1)
    have XB := Lib.hid (show Bx w1 (w.heap.size + 1) 24 #[.int .i64 b.e, .int .i64 (d : Int), .int .i64 b.l0, .int .i64 b.l1, .int .i64 b.l2, .int .i64 b.l3] from ((Bx.new _ _ _ (by simp)).alloc _).ge hg1)
    have XZ := Lib.hid (show Bx w1 (w.heap.size + 1 + 1) 24 #[.int .i64 0, .int .i64 0, .int .i64 0, .int .i64 0, .int .i64 0, .int .i64 0] from (Bx.new _ _ _ (by simp)).ge hg1)
    have G1 := Lib.hid ((((Ge.refl w).alloc _).alloc _).alloc _ |>.trans hg1)
    have hs1 : w.heap.size + 3 ≤ w1.heap.size := by have := hg1.size; simp at this; omega
    have cA := XA.out.cell
    have lA := XA.out.lt
    have cB := XB.out.cell
    have lB := XB.out.lt
    clear hw1 hg1
    go_wp2
    clear cA lA cB lB hq
    go_loopw [9] (fun i wr => BoRel up a b d w w1 i wr) (fun i _ => d - (intOf i).toNat)
    case atStart =>
      refine ⟨0, by omega, rfl, ?_, XA.out.alloc _, XB.out.alloc _, XZ.out.alloc _, G1.out.alloc _⟩
      unfold bArr
      rw [HZ.out]
      exact Bx.new _ _ _ rfl
    case round =>
      obtain ⟨k, hk, rfl, hxr, hxa, hxb, hxz, hge⟩ := hrel
      have XR := Lib.hid hxr
      replace XA := Lib.hid hxa
      replace XB := Lib.hid hxb
      replace XZ := Lib.hid hxz
      have G := Lib.hid hge
      have cA := XA.out.cell
      have lA := XA.out.lt
      clear hxr hxa hxb hxz hge
      by_cases hlt : k < d
      · have hk4 : k < 4 := by omega
        have k0 : (0 : Int) ≤ (k : Int) := by omega
        have k4 : (k : Int) < 4 := by omega
        have hdk : decide ((k : Int) < (d : Int)) = true := by simp; omega
        go_wp2_with fail
        clear cA lA
        have HKA := Lib.hid (fun (w3 : World) (hw : Ge wr w3) => ((XA.out.ge hw).cell (2 + k)).trans (cell4 a (d : Int) k hk4))
        have HKB := Lib.hid (fun (w3 : World) (hw : Ge wr w3) => ((XB.out.ge hw).cell (2 + k)).trans (cell4 b (d : Int) k hk4))
        have HS := Lib.hid (bArr_set up a b d k hk4)
        have HN := Lib.hid (bArr_keep up a b d k hk4)
        obtain ⟨x, hx⟩ : ∃ x, x = cntAt a k := ⟨_, rfl⟩
        obtain ⟨y, hy⟩ : ∃ y, y = cntAt b k := ⟨_, rfl⟩
        rw [← hx] at HKA HS HN
        rw [← hy] at HKB HS HN
        clear hx hy
        refine Dr.wp_region_T (by kernel_rfl) (by kernel_rfl) ?_
        iterate 11 (apply Dr.wpT_det; · (intro u w3 hw hF; clear hF; have kA := HKA.out w3 hw; have kB := HKB.out w3 hw; have lA := (XA.out.ge hw).lt; have lB := (XB.out.ge hw).lt; go_simp; first | exact ⟨Ge.refl _, rfl⟩ | exact Ge.refl _ | rfl))
        intro u w3 hw hF
        clear hF
        simp only [Act.put, List.setIfInBounds_toArray, List.set_cons_zero, List.set_cons_succ]
        have G3 := Lib.hid (G.out.trans hw)
        have XA3 := Lib.hid (XA.out.ge hw)
        have XB3 := Lib.hid (XB.out.ge hw)
        have XZ3 := Lib.hid (XZ.out.ge hw)
        have XR3 := Lib.hid (XR.out.ge hw)
        have kB := HKB.out w3 hw
        have lB := XB3.out.lt
        clear hw
        rcases Bool.eq_false_or_eq_true (decide (x < y) == up) with q | q
        · have hq := gU_yes q
          simp only [q]
          clear q
          rw [hq] at HS
          have lR := XR3.out.lt
          have fR := XR3.out.frozen (2 + k)
          obtain ⟨old, hold⟩ := bCell up a b d k hk4
          have cR : w3.cell? ⟨w1.heap.size, 2 + k, none⟩ = some (.int .i64 old) := (XR3.out.cell (2 + k)).trans hold
          clear hold hq
          go_wp2
          refine ⟨⟨k + 1, by omega, by go_num, by rw [← HS.out]; exact XR3.out.set _ _, XA3.out.set_ne _ _ (by omega), XB3.out.set_ne _ _ (by omega), XZ3.out.set_ne _ _ (by omega), Below.setCell G3.out (by show w.heap.size ≤ w1.heap.size; omega) _⟩, by simp [intOf]; omega⟩
        · have hq := gU_no q
          simp only [q]
          clear q
          have HE := Lib.hid (HN.out hq)
          clear hq
          go_wp2
          refine ⟨⟨k + 1, by omega, by go_num, by rw [← HE.out]; exact XR3.out, XA3.out, XB3.out, XZ3.out, G3.out⟩, by simp [intOf]; omega⟩
      · obtain rfl : k = d := by omega
        have hdk : decide ((k : Int) < (k : Int)) = false := by simp
        rw [HR.out] at XR
        have cR := XR.out.cell
        have lR := XR.out.lt
        have cz := XZ.out.cell
        have lz := XZ.out.lt
        have fz := XZ.out.frozen
        go_wp2_with fail
        obtain ⟨wz, hwz⟩ : ∃ wz, wz = ((((((wr.setCell ⟨w.heap.size + 1 + 1, 0, none⟩ (.int .i64 (gU up a.e b.e))).setCell ⟨w.heap.size + 1 + 1, 1, none⟩ (.int .i64 (k : Int))).setCell ⟨w.heap.size + 1 + 1, 2, none⟩ (.int .i64 (gU up a.l0 b.l0))).setCell ⟨w.heap.size + 1 + 1, 3, none⟩ (.int .i64 (gU up a.l1 b.l1))).setCell ⟨w.heap.size + 1 + 1, 4, none⟩ (.int .i64 (gU up a.l2 b.l2))).setCell ⟨w.heap.size + 1 + 1, 5, none⟩ (.int .i64 (gU up a.l3 b.l3))) := ⟨_, rfl⟩
        have XW : Bx wz (w.heap.size + 1 + 1) 24 #[.int .i64 (gU up a.e b.e), .int .i64 (k : Int), .int .i64 (gU up a.l0 b.l0), .int .i64 (gU up a.l1 b.l1), .int .i64 (gU up a.l2 b.l2), .int .i64 (gU up a.l3 b.l3)] := by rw [hwz]; exact (((((XZ.out.set 0 _).set 1 _).set 2 _).set 3 _).set 4 _).set 5 _
        have GZ : Ge w wz := by rw [hwz]; exact (Below.setCell (Below.setCell (Below.setCell (Below.setCell (Below.setCell (Below.setCell G.out (by show w.heap.size ≤ w.heap.size + 1 + 1; omega) _) (by show w.heap.size ≤ w.heap.size + 1 + 1; omega) _) (by show w.heap.size ≤ w.heap.size + 1 + 1; omega) _) (by show w.heap.size ≤ w.heap.size + 1 + 1; omega) _) (by show w.heap.size ≤ w.heap.size + 1 + 1; omega) _) (by show w.heap.size ≤ w.heap.size + 1 + 1; omega) _)
        rw [← hwz]
        have cW := XW.cell
        clear hwz
        refine bodyPost_ret (by simp [results, Try.results43, go_sem, cW]; try rfl) rfl ?_
        exact ⟨rfl, GZ⟩
end Go.Proofs.Ytedccllpbajbfaa
