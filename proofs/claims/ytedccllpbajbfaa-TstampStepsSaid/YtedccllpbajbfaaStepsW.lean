/-
  TstampSteps: the walk.
-/
import Derived.Test.YtedccllpbajbfaaRJoin
import Derived.Test.YtedccllpbajbfaaRSteps
import Derived.Test.YtedccllpbajbfaaLawLoops
import Derived.Test.YtedccllpbajbfaaSEq
import Derived.Test.YtedccllpbajbfaaLive
import Derived.Test.YtedccllpbajbfaaEq
import Derived.Test.YtedccllpbajbfaaBackW
import Derived.Deep.Cut
namespace Go.Proofs.Ytedccllpbajbfaa
open Go.RowKit
attribute [local go_sem] Dr.upT

set_option maxRecDepth 100000 in
set_option maxHeartbeats 16000000 in
theorem steps_any (a b : Tm) (w : World) :
    Calls Try.prog 7 #[.agg #[.int .i64 a.e, .int .i64 a.d, .int .i64 a.l0, .int .i64 a.l1, .int .i64 a.l2, .int .i64 a.l3], .agg #[.int .i64 b.e, .int .i64 b.d, .int .i64 b.l0, .int .i64 b.l1, .int .i64 b.l2, .int .i64 b.l3]] w fun e w' => e = .returned (.bool true) ∧ Ge w w' := by
  have CJ := Lib.hid (fun w' => join_any a b w')
  have RJ := Lib.hid (fun w' => rjoin_any a b w')
  obtain ⟨tJ, htJ⟩ : ∃ tJ, tJ = bothT max a b := ⟨_, rfl⟩
  obtain ⟨mJ, hmJ⟩ : ∃ mJ, mJ = bothE a b := ⟨_, rfl⟩
  rw [← htJ, ← hmJ] at CJ RJ
  clear htJ hmJ
  have qJ := fun w' => neq_tm tJ tJ w'
  rw [eqB_self] at qJ
  have QJ := Lib.hid qJ
  clear qJ
  have CM := Lib.hid (fun w' => meet_any a b w')
  have RM := Lib.hid (fun w' => rmeet_any a b w')
  obtain ⟨tM, htM⟩ : ∃ tM, tM = bothT min a b := ⟨_, rfl⟩
  obtain ⟨mM, hmM⟩ : ∃ mM, mM = bothE a b := ⟨_, rfl⟩
  rw [← htM, ← hmM] at CM RM
  clear htM hmM
  have qM := fun w' => neq_tm tM tM w'
  rw [eqB_self] at qM
  have QM := Lib.hid qM
  clear qM
  have CE := Lib.hid (fun w' => enter_any a w')
  have RE := Lib.hid (fun w' => renter_any a w')
  obtain ⟨tE, htE⟩ : ∃ tE, tE = enterT a := ⟨_, rfl⟩
  obtain ⟨mE, hmE⟩ : ∃ mE, mE = enterE a := ⟨_, rfl⟩
  rw [← htE, ← hmE] at CE RE
  clear htE hmE
  have qE := fun w' => neq_tm tE tE w'
  rw [eqB_self] at qE
  have QE := Lib.hid qE
  clear qE
  have CL := Lib.hid (fun w' => leave_any a w')
  have RL := Lib.hid (fun w' => rleave_any a w')
  obtain ⟨tL, htL⟩ : ∃ tL, tL = leaveT a := ⟨_, rfl⟩
  obtain ⟨mL, hmL⟩ : ∃ mL, mL = leaveE a := ⟨_, rfl⟩
  rw [← htL, ← hmL] at CL RL
  clear htL hmL
  have qL := fun w' => neq_tm tL tL w'
  rw [eqB_self] at qL
  have QL := Lib.hid qL
  clear qL
  have CN := Lib.hid (fun w' => next_any a w')
  have RN := Lib.hid (fun w' => rnext_any a w')
  obtain ⟨tN, htN⟩ : ∃ tN, tN = nextT a := ⟨_, rfl⟩
  obtain ⟨mN, hmN⟩ : ∃ mN, mN = nextE a := ⟨_, rfl⟩
  rw [← htN, ← hmN] at CN RN
  clear htN hmN
  have qN := fun w' => neq_tm tN tN w'
  rw [eqB_self] at qN
  have QN := Lib.hid qN
  clear qN
  go_enter Try.func7, Try.ntmps7
  go_wp2_with fail
  refine (live_any _).mono ?_
  rintro e w0 ⟨rfl, hg0⟩
  have hh0 : Ge ((w.alloc (.cells #[.int .i64 a.e, .int .i64 a.d, .int .i64 a.l0, .int .i64 a.l1, .int .i64 a.l2, .int .i64 a.l3] 24)).alloc (.cells #[.int .i64 b.e, .int .i64 b.d, .int .i64 b.l0, .int .i64 b.l1, .int .i64 b.l2, .int .i64 b.l3] 24)) w0 := hg0
  have XA : Bx w0 (w.heap.size) 24 #[.int .i64 a.e, .int .i64 a.d, .int .i64 a.l0, .int .i64 a.l1, .int .i64 a.l2, .int .i64 a.l3] := ((Bx.new _ _ _ rfl).alloc _).ge hh0
  have XB : Bx w0 (w.heap.size + 1) 24 #[.int .i64 b.e, .int .i64 b.d, .int .i64 b.l0, .int .i64 b.l1, .int .i64 b.l2, .int .i64 b.l3] := (Bx.new _ _ _ (by simp)).ge hh0
  have G := Lib.hid ((((Ge.refl w).alloc _).alloc _).trans hh0)
  clear hg0 hh0
  have cA := XA.cell
  have lA := XA.lt
  have cB := XB.cell
  have lB := XB.lt
  go_wp2_with fail
  clear cA lA cB lB
  refine (CJ.out _).mono ?_
  rintro e w1 ⟨rfl, hgw1⟩
  have hhw1 : Ge w0 w1 := hgw1
  replace XA := XA.ge hhw1
  replace XB := XB.ge hhw1
  replace G := Lib.hid (G.out.trans hhw1)
  clear hgw1 hhw1
  go_upto_region 4 with (fail)
  obtain ⟨w2, hww2⟩ : ∃ w2, w2 = w1.alloc (.cells #[.int .i64 tJ.e, .int .i64 tJ.d, .int .i64 tJ.l0, .int .i64 tJ.l1, .int .i64 tJ.l2, .int .i64 tJ.l3] 24) := ⟨_, rfl⟩
  rw [← hww2]
  have zB : w.heap.size + 1 < w1.heap.size := XB.lt
  replace XA : Bx w2 (w.heap.size) 24 #[.int .i64 a.e, .int .i64 a.d, .int .i64 a.l0, .int .i64 a.l1, .int .i64 a.l2, .int .i64 a.l3] := by rw [hww2]; exact XA.alloc _
  replace XB : Bx w2 (w.heap.size + 1) 24 #[.int .i64 b.e, .int .i64 b.d, .int .i64 b.l0, .int .i64 b.l1, .int .i64 b.l2, .int .i64 b.l3] := by rw [hww2]; exact XB.alloc _
  have XX : Bx w2 w1.heap.size 24 #[.int .i64 tJ.e, .int .i64 tJ.d, .int .i64 tJ.l0, .int .i64 tJ.l1, .int .i64 tJ.l2, .int .i64 tJ.l3] := by rw [hww2]; exact Bx.new _ _ _ rfl
  replace G := Lib.hid (show Ge w w2 by rw [hww2]; exact G.out.alloc _)
  clear hww2
  have cA := XA.cell
  have lA := XA.lt
  have cB := XB.cell
  have lB := XB.lt
  go_wp2_with fail
  clear cA lA cB lB
  refine (RJ.out _).mono ?_
  rintro e w3 ⟨rfl, hgw3⟩
  have hhw3 : Ge w2 w3 := hgw3
  replace XA := XA.ge hhw3
  replace XB := XB.ge hhw3
  replace XX := XX.ge hhw3
  replace G := Lib.hid (G.out.trans hhw3)
  clear hgw3 hhw3
  go_upto_region 5 with (fail)
  obtain ⟨w4, hww4⟩ : ∃ w4, w4 = w3.alloc (.cells #[.int .i64 tJ.e, .int .i64 tJ.d, .int .i64 tJ.l0, .int .i64 tJ.l1, .int .i64 tJ.l2, .int .i64 tJ.l3] 24) := ⟨_, rfl⟩
  rw [← hww4]
  have sXY : w1.heap.size ≠ w3.heap.size := Nat.ne_of_lt XX.lt
  have zY : w.heap.size + 1 < w3.heap.size := XB.lt
  replace XA : Bx w4 (w.heap.size) 24 #[.int .i64 a.e, .int .i64 a.d, .int .i64 a.l0, .int .i64 a.l1, .int .i64 a.l2, .int .i64 a.l3] := by rw [hww4]; exact XA.alloc _
  replace XB : Bx w4 (w.heap.size + 1) 24 #[.int .i64 b.e, .int .i64 b.d, .int .i64 b.l0, .int .i64 b.l1, .int .i64 b.l2, .int .i64 b.l3] := by rw [hww4]; exact XB.alloc _
  replace XX : Bx w4 (w1.heap.size) 24 #[.int .i64 tJ.e, .int .i64 tJ.d, .int .i64 tJ.l0, .int .i64 tJ.l1, .int .i64 tJ.l2, .int .i64 tJ.l3] := by rw [hww4]; exact XX.alloc _
  have XY : Bx w4 w3.heap.size 24 #[.int .i64 tJ.e, .int .i64 tJ.d, .int .i64 tJ.l0, .int .i64 tJ.l1, .int .i64 tJ.l2, .int .i64 tJ.l3] := by rw [hww4]; exact Bx.new _ _ _ rfl
  replace G := Lib.hid (show Ge w w4 by rw [hww4]; exact G.out.alloc _)
  clear hww4
  have cX := XX.cell
  have lX := XX.lt
  have cY := XY.cell
  have lY := XY.lt
  have q := QJ.out
  have r : (mJ != mJ) = false := by simp
  go_upto_region 7 with (fail)
  clear cX lX cY lY
  clear q r
  have nXY : w1.heap.size ≠ w3.heap.size := sXY
  have nYX : w3.heap.size ≠ w1.heap.size := Ne.symm sXY
  have nAX : w.heap.size ≠ w1.heap.size := by omega
  have nBX : w.heap.size + 1 ≠ w1.heap.size := by omega
  have nAY : w.heap.size ≠ w3.heap.size := by omega
  have nBY : w.heap.size + 1 ≠ w3.heap.size := by omega
  have gX : w.heap.size ≤ w1.heap.size := by omega
  have gY : w.heap.size ≤ w3.heap.size := by omega
  clear zB zY sXY
  have cA := XA.cell
  have lA := XA.lt
  have cB := XB.cell
  have lB := XB.lt
  go_wp2_with fail
  clear cA lA cB lB
  refine (CM.out _).mono ?_
  rintro e w5 ⟨rfl, hgw5⟩
  have hhw5 : Ge w4 w5 := hgw5
  replace XA := XA.ge hhw5
  replace XB := XB.ge hhw5
  replace XX := XX.ge hhw5
  replace XY := XY.ge hhw5
  replace G := Lib.hid (G.out.trans hhw5)
  clear hgw5 hhw5
  have cX := XX.cell
  have lX := XX.lt
  have fX := XX.frozen
  go_upto_region 8 with (fail)
  clear cX lX fX
  obtain ⟨w6, hww6⟩ : ∃ w6, w6 = ((((((w5.setCell ⟨w1.heap.size, 0, none⟩ (.int .i64 tM.e)).setCell ⟨w1.heap.size, 1, none⟩ (.int .i64 tM.d)).setCell ⟨w1.heap.size, 2, none⟩ (.int .i64 tM.l0)).setCell ⟨w1.heap.size, 3, none⟩ (.int .i64 tM.l1)).setCell ⟨w1.heap.size, 4, none⟩ (.int .i64 tM.l2)).setCell ⟨w1.heap.size, 5, none⟩ (.int .i64 tM.l3)) := ⟨_, rfl⟩
  rw [← hww6]
  replace XA : Bx w6 (w.heap.size) 24 #[.int .i64 a.e, .int .i64 a.d, .int .i64 a.l0, .int .i64 a.l1, .int .i64 a.l2, .int .i64 a.l3] := by rw [hww6]; exact ((((((XA.set_ne 0 _ nAX).set_ne 1 _ nAX).set_ne 2 _ nAX).set_ne 3 _ nAX).set_ne 4 _ nAX).set_ne 5 _ nAX)
  replace XB : Bx w6 (w.heap.size + 1) 24 #[.int .i64 b.e, .int .i64 b.d, .int .i64 b.l0, .int .i64 b.l1, .int .i64 b.l2, .int .i64 b.l3] := by rw [hww6]; exact ((((((XB.set_ne 0 _ nBX).set_ne 1 _ nBX).set_ne 2 _ nBX).set_ne 3 _ nBX).set_ne 4 _ nBX).set_ne 5 _ nBX)
  replace XX : Bx w6 (w1.heap.size) 24 #[.int .i64 tM.e, .int .i64 tM.d, .int .i64 tM.l0, .int .i64 tM.l1, .int .i64 tM.l2, .int .i64 tM.l3] := by rw [hww6]; exact (((((XX.set 0 _).set 1 _).set 2 _).set 3 _).set 4 _).set 5 _
  replace XY : Bx w6 (w3.heap.size) 24 #[.int .i64 tJ.e, .int .i64 tJ.d, .int .i64 tJ.l0, .int .i64 tJ.l1, .int .i64 tJ.l2, .int .i64 tJ.l3] := by rw [hww6]; exact ((((((XY.set_ne 0 _ nYX).set_ne 1 _ nYX).set_ne 2 _ nYX).set_ne 3 _ nYX).set_ne 4 _ nYX).set_ne 5 _ nYX)
  replace G := Lib.hid (show Ge w w6 by rw [hww6]; exact (Below.setCell (Below.setCell (Below.setCell (Below.setCell (Below.setCell (Below.setCell G.out (show w.heap.size ≤ w1.heap.size from gX) _) (show w.heap.size ≤ w1.heap.size from gX) _) (show w.heap.size ≤ w1.heap.size from gX) _) (show w.heap.size ≤ w1.heap.size from gX) _) (show w.heap.size ≤ w1.heap.size from gX) _) (show w.heap.size ≤ w1.heap.size from gX) _))
  clear hww6
  have cA := XA.cell
  have lA := XA.lt
  have cB := XB.cell
  have lB := XB.lt
  go_wp2_with fail
  clear cA lA cB lB
  refine (RM.out _).mono ?_
  rintro e w7 ⟨rfl, hgw7⟩
  have hhw7 : Ge w6 w7 := hgw7
  replace XA := XA.ge hhw7
  replace XB := XB.ge hhw7
  replace XX := XX.ge hhw7
  replace XY := XY.ge hhw7
  replace G := Lib.hid (G.out.trans hhw7)
  clear hgw7 hhw7
  have cY := XY.cell
  have lY := XY.lt
  have fY := XY.frozen
  go_upto_region 9 with (fail)
  clear cY lY fY
  obtain ⟨w8, hww8⟩ : ∃ w8, w8 = ((((((w7.setCell ⟨w3.heap.size, 0, none⟩ (.int .i64 tM.e)).setCell ⟨w3.heap.size, 1, none⟩ (.int .i64 tM.d)).setCell ⟨w3.heap.size, 2, none⟩ (.int .i64 tM.l0)).setCell ⟨w3.heap.size, 3, none⟩ (.int .i64 tM.l1)).setCell ⟨w3.heap.size, 4, none⟩ (.int .i64 tM.l2)).setCell ⟨w3.heap.size, 5, none⟩ (.int .i64 tM.l3)) := ⟨_, rfl⟩
  rw [← hww8]
  replace XA : Bx w8 (w.heap.size) 24 #[.int .i64 a.e, .int .i64 a.d, .int .i64 a.l0, .int .i64 a.l1, .int .i64 a.l2, .int .i64 a.l3] := by rw [hww8]; exact ((((((XA.set_ne 0 _ nAY).set_ne 1 _ nAY).set_ne 2 _ nAY).set_ne 3 _ nAY).set_ne 4 _ nAY).set_ne 5 _ nAY)
  replace XB : Bx w8 (w.heap.size + 1) 24 #[.int .i64 b.e, .int .i64 b.d, .int .i64 b.l0, .int .i64 b.l1, .int .i64 b.l2, .int .i64 b.l3] := by rw [hww8]; exact ((((((XB.set_ne 0 _ nBY).set_ne 1 _ nBY).set_ne 2 _ nBY).set_ne 3 _ nBY).set_ne 4 _ nBY).set_ne 5 _ nBY)
  replace XX : Bx w8 (w1.heap.size) 24 #[.int .i64 tM.e, .int .i64 tM.d, .int .i64 tM.l0, .int .i64 tM.l1, .int .i64 tM.l2, .int .i64 tM.l3] := by rw [hww8]; exact ((((((XX.set_ne 0 _ nXY).set_ne 1 _ nXY).set_ne 2 _ nXY).set_ne 3 _ nXY).set_ne 4 _ nXY).set_ne 5 _ nXY)
  replace XY : Bx w8 (w3.heap.size) 24 #[.int .i64 tM.e, .int .i64 tM.d, .int .i64 tM.l0, .int .i64 tM.l1, .int .i64 tM.l2, .int .i64 tM.l3] := by rw [hww8]; exact (((((XY.set 0 _).set 1 _).set 2 _).set 3 _).set 4 _).set 5 _
  replace G := Lib.hid (show Ge w w8 by rw [hww8]; exact (Below.setCell (Below.setCell (Below.setCell (Below.setCell (Below.setCell (Below.setCell G.out (show w.heap.size ≤ w3.heap.size from gY) _) (show w.heap.size ≤ w3.heap.size from gY) _) (show w.heap.size ≤ w3.heap.size from gY) _) (show w.heap.size ≤ w3.heap.size from gY) _) (show w.heap.size ≤ w3.heap.size from gY) _) (show w.heap.size ≤ w3.heap.size from gY) _))
  clear hww8
  have cX := XX.cell
  have lX := XX.lt
  have cY := XY.cell
  have lY := XY.lt
  have q := QM.out
  have r : (mM != mM) = false := by simp
  go_upto_region 11 with (fail)
  clear cX lX cY lY
  clear q r
  have cA := XA.cell
  have lA := XA.lt
  go_wp2_with fail
  clear cA lA
  refine (CE.out _).mono ?_
  rintro e w9 ⟨rfl, hgw9⟩
  have hhw9 : Ge w8 w9 := hgw9
  replace XA := XA.ge hhw9
  replace XB := XB.ge hhw9
  replace XX := XX.ge hhw9
  replace XY := XY.ge hhw9
  replace G := Lib.hid (G.out.trans hhw9)
  clear hgw9 hhw9
  have cX := XX.cell
  have lX := XX.lt
  have fX := XX.frozen
  go_upto_region 12 with (fail)
  clear cX lX fX
  obtain ⟨w10, hww10⟩ : ∃ w10, w10 = ((((((w9.setCell ⟨w1.heap.size, 0, none⟩ (.int .i64 tE.e)).setCell ⟨w1.heap.size, 1, none⟩ (.int .i64 tE.d)).setCell ⟨w1.heap.size, 2, none⟩ (.int .i64 tE.l0)).setCell ⟨w1.heap.size, 3, none⟩ (.int .i64 tE.l1)).setCell ⟨w1.heap.size, 4, none⟩ (.int .i64 tE.l2)).setCell ⟨w1.heap.size, 5, none⟩ (.int .i64 tE.l3)) := ⟨_, rfl⟩
  rw [← hww10]
  replace XA : Bx w10 (w.heap.size) 24 #[.int .i64 a.e, .int .i64 a.d, .int .i64 a.l0, .int .i64 a.l1, .int .i64 a.l2, .int .i64 a.l3] := by rw [hww10]; exact ((((((XA.set_ne 0 _ nAX).set_ne 1 _ nAX).set_ne 2 _ nAX).set_ne 3 _ nAX).set_ne 4 _ nAX).set_ne 5 _ nAX)
  replace XB : Bx w10 (w.heap.size + 1) 24 #[.int .i64 b.e, .int .i64 b.d, .int .i64 b.l0, .int .i64 b.l1, .int .i64 b.l2, .int .i64 b.l3] := by rw [hww10]; exact ((((((XB.set_ne 0 _ nBX).set_ne 1 _ nBX).set_ne 2 _ nBX).set_ne 3 _ nBX).set_ne 4 _ nBX).set_ne 5 _ nBX)
  replace XX : Bx w10 (w1.heap.size) 24 #[.int .i64 tE.e, .int .i64 tE.d, .int .i64 tE.l0, .int .i64 tE.l1, .int .i64 tE.l2, .int .i64 tE.l3] := by rw [hww10]; exact (((((XX.set 0 _).set 1 _).set 2 _).set 3 _).set 4 _).set 5 _
  replace XY : Bx w10 (w3.heap.size) 24 #[.int .i64 tM.e, .int .i64 tM.d, .int .i64 tM.l0, .int .i64 tM.l1, .int .i64 tM.l2, .int .i64 tM.l3] := by rw [hww10]; exact ((((((XY.set_ne 0 _ nYX).set_ne 1 _ nYX).set_ne 2 _ nYX).set_ne 3 _ nYX).set_ne 4 _ nYX).set_ne 5 _ nYX)
  replace G := Lib.hid (show Ge w w10 by rw [hww10]; exact (Below.setCell (Below.setCell (Below.setCell (Below.setCell (Below.setCell (Below.setCell G.out (show w.heap.size ≤ w1.heap.size from gX) _) (show w.heap.size ≤ w1.heap.size from gX) _) (show w.heap.size ≤ w1.heap.size from gX) _) (show w.heap.size ≤ w1.heap.size from gX) _) (show w.heap.size ≤ w1.heap.size from gX) _) (show w.heap.size ≤ w1.heap.size from gX) _))
  clear hww10
  have cA := XA.cell
  have lA := XA.lt
  go_wp2_with fail
  clear cA lA
  refine (RE.out _).mono ?_
  rintro e w11 ⟨rfl, hgw11⟩
  have hhw11 : Ge w10 w11 := hgw11
  replace XA := XA.ge hhw11
  replace XB := XB.ge hhw11
  replace XX := XX.ge hhw11
  replace XY := XY.ge hhw11
  replace G := Lib.hid (G.out.trans hhw11)
  clear hgw11 hhw11
  have cY := XY.cell
  have lY := XY.lt
  have fY := XY.frozen
  go_upto_region 13 with (fail)
  clear cY lY fY
  obtain ⟨w12, hww12⟩ : ∃ w12, w12 = ((((((w11.setCell ⟨w3.heap.size, 0, none⟩ (.int .i64 tE.e)).setCell ⟨w3.heap.size, 1, none⟩ (.int .i64 tE.d)).setCell ⟨w3.heap.size, 2, none⟩ (.int .i64 tE.l0)).setCell ⟨w3.heap.size, 3, none⟩ (.int .i64 tE.l1)).setCell ⟨w3.heap.size, 4, none⟩ (.int .i64 tE.l2)).setCell ⟨w3.heap.size, 5, none⟩ (.int .i64 tE.l3)) := ⟨_, rfl⟩
  rw [← hww12]
  replace XA : Bx w12 (w.heap.size) 24 #[.int .i64 a.e, .int .i64 a.d, .int .i64 a.l0, .int .i64 a.l1, .int .i64 a.l2, .int .i64 a.l3] := by rw [hww12]; exact ((((((XA.set_ne 0 _ nAY).set_ne 1 _ nAY).set_ne 2 _ nAY).set_ne 3 _ nAY).set_ne 4 _ nAY).set_ne 5 _ nAY)
  replace XB : Bx w12 (w.heap.size + 1) 24 #[.int .i64 b.e, .int .i64 b.d, .int .i64 b.l0, .int .i64 b.l1, .int .i64 b.l2, .int .i64 b.l3] := by rw [hww12]; exact ((((((XB.set_ne 0 _ nBY).set_ne 1 _ nBY).set_ne 2 _ nBY).set_ne 3 _ nBY).set_ne 4 _ nBY).set_ne 5 _ nBY)
  replace XX : Bx w12 (w1.heap.size) 24 #[.int .i64 tE.e, .int .i64 tE.d, .int .i64 tE.l0, .int .i64 tE.l1, .int .i64 tE.l2, .int .i64 tE.l3] := by rw [hww12]; exact ((((((XX.set_ne 0 _ nXY).set_ne 1 _ nXY).set_ne 2 _ nXY).set_ne 3 _ nXY).set_ne 4 _ nXY).set_ne 5 _ nXY)
  replace XY : Bx w12 (w3.heap.size) 24 #[.int .i64 tE.e, .int .i64 tE.d, .int .i64 tE.l0, .int .i64 tE.l1, .int .i64 tE.l2, .int .i64 tE.l3] := by rw [hww12]; exact (((((XY.set 0 _).set 1 _).set 2 _).set 3 _).set 4 _).set 5 _
  replace G := Lib.hid (show Ge w w12 by rw [hww12]; exact (Below.setCell (Below.setCell (Below.setCell (Below.setCell (Below.setCell (Below.setCell G.out (show w.heap.size ≤ w3.heap.size from gY) _) (show w.heap.size ≤ w3.heap.size from gY) _) (show w.heap.size ≤ w3.heap.size from gY) _) (show w.heap.size ≤ w3.heap.size from gY) _) (show w.heap.size ≤ w3.heap.size from gY) _) (show w.heap.size ≤ w3.heap.size from gY) _))
  clear hww12
  have cX := XX.cell
  have lX := XX.lt
  have cY := XY.cell
  have lY := XY.lt
  have q := QE.out
  have r : (mE != mE) = false := by simp
  go_upto_region 15 with (fail)
  clear cX lX cY lY
  clear q r
  have cA := XA.cell
  have lA := XA.lt
  go_wp2_with fail
  clear cA lA
  refine (CL.out _).mono ?_
  rintro e w13 ⟨rfl, hgw13⟩
  have hhw13 : Ge w12 w13 := hgw13
  replace XA := XA.ge hhw13
  replace XB := XB.ge hhw13
  replace XX := XX.ge hhw13
  replace XY := XY.ge hhw13
  replace G := Lib.hid (G.out.trans hhw13)
  clear hgw13 hhw13
  have cX := XX.cell
  have lX := XX.lt
  have fX := XX.frozen
  go_upto_region 16 with (fail)
  clear cX lX fX
  obtain ⟨w14, hww14⟩ : ∃ w14, w14 = ((((((w13.setCell ⟨w1.heap.size, 0, none⟩ (.int .i64 tL.e)).setCell ⟨w1.heap.size, 1, none⟩ (.int .i64 tL.d)).setCell ⟨w1.heap.size, 2, none⟩ (.int .i64 tL.l0)).setCell ⟨w1.heap.size, 3, none⟩ (.int .i64 tL.l1)).setCell ⟨w1.heap.size, 4, none⟩ (.int .i64 tL.l2)).setCell ⟨w1.heap.size, 5, none⟩ (.int .i64 tL.l3)) := ⟨_, rfl⟩
  rw [← hww14]
  replace XA : Bx w14 (w.heap.size) 24 #[.int .i64 a.e, .int .i64 a.d, .int .i64 a.l0, .int .i64 a.l1, .int .i64 a.l2, .int .i64 a.l3] := by rw [hww14]; exact ((((((XA.set_ne 0 _ nAX).set_ne 1 _ nAX).set_ne 2 _ nAX).set_ne 3 _ nAX).set_ne 4 _ nAX).set_ne 5 _ nAX)
  replace XB : Bx w14 (w.heap.size + 1) 24 #[.int .i64 b.e, .int .i64 b.d, .int .i64 b.l0, .int .i64 b.l1, .int .i64 b.l2, .int .i64 b.l3] := by rw [hww14]; exact ((((((XB.set_ne 0 _ nBX).set_ne 1 _ nBX).set_ne 2 _ nBX).set_ne 3 _ nBX).set_ne 4 _ nBX).set_ne 5 _ nBX)
  replace XX : Bx w14 (w1.heap.size) 24 #[.int .i64 tL.e, .int .i64 tL.d, .int .i64 tL.l0, .int .i64 tL.l1, .int .i64 tL.l2, .int .i64 tL.l3] := by rw [hww14]; exact (((((XX.set 0 _).set 1 _).set 2 _).set 3 _).set 4 _).set 5 _
  replace XY : Bx w14 (w3.heap.size) 24 #[.int .i64 tE.e, .int .i64 tE.d, .int .i64 tE.l0, .int .i64 tE.l1, .int .i64 tE.l2, .int .i64 tE.l3] := by rw [hww14]; exact ((((((XY.set_ne 0 _ nYX).set_ne 1 _ nYX).set_ne 2 _ nYX).set_ne 3 _ nYX).set_ne 4 _ nYX).set_ne 5 _ nYX)
  replace G := Lib.hid (show Ge w w14 by rw [hww14]; exact (Below.setCell (Below.setCell (Below.setCell (Below.setCell (Below.setCell (Below.setCell G.out (show w.heap.size ≤ w1.heap.size from gX) _) (show w.heap.size ≤ w1.heap.size from gX) _) (show w.heap.size ≤ w1.heap.size from gX) _) (show w.heap.size ≤ w1.heap.size from gX) _) (show w.heap.size ≤ w1.heap.size from gX) _) (show w.heap.size ≤ w1.heap.size from gX) _))
  clear hww14
  have cA := XA.cell
  have lA := XA.lt
  go_wp2_with fail
  clear cA lA
  refine (RL.out _).mono ?_
  rintro e w15 ⟨rfl, hgw15⟩
  have hhw15 : Ge w14 w15 := hgw15
  replace XA := XA.ge hhw15
  replace XB := XB.ge hhw15
  replace XX := XX.ge hhw15
  replace XY := XY.ge hhw15
  replace G := Lib.hid (G.out.trans hhw15)
  clear hgw15 hhw15
  have cY := XY.cell
  have lY := XY.lt
  have fY := XY.frozen
  go_upto_region 17 with (fail)
  clear cY lY fY
  obtain ⟨w16, hww16⟩ : ∃ w16, w16 = ((((((w15.setCell ⟨w3.heap.size, 0, none⟩ (.int .i64 tL.e)).setCell ⟨w3.heap.size, 1, none⟩ (.int .i64 tL.d)).setCell ⟨w3.heap.size, 2, none⟩ (.int .i64 tL.l0)).setCell ⟨w3.heap.size, 3, none⟩ (.int .i64 tL.l1)).setCell ⟨w3.heap.size, 4, none⟩ (.int .i64 tL.l2)).setCell ⟨w3.heap.size, 5, none⟩ (.int .i64 tL.l3)) := ⟨_, rfl⟩
  rw [← hww16]
  replace XA : Bx w16 (w.heap.size) 24 #[.int .i64 a.e, .int .i64 a.d, .int .i64 a.l0, .int .i64 a.l1, .int .i64 a.l2, .int .i64 a.l3] := by rw [hww16]; exact ((((((XA.set_ne 0 _ nAY).set_ne 1 _ nAY).set_ne 2 _ nAY).set_ne 3 _ nAY).set_ne 4 _ nAY).set_ne 5 _ nAY)
  replace XB : Bx w16 (w.heap.size + 1) 24 #[.int .i64 b.e, .int .i64 b.d, .int .i64 b.l0, .int .i64 b.l1, .int .i64 b.l2, .int .i64 b.l3] := by rw [hww16]; exact ((((((XB.set_ne 0 _ nBY).set_ne 1 _ nBY).set_ne 2 _ nBY).set_ne 3 _ nBY).set_ne 4 _ nBY).set_ne 5 _ nBY)
  replace XX : Bx w16 (w1.heap.size) 24 #[.int .i64 tL.e, .int .i64 tL.d, .int .i64 tL.l0, .int .i64 tL.l1, .int .i64 tL.l2, .int .i64 tL.l3] := by rw [hww16]; exact ((((((XX.set_ne 0 _ nXY).set_ne 1 _ nXY).set_ne 2 _ nXY).set_ne 3 _ nXY).set_ne 4 _ nXY).set_ne 5 _ nXY)
  replace XY : Bx w16 (w3.heap.size) 24 #[.int .i64 tL.e, .int .i64 tL.d, .int .i64 tL.l0, .int .i64 tL.l1, .int .i64 tL.l2, .int .i64 tL.l3] := by rw [hww16]; exact (((((XY.set 0 _).set 1 _).set 2 _).set 3 _).set 4 _).set 5 _
  replace G := Lib.hid (show Ge w w16 by rw [hww16]; exact (Below.setCell (Below.setCell (Below.setCell (Below.setCell (Below.setCell (Below.setCell G.out (show w.heap.size ≤ w3.heap.size from gY) _) (show w.heap.size ≤ w3.heap.size from gY) _) (show w.heap.size ≤ w3.heap.size from gY) _) (show w.heap.size ≤ w3.heap.size from gY) _) (show w.heap.size ≤ w3.heap.size from gY) _) (show w.heap.size ≤ w3.heap.size from gY) _))
  clear hww16
  have cX := XX.cell
  have lX := XX.lt
  have cY := XY.cell
  have lY := XY.lt
  have q := QL.out
  have r : (mL != mL) = false := by simp
  go_upto_region 19 with (fail)
  clear cX lX cY lY
  clear q r
  have cA := XA.cell
  have lA := XA.lt
  go_wp2_with fail
  clear cA lA
  refine (CN.out _).mono ?_
  rintro e w17 ⟨rfl, hgw17⟩
  have hhw17 : Ge w16 w17 := hgw17
  replace XA := XA.ge hhw17
  replace XB := XB.ge hhw17
  replace XX := XX.ge hhw17
  replace XY := XY.ge hhw17
  replace G := Lib.hid (G.out.trans hhw17)
  clear hgw17 hhw17
  have cX := XX.cell
  have lX := XX.lt
  have fX := XX.frozen
  go_upto_region 20 with (fail)
  clear cX lX fX
  obtain ⟨w18, hww18⟩ : ∃ w18, w18 = ((((((w17.setCell ⟨w1.heap.size, 0, none⟩ (.int .i64 tN.e)).setCell ⟨w1.heap.size, 1, none⟩ (.int .i64 tN.d)).setCell ⟨w1.heap.size, 2, none⟩ (.int .i64 tN.l0)).setCell ⟨w1.heap.size, 3, none⟩ (.int .i64 tN.l1)).setCell ⟨w1.heap.size, 4, none⟩ (.int .i64 tN.l2)).setCell ⟨w1.heap.size, 5, none⟩ (.int .i64 tN.l3)) := ⟨_, rfl⟩
  rw [← hww18]
  replace XA : Bx w18 (w.heap.size) 24 #[.int .i64 a.e, .int .i64 a.d, .int .i64 a.l0, .int .i64 a.l1, .int .i64 a.l2, .int .i64 a.l3] := by rw [hww18]; exact ((((((XA.set_ne 0 _ nAX).set_ne 1 _ nAX).set_ne 2 _ nAX).set_ne 3 _ nAX).set_ne 4 _ nAX).set_ne 5 _ nAX)
  replace XB : Bx w18 (w.heap.size + 1) 24 #[.int .i64 b.e, .int .i64 b.d, .int .i64 b.l0, .int .i64 b.l1, .int .i64 b.l2, .int .i64 b.l3] := by rw [hww18]; exact ((((((XB.set_ne 0 _ nBX).set_ne 1 _ nBX).set_ne 2 _ nBX).set_ne 3 _ nBX).set_ne 4 _ nBX).set_ne 5 _ nBX)
  replace XX : Bx w18 (w1.heap.size) 24 #[.int .i64 tN.e, .int .i64 tN.d, .int .i64 tN.l0, .int .i64 tN.l1, .int .i64 tN.l2, .int .i64 tN.l3] := by rw [hww18]; exact (((((XX.set 0 _).set 1 _).set 2 _).set 3 _).set 4 _).set 5 _
  replace XY : Bx w18 (w3.heap.size) 24 #[.int .i64 tL.e, .int .i64 tL.d, .int .i64 tL.l0, .int .i64 tL.l1, .int .i64 tL.l2, .int .i64 tL.l3] := by rw [hww18]; exact ((((((XY.set_ne 0 _ nYX).set_ne 1 _ nYX).set_ne 2 _ nYX).set_ne 3 _ nYX).set_ne 4 _ nYX).set_ne 5 _ nYX)
  replace G := Lib.hid (show Ge w w18 by rw [hww18]; exact (Below.setCell (Below.setCell (Below.setCell (Below.setCell (Below.setCell (Below.setCell G.out (show w.heap.size ≤ w1.heap.size from gX) _) (show w.heap.size ≤ w1.heap.size from gX) _) (show w.heap.size ≤ w1.heap.size from gX) _) (show w.heap.size ≤ w1.heap.size from gX) _) (show w.heap.size ≤ w1.heap.size from gX) _) (show w.heap.size ≤ w1.heap.size from gX) _))
  clear hww18
  have cA := XA.cell
  have lA := XA.lt
  go_wp2_with fail
  clear cA lA
  refine (RN.out _).mono ?_
  rintro e w19 ⟨rfl, hgw19⟩
  have hhw19 : Ge w18 w19 := hgw19
  replace XA := XA.ge hhw19
  replace XB := XB.ge hhw19
  replace XX := XX.ge hhw19
  replace XY := XY.ge hhw19
  replace G := Lib.hid (G.out.trans hhw19)
  clear hgw19 hhw19
  have cY := XY.cell
  have lY := XY.lt
  have fY := XY.frozen
  go_upto_region 21 with (fail)
  clear cY lY fY
  obtain ⟨w20, hww20⟩ : ∃ w20, w20 = ((((((w19.setCell ⟨w3.heap.size, 0, none⟩ (.int .i64 tN.e)).setCell ⟨w3.heap.size, 1, none⟩ (.int .i64 tN.d)).setCell ⟨w3.heap.size, 2, none⟩ (.int .i64 tN.l0)).setCell ⟨w3.heap.size, 3, none⟩ (.int .i64 tN.l1)).setCell ⟨w3.heap.size, 4, none⟩ (.int .i64 tN.l2)).setCell ⟨w3.heap.size, 5, none⟩ (.int .i64 tN.l3)) := ⟨_, rfl⟩
  rw [← hww20]
  replace XA : Bx w20 (w.heap.size) 24 #[.int .i64 a.e, .int .i64 a.d, .int .i64 a.l0, .int .i64 a.l1, .int .i64 a.l2, .int .i64 a.l3] := by rw [hww20]; exact ((((((XA.set_ne 0 _ nAY).set_ne 1 _ nAY).set_ne 2 _ nAY).set_ne 3 _ nAY).set_ne 4 _ nAY).set_ne 5 _ nAY)
  replace XB : Bx w20 (w.heap.size + 1) 24 #[.int .i64 b.e, .int .i64 b.d, .int .i64 b.l0, .int .i64 b.l1, .int .i64 b.l2, .int .i64 b.l3] := by rw [hww20]; exact ((((((XB.set_ne 0 _ nBY).set_ne 1 _ nBY).set_ne 2 _ nBY).set_ne 3 _ nBY).set_ne 4 _ nBY).set_ne 5 _ nBY)
  replace XX : Bx w20 (w1.heap.size) 24 #[.int .i64 tN.e, .int .i64 tN.d, .int .i64 tN.l0, .int .i64 tN.l1, .int .i64 tN.l2, .int .i64 tN.l3] := by rw [hww20]; exact ((((((XX.set_ne 0 _ nXY).set_ne 1 _ nXY).set_ne 2 _ nXY).set_ne 3 _ nXY).set_ne 4 _ nXY).set_ne 5 _ nXY)
  replace XY : Bx w20 (w3.heap.size) 24 #[.int .i64 tN.e, .int .i64 tN.d, .int .i64 tN.l0, .int .i64 tN.l1, .int .i64 tN.l2, .int .i64 tN.l3] := by rw [hww20]; exact (((((XY.set 0 _).set 1 _).set 2 _).set 3 _).set 4 _).set 5 _
  replace G := Lib.hid (show Ge w w20 by rw [hww20]; exact (Below.setCell (Below.setCell (Below.setCell (Below.setCell (Below.setCell (Below.setCell G.out (show w.heap.size ≤ w3.heap.size from gY) _) (show w.heap.size ≤ w3.heap.size from gY) _) (show w.heap.size ≤ w3.heap.size from gY) _) (show w.heap.size ≤ w3.heap.size from gY) _) (show w.heap.size ≤ w3.heap.size from gY) _) (show w.heap.size ≤ w3.heap.size from gY) _))
  clear hww20
  have cA := XA.cell
  have lA := XA.lt
  go_wp2_with fail
  clear cA lA
  refine (lawLoops_any a _).mono ?_
  rintro e w21 ⟨vl, rfl, hvl, hhw21⟩
  replace XA := XA.ge hhw21
  replace XB := XB.ge hhw21
  replace XX := XX.ge hhw21
  replace XY := XY.ge hhw21
  replace G := Lib.hid (G.out.trans hhw21)
  have VL := Lib.hid hvl
  clear hvl hhw21
  go_upto_region 22 with (fail)
  have e1 := fun w' => eql_tm tN tN w'
  have e2 := fun w' => eql_tm (baseT a) (baseT a) w'
  rw [eqB_self] at e1 e2
  have hll := lpL_len a
  refine Dr.wp_region_T (by kernel_rfl) (by kernel_rfl) ?_
  iterate 6 (apply Dr.wpT_det; · (intro u z hw hF; clear hF; have cA := (XA.ge hw).cell; have lA := (XA.ge hw).lt; have cX := (XX.ge hw).cell; have lX := (XX.ge hw).lt; have cY := (XY.ge hw).cell; have lY := (XY.ge hw).lt; go_simp; first | exact ⟨Ge.refl _, rfl⟩ | exact Ge.refl _ | rfl))
  refine Dr.wpT_det (.bool true) ?_ ?_
  · intro u z hw hF
    clear hF
    go_simp
    first | exact Ge.refl _ | exact ⟨Ge.refl _, by simp⟩ | exact ⟨Ge.refl _, rfl⟩
  iterate 7 (apply Dr.wpT_det; · (intro u z hw hF; clear hF; have cA := (XA.ge hw).cell; have lA := (XA.ge hw).lt; have cX := (XX.ge hw).cell; have lX := (XX.ge hw).lt; have cY := (XY.ge hw).cell; have lY := (XY.ge hw).lt; go_simp; first | exact ⟨Ge.refl _, rfl⟩ | exact Ge.refl _ | rfl))
  apply Dr.wpT_non (fun v z => IntsAt z v (lpL a))
  · exact fun v z1 z2 hg hx => hx.below hg
  · intro u z hw hF
    clear hF
    go_simp
    refine (rloops_any a _).mono ?_
    rintro e z2 ⟨v, rfl, ho, hz2⟩
    exact ⟨_, rfl, hz2, ho.intsAt⟩
  refine Dr.wpT_det (.bool true) ?_ ?_
  · intro u z hw hF
    have h14 := hF 14 (by kernel_rfl)
    clear hF
    simp at h14
    have C := Lib.hid (sequal_any (VL.out.below hw) h14 (by omega))
    clear h14
    go_simp
    refine C.out.mono ?_
    rintro e z2 ⟨rfl, hz2⟩
    exact ⟨rfl, hz2⟩
  iterate 3 (apply Dr.wpT_det; · (intro u z hw hF; clear hF; have cA := (XA.ge hw).cell; have lA := (XA.ge hw).lt; have cX := (XX.ge hw).cell; have lX := (XX.ge hw).lt; have cY := (XY.ge hw).cell; have lY := (XY.ge hw).lt; go_simp; first | exact ⟨Ge.refl _, rfl⟩ | exact Ge.refl _ | rfl))
  refine Dr.wpT_det (.agg #[.int .i64 (baseT a).e, .int .i64 (baseT a).d, .int .i64 (baseT a).l0, .int .i64 (baseT a).l1, .int .i64 (baseT a).l2, .int .i64 (baseT a).l3]) ?_ ?_
  · intro u z hw hF
    clear hF
    go_simp
    refine (base_any a _).mono ?_
    rintro e z2 ⟨rfl, hz2⟩
    exact ⟨rfl, hz2⟩
  iterate 1 (apply Dr.wpT_det; · (intro u z hw hF; clear hF; have cA := (XA.ge hw).cell; have lA := (XA.ge hw).lt; have cX := (XX.ge hw).cell; have lX := (XX.ge hw).lt; have cY := (XY.ge hw).cell; have lY := (XY.ge hw).lt; go_simp; first | exact ⟨Ge.refl _, rfl⟩ | exact Ge.refl _ | rfl))
  refine Dr.wpT_det (.agg #[.int .i64 (baseT a).e, .int .i64 (baseT a).d, .int .i64 (baseT a).l0, .int .i64 (baseT a).l1, .int .i64 (baseT a).l2, .int .i64 (baseT a).l3]) ?_ ?_
  · intro u z hw hF
    clear hF
    go_simp
    refine (rbase_any a _).mono ?_
    rintro e z2 ⟨rfl, hz2⟩
    exact ⟨rfl, hz2⟩
  iterate 1 (apply Dr.wpT_det; · (intro u z hw hF; clear hF; have cA := (XA.ge hw).cell; have lA := (XA.ge hw).lt; have cX := (XX.ge hw).cell; have lX := (XX.ge hw).lt; have cY := (XY.ge hw).cell; have lY := (XY.ge hw).lt; go_simp; first | exact ⟨Ge.refl _, rfl⟩ | exact Ge.refl _ | rfl))
  iterate 2 (apply Dr.wpT_det; · (intro u z hw hF; clear hF; have cA := (XA.ge hw).cell; have lA := (XA.ge hw).lt; have cX := (XX.ge hw).cell; have lX := (XX.ge hw).lt; have cY := (XY.ge hw).cell; have lY := (XY.ge hw).lt; go_simp; first | exact ⟨Ge.refl _, rfl⟩ | exact Ge.refl _ | rfl))
  iterate 1 (apply Dr.wpT_det; · (intro u z hw hF; clear hF; have cA := (XA.ge hw).cell; have lA := (XA.ge hw).lt; have cX := (XX.ge hw).cell; have lX := (XX.ge hw).lt; have cY := (XY.ge hw).cell; have lY := (XY.ge hw).lt; go_simp; first | exact ⟨Ge.refl _, rfl⟩ | exact Ge.refl _ | rfl))
  refine Dr.wpT_det (.string (strOfNums (textL a))) ?_ ?_
  · intro u z hw hF
    clear hF
    go_simp
    refine (text_any a _).mono ?_
    rintro e z2 ⟨rfl, hz2⟩
    exact ⟨rfl, hz2⟩
  iterate 1 (apply Dr.wpT_det; · (intro u z hw hF; clear hF; have cA := (XA.ge hw).cell; have lA := (XA.ge hw).lt; have cX := (XX.ge hw).cell; have lX := (XX.ge hw).lt; have cY := (XY.ge hw).cell; have lY := (XY.ge hw).lt; go_simp; first | exact ⟨Ge.refl _, rfl⟩ | exact Ge.refl _ | rfl))
  refine Dr.wpT_det (.string (strOfNums (textL a))) ?_ ?_
  · intro u z hw hF
    clear hF
    go_simp
    refine (rtext_any a _).mono ?_
    rintro e z2 ⟨rfl, hz2⟩
    exact ⟨rfl, hz2⟩
  refine Dr.wpT_det (.bool true) ?_ ?_
  · intro u z hw hF
    clear hF
    go_simp
    first | exact Ge.refl _ | exact ⟨Ge.refl _, by simp⟩ | exact ⟨Ge.refl _, rfl⟩
  iterate 2 (apply Dr.wpT_det; · (intro u z hw hF; clear hF; have cA := (XA.ge hw).cell; have lA := (XA.ge hw).lt; have cX := (XX.ge hw).cell; have lX := (XX.ge hw).lt; have cY := (XY.ge hw).cell; have lY := (XY.ge hw).lt; go_simp; first | exact ⟨Ge.refl _, rfl⟩ | exact Ge.refl _ | rfl))
  intro u z hw hF
  clear hF
  simp only [Act.put, List.setIfInBounds_toArray, List.set_cons_zero, List.set_cons_succ]
  go_wp2
  go_returns
  exact ⟨rfl, G.out.trans hw⟩
end Go.Proofs.Ytedccllpbajbfaa
