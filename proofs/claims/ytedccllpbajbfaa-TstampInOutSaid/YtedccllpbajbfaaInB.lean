/-
  TstampInOut: walks, one for each way through (part B).
-/
import Derived.Test.YtedccllpbajbfaaLive
import Derived.Test.YtedccllpbajbfaaLeq
import Derived.Test.YtedccllpbajbfaaPlainD
import Derived.Test.YtedccllpbajbfaaEq
namespace Go.Proofs.Ytedccllpbajbfaa
open Go.RowKit

set_option maxHeartbeats 4000000 in
theorem inout_100000 (a b : Tm) (w : World) (hE : enterE a = 0) (hG : nextE a ≠ 0) (hL : leqB a b = false) :
    Calls Try.prog 3 #[.agg #[.int .i64 a.e, .int .i64 a.d, .int .i64 a.l0, .int .i64 a.l1, .int .i64 a.l2, .int .i64 a.l3], .agg #[.int .i64 b.e, .int .i64 b.d, .int .i64 b.l0, .int .i64 b.l1, .int .i64 b.l2, .int .i64 b.l3]] w fun e w' => e = .returned (.bool true) ∧ Below w.heap.size w w' := by
  have EA := Lib.hid (fun w => by have := enter_any a w; rwa [hE] at this)
  have LE := Lib.hid (fun w => by have := leave_any (enterT a) w; rwa [(leave_enter hE).1, (leave_enter hE).2] at this)
  have q1 := fun w => neq_tm a a w
  simp only [eqB_self, Bool.not_true] at q1
  have NA := Lib.hid (next_any a)
  have n1 : (nextE a == 0) = false := by simp [hG]
  have n2 : (nextE a != 0) = true := by simp [hG]
  have LAB := Lib.hid (fun w => by have := leq_any a b w; rwa [hL] at this)
  clear hE hG hL
  go_enter Try.func3, Try.ntmps3
  go_wp2_with fail
  refine (live_any _).mono ?_
  rintro e w1 ⟨rfl, hb1⟩
  have X0 : Bx w1 (w.heap.size) 24 #[.int .i64 a.e, .int .i64 a.d, .int .i64 a.l0, .int .i64 a.l1, .int .i64 a.l2, .int .i64 a.l3] := ((Bx.new _ _ _ (by simp)).alloc _).ge hb1
  have X1 : Bx w1 (w.heap.size + 1) 24 #[.int .i64 b.e, .int .i64 b.d, .int .i64 b.l0, .int .i64 b.l1, .int .i64 b.l2, .int .i64 b.l3] := ((Bx.new _ _ _ (by simp))).ge hb1
  have c0 := X0.cell
  have l0 := X0.lt
  have c1 := X1.cell
  have l1 := X1.lt
  have g1 := Lib.hid hb1
  clear hb1
  go_wp2_with fail
  refine (EA.out _).mono ?_
  rintro e w2 ⟨rfl, hb2⟩
  replace X0 : Bx w2 (w.heap.size) 24 #[.int .i64 a.e, .int .i64 a.d, .int .i64 a.l0, .int .i64 a.l1, .int .i64 a.l2, .int .i64 a.l3] := (X0).ge hb2
  replace X1 : Bx w2 (w.heap.size + 1) 24 #[.int .i64 b.e, .int .i64 b.d, .int .i64 b.l0, .int .i64 b.l1, .int .i64 b.l2, .int .i64 b.l3] := (X1).ge hb2
  replace c0 := X0.cell
  replace l0 := X0.lt
  replace c1 := X1.cell
  replace l1 := X1.lt
  have g2 := Lib.hid hb2
  clear hb2
  go_wp2_with fail
  refine (LE.out _).mono ?_
  rintro e w3 ⟨rfl, hb3⟩
  replace X0 : Bx w3 (w.heap.size) 24 #[.int .i64 a.e, .int .i64 a.d, .int .i64 a.l0, .int .i64 a.l1, .int .i64 a.l2, .int .i64 a.l3] := (X0.alloc _).ge hb3
  replace X1 : Bx w3 (w.heap.size + 1) 24 #[.int .i64 b.e, .int .i64 b.d, .int .i64 b.l0, .int .i64 b.l1, .int .i64 b.l2, .int .i64 b.l3] := (X1.alloc _).ge hb3
  have X2 : Bx w3 (w2.heap.size) 24 #[.int .i64 (enterT a).e, .int .i64 (enterT a).d, .int .i64 (enterT a).l0, .int .i64 (enterT a).l1, .int .i64 (enterT a).l2, .int .i64 (enterT a).l3] := ((Bx.new _ _ _ (by simp))).ge hb3
  replace c0 := X0.cell
  replace l0 := X0.lt
  replace c1 := X1.cell
  replace l1 := X1.lt
  have c2 := X2.cell
  have l2 := X2.lt
  have g3 := Lib.hid hb3
  clear hb3
  go_wp2_with fail
  refine (NA.out _).mono ?_
  rintro e w4 ⟨rfl, hb4⟩
  replace X0 : Bx w4 (w.heap.size) 24 #[.int .i64 a.e, .int .i64 a.d, .int .i64 a.l0, .int .i64 a.l1, .int .i64 a.l2, .int .i64 a.l3] := (X0.alloc _).ge hb4
  replace X1 : Bx w4 (w.heap.size + 1) 24 #[.int .i64 b.e, .int .i64 b.d, .int .i64 b.l0, .int .i64 b.l1, .int .i64 b.l2, .int .i64 b.l3] := (X1.alloc _).ge hb4
  replace X2 : Bx w4 (w2.heap.size) 24 #[.int .i64 (enterT a).e, .int .i64 (enterT a).d, .int .i64 (enterT a).l0, .int .i64 (enterT a).l1, .int .i64 (enterT a).l2, .int .i64 (enterT a).l3] := (X2.alloc _).ge hb4
  have X3 : Bx w4 (w3.heap.size) 24 #[.int .i64 a.e, .int .i64 a.d, .int .i64 a.l0, .int .i64 a.l1, .int .i64 a.l2, .int .i64 a.l3] := ((Bx.new _ _ _ (by simp))).ge hb4
  replace c0 := X0.cell
  replace l0 := X0.lt
  replace c1 := X1.cell
  replace l1 := X1.lt
  replace c2 := X2.cell
  replace l2 := X2.lt
  have c3 := X3.cell
  have l3 := X3.lt
  have g4 := Lib.hid hb4
  clear hb4
  go_wp2_with fail
  refine (LAB.out _).mono ?_
  rintro e w5 ⟨rfl, hb5⟩
  replace X0 : Bx w5 (w.heap.size) 24 #[.int .i64 a.e, .int .i64 a.d, .int .i64 a.l0, .int .i64 a.l1, .int .i64 a.l2, .int .i64 a.l3] := (X0.alloc _).ge hb5
  replace X1 : Bx w5 (w.heap.size + 1) 24 #[.int .i64 b.e, .int .i64 b.d, .int .i64 b.l0, .int .i64 b.l1, .int .i64 b.l2, .int .i64 b.l3] := (X1.alloc _).ge hb5
  replace X2 : Bx w5 (w2.heap.size) 24 #[.int .i64 (enterT a).e, .int .i64 (enterT a).d, .int .i64 (enterT a).l0, .int .i64 (enterT a).l1, .int .i64 (enterT a).l2, .int .i64 (enterT a).l3] := (X2.alloc _).ge hb5
  replace X3 : Bx w5 (w3.heap.size) 24 #[.int .i64 a.e, .int .i64 a.d, .int .i64 a.l0, .int .i64 a.l1, .int .i64 a.l2, .int .i64 a.l3] := (X3.alloc _).ge hb5
  have X4 : Bx w5 (w4.heap.size) 24 #[.int .i64 (nextT a).e, .int .i64 (nextT a).d, .int .i64 (nextT a).l0, .int .i64 (nextT a).l1, .int .i64 (nextT a).l2, .int .i64 (nextT a).l3] := ((Bx.new _ _ _ (by simp))).ge hb5
  replace c0 := X0.cell
  replace l0 := X0.lt
  replace c1 := X1.cell
  replace l1 := X1.lt
  replace c2 := X2.cell
  replace l2 := X2.lt
  replace c3 := X3.cell
  replace l3 := X3.lt
  have c4 := X4.cell
  have l4 := X4.lt
  have g5 := Lib.hid hb5
  clear hb5
  go_wp2
  go_ret
  exact ⟨rfl, (((((((((((Ge.refl w).alloc _).alloc _).trans g1.out).trans g2.out).alloc _).trans g3.out).alloc _).trans g4.out).alloc _).trans g5.out)⟩

set_option maxHeartbeats 4000000 in
theorem inout_101000 (a b : Tm) (w : World) (hE : enterE a = 0) (hG : nextE a ≠ 0) (hL : leqB a b = true) (hJ : leaveE a ≠ 0) :
    Calls Try.prog 3 #[.agg #[.int .i64 a.e, .int .i64 a.d, .int .i64 a.l0, .int .i64 a.l1, .int .i64 a.l2, .int .i64 a.l3], .agg #[.int .i64 b.e, .int .i64 b.d, .int .i64 b.l0, .int .i64 b.l1, .int .i64 b.l2, .int .i64 b.l3]] w fun e w' => e = .returned (.bool true) ∧ Below w.heap.size w w' := by
  have EA := Lib.hid (fun w => by have := enter_any a w; rwa [hE] at this)
  have LE := Lib.hid (fun w => by have := leave_any (enterT a) w; rwa [(leave_enter hE).1, (leave_enter hE).2] at this)
  have q1 := fun w => neq_tm a a w
  simp only [eqB_self, Bool.not_true] at q1
  have NA := Lib.hid (next_any a)
  have n1 : (nextE a == 0) = false := by simp [hG]
  have n2 : (nextE a != 0) = true := by simp [hG]
  have LAB := Lib.hid (fun w => by have := leq_any a b w; rwa [hL] at this)
  have hEb := enter_same hL hE
  have EB := Lib.hid (fun w => by have := enter_any b w; rwa [hEb] at this)
  have LEE := Lib.hid (fun w => by have := leq_any (enterT a) (enterT b) w; rwa [le_enter hL hE hEb] at this)
  have NB := Lib.hid (next_any b)
  have LVA := Lib.hid (leave_any a)
  have LVB := Lib.hid (leave_any b)
  have j2 : (leaveE a != 0) = true := by simp [hJ]
  clear hE hG hL hEb hJ
  go_enter Try.func3, Try.ntmps3
  go_wp2_with fail
  refine (live_any _).mono ?_
  rintro e w1 ⟨rfl, hb1⟩
  have X0 : Bx w1 (w.heap.size) 24 #[.int .i64 a.e, .int .i64 a.d, .int .i64 a.l0, .int .i64 a.l1, .int .i64 a.l2, .int .i64 a.l3] := ((Bx.new _ _ _ (by simp)).alloc _).ge hb1
  have X1 : Bx w1 (w.heap.size + 1) 24 #[.int .i64 b.e, .int .i64 b.d, .int .i64 b.l0, .int .i64 b.l1, .int .i64 b.l2, .int .i64 b.l3] := ((Bx.new _ _ _ (by simp))).ge hb1
  have c0 := X0.cell
  have l0 := X0.lt
  have c1 := X1.cell
  have l1 := X1.lt
  have g1 := Lib.hid hb1
  clear hb1
  go_wp2_with fail
  refine (EA.out _).mono ?_
  rintro e w2 ⟨rfl, hb2⟩
  replace X0 : Bx w2 (w.heap.size) 24 #[.int .i64 a.e, .int .i64 a.d, .int .i64 a.l0, .int .i64 a.l1, .int .i64 a.l2, .int .i64 a.l3] := (X0).ge hb2
  replace X1 : Bx w2 (w.heap.size + 1) 24 #[.int .i64 b.e, .int .i64 b.d, .int .i64 b.l0, .int .i64 b.l1, .int .i64 b.l2, .int .i64 b.l3] := (X1).ge hb2
  replace c0 := X0.cell
  replace l0 := X0.lt
  replace c1 := X1.cell
  replace l1 := X1.lt
  have g2 := Lib.hid hb2
  clear hb2
  go_wp2_with fail
  refine (LE.out _).mono ?_
  rintro e w3 ⟨rfl, hb3⟩
  replace X0 : Bx w3 (w.heap.size) 24 #[.int .i64 a.e, .int .i64 a.d, .int .i64 a.l0, .int .i64 a.l1, .int .i64 a.l2, .int .i64 a.l3] := (X0.alloc _).ge hb3
  replace X1 : Bx w3 (w.heap.size + 1) 24 #[.int .i64 b.e, .int .i64 b.d, .int .i64 b.l0, .int .i64 b.l1, .int .i64 b.l2, .int .i64 b.l3] := (X1.alloc _).ge hb3
  have X2 : Bx w3 (w2.heap.size) 24 #[.int .i64 (enterT a).e, .int .i64 (enterT a).d, .int .i64 (enterT a).l0, .int .i64 (enterT a).l1, .int .i64 (enterT a).l2, .int .i64 (enterT a).l3] := ((Bx.new _ _ _ (by simp))).ge hb3
  replace c0 := X0.cell
  replace l0 := X0.lt
  replace c1 := X1.cell
  replace l1 := X1.lt
  have c2 := X2.cell
  have l2 := X2.lt
  have g3 := Lib.hid hb3
  clear hb3
  go_wp2_with fail
  refine (NA.out _).mono ?_
  rintro e w4 ⟨rfl, hb4⟩
  replace X0 : Bx w4 (w.heap.size) 24 #[.int .i64 a.e, .int .i64 a.d, .int .i64 a.l0, .int .i64 a.l1, .int .i64 a.l2, .int .i64 a.l3] := (X0.alloc _).ge hb4
  replace X1 : Bx w4 (w.heap.size + 1) 24 #[.int .i64 b.e, .int .i64 b.d, .int .i64 b.l0, .int .i64 b.l1, .int .i64 b.l2, .int .i64 b.l3] := (X1.alloc _).ge hb4
  replace X2 : Bx w4 (w2.heap.size) 24 #[.int .i64 (enterT a).e, .int .i64 (enterT a).d, .int .i64 (enterT a).l0, .int .i64 (enterT a).l1, .int .i64 (enterT a).l2, .int .i64 (enterT a).l3] := (X2.alloc _).ge hb4
  have X3 : Bx w4 (w3.heap.size) 24 #[.int .i64 a.e, .int .i64 a.d, .int .i64 a.l0, .int .i64 a.l1, .int .i64 a.l2, .int .i64 a.l3] := ((Bx.new _ _ _ (by simp))).ge hb4
  replace c0 := X0.cell
  replace l0 := X0.lt
  replace c1 := X1.cell
  replace l1 := X1.lt
  replace c2 := X2.cell
  replace l2 := X2.lt
  have c3 := X3.cell
  have l3 := X3.lt
  have g4 := Lib.hid hb4
  clear hb4
  go_wp2_with fail
  refine (LAB.out _).mono ?_
  rintro e w5 ⟨rfl, hb5⟩
  replace X0 : Bx w5 (w.heap.size) 24 #[.int .i64 a.e, .int .i64 a.d, .int .i64 a.l0, .int .i64 a.l1, .int .i64 a.l2, .int .i64 a.l3] := (X0.alloc _).ge hb5
  replace X1 : Bx w5 (w.heap.size + 1) 24 #[.int .i64 b.e, .int .i64 b.d, .int .i64 b.l0, .int .i64 b.l1, .int .i64 b.l2, .int .i64 b.l3] := (X1.alloc _).ge hb5
  replace X2 : Bx w5 (w2.heap.size) 24 #[.int .i64 (enterT a).e, .int .i64 (enterT a).d, .int .i64 (enterT a).l0, .int .i64 (enterT a).l1, .int .i64 (enterT a).l2, .int .i64 (enterT a).l3] := (X2.alloc _).ge hb5
  replace X3 : Bx w5 (w3.heap.size) 24 #[.int .i64 a.e, .int .i64 a.d, .int .i64 a.l0, .int .i64 a.l1, .int .i64 a.l2, .int .i64 a.l3] := (X3.alloc _).ge hb5
  have X4 : Bx w5 (w4.heap.size) 24 #[.int .i64 (nextT a).e, .int .i64 (nextT a).d, .int .i64 (nextT a).l0, .int .i64 (nextT a).l1, .int .i64 (nextT a).l2, .int .i64 (nextT a).l3] := ((Bx.new _ _ _ (by simp))).ge hb5
  replace c0 := X0.cell
  replace l0 := X0.lt
  replace c1 := X1.cell
  replace l1 := X1.lt
  replace c2 := X2.cell
  replace l2 := X2.lt
  replace c3 := X3.cell
  replace l3 := X3.lt
  have c4 := X4.cell
  have l4 := X4.lt
  have g5 := Lib.hid hb5
  clear hb5
  go_wp2_with fail
  refine (EB.out _).mono ?_
  rintro e w6 ⟨rfl, hb6⟩
  replace X0 : Bx w6 (w.heap.size) 24 #[.int .i64 a.e, .int .i64 a.d, .int .i64 a.l0, .int .i64 a.l1, .int .i64 a.l2, .int .i64 a.l3] := (X0).ge hb6
  replace X1 : Bx w6 (w.heap.size + 1) 24 #[.int .i64 b.e, .int .i64 b.d, .int .i64 b.l0, .int .i64 b.l1, .int .i64 b.l2, .int .i64 b.l3] := (X1).ge hb6
  replace X2 : Bx w6 (w2.heap.size) 24 #[.int .i64 (enterT a).e, .int .i64 (enterT a).d, .int .i64 (enterT a).l0, .int .i64 (enterT a).l1, .int .i64 (enterT a).l2, .int .i64 (enterT a).l3] := (X2).ge hb6
  replace X3 : Bx w6 (w3.heap.size) 24 #[.int .i64 a.e, .int .i64 a.d, .int .i64 a.l0, .int .i64 a.l1, .int .i64 a.l2, .int .i64 a.l3] := (X3).ge hb6
  replace X4 : Bx w6 (w4.heap.size) 24 #[.int .i64 (nextT a).e, .int .i64 (nextT a).d, .int .i64 (nextT a).l0, .int .i64 (nextT a).l1, .int .i64 (nextT a).l2, .int .i64 (nextT a).l3] := (X4).ge hb6
  replace c0 := X0.cell
  replace l0 := X0.lt
  replace c1 := X1.cell
  replace l1 := X1.lt
  replace c2 := X2.cell
  replace l2 := X2.lt
  replace c3 := X3.cell
  replace l3 := X3.lt
  replace c4 := X4.cell
  replace l4 := X4.lt
  have g6 := Lib.hid hb6
  clear hb6
  go_wp2_with fail
  refine (NB.out _).mono ?_
  rintro e w7 ⟨rfl, hb7⟩
  replace X0 : Bx w7 (w.heap.size) 24 #[.int .i64 a.e, .int .i64 a.d, .int .i64 a.l0, .int .i64 a.l1, .int .i64 a.l2, .int .i64 a.l3] := (X0.alloc _).ge hb7
  replace X1 : Bx w7 (w.heap.size + 1) 24 #[.int .i64 b.e, .int .i64 b.d, .int .i64 b.l0, .int .i64 b.l1, .int .i64 b.l2, .int .i64 b.l3] := (X1.alloc _).ge hb7
  replace X2 : Bx w7 (w2.heap.size) 24 #[.int .i64 (enterT a).e, .int .i64 (enterT a).d, .int .i64 (enterT a).l0, .int .i64 (enterT a).l1, .int .i64 (enterT a).l2, .int .i64 (enterT a).l3] := (X2.alloc _).ge hb7
  replace X3 : Bx w7 (w3.heap.size) 24 #[.int .i64 a.e, .int .i64 a.d, .int .i64 a.l0, .int .i64 a.l1, .int .i64 a.l2, .int .i64 a.l3] := (X3.alloc _).ge hb7
  replace X4 : Bx w7 (w4.heap.size) 24 #[.int .i64 (nextT a).e, .int .i64 (nextT a).d, .int .i64 (nextT a).l0, .int .i64 (nextT a).l1, .int .i64 (nextT a).l2, .int .i64 (nextT a).l3] := (X4.alloc _).ge hb7
  have X5 : Bx w7 (w6.heap.size) 24 #[.int .i64 (enterT b).e, .int .i64 (enterT b).d, .int .i64 (enterT b).l0, .int .i64 (enterT b).l1, .int .i64 (enterT b).l2, .int .i64 (enterT b).l3] := ((Bx.new _ _ _ (by simp))).ge hb7
  replace c0 := X0.cell
  replace l0 := X0.lt
  replace c1 := X1.cell
  replace l1 := X1.lt
  replace c2 := X2.cell
  replace l2 := X2.lt
  replace c3 := X3.cell
  replace l3 := X3.lt
  replace c4 := X4.cell
  replace l4 := X4.lt
  have c5 := X5.cell
  have l5 := X5.lt
  have g7 := Lib.hid hb7
  clear hb7
  go_wp2_with fail
  refine (LVA.out _).mono ?_
  rintro e w8 ⟨rfl, hb8⟩
  replace X0 : Bx w8 (w.heap.size) 24 #[.int .i64 a.e, .int .i64 a.d, .int .i64 a.l0, .int .i64 a.l1, .int .i64 a.l2, .int .i64 a.l3] := (X0.alloc _).ge hb8
  replace X1 : Bx w8 (w.heap.size + 1) 24 #[.int .i64 b.e, .int .i64 b.d, .int .i64 b.l0, .int .i64 b.l1, .int .i64 b.l2, .int .i64 b.l3] := (X1.alloc _).ge hb8
  replace X2 : Bx w8 (w2.heap.size) 24 #[.int .i64 (enterT a).e, .int .i64 (enterT a).d, .int .i64 (enterT a).l0, .int .i64 (enterT a).l1, .int .i64 (enterT a).l2, .int .i64 (enterT a).l3] := (X2.alloc _).ge hb8
  replace X3 : Bx w8 (w3.heap.size) 24 #[.int .i64 a.e, .int .i64 a.d, .int .i64 a.l0, .int .i64 a.l1, .int .i64 a.l2, .int .i64 a.l3] := (X3.alloc _).ge hb8
  replace X4 : Bx w8 (w4.heap.size) 24 #[.int .i64 (nextT a).e, .int .i64 (nextT a).d, .int .i64 (nextT a).l0, .int .i64 (nextT a).l1, .int .i64 (nextT a).l2, .int .i64 (nextT a).l3] := (X4.alloc _).ge hb8
  replace X5 : Bx w8 (w6.heap.size) 24 #[.int .i64 (enterT b).e, .int .i64 (enterT b).d, .int .i64 (enterT b).l0, .int .i64 (enterT b).l1, .int .i64 (enterT b).l2, .int .i64 (enterT b).l3] := (X5.alloc _).ge hb8
  have X6 : Bx w8 (w7.heap.size) 24 #[.int .i64 (nextT b).e, .int .i64 (nextT b).d, .int .i64 (nextT b).l0, .int .i64 (nextT b).l1, .int .i64 (nextT b).l2, .int .i64 (nextT b).l3] := ((Bx.new _ _ _ (by simp))).ge hb8
  replace c0 := X0.cell
  replace l0 := X0.lt
  replace c1 := X1.cell
  replace l1 := X1.lt
  replace c2 := X2.cell
  replace l2 := X2.lt
  replace c3 := X3.cell
  replace l3 := X3.lt
  replace c4 := X4.cell
  replace l4 := X4.lt
  replace c5 := X5.cell
  replace l5 := X5.lt
  have c6 := X6.cell
  have l6 := X6.lt
  have g8 := Lib.hid hb8
  clear hb8
  go_wp2_with fail
  refine (LVB.out _).mono ?_
  rintro e w9 ⟨rfl, hb9⟩
  replace X0 : Bx w9 (w.heap.size) 24 #[.int .i64 a.e, .int .i64 a.d, .int .i64 a.l0, .int .i64 a.l1, .int .i64 a.l2, .int .i64 a.l3] := (X0.alloc _).ge hb9
  replace X1 : Bx w9 (w.heap.size + 1) 24 #[.int .i64 b.e, .int .i64 b.d, .int .i64 b.l0, .int .i64 b.l1, .int .i64 b.l2, .int .i64 b.l3] := (X1.alloc _).ge hb9
  replace X2 : Bx w9 (w2.heap.size) 24 #[.int .i64 (enterT a).e, .int .i64 (enterT a).d, .int .i64 (enterT a).l0, .int .i64 (enterT a).l1, .int .i64 (enterT a).l2, .int .i64 (enterT a).l3] := (X2.alloc _).ge hb9
  replace X3 : Bx w9 (w3.heap.size) 24 #[.int .i64 a.e, .int .i64 a.d, .int .i64 a.l0, .int .i64 a.l1, .int .i64 a.l2, .int .i64 a.l3] := (X3.alloc _).ge hb9
  replace X4 : Bx w9 (w4.heap.size) 24 #[.int .i64 (nextT a).e, .int .i64 (nextT a).d, .int .i64 (nextT a).l0, .int .i64 (nextT a).l1, .int .i64 (nextT a).l2, .int .i64 (nextT a).l3] := (X4.alloc _).ge hb9
  replace X5 : Bx w9 (w6.heap.size) 24 #[.int .i64 (enterT b).e, .int .i64 (enterT b).d, .int .i64 (enterT b).l0, .int .i64 (enterT b).l1, .int .i64 (enterT b).l2, .int .i64 (enterT b).l3] := (X5.alloc _).ge hb9
  replace X6 : Bx w9 (w7.heap.size) 24 #[.int .i64 (nextT b).e, .int .i64 (nextT b).d, .int .i64 (nextT b).l0, .int .i64 (nextT b).l1, .int .i64 (nextT b).l2, .int .i64 (nextT b).l3] := (X6.alloc _).ge hb9
  have X7 : Bx w9 (w8.heap.size) 24 #[.int .i64 (leaveT a).e, .int .i64 (leaveT a).d, .int .i64 (leaveT a).l0, .int .i64 (leaveT a).l1, .int .i64 (leaveT a).l2, .int .i64 (leaveT a).l3] := ((Bx.new _ _ _ (by simp))).ge hb9
  replace c0 := X0.cell
  replace l0 := X0.lt
  replace c1 := X1.cell
  replace l1 := X1.lt
  replace c2 := X2.cell
  replace l2 := X2.lt
  replace c3 := X3.cell
  replace l3 := X3.lt
  replace c4 := X4.cell
  replace l4 := X4.lt
  replace c5 := X5.cell
  replace l5 := X5.lt
  replace c6 := X6.cell
  replace l6 := X6.lt
  have c7 := X7.cell
  have l7 := X7.lt
  have g9 := Lib.hid hb9
  clear hb9
  go_wp2_with fail
  refine (LEE.out _).mono ?_
  rintro e w10 ⟨rfl, hb10⟩
  replace X0 : Bx w10 (w.heap.size) 24 #[.int .i64 a.e, .int .i64 a.d, .int .i64 a.l0, .int .i64 a.l1, .int .i64 a.l2, .int .i64 a.l3] := (X0.alloc _).ge hb10
  replace X1 : Bx w10 (w.heap.size + 1) 24 #[.int .i64 b.e, .int .i64 b.d, .int .i64 b.l0, .int .i64 b.l1, .int .i64 b.l2, .int .i64 b.l3] := (X1.alloc _).ge hb10
  replace X2 : Bx w10 (w2.heap.size) 24 #[.int .i64 (enterT a).e, .int .i64 (enterT a).d, .int .i64 (enterT a).l0, .int .i64 (enterT a).l1, .int .i64 (enterT a).l2, .int .i64 (enterT a).l3] := (X2.alloc _).ge hb10
  replace X3 : Bx w10 (w3.heap.size) 24 #[.int .i64 a.e, .int .i64 a.d, .int .i64 a.l0, .int .i64 a.l1, .int .i64 a.l2, .int .i64 a.l3] := (X3.alloc _).ge hb10
  replace X4 : Bx w10 (w4.heap.size) 24 #[.int .i64 (nextT a).e, .int .i64 (nextT a).d, .int .i64 (nextT a).l0, .int .i64 (nextT a).l1, .int .i64 (nextT a).l2, .int .i64 (nextT a).l3] := (X4.alloc _).ge hb10
  replace X5 : Bx w10 (w6.heap.size) 24 #[.int .i64 (enterT b).e, .int .i64 (enterT b).d, .int .i64 (enterT b).l0, .int .i64 (enterT b).l1, .int .i64 (enterT b).l2, .int .i64 (enterT b).l3] := (X5.alloc _).ge hb10
  replace X6 : Bx w10 (w7.heap.size) 24 #[.int .i64 (nextT b).e, .int .i64 (nextT b).d, .int .i64 (nextT b).l0, .int .i64 (nextT b).l1, .int .i64 (nextT b).l2, .int .i64 (nextT b).l3] := (X6.alloc _).ge hb10
  replace X7 : Bx w10 (w8.heap.size) 24 #[.int .i64 (leaveT a).e, .int .i64 (leaveT a).d, .int .i64 (leaveT a).l0, .int .i64 (leaveT a).l1, .int .i64 (leaveT a).l2, .int .i64 (leaveT a).l3] := (X7.alloc _).ge hb10
  have X8 : Bx w10 (w9.heap.size) 24 #[.int .i64 (leaveT b).e, .int .i64 (leaveT b).d, .int .i64 (leaveT b).l0, .int .i64 (leaveT b).l1, .int .i64 (leaveT b).l2, .int .i64 (leaveT b).l3] := ((Bx.new _ _ _ (by simp))).ge hb10
  replace c0 := X0.cell
  replace l0 := X0.lt
  replace c1 := X1.cell
  replace l1 := X1.lt
  replace c2 := X2.cell
  replace l2 := X2.lt
  replace c3 := X3.cell
  replace l3 := X3.lt
  replace c4 := X4.cell
  replace l4 := X4.lt
  replace c5 := X5.cell
  replace l5 := X5.lt
  replace c6 := X6.cell
  replace l6 := X6.lt
  replace c7 := X7.cell
  replace l7 := X7.lt
  have c8 := X8.cell
  have l8 := X8.lt
  have g10 := Lib.hid hb10
  clear hb10
  go_wp2
  go_ret
  exact ⟨rfl, ((((((((((((((((((((Ge.refl w).alloc _).alloc _).trans g1.out).trans g2.out).alloc _).trans g3.out).alloc _).trans g4.out).alloc _).trans g5.out).trans g6.out).alloc _).trans g7.out).alloc _).trans g8.out).alloc _).trans g9.out).alloc _).trans g10.out)⟩

set_option maxHeartbeats 4000000 in
theorem inout_111A10 (a b : Tm) (w : World) (hE : enterE a = 0) (hG : nextE a = 0) (hL : leqB a b = true) (hM : leqB b (nextT a) = true) (hQ : eqB b a = true) (hI : nextE b = 0) (hJ : leaveE a ≠ 0) :
    Calls Try.prog 3 #[.agg #[.int .i64 a.e, .int .i64 a.d, .int .i64 a.l0, .int .i64 a.l1, .int .i64 a.l2, .int .i64 a.l3], .agg #[.int .i64 b.e, .int .i64 b.d, .int .i64 b.l0, .int .i64 b.l1, .int .i64 b.l2, .int .i64 b.l3]] w fun e w' => e = .returned (.bool true) ∧ Below w.heap.size w w' := by
  have EA := Lib.hid (fun w => by have := enter_any a w; rwa [hE] at this)
  have LE := Lib.hid (fun w => by have := leave_any (enterT a) w; rwa [(leave_enter hE).1, (leave_enter hE).2] at this)
  have q1 := fun w => neq_tm a a w
  simp only [eqB_self, Bool.not_true] at q1
  have NA := Lib.hid (fun w => by have := next_any a w; rwa [hG] at this)
  have LAN := Lib.hid (fun w => by have := leq_any a (nextT a) w; rwa [(leq_next hG).1] at this)
  have LNA := Lib.hid (fun w => by have := leq_any (nextT a) a w; rwa [(leq_next hG).2] at this)
  have LAB := Lib.hid (fun w => by have := leq_any a b w; rwa [hL] at this)
  have LBN := Lib.hid (fun w => by have := leq_any b (nextT a) w; rwa [hM] at this)
  have q2 := fun w => neq_tm b a w
  simp only [hQ, Bool.not_true] at q2
  have hEb := enter_same hL hE
  have EB := Lib.hid (fun w => by have := enter_any b w; rwa [hEb] at this)
  have LEE := Lib.hid (fun w => by have := leq_any (enterT a) (enterT b) w; rwa [le_enter hL hE hEb] at this)
  have NB := Lib.hid (fun w => by have := next_any b w; rwa [hI] at this)
  have LNN := Lib.hid (fun w => by have := leq_any (nextT a) (nextT b) w; rwa [le_next hL hG hI] at this)
  have LVA := Lib.hid (leave_any a)
  have LVB := Lib.hid (leave_any b)
  have j2 : (leaveE a != 0) = true := by simp [hJ]
  clear hE hG hL hM hQ hEb hI hJ
  go_enter Try.func3, Try.ntmps3
  go_wp2_with fail
  refine (live_any _).mono ?_
  rintro e w1 ⟨rfl, hb1⟩
  have X0 : Bx w1 (w.heap.size) 24 #[.int .i64 a.e, .int .i64 a.d, .int .i64 a.l0, .int .i64 a.l1, .int .i64 a.l2, .int .i64 a.l3] := ((Bx.new _ _ _ (by simp)).alloc _).ge hb1
  have X1 : Bx w1 (w.heap.size + 1) 24 #[.int .i64 b.e, .int .i64 b.d, .int .i64 b.l0, .int .i64 b.l1, .int .i64 b.l2, .int .i64 b.l3] := ((Bx.new _ _ _ (by simp))).ge hb1
  have c0 := X0.cell
  have l0 := X0.lt
  have c1 := X1.cell
  have l1 := X1.lt
  have g1 := Lib.hid hb1
  clear hb1
  go_wp2_with fail
  refine (EA.out _).mono ?_
  rintro e w2 ⟨rfl, hb2⟩
  replace X0 : Bx w2 (w.heap.size) 24 #[.int .i64 a.e, .int .i64 a.d, .int .i64 a.l0, .int .i64 a.l1, .int .i64 a.l2, .int .i64 a.l3] := (X0).ge hb2
  replace X1 : Bx w2 (w.heap.size + 1) 24 #[.int .i64 b.e, .int .i64 b.d, .int .i64 b.l0, .int .i64 b.l1, .int .i64 b.l2, .int .i64 b.l3] := (X1).ge hb2
  replace c0 := X0.cell
  replace l0 := X0.lt
  replace c1 := X1.cell
  replace l1 := X1.lt
  have g2 := Lib.hid hb2
  clear hb2
  go_wp2_with fail
  refine (LE.out _).mono ?_
  rintro e w3 ⟨rfl, hb3⟩
  replace X0 : Bx w3 (w.heap.size) 24 #[.int .i64 a.e, .int .i64 a.d, .int .i64 a.l0, .int .i64 a.l1, .int .i64 a.l2, .int .i64 a.l3] := (X0.alloc _).ge hb3
  replace X1 : Bx w3 (w.heap.size + 1) 24 #[.int .i64 b.e, .int .i64 b.d, .int .i64 b.l0, .int .i64 b.l1, .int .i64 b.l2, .int .i64 b.l3] := (X1.alloc _).ge hb3
  have X2 : Bx w3 (w2.heap.size) 24 #[.int .i64 (enterT a).e, .int .i64 (enterT a).d, .int .i64 (enterT a).l0, .int .i64 (enterT a).l1, .int .i64 (enterT a).l2, .int .i64 (enterT a).l3] := ((Bx.new _ _ _ (by simp))).ge hb3
  replace c0 := X0.cell
  replace l0 := X0.lt
  replace c1 := X1.cell
  replace l1 := X1.lt
  have c2 := X2.cell
  have l2 := X2.lt
  have g3 := Lib.hid hb3
  clear hb3
  go_wp2_with fail
  refine (NA.out _).mono ?_
  rintro e w4 ⟨rfl, hb4⟩
  replace X0 : Bx w4 (w.heap.size) 24 #[.int .i64 a.e, .int .i64 a.d, .int .i64 a.l0, .int .i64 a.l1, .int .i64 a.l2, .int .i64 a.l3] := (X0.alloc _).ge hb4
  replace X1 : Bx w4 (w.heap.size + 1) 24 #[.int .i64 b.e, .int .i64 b.d, .int .i64 b.l0, .int .i64 b.l1, .int .i64 b.l2, .int .i64 b.l3] := (X1.alloc _).ge hb4
  replace X2 : Bx w4 (w2.heap.size) 24 #[.int .i64 (enterT a).e, .int .i64 (enterT a).d, .int .i64 (enterT a).l0, .int .i64 (enterT a).l1, .int .i64 (enterT a).l2, .int .i64 (enterT a).l3] := (X2.alloc _).ge hb4
  have X3 : Bx w4 (w3.heap.size) 24 #[.int .i64 a.e, .int .i64 a.d, .int .i64 a.l0, .int .i64 a.l1, .int .i64 a.l2, .int .i64 a.l3] := ((Bx.new _ _ _ (by simp))).ge hb4
  replace c0 := X0.cell
  replace l0 := X0.lt
  replace c1 := X1.cell
  replace l1 := X1.lt
  replace c2 := X2.cell
  replace l2 := X2.lt
  have c3 := X3.cell
  have l3 := X3.lt
  have g4 := Lib.hid hb4
  clear hb4
  go_wp2_with fail
  refine (LAN.out _).mono ?_
  rintro e w5 ⟨rfl, hb5⟩
  replace X0 : Bx w5 (w.heap.size) 24 #[.int .i64 a.e, .int .i64 a.d, .int .i64 a.l0, .int .i64 a.l1, .int .i64 a.l2, .int .i64 a.l3] := (X0.alloc _).ge hb5
  replace X1 : Bx w5 (w.heap.size + 1) 24 #[.int .i64 b.e, .int .i64 b.d, .int .i64 b.l0, .int .i64 b.l1, .int .i64 b.l2, .int .i64 b.l3] := (X1.alloc _).ge hb5
  replace X2 : Bx w5 (w2.heap.size) 24 #[.int .i64 (enterT a).e, .int .i64 (enterT a).d, .int .i64 (enterT a).l0, .int .i64 (enterT a).l1, .int .i64 (enterT a).l2, .int .i64 (enterT a).l3] := (X2.alloc _).ge hb5
  replace X3 : Bx w5 (w3.heap.size) 24 #[.int .i64 a.e, .int .i64 a.d, .int .i64 a.l0, .int .i64 a.l1, .int .i64 a.l2, .int .i64 a.l3] := (X3.alloc _).ge hb5
  have X4 : Bx w5 (w4.heap.size) 24 #[.int .i64 (nextT a).e, .int .i64 (nextT a).d, .int .i64 (nextT a).l0, .int .i64 (nextT a).l1, .int .i64 (nextT a).l2, .int .i64 (nextT a).l3] := ((Bx.new _ _ _ (by simp))).ge hb5
  replace c0 := X0.cell
  replace l0 := X0.lt
  replace c1 := X1.cell
  replace l1 := X1.lt
  replace c2 := X2.cell
  replace l2 := X2.lt
  replace c3 := X3.cell
  replace l3 := X3.lt
  have c4 := X4.cell
  have l4 := X4.lt
  have g5 := Lib.hid hb5
  clear hb5
  go_wp2_with fail
  refine (LNA.out _).mono ?_
  rintro e w6 ⟨rfl, hb6⟩
  replace X0 : Bx w6 (w.heap.size) 24 #[.int .i64 a.e, .int .i64 a.d, .int .i64 a.l0, .int .i64 a.l1, .int .i64 a.l2, .int .i64 a.l3] := (X0).ge hb6
  replace X1 : Bx w6 (w.heap.size + 1) 24 #[.int .i64 b.e, .int .i64 b.d, .int .i64 b.l0, .int .i64 b.l1, .int .i64 b.l2, .int .i64 b.l3] := (X1).ge hb6
  replace X2 : Bx w6 (w2.heap.size) 24 #[.int .i64 (enterT a).e, .int .i64 (enterT a).d, .int .i64 (enterT a).l0, .int .i64 (enterT a).l1, .int .i64 (enterT a).l2, .int .i64 (enterT a).l3] := (X2).ge hb6
  replace X3 : Bx w6 (w3.heap.size) 24 #[.int .i64 a.e, .int .i64 a.d, .int .i64 a.l0, .int .i64 a.l1, .int .i64 a.l2, .int .i64 a.l3] := (X3).ge hb6
  replace X4 : Bx w6 (w4.heap.size) 24 #[.int .i64 (nextT a).e, .int .i64 (nextT a).d, .int .i64 (nextT a).l0, .int .i64 (nextT a).l1, .int .i64 (nextT a).l2, .int .i64 (nextT a).l3] := (X4).ge hb6
  replace c0 := X0.cell
  replace l0 := X0.lt
  replace c1 := X1.cell
  replace l1 := X1.lt
  replace c2 := X2.cell
  replace l2 := X2.lt
  replace c3 := X3.cell
  replace l3 := X3.lt
  replace c4 := X4.cell
  replace l4 := X4.lt
  have g6 := Lib.hid hb6
  clear hb6
  go_wp2_with fail
  refine (LAB.out _).mono ?_
  rintro e w7 ⟨rfl, hb7⟩
  replace X0 : Bx w7 (w.heap.size) 24 #[.int .i64 a.e, .int .i64 a.d, .int .i64 a.l0, .int .i64 a.l1, .int .i64 a.l2, .int .i64 a.l3] := (X0).ge hb7
  replace X1 : Bx w7 (w.heap.size + 1) 24 #[.int .i64 b.e, .int .i64 b.d, .int .i64 b.l0, .int .i64 b.l1, .int .i64 b.l2, .int .i64 b.l3] := (X1).ge hb7
  replace X2 : Bx w7 (w2.heap.size) 24 #[.int .i64 (enterT a).e, .int .i64 (enterT a).d, .int .i64 (enterT a).l0, .int .i64 (enterT a).l1, .int .i64 (enterT a).l2, .int .i64 (enterT a).l3] := (X2).ge hb7
  replace X3 : Bx w7 (w3.heap.size) 24 #[.int .i64 a.e, .int .i64 a.d, .int .i64 a.l0, .int .i64 a.l1, .int .i64 a.l2, .int .i64 a.l3] := (X3).ge hb7
  replace X4 : Bx w7 (w4.heap.size) 24 #[.int .i64 (nextT a).e, .int .i64 (nextT a).d, .int .i64 (nextT a).l0, .int .i64 (nextT a).l1, .int .i64 (nextT a).l2, .int .i64 (nextT a).l3] := (X4).ge hb7
  replace c0 := X0.cell
  replace l0 := X0.lt
  replace c1 := X1.cell
  replace l1 := X1.lt
  replace c2 := X2.cell
  replace l2 := X2.lt
  replace c3 := X3.cell
  replace l3 := X3.lt
  replace c4 := X4.cell
  replace l4 := X4.lt
  have g7 := Lib.hid hb7
  clear hb7
  go_wp2_with fail
  refine (LBN.out _).mono ?_
  rintro e w8 ⟨rfl, hb8⟩
  replace X0 : Bx w8 (w.heap.size) 24 #[.int .i64 a.e, .int .i64 a.d, .int .i64 a.l0, .int .i64 a.l1, .int .i64 a.l2, .int .i64 a.l3] := (X0).ge hb8
  replace X1 : Bx w8 (w.heap.size + 1) 24 #[.int .i64 b.e, .int .i64 b.d, .int .i64 b.l0, .int .i64 b.l1, .int .i64 b.l2, .int .i64 b.l3] := (X1).ge hb8
  replace X2 : Bx w8 (w2.heap.size) 24 #[.int .i64 (enterT a).e, .int .i64 (enterT a).d, .int .i64 (enterT a).l0, .int .i64 (enterT a).l1, .int .i64 (enterT a).l2, .int .i64 (enterT a).l3] := (X2).ge hb8
  replace X3 : Bx w8 (w3.heap.size) 24 #[.int .i64 a.e, .int .i64 a.d, .int .i64 a.l0, .int .i64 a.l1, .int .i64 a.l2, .int .i64 a.l3] := (X3).ge hb8
  replace X4 : Bx w8 (w4.heap.size) 24 #[.int .i64 (nextT a).e, .int .i64 (nextT a).d, .int .i64 (nextT a).l0, .int .i64 (nextT a).l1, .int .i64 (nextT a).l2, .int .i64 (nextT a).l3] := (X4).ge hb8
  replace c0 := X0.cell
  replace l0 := X0.lt
  replace c1 := X1.cell
  replace l1 := X1.lt
  replace c2 := X2.cell
  replace l2 := X2.lt
  replace c3 := X3.cell
  replace l3 := X3.lt
  replace c4 := X4.cell
  replace l4 := X4.lt
  have g8 := Lib.hid hb8
  clear hb8
  go_wp2_with fail
  refine (LAB.out _).mono ?_
  rintro e w9 ⟨rfl, hb9⟩
  replace X0 : Bx w9 (w.heap.size) 24 #[.int .i64 a.e, .int .i64 a.d, .int .i64 a.l0, .int .i64 a.l1, .int .i64 a.l2, .int .i64 a.l3] := (X0).ge hb9
  replace X1 : Bx w9 (w.heap.size + 1) 24 #[.int .i64 b.e, .int .i64 b.d, .int .i64 b.l0, .int .i64 b.l1, .int .i64 b.l2, .int .i64 b.l3] := (X1).ge hb9
  replace X2 : Bx w9 (w2.heap.size) 24 #[.int .i64 (enterT a).e, .int .i64 (enterT a).d, .int .i64 (enterT a).l0, .int .i64 (enterT a).l1, .int .i64 (enterT a).l2, .int .i64 (enterT a).l3] := (X2).ge hb9
  replace X3 : Bx w9 (w3.heap.size) 24 #[.int .i64 a.e, .int .i64 a.d, .int .i64 a.l0, .int .i64 a.l1, .int .i64 a.l2, .int .i64 a.l3] := (X3).ge hb9
  replace X4 : Bx w9 (w4.heap.size) 24 #[.int .i64 (nextT a).e, .int .i64 (nextT a).d, .int .i64 (nextT a).l0, .int .i64 (nextT a).l1, .int .i64 (nextT a).l2, .int .i64 (nextT a).l3] := (X4).ge hb9
  replace c0 := X0.cell
  replace l0 := X0.lt
  replace c1 := X1.cell
  replace l1 := X1.lt
  replace c2 := X2.cell
  replace l2 := X2.lt
  replace c3 := X3.cell
  replace l3 := X3.lt
  replace c4 := X4.cell
  replace l4 := X4.lt
  have g9 := Lib.hid hb9
  clear hb9
  go_wp2_with fail
  refine (EB.out _).mono ?_
  rintro e w10 ⟨rfl, hb10⟩
  replace X0 : Bx w10 (w.heap.size) 24 #[.int .i64 a.e, .int .i64 a.d, .int .i64 a.l0, .int .i64 a.l1, .int .i64 a.l2, .int .i64 a.l3] := (X0).ge hb10
  replace X1 : Bx w10 (w.heap.size + 1) 24 #[.int .i64 b.e, .int .i64 b.d, .int .i64 b.l0, .int .i64 b.l1, .int .i64 b.l2, .int .i64 b.l3] := (X1).ge hb10
  replace X2 : Bx w10 (w2.heap.size) 24 #[.int .i64 (enterT a).e, .int .i64 (enterT a).d, .int .i64 (enterT a).l0, .int .i64 (enterT a).l1, .int .i64 (enterT a).l2, .int .i64 (enterT a).l3] := (X2).ge hb10
  replace X3 : Bx w10 (w3.heap.size) 24 #[.int .i64 a.e, .int .i64 a.d, .int .i64 a.l0, .int .i64 a.l1, .int .i64 a.l2, .int .i64 a.l3] := (X3).ge hb10
  replace X4 : Bx w10 (w4.heap.size) 24 #[.int .i64 (nextT a).e, .int .i64 (nextT a).d, .int .i64 (nextT a).l0, .int .i64 (nextT a).l1, .int .i64 (nextT a).l2, .int .i64 (nextT a).l3] := (X4).ge hb10
  replace c0 := X0.cell
  replace l0 := X0.lt
  replace c1 := X1.cell
  replace l1 := X1.lt
  replace c2 := X2.cell
  replace l2 := X2.lt
  replace c3 := X3.cell
  replace l3 := X3.lt
  replace c4 := X4.cell
  replace l4 := X4.lt
  have g10 := Lib.hid hb10
  clear hb10
  go_wp2_with fail
  refine (NB.out _).mono ?_
  rintro e w11 ⟨rfl, hb11⟩
  replace X0 : Bx w11 (w.heap.size) 24 #[.int .i64 a.e, .int .i64 a.d, .int .i64 a.l0, .int .i64 a.l1, .int .i64 a.l2, .int .i64 a.l3] := (X0.alloc _).ge hb11
  replace X1 : Bx w11 (w.heap.size + 1) 24 #[.int .i64 b.e, .int .i64 b.d, .int .i64 b.l0, .int .i64 b.l1, .int .i64 b.l2, .int .i64 b.l3] := (X1.alloc _).ge hb11
  replace X2 : Bx w11 (w2.heap.size) 24 #[.int .i64 (enterT a).e, .int .i64 (enterT a).d, .int .i64 (enterT a).l0, .int .i64 (enterT a).l1, .int .i64 (enterT a).l2, .int .i64 (enterT a).l3] := (X2.alloc _).ge hb11
  replace X3 : Bx w11 (w3.heap.size) 24 #[.int .i64 a.e, .int .i64 a.d, .int .i64 a.l0, .int .i64 a.l1, .int .i64 a.l2, .int .i64 a.l3] := (X3.alloc _).ge hb11
  replace X4 : Bx w11 (w4.heap.size) 24 #[.int .i64 (nextT a).e, .int .i64 (nextT a).d, .int .i64 (nextT a).l0, .int .i64 (nextT a).l1, .int .i64 (nextT a).l2, .int .i64 (nextT a).l3] := (X4.alloc _).ge hb11
  have X5 : Bx w11 (w10.heap.size) 24 #[.int .i64 (enterT b).e, .int .i64 (enterT b).d, .int .i64 (enterT b).l0, .int .i64 (enterT b).l1, .int .i64 (enterT b).l2, .int .i64 (enterT b).l3] := ((Bx.new _ _ _ (by simp))).ge hb11
  replace c0 := X0.cell
  replace l0 := X0.lt
  replace c1 := X1.cell
  replace l1 := X1.lt
  replace c2 := X2.cell
  replace l2 := X2.lt
  replace c3 := X3.cell
  replace l3 := X3.lt
  replace c4 := X4.cell
  replace l4 := X4.lt
  have c5 := X5.cell
  have l5 := X5.lt
  have g11 := Lib.hid hb11
  clear hb11
  go_wp2_with fail
  refine (LVA.out _).mono ?_
  rintro e w12 ⟨rfl, hb12⟩
  replace X0 : Bx w12 (w.heap.size) 24 #[.int .i64 a.e, .int .i64 a.d, .int .i64 a.l0, .int .i64 a.l1, .int .i64 a.l2, .int .i64 a.l3] := (X0.alloc _).ge hb12
  replace X1 : Bx w12 (w.heap.size + 1) 24 #[.int .i64 b.e, .int .i64 b.d, .int .i64 b.l0, .int .i64 b.l1, .int .i64 b.l2, .int .i64 b.l3] := (X1.alloc _).ge hb12
  replace X2 : Bx w12 (w2.heap.size) 24 #[.int .i64 (enterT a).e, .int .i64 (enterT a).d, .int .i64 (enterT a).l0, .int .i64 (enterT a).l1, .int .i64 (enterT a).l2, .int .i64 (enterT a).l3] := (X2.alloc _).ge hb12
  replace X3 : Bx w12 (w3.heap.size) 24 #[.int .i64 a.e, .int .i64 a.d, .int .i64 a.l0, .int .i64 a.l1, .int .i64 a.l2, .int .i64 a.l3] := (X3.alloc _).ge hb12
  replace X4 : Bx w12 (w4.heap.size) 24 #[.int .i64 (nextT a).e, .int .i64 (nextT a).d, .int .i64 (nextT a).l0, .int .i64 (nextT a).l1, .int .i64 (nextT a).l2, .int .i64 (nextT a).l3] := (X4.alloc _).ge hb12
  replace X5 : Bx w12 (w10.heap.size) 24 #[.int .i64 (enterT b).e, .int .i64 (enterT b).d, .int .i64 (enterT b).l0, .int .i64 (enterT b).l1, .int .i64 (enterT b).l2, .int .i64 (enterT b).l3] := (X5.alloc _).ge hb12
  have X6 : Bx w12 (w11.heap.size) 24 #[.int .i64 (nextT b).e, .int .i64 (nextT b).d, .int .i64 (nextT b).l0, .int .i64 (nextT b).l1, .int .i64 (nextT b).l2, .int .i64 (nextT b).l3] := ((Bx.new _ _ _ (by simp))).ge hb12
  replace c0 := X0.cell
  replace l0 := X0.lt
  replace c1 := X1.cell
  replace l1 := X1.lt
  replace c2 := X2.cell
  replace l2 := X2.lt
  replace c3 := X3.cell
  replace l3 := X3.lt
  replace c4 := X4.cell
  replace l4 := X4.lt
  replace c5 := X5.cell
  replace l5 := X5.lt
  have c6 := X6.cell
  have l6 := X6.lt
  have g12 := Lib.hid hb12
  clear hb12
  go_wp2_with fail
  refine (LVB.out _).mono ?_
  rintro e w13 ⟨rfl, hb13⟩
  replace X0 : Bx w13 (w.heap.size) 24 #[.int .i64 a.e, .int .i64 a.d, .int .i64 a.l0, .int .i64 a.l1, .int .i64 a.l2, .int .i64 a.l3] := (X0.alloc _).ge hb13
  replace X1 : Bx w13 (w.heap.size + 1) 24 #[.int .i64 b.e, .int .i64 b.d, .int .i64 b.l0, .int .i64 b.l1, .int .i64 b.l2, .int .i64 b.l3] := (X1.alloc _).ge hb13
  replace X2 : Bx w13 (w2.heap.size) 24 #[.int .i64 (enterT a).e, .int .i64 (enterT a).d, .int .i64 (enterT a).l0, .int .i64 (enterT a).l1, .int .i64 (enterT a).l2, .int .i64 (enterT a).l3] := (X2.alloc _).ge hb13
  replace X3 : Bx w13 (w3.heap.size) 24 #[.int .i64 a.e, .int .i64 a.d, .int .i64 a.l0, .int .i64 a.l1, .int .i64 a.l2, .int .i64 a.l3] := (X3.alloc _).ge hb13
  replace X4 : Bx w13 (w4.heap.size) 24 #[.int .i64 (nextT a).e, .int .i64 (nextT a).d, .int .i64 (nextT a).l0, .int .i64 (nextT a).l1, .int .i64 (nextT a).l2, .int .i64 (nextT a).l3] := (X4.alloc _).ge hb13
  replace X5 : Bx w13 (w10.heap.size) 24 #[.int .i64 (enterT b).e, .int .i64 (enterT b).d, .int .i64 (enterT b).l0, .int .i64 (enterT b).l1, .int .i64 (enterT b).l2, .int .i64 (enterT b).l3] := (X5.alloc _).ge hb13
  replace X6 : Bx w13 (w11.heap.size) 24 #[.int .i64 (nextT b).e, .int .i64 (nextT b).d, .int .i64 (nextT b).l0, .int .i64 (nextT b).l1, .int .i64 (nextT b).l2, .int .i64 (nextT b).l3] := (X6.alloc _).ge hb13
  have X7 : Bx w13 (w12.heap.size) 24 #[.int .i64 (leaveT a).e, .int .i64 (leaveT a).d, .int .i64 (leaveT a).l0, .int .i64 (leaveT a).l1, .int .i64 (leaveT a).l2, .int .i64 (leaveT a).l3] := ((Bx.new _ _ _ (by simp))).ge hb13
  replace c0 := X0.cell
  replace l0 := X0.lt
  replace c1 := X1.cell
  replace l1 := X1.lt
  replace c2 := X2.cell
  replace l2 := X2.lt
  replace c3 := X3.cell
  replace l3 := X3.lt
  replace c4 := X4.cell
  replace l4 := X4.lt
  replace c5 := X5.cell
  replace l5 := X5.lt
  replace c6 := X6.cell
  replace l6 := X6.lt
  have c7 := X7.cell
  have l7 := X7.lt
  have g13 := Lib.hid hb13
  clear hb13
  go_wp2_with fail
  refine (LEE.out _).mono ?_
  rintro e w14 ⟨rfl, hb14⟩
  replace X0 : Bx w14 (w.heap.size) 24 #[.int .i64 a.e, .int .i64 a.d, .int .i64 a.l0, .int .i64 a.l1, .int .i64 a.l2, .int .i64 a.l3] := (X0.alloc _).ge hb14
  replace X1 : Bx w14 (w.heap.size + 1) 24 #[.int .i64 b.e, .int .i64 b.d, .int .i64 b.l0, .int .i64 b.l1, .int .i64 b.l2, .int .i64 b.l3] := (X1.alloc _).ge hb14
  replace X2 : Bx w14 (w2.heap.size) 24 #[.int .i64 (enterT a).e, .int .i64 (enterT a).d, .int .i64 (enterT a).l0, .int .i64 (enterT a).l1, .int .i64 (enterT a).l2, .int .i64 (enterT a).l3] := (X2.alloc _).ge hb14
  replace X3 : Bx w14 (w3.heap.size) 24 #[.int .i64 a.e, .int .i64 a.d, .int .i64 a.l0, .int .i64 a.l1, .int .i64 a.l2, .int .i64 a.l3] := (X3.alloc _).ge hb14
  replace X4 : Bx w14 (w4.heap.size) 24 #[.int .i64 (nextT a).e, .int .i64 (nextT a).d, .int .i64 (nextT a).l0, .int .i64 (nextT a).l1, .int .i64 (nextT a).l2, .int .i64 (nextT a).l3] := (X4.alloc _).ge hb14
  replace X5 : Bx w14 (w10.heap.size) 24 #[.int .i64 (enterT b).e, .int .i64 (enterT b).d, .int .i64 (enterT b).l0, .int .i64 (enterT b).l1, .int .i64 (enterT b).l2, .int .i64 (enterT b).l3] := (X5.alloc _).ge hb14
  replace X6 : Bx w14 (w11.heap.size) 24 #[.int .i64 (nextT b).e, .int .i64 (nextT b).d, .int .i64 (nextT b).l0, .int .i64 (nextT b).l1, .int .i64 (nextT b).l2, .int .i64 (nextT b).l3] := (X6.alloc _).ge hb14
  replace X7 : Bx w14 (w12.heap.size) 24 #[.int .i64 (leaveT a).e, .int .i64 (leaveT a).d, .int .i64 (leaveT a).l0, .int .i64 (leaveT a).l1, .int .i64 (leaveT a).l2, .int .i64 (leaveT a).l3] := (X7.alloc _).ge hb14
  have X8 : Bx w14 (w13.heap.size) 24 #[.int .i64 (leaveT b).e, .int .i64 (leaveT b).d, .int .i64 (leaveT b).l0, .int .i64 (leaveT b).l1, .int .i64 (leaveT b).l2, .int .i64 (leaveT b).l3] := ((Bx.new _ _ _ (by simp))).ge hb14
  replace c0 := X0.cell
  replace l0 := X0.lt
  replace c1 := X1.cell
  replace l1 := X1.lt
  replace c2 := X2.cell
  replace l2 := X2.lt
  replace c3 := X3.cell
  replace l3 := X3.lt
  replace c4 := X4.cell
  replace l4 := X4.lt
  replace c5 := X5.cell
  replace l5 := X5.lt
  replace c6 := X6.cell
  replace l6 := X6.lt
  replace c7 := X7.cell
  replace l7 := X7.lt
  have c8 := X8.cell
  have l8 := X8.lt
  have g14 := Lib.hid hb14
  clear hb14
  go_wp2_with fail
  refine (LNN.out _).mono ?_
  rintro e w15 ⟨rfl, hb15⟩
  replace X0 : Bx w15 (w.heap.size) 24 #[.int .i64 a.e, .int .i64 a.d, .int .i64 a.l0, .int .i64 a.l1, .int .i64 a.l2, .int .i64 a.l3] := (X0).ge hb15
  replace X1 : Bx w15 (w.heap.size + 1) 24 #[.int .i64 b.e, .int .i64 b.d, .int .i64 b.l0, .int .i64 b.l1, .int .i64 b.l2, .int .i64 b.l3] := (X1).ge hb15
  replace X2 : Bx w15 (w2.heap.size) 24 #[.int .i64 (enterT a).e, .int .i64 (enterT a).d, .int .i64 (enterT a).l0, .int .i64 (enterT a).l1, .int .i64 (enterT a).l2, .int .i64 (enterT a).l3] := (X2).ge hb15
  replace X3 : Bx w15 (w3.heap.size) 24 #[.int .i64 a.e, .int .i64 a.d, .int .i64 a.l0, .int .i64 a.l1, .int .i64 a.l2, .int .i64 a.l3] := (X3).ge hb15
  replace X4 : Bx w15 (w4.heap.size) 24 #[.int .i64 (nextT a).e, .int .i64 (nextT a).d, .int .i64 (nextT a).l0, .int .i64 (nextT a).l1, .int .i64 (nextT a).l2, .int .i64 (nextT a).l3] := (X4).ge hb15
  replace X5 : Bx w15 (w10.heap.size) 24 #[.int .i64 (enterT b).e, .int .i64 (enterT b).d, .int .i64 (enterT b).l0, .int .i64 (enterT b).l1, .int .i64 (enterT b).l2, .int .i64 (enterT b).l3] := (X5).ge hb15
  replace X6 : Bx w15 (w11.heap.size) 24 #[.int .i64 (nextT b).e, .int .i64 (nextT b).d, .int .i64 (nextT b).l0, .int .i64 (nextT b).l1, .int .i64 (nextT b).l2, .int .i64 (nextT b).l3] := (X6).ge hb15
  replace X7 : Bx w15 (w12.heap.size) 24 #[.int .i64 (leaveT a).e, .int .i64 (leaveT a).d, .int .i64 (leaveT a).l0, .int .i64 (leaveT a).l1, .int .i64 (leaveT a).l2, .int .i64 (leaveT a).l3] := (X7).ge hb15
  replace X8 : Bx w15 (w13.heap.size) 24 #[.int .i64 (leaveT b).e, .int .i64 (leaveT b).d, .int .i64 (leaveT b).l0, .int .i64 (leaveT b).l1, .int .i64 (leaveT b).l2, .int .i64 (leaveT b).l3] := (X8).ge hb15
  replace c0 := X0.cell
  replace l0 := X0.lt
  replace c1 := X1.cell
  replace l1 := X1.lt
  replace c2 := X2.cell
  replace l2 := X2.lt
  replace c3 := X3.cell
  replace l3 := X3.lt
  replace c4 := X4.cell
  replace l4 := X4.lt
  replace c5 := X5.cell
  replace l5 := X5.lt
  replace c6 := X6.cell
  replace l6 := X6.lt
  replace c7 := X7.cell
  replace l7 := X7.lt
  replace c8 := X8.cell
  replace l8 := X8.lt
  have g15 := Lib.hid hb15
  clear hb15
  go_wp2
  go_ret
  exact ⟨rfl, (((((((((((((((((((((((((Ge.refl w).alloc _).alloc _).trans g1.out).trans g2.out).alloc _).trans g3.out).alloc _).trans g4.out).alloc _).trans g5.out).trans g6.out).trans g7.out).trans g8.out).trans g9.out).trans g10.out).alloc _).trans g11.out).alloc _).trans g12.out).alloc _).trans g13.out).alloc _).trans g14.out).trans g15.out)⟩

set_option maxHeartbeats 4000000 in
theorem inout_111N00 (a b : Tm) (w : World) (hE : enterE a = 0) (hG : nextE a = 0) (hL : leqB a b = true) (hM : leqB b (nextT a) = true) (hQ : eqB b a = false) (hR : eqB b (nextT a) = true) (hI : nextE b ≠ 0) (hJ : leaveE a ≠ 0) :
    Calls Try.prog 3 #[.agg #[.int .i64 a.e, .int .i64 a.d, .int .i64 a.l0, .int .i64 a.l1, .int .i64 a.l2, .int .i64 a.l3], .agg #[.int .i64 b.e, .int .i64 b.d, .int .i64 b.l0, .int .i64 b.l1, .int .i64 b.l2, .int .i64 b.l3]] w fun e w' => e = .returned (.bool true) ∧ Below w.heap.size w w' := by
  have EA := Lib.hid (fun w => by have := enter_any a w; rwa [hE] at this)
  have LE := Lib.hid (fun w => by have := leave_any (enterT a) w; rwa [(leave_enter hE).1, (leave_enter hE).2] at this)
  have q1 := fun w => neq_tm a a w
  simp only [eqB_self, Bool.not_true] at q1
  have NA := Lib.hid (fun w => by have := next_any a w; rwa [hG] at this)
  have LAN := Lib.hid (fun w => by have := leq_any a (nextT a) w; rwa [(leq_next hG).1] at this)
  have LNA := Lib.hid (fun w => by have := leq_any (nextT a) a w; rwa [(leq_next hG).2] at this)
  have LAB := Lib.hid (fun w => by have := leq_any a b w; rwa [hL] at this)
  have LBN := Lib.hid (fun w => by have := leq_any b (nextT a) w; rwa [hM] at this)
  have q2 := fun w => neq_tm b a w
  simp only [hQ, Bool.not_false] at q2
  have q3 := fun w => neq_tm b (nextT a) w
  simp only [hR, Bool.not_true] at q3
  have hEb := enter_same hL hE
  have EB := Lib.hid (fun w => by have := enter_any b w; rwa [hEb] at this)
  have LEE := Lib.hid (fun w => by have := leq_any (enterT a) (enterT b) w; rwa [le_enter hL hE hEb] at this)
  have NB := Lib.hid (next_any b)
  have i2 : (nextE b != 0) = true := by simp [hI]
  have LVA := Lib.hid (leave_any a)
  have LVB := Lib.hid (leave_any b)
  have j2 : (leaveE a != 0) = true := by simp [hJ]
  clear hE hG hL hM hR hQ hEb hI hJ
  go_enter Try.func3, Try.ntmps3
  go_wp2_with fail
  refine (live_any _).mono ?_
  rintro e w1 ⟨rfl, hb1⟩
  have X0 : Bx w1 (w.heap.size) 24 #[.int .i64 a.e, .int .i64 a.d, .int .i64 a.l0, .int .i64 a.l1, .int .i64 a.l2, .int .i64 a.l3] := ((Bx.new _ _ _ (by simp)).alloc _).ge hb1
  have X1 : Bx w1 (w.heap.size + 1) 24 #[.int .i64 b.e, .int .i64 b.d, .int .i64 b.l0, .int .i64 b.l1, .int .i64 b.l2, .int .i64 b.l3] := ((Bx.new _ _ _ (by simp))).ge hb1
  have c0 := X0.cell
  have l0 := X0.lt
  have c1 := X1.cell
  have l1 := X1.lt
  have g1 := Lib.hid hb1
  clear hb1
  go_wp2_with fail
  refine (EA.out _).mono ?_
  rintro e w2 ⟨rfl, hb2⟩
  replace X0 : Bx w2 (w.heap.size) 24 #[.int .i64 a.e, .int .i64 a.d, .int .i64 a.l0, .int .i64 a.l1, .int .i64 a.l2, .int .i64 a.l3] := (X0).ge hb2
  replace X1 : Bx w2 (w.heap.size + 1) 24 #[.int .i64 b.e, .int .i64 b.d, .int .i64 b.l0, .int .i64 b.l1, .int .i64 b.l2, .int .i64 b.l3] := (X1).ge hb2
  replace c0 := X0.cell
  replace l0 := X0.lt
  replace c1 := X1.cell
  replace l1 := X1.lt
  have g2 := Lib.hid hb2
  clear hb2
  go_wp2_with fail
  refine (LE.out _).mono ?_
  rintro e w3 ⟨rfl, hb3⟩
  replace X0 : Bx w3 (w.heap.size) 24 #[.int .i64 a.e, .int .i64 a.d, .int .i64 a.l0, .int .i64 a.l1, .int .i64 a.l2, .int .i64 a.l3] := (X0.alloc _).ge hb3
  replace X1 : Bx w3 (w.heap.size + 1) 24 #[.int .i64 b.e, .int .i64 b.d, .int .i64 b.l0, .int .i64 b.l1, .int .i64 b.l2, .int .i64 b.l3] := (X1.alloc _).ge hb3
  have X2 : Bx w3 (w2.heap.size) 24 #[.int .i64 (enterT a).e, .int .i64 (enterT a).d, .int .i64 (enterT a).l0, .int .i64 (enterT a).l1, .int .i64 (enterT a).l2, .int .i64 (enterT a).l3] := ((Bx.new _ _ _ (by simp))).ge hb3
  replace c0 := X0.cell
  replace l0 := X0.lt
  replace c1 := X1.cell
  replace l1 := X1.lt
  have c2 := X2.cell
  have l2 := X2.lt
  have g3 := Lib.hid hb3
  clear hb3
  go_wp2_with fail
  refine (NA.out _).mono ?_
  rintro e w4 ⟨rfl, hb4⟩
  replace X0 : Bx w4 (w.heap.size) 24 #[.int .i64 a.e, .int .i64 a.d, .int .i64 a.l0, .int .i64 a.l1, .int .i64 a.l2, .int .i64 a.l3] := (X0.alloc _).ge hb4
  replace X1 : Bx w4 (w.heap.size + 1) 24 #[.int .i64 b.e, .int .i64 b.d, .int .i64 b.l0, .int .i64 b.l1, .int .i64 b.l2, .int .i64 b.l3] := (X1.alloc _).ge hb4
  replace X2 : Bx w4 (w2.heap.size) 24 #[.int .i64 (enterT a).e, .int .i64 (enterT a).d, .int .i64 (enterT a).l0, .int .i64 (enterT a).l1, .int .i64 (enterT a).l2, .int .i64 (enterT a).l3] := (X2.alloc _).ge hb4
  have X3 : Bx w4 (w3.heap.size) 24 #[.int .i64 a.e, .int .i64 a.d, .int .i64 a.l0, .int .i64 a.l1, .int .i64 a.l2, .int .i64 a.l3] := ((Bx.new _ _ _ (by simp))).ge hb4
  replace c0 := X0.cell
  replace l0 := X0.lt
  replace c1 := X1.cell
  replace l1 := X1.lt
  replace c2 := X2.cell
  replace l2 := X2.lt
  have c3 := X3.cell
  have l3 := X3.lt
  have g4 := Lib.hid hb4
  clear hb4
  go_wp2_with fail
  refine (LAN.out _).mono ?_
  rintro e w5 ⟨rfl, hb5⟩
  replace X0 : Bx w5 (w.heap.size) 24 #[.int .i64 a.e, .int .i64 a.d, .int .i64 a.l0, .int .i64 a.l1, .int .i64 a.l2, .int .i64 a.l3] := (X0.alloc _).ge hb5
  replace X1 : Bx w5 (w.heap.size + 1) 24 #[.int .i64 b.e, .int .i64 b.d, .int .i64 b.l0, .int .i64 b.l1, .int .i64 b.l2, .int .i64 b.l3] := (X1.alloc _).ge hb5
  replace X2 : Bx w5 (w2.heap.size) 24 #[.int .i64 (enterT a).e, .int .i64 (enterT a).d, .int .i64 (enterT a).l0, .int .i64 (enterT a).l1, .int .i64 (enterT a).l2, .int .i64 (enterT a).l3] := (X2.alloc _).ge hb5
  replace X3 : Bx w5 (w3.heap.size) 24 #[.int .i64 a.e, .int .i64 a.d, .int .i64 a.l0, .int .i64 a.l1, .int .i64 a.l2, .int .i64 a.l3] := (X3.alloc _).ge hb5
  have X4 : Bx w5 (w4.heap.size) 24 #[.int .i64 (nextT a).e, .int .i64 (nextT a).d, .int .i64 (nextT a).l0, .int .i64 (nextT a).l1, .int .i64 (nextT a).l2, .int .i64 (nextT a).l3] := ((Bx.new _ _ _ (by simp))).ge hb5
  replace c0 := X0.cell
  replace l0 := X0.lt
  replace c1 := X1.cell
  replace l1 := X1.lt
  replace c2 := X2.cell
  replace l2 := X2.lt
  replace c3 := X3.cell
  replace l3 := X3.lt
  have c4 := X4.cell
  have l4 := X4.lt
  have g5 := Lib.hid hb5
  clear hb5
  go_wp2_with fail
  refine (LNA.out _).mono ?_
  rintro e w6 ⟨rfl, hb6⟩
  replace X0 : Bx w6 (w.heap.size) 24 #[.int .i64 a.e, .int .i64 a.d, .int .i64 a.l0, .int .i64 a.l1, .int .i64 a.l2, .int .i64 a.l3] := (X0).ge hb6
  replace X1 : Bx w6 (w.heap.size + 1) 24 #[.int .i64 b.e, .int .i64 b.d, .int .i64 b.l0, .int .i64 b.l1, .int .i64 b.l2, .int .i64 b.l3] := (X1).ge hb6
  replace X2 : Bx w6 (w2.heap.size) 24 #[.int .i64 (enterT a).e, .int .i64 (enterT a).d, .int .i64 (enterT a).l0, .int .i64 (enterT a).l1, .int .i64 (enterT a).l2, .int .i64 (enterT a).l3] := (X2).ge hb6
  replace X3 : Bx w6 (w3.heap.size) 24 #[.int .i64 a.e, .int .i64 a.d, .int .i64 a.l0, .int .i64 a.l1, .int .i64 a.l2, .int .i64 a.l3] := (X3).ge hb6
  replace X4 : Bx w6 (w4.heap.size) 24 #[.int .i64 (nextT a).e, .int .i64 (nextT a).d, .int .i64 (nextT a).l0, .int .i64 (nextT a).l1, .int .i64 (nextT a).l2, .int .i64 (nextT a).l3] := (X4).ge hb6
  replace c0 := X0.cell
  replace l0 := X0.lt
  replace c1 := X1.cell
  replace l1 := X1.lt
  replace c2 := X2.cell
  replace l2 := X2.lt
  replace c3 := X3.cell
  replace l3 := X3.lt
  replace c4 := X4.cell
  replace l4 := X4.lt
  have g6 := Lib.hid hb6
  clear hb6
  go_wp2_with fail
  refine (LAB.out _).mono ?_
  rintro e w7 ⟨rfl, hb7⟩
  replace X0 : Bx w7 (w.heap.size) 24 #[.int .i64 a.e, .int .i64 a.d, .int .i64 a.l0, .int .i64 a.l1, .int .i64 a.l2, .int .i64 a.l3] := (X0).ge hb7
  replace X1 : Bx w7 (w.heap.size + 1) 24 #[.int .i64 b.e, .int .i64 b.d, .int .i64 b.l0, .int .i64 b.l1, .int .i64 b.l2, .int .i64 b.l3] := (X1).ge hb7
  replace X2 : Bx w7 (w2.heap.size) 24 #[.int .i64 (enterT a).e, .int .i64 (enterT a).d, .int .i64 (enterT a).l0, .int .i64 (enterT a).l1, .int .i64 (enterT a).l2, .int .i64 (enterT a).l3] := (X2).ge hb7
  replace X3 : Bx w7 (w3.heap.size) 24 #[.int .i64 a.e, .int .i64 a.d, .int .i64 a.l0, .int .i64 a.l1, .int .i64 a.l2, .int .i64 a.l3] := (X3).ge hb7
  replace X4 : Bx w7 (w4.heap.size) 24 #[.int .i64 (nextT a).e, .int .i64 (nextT a).d, .int .i64 (nextT a).l0, .int .i64 (nextT a).l1, .int .i64 (nextT a).l2, .int .i64 (nextT a).l3] := (X4).ge hb7
  replace c0 := X0.cell
  replace l0 := X0.lt
  replace c1 := X1.cell
  replace l1 := X1.lt
  replace c2 := X2.cell
  replace l2 := X2.lt
  replace c3 := X3.cell
  replace l3 := X3.lt
  replace c4 := X4.cell
  replace l4 := X4.lt
  have g7 := Lib.hid hb7
  clear hb7
  go_wp2_with fail
  refine (LBN.out _).mono ?_
  rintro e w8 ⟨rfl, hb8⟩
  replace X0 : Bx w8 (w.heap.size) 24 #[.int .i64 a.e, .int .i64 a.d, .int .i64 a.l0, .int .i64 a.l1, .int .i64 a.l2, .int .i64 a.l3] := (X0).ge hb8
  replace X1 : Bx w8 (w.heap.size + 1) 24 #[.int .i64 b.e, .int .i64 b.d, .int .i64 b.l0, .int .i64 b.l1, .int .i64 b.l2, .int .i64 b.l3] := (X1).ge hb8
  replace X2 : Bx w8 (w2.heap.size) 24 #[.int .i64 (enterT a).e, .int .i64 (enterT a).d, .int .i64 (enterT a).l0, .int .i64 (enterT a).l1, .int .i64 (enterT a).l2, .int .i64 (enterT a).l3] := (X2).ge hb8
  replace X3 : Bx w8 (w3.heap.size) 24 #[.int .i64 a.e, .int .i64 a.d, .int .i64 a.l0, .int .i64 a.l1, .int .i64 a.l2, .int .i64 a.l3] := (X3).ge hb8
  replace X4 : Bx w8 (w4.heap.size) 24 #[.int .i64 (nextT a).e, .int .i64 (nextT a).d, .int .i64 (nextT a).l0, .int .i64 (nextT a).l1, .int .i64 (nextT a).l2, .int .i64 (nextT a).l3] := (X4).ge hb8
  replace c0 := X0.cell
  replace l0 := X0.lt
  replace c1 := X1.cell
  replace l1 := X1.lt
  replace c2 := X2.cell
  replace l2 := X2.lt
  replace c3 := X3.cell
  replace l3 := X3.lt
  replace c4 := X4.cell
  replace l4 := X4.lt
  have g8 := Lib.hid hb8
  clear hb8
  go_wp2_with fail
  refine (LAB.out _).mono ?_
  rintro e w9 ⟨rfl, hb9⟩
  replace X0 : Bx w9 (w.heap.size) 24 #[.int .i64 a.e, .int .i64 a.d, .int .i64 a.l0, .int .i64 a.l1, .int .i64 a.l2, .int .i64 a.l3] := (X0).ge hb9
  replace X1 : Bx w9 (w.heap.size + 1) 24 #[.int .i64 b.e, .int .i64 b.d, .int .i64 b.l0, .int .i64 b.l1, .int .i64 b.l2, .int .i64 b.l3] := (X1).ge hb9
  replace X2 : Bx w9 (w2.heap.size) 24 #[.int .i64 (enterT a).e, .int .i64 (enterT a).d, .int .i64 (enterT a).l0, .int .i64 (enterT a).l1, .int .i64 (enterT a).l2, .int .i64 (enterT a).l3] := (X2).ge hb9
  replace X3 : Bx w9 (w3.heap.size) 24 #[.int .i64 a.e, .int .i64 a.d, .int .i64 a.l0, .int .i64 a.l1, .int .i64 a.l2, .int .i64 a.l3] := (X3).ge hb9
  replace X4 : Bx w9 (w4.heap.size) 24 #[.int .i64 (nextT a).e, .int .i64 (nextT a).d, .int .i64 (nextT a).l0, .int .i64 (nextT a).l1, .int .i64 (nextT a).l2, .int .i64 (nextT a).l3] := (X4).ge hb9
  replace c0 := X0.cell
  replace l0 := X0.lt
  replace c1 := X1.cell
  replace l1 := X1.lt
  replace c2 := X2.cell
  replace l2 := X2.lt
  replace c3 := X3.cell
  replace l3 := X3.lt
  replace c4 := X4.cell
  replace l4 := X4.lt
  have g9 := Lib.hid hb9
  clear hb9
  go_wp2_with fail
  refine (EB.out _).mono ?_
  rintro e w10 ⟨rfl, hb10⟩
  replace X0 : Bx w10 (w.heap.size) 24 #[.int .i64 a.e, .int .i64 a.d, .int .i64 a.l0, .int .i64 a.l1, .int .i64 a.l2, .int .i64 a.l3] := (X0).ge hb10
  replace X1 : Bx w10 (w.heap.size + 1) 24 #[.int .i64 b.e, .int .i64 b.d, .int .i64 b.l0, .int .i64 b.l1, .int .i64 b.l2, .int .i64 b.l3] := (X1).ge hb10
  replace X2 : Bx w10 (w2.heap.size) 24 #[.int .i64 (enterT a).e, .int .i64 (enterT a).d, .int .i64 (enterT a).l0, .int .i64 (enterT a).l1, .int .i64 (enterT a).l2, .int .i64 (enterT a).l3] := (X2).ge hb10
  replace X3 : Bx w10 (w3.heap.size) 24 #[.int .i64 a.e, .int .i64 a.d, .int .i64 a.l0, .int .i64 a.l1, .int .i64 a.l2, .int .i64 a.l3] := (X3).ge hb10
  replace X4 : Bx w10 (w4.heap.size) 24 #[.int .i64 (nextT a).e, .int .i64 (nextT a).d, .int .i64 (nextT a).l0, .int .i64 (nextT a).l1, .int .i64 (nextT a).l2, .int .i64 (nextT a).l3] := (X4).ge hb10
  replace c0 := X0.cell
  replace l0 := X0.lt
  replace c1 := X1.cell
  replace l1 := X1.lt
  replace c2 := X2.cell
  replace l2 := X2.lt
  replace c3 := X3.cell
  replace l3 := X3.lt
  replace c4 := X4.cell
  replace l4 := X4.lt
  have g10 := Lib.hid hb10
  clear hb10
  go_wp2_with fail
  refine (NB.out _).mono ?_
  rintro e w11 ⟨rfl, hb11⟩
  replace X0 : Bx w11 (w.heap.size) 24 #[.int .i64 a.e, .int .i64 a.d, .int .i64 a.l0, .int .i64 a.l1, .int .i64 a.l2, .int .i64 a.l3] := (X0.alloc _).ge hb11
  replace X1 : Bx w11 (w.heap.size + 1) 24 #[.int .i64 b.e, .int .i64 b.d, .int .i64 b.l0, .int .i64 b.l1, .int .i64 b.l2, .int .i64 b.l3] := (X1.alloc _).ge hb11
  replace X2 : Bx w11 (w2.heap.size) 24 #[.int .i64 (enterT a).e, .int .i64 (enterT a).d, .int .i64 (enterT a).l0, .int .i64 (enterT a).l1, .int .i64 (enterT a).l2, .int .i64 (enterT a).l3] := (X2.alloc _).ge hb11
  replace X3 : Bx w11 (w3.heap.size) 24 #[.int .i64 a.e, .int .i64 a.d, .int .i64 a.l0, .int .i64 a.l1, .int .i64 a.l2, .int .i64 a.l3] := (X3.alloc _).ge hb11
  replace X4 : Bx w11 (w4.heap.size) 24 #[.int .i64 (nextT a).e, .int .i64 (nextT a).d, .int .i64 (nextT a).l0, .int .i64 (nextT a).l1, .int .i64 (nextT a).l2, .int .i64 (nextT a).l3] := (X4.alloc _).ge hb11
  have X5 : Bx w11 (w10.heap.size) 24 #[.int .i64 (enterT b).e, .int .i64 (enterT b).d, .int .i64 (enterT b).l0, .int .i64 (enterT b).l1, .int .i64 (enterT b).l2, .int .i64 (enterT b).l3] := ((Bx.new _ _ _ (by simp))).ge hb11
  replace c0 := X0.cell
  replace l0 := X0.lt
  replace c1 := X1.cell
  replace l1 := X1.lt
  replace c2 := X2.cell
  replace l2 := X2.lt
  replace c3 := X3.cell
  replace l3 := X3.lt
  replace c4 := X4.cell
  replace l4 := X4.lt
  have c5 := X5.cell
  have l5 := X5.lt
  have g11 := Lib.hid hb11
  clear hb11
  go_wp2_with fail
  refine (LVA.out _).mono ?_
  rintro e w12 ⟨rfl, hb12⟩
  replace X0 : Bx w12 (w.heap.size) 24 #[.int .i64 a.e, .int .i64 a.d, .int .i64 a.l0, .int .i64 a.l1, .int .i64 a.l2, .int .i64 a.l3] := (X0.alloc _).ge hb12
  replace X1 : Bx w12 (w.heap.size + 1) 24 #[.int .i64 b.e, .int .i64 b.d, .int .i64 b.l0, .int .i64 b.l1, .int .i64 b.l2, .int .i64 b.l3] := (X1.alloc _).ge hb12
  replace X2 : Bx w12 (w2.heap.size) 24 #[.int .i64 (enterT a).e, .int .i64 (enterT a).d, .int .i64 (enterT a).l0, .int .i64 (enterT a).l1, .int .i64 (enterT a).l2, .int .i64 (enterT a).l3] := (X2.alloc _).ge hb12
  replace X3 : Bx w12 (w3.heap.size) 24 #[.int .i64 a.e, .int .i64 a.d, .int .i64 a.l0, .int .i64 a.l1, .int .i64 a.l2, .int .i64 a.l3] := (X3.alloc _).ge hb12
  replace X4 : Bx w12 (w4.heap.size) 24 #[.int .i64 (nextT a).e, .int .i64 (nextT a).d, .int .i64 (nextT a).l0, .int .i64 (nextT a).l1, .int .i64 (nextT a).l2, .int .i64 (nextT a).l3] := (X4.alloc _).ge hb12
  replace X5 : Bx w12 (w10.heap.size) 24 #[.int .i64 (enterT b).e, .int .i64 (enterT b).d, .int .i64 (enterT b).l0, .int .i64 (enterT b).l1, .int .i64 (enterT b).l2, .int .i64 (enterT b).l3] := (X5.alloc _).ge hb12
  have X6 : Bx w12 (w11.heap.size) 24 #[.int .i64 (nextT b).e, .int .i64 (nextT b).d, .int .i64 (nextT b).l0, .int .i64 (nextT b).l1, .int .i64 (nextT b).l2, .int .i64 (nextT b).l3] := ((Bx.new _ _ _ (by simp))).ge hb12
  replace c0 := X0.cell
  replace l0 := X0.lt
  replace c1 := X1.cell
  replace l1 := X1.lt
  replace c2 := X2.cell
  replace l2 := X2.lt
  replace c3 := X3.cell
  replace l3 := X3.lt
  replace c4 := X4.cell
  replace l4 := X4.lt
  replace c5 := X5.cell
  replace l5 := X5.lt
  have c6 := X6.cell
  have l6 := X6.lt
  have g12 := Lib.hid hb12
  clear hb12
  go_wp2_with fail
  refine (LVB.out _).mono ?_
  rintro e w13 ⟨rfl, hb13⟩
  replace X0 : Bx w13 (w.heap.size) 24 #[.int .i64 a.e, .int .i64 a.d, .int .i64 a.l0, .int .i64 a.l1, .int .i64 a.l2, .int .i64 a.l3] := (X0.alloc _).ge hb13
  replace X1 : Bx w13 (w.heap.size + 1) 24 #[.int .i64 b.e, .int .i64 b.d, .int .i64 b.l0, .int .i64 b.l1, .int .i64 b.l2, .int .i64 b.l3] := (X1.alloc _).ge hb13
  replace X2 : Bx w13 (w2.heap.size) 24 #[.int .i64 (enterT a).e, .int .i64 (enterT a).d, .int .i64 (enterT a).l0, .int .i64 (enterT a).l1, .int .i64 (enterT a).l2, .int .i64 (enterT a).l3] := (X2.alloc _).ge hb13
  replace X3 : Bx w13 (w3.heap.size) 24 #[.int .i64 a.e, .int .i64 a.d, .int .i64 a.l0, .int .i64 a.l1, .int .i64 a.l2, .int .i64 a.l3] := (X3.alloc _).ge hb13
  replace X4 : Bx w13 (w4.heap.size) 24 #[.int .i64 (nextT a).e, .int .i64 (nextT a).d, .int .i64 (nextT a).l0, .int .i64 (nextT a).l1, .int .i64 (nextT a).l2, .int .i64 (nextT a).l3] := (X4.alloc _).ge hb13
  replace X5 : Bx w13 (w10.heap.size) 24 #[.int .i64 (enterT b).e, .int .i64 (enterT b).d, .int .i64 (enterT b).l0, .int .i64 (enterT b).l1, .int .i64 (enterT b).l2, .int .i64 (enterT b).l3] := (X5.alloc _).ge hb13
  replace X6 : Bx w13 (w11.heap.size) 24 #[.int .i64 (nextT b).e, .int .i64 (nextT b).d, .int .i64 (nextT b).l0, .int .i64 (nextT b).l1, .int .i64 (nextT b).l2, .int .i64 (nextT b).l3] := (X6.alloc _).ge hb13
  have X7 : Bx w13 (w12.heap.size) 24 #[.int .i64 (leaveT a).e, .int .i64 (leaveT a).d, .int .i64 (leaveT a).l0, .int .i64 (leaveT a).l1, .int .i64 (leaveT a).l2, .int .i64 (leaveT a).l3] := ((Bx.new _ _ _ (by simp))).ge hb13
  replace c0 := X0.cell
  replace l0 := X0.lt
  replace c1 := X1.cell
  replace l1 := X1.lt
  replace c2 := X2.cell
  replace l2 := X2.lt
  replace c3 := X3.cell
  replace l3 := X3.lt
  replace c4 := X4.cell
  replace l4 := X4.lt
  replace c5 := X5.cell
  replace l5 := X5.lt
  replace c6 := X6.cell
  replace l6 := X6.lt
  have c7 := X7.cell
  have l7 := X7.lt
  have g13 := Lib.hid hb13
  clear hb13
  go_wp2_with fail
  refine (LEE.out _).mono ?_
  rintro e w14 ⟨rfl, hb14⟩
  replace X0 : Bx w14 (w.heap.size) 24 #[.int .i64 a.e, .int .i64 a.d, .int .i64 a.l0, .int .i64 a.l1, .int .i64 a.l2, .int .i64 a.l3] := (X0.alloc _).ge hb14
  replace X1 : Bx w14 (w.heap.size + 1) 24 #[.int .i64 b.e, .int .i64 b.d, .int .i64 b.l0, .int .i64 b.l1, .int .i64 b.l2, .int .i64 b.l3] := (X1.alloc _).ge hb14
  replace X2 : Bx w14 (w2.heap.size) 24 #[.int .i64 (enterT a).e, .int .i64 (enterT a).d, .int .i64 (enterT a).l0, .int .i64 (enterT a).l1, .int .i64 (enterT a).l2, .int .i64 (enterT a).l3] := (X2.alloc _).ge hb14
  replace X3 : Bx w14 (w3.heap.size) 24 #[.int .i64 a.e, .int .i64 a.d, .int .i64 a.l0, .int .i64 a.l1, .int .i64 a.l2, .int .i64 a.l3] := (X3.alloc _).ge hb14
  replace X4 : Bx w14 (w4.heap.size) 24 #[.int .i64 (nextT a).e, .int .i64 (nextT a).d, .int .i64 (nextT a).l0, .int .i64 (nextT a).l1, .int .i64 (nextT a).l2, .int .i64 (nextT a).l3] := (X4.alloc _).ge hb14
  replace X5 : Bx w14 (w10.heap.size) 24 #[.int .i64 (enterT b).e, .int .i64 (enterT b).d, .int .i64 (enterT b).l0, .int .i64 (enterT b).l1, .int .i64 (enterT b).l2, .int .i64 (enterT b).l3] := (X5.alloc _).ge hb14
  replace X6 : Bx w14 (w11.heap.size) 24 #[.int .i64 (nextT b).e, .int .i64 (nextT b).d, .int .i64 (nextT b).l0, .int .i64 (nextT b).l1, .int .i64 (nextT b).l2, .int .i64 (nextT b).l3] := (X6.alloc _).ge hb14
  replace X7 : Bx w14 (w12.heap.size) 24 #[.int .i64 (leaveT a).e, .int .i64 (leaveT a).d, .int .i64 (leaveT a).l0, .int .i64 (leaveT a).l1, .int .i64 (leaveT a).l2, .int .i64 (leaveT a).l3] := (X7.alloc _).ge hb14
  have X8 : Bx w14 (w13.heap.size) 24 #[.int .i64 (leaveT b).e, .int .i64 (leaveT b).d, .int .i64 (leaveT b).l0, .int .i64 (leaveT b).l1, .int .i64 (leaveT b).l2, .int .i64 (leaveT b).l3] := ((Bx.new _ _ _ (by simp))).ge hb14
  replace c0 := X0.cell
  replace l0 := X0.lt
  replace c1 := X1.cell
  replace l1 := X1.lt
  replace c2 := X2.cell
  replace l2 := X2.lt
  replace c3 := X3.cell
  replace l3 := X3.lt
  replace c4 := X4.cell
  replace l4 := X4.lt
  replace c5 := X5.cell
  replace l5 := X5.lt
  replace c6 := X6.cell
  replace l6 := X6.lt
  replace c7 := X7.cell
  replace l7 := X7.lt
  have c8 := X8.cell
  have l8 := X8.lt
  have g14 := Lib.hid hb14
  clear hb14
  go_wp2
  go_ret
  exact ⟨rfl, ((((((((((((((((((((((((Ge.refl w).alloc _).alloc _).trans g1.out).trans g2.out).alloc _).trans g3.out).alloc _).trans g4.out).alloc _).trans g5.out).trans g6.out).trans g7.out).trans g8.out).trans g9.out).trans g10.out).alloc _).trans g11.out).alloc _).trans g12.out).alloc _).trans g13.out).alloc _).trans g14.out)⟩

set_option maxHeartbeats 4000000 in
theorem inout_111001 (a b : Tm) (w : World) (hE : enterE a = 0) (hG : nextE a = 0) (hL : leqB a b = true) (hM : leqB b (nextT a) = false) (hI : nextE b ≠ 0) (hJ : leaveE a = 0) :
    Calls Try.prog 3 #[.agg #[.int .i64 a.e, .int .i64 a.d, .int .i64 a.l0, .int .i64 a.l1, .int .i64 a.l2, .int .i64 a.l3], .agg #[.int .i64 b.e, .int .i64 b.d, .int .i64 b.l0, .int .i64 b.l1, .int .i64 b.l2, .int .i64 b.l3]] w fun e w' => e = .returned (.bool true) ∧ Below w.heap.size w w' := by
  have EA := Lib.hid (fun w => by have := enter_any a w; rwa [hE] at this)
  have LE := Lib.hid (fun w => by have := leave_any (enterT a) w; rwa [(leave_enter hE).1, (leave_enter hE).2] at this)
  have q1 := fun w => neq_tm a a w
  simp only [eqB_self, Bool.not_true] at q1
  have NA := Lib.hid (fun w => by have := next_any a w; rwa [hG] at this)
  have LAN := Lib.hid (fun w => by have := leq_any a (nextT a) w; rwa [(leq_next hG).1] at this)
  have LNA := Lib.hid (fun w => by have := leq_any (nextT a) a w; rwa [(leq_next hG).2] at this)
  have LAB := Lib.hid (fun w => by have := leq_any a b w; rwa [hL] at this)
  have LBN := Lib.hid (fun w => by have := leq_any b (nextT a) w; rwa [hM] at this)
  have hEb := enter_same hL hE
  have EB := Lib.hid (fun w => by have := enter_any b w; rwa [hEb] at this)
  have LEE := Lib.hid (fun w => by have := leq_any (enterT a) (enterT b) w; rwa [le_enter hL hE hEb] at this)
  have NB := Lib.hid (next_any b)
  have i2 : (nextE b != 0) = true := by simp [hI]
  have hJb := leave_same hL hJ
  have LVA := Lib.hid (fun w => by have := leave_any a w; rwa [hJ] at this)
  have LVB := Lib.hid (fun w => by have := leave_any b w; rwa [hJb] at this)
  have LLL := Lib.hid (fun w => by have := leq_any (leaveT a) (leaveT b) w; rwa [le_leave hL hJ hJb] at this)
  clear hE hG hL hM hEb hI hJ hJb
  go_enter Try.func3, Try.ntmps3
  go_wp2_with fail
  refine (live_any _).mono ?_
  rintro e w1 ⟨rfl, hb1⟩
  have X0 : Bx w1 (w.heap.size) 24 #[.int .i64 a.e, .int .i64 a.d, .int .i64 a.l0, .int .i64 a.l1, .int .i64 a.l2, .int .i64 a.l3] := ((Bx.new _ _ _ (by simp)).alloc _).ge hb1
  have X1 : Bx w1 (w.heap.size + 1) 24 #[.int .i64 b.e, .int .i64 b.d, .int .i64 b.l0, .int .i64 b.l1, .int .i64 b.l2, .int .i64 b.l3] := ((Bx.new _ _ _ (by simp))).ge hb1
  have c0 := X0.cell
  have l0 := X0.lt
  have c1 := X1.cell
  have l1 := X1.lt
  have g1 := Lib.hid hb1
  clear hb1
  go_wp2_with fail
  refine (EA.out _).mono ?_
  rintro e w2 ⟨rfl, hb2⟩
  replace X0 : Bx w2 (w.heap.size) 24 #[.int .i64 a.e, .int .i64 a.d, .int .i64 a.l0, .int .i64 a.l1, .int .i64 a.l2, .int .i64 a.l3] := (X0).ge hb2
  replace X1 : Bx w2 (w.heap.size + 1) 24 #[.int .i64 b.e, .int .i64 b.d, .int .i64 b.l0, .int .i64 b.l1, .int .i64 b.l2, .int .i64 b.l3] := (X1).ge hb2
  replace c0 := X0.cell
  replace l0 := X0.lt
  replace c1 := X1.cell
  replace l1 := X1.lt
  have g2 := Lib.hid hb2
  clear hb2
  go_wp2_with fail
  refine (LE.out _).mono ?_
  rintro e w3 ⟨rfl, hb3⟩
  replace X0 : Bx w3 (w.heap.size) 24 #[.int .i64 a.e, .int .i64 a.d, .int .i64 a.l0, .int .i64 a.l1, .int .i64 a.l2, .int .i64 a.l3] := (X0.alloc _).ge hb3
  replace X1 : Bx w3 (w.heap.size + 1) 24 #[.int .i64 b.e, .int .i64 b.d, .int .i64 b.l0, .int .i64 b.l1, .int .i64 b.l2, .int .i64 b.l3] := (X1.alloc _).ge hb3
  have X2 : Bx w3 (w2.heap.size) 24 #[.int .i64 (enterT a).e, .int .i64 (enterT a).d, .int .i64 (enterT a).l0, .int .i64 (enterT a).l1, .int .i64 (enterT a).l2, .int .i64 (enterT a).l3] := ((Bx.new _ _ _ (by simp))).ge hb3
  replace c0 := X0.cell
  replace l0 := X0.lt
  replace c1 := X1.cell
  replace l1 := X1.lt
  have c2 := X2.cell
  have l2 := X2.lt
  have g3 := Lib.hid hb3
  clear hb3
  go_wp2_with fail
  refine (NA.out _).mono ?_
  rintro e w4 ⟨rfl, hb4⟩
  replace X0 : Bx w4 (w.heap.size) 24 #[.int .i64 a.e, .int .i64 a.d, .int .i64 a.l0, .int .i64 a.l1, .int .i64 a.l2, .int .i64 a.l3] := (X0.alloc _).ge hb4
  replace X1 : Bx w4 (w.heap.size + 1) 24 #[.int .i64 b.e, .int .i64 b.d, .int .i64 b.l0, .int .i64 b.l1, .int .i64 b.l2, .int .i64 b.l3] := (X1.alloc _).ge hb4
  replace X2 : Bx w4 (w2.heap.size) 24 #[.int .i64 (enterT a).e, .int .i64 (enterT a).d, .int .i64 (enterT a).l0, .int .i64 (enterT a).l1, .int .i64 (enterT a).l2, .int .i64 (enterT a).l3] := (X2.alloc _).ge hb4
  have X3 : Bx w4 (w3.heap.size) 24 #[.int .i64 a.e, .int .i64 a.d, .int .i64 a.l0, .int .i64 a.l1, .int .i64 a.l2, .int .i64 a.l3] := ((Bx.new _ _ _ (by simp))).ge hb4
  replace c0 := X0.cell
  replace l0 := X0.lt
  replace c1 := X1.cell
  replace l1 := X1.lt
  replace c2 := X2.cell
  replace l2 := X2.lt
  have c3 := X3.cell
  have l3 := X3.lt
  have g4 := Lib.hid hb4
  clear hb4
  go_wp2_with fail
  refine (LAN.out _).mono ?_
  rintro e w5 ⟨rfl, hb5⟩
  replace X0 : Bx w5 (w.heap.size) 24 #[.int .i64 a.e, .int .i64 a.d, .int .i64 a.l0, .int .i64 a.l1, .int .i64 a.l2, .int .i64 a.l3] := (X0.alloc _).ge hb5
  replace X1 : Bx w5 (w.heap.size + 1) 24 #[.int .i64 b.e, .int .i64 b.d, .int .i64 b.l0, .int .i64 b.l1, .int .i64 b.l2, .int .i64 b.l3] := (X1.alloc _).ge hb5
  replace X2 : Bx w5 (w2.heap.size) 24 #[.int .i64 (enterT a).e, .int .i64 (enterT a).d, .int .i64 (enterT a).l0, .int .i64 (enterT a).l1, .int .i64 (enterT a).l2, .int .i64 (enterT a).l3] := (X2.alloc _).ge hb5
  replace X3 : Bx w5 (w3.heap.size) 24 #[.int .i64 a.e, .int .i64 a.d, .int .i64 a.l0, .int .i64 a.l1, .int .i64 a.l2, .int .i64 a.l3] := (X3.alloc _).ge hb5
  have X4 : Bx w5 (w4.heap.size) 24 #[.int .i64 (nextT a).e, .int .i64 (nextT a).d, .int .i64 (nextT a).l0, .int .i64 (nextT a).l1, .int .i64 (nextT a).l2, .int .i64 (nextT a).l3] := ((Bx.new _ _ _ (by simp))).ge hb5
  replace c0 := X0.cell
  replace l0 := X0.lt
  replace c1 := X1.cell
  replace l1 := X1.lt
  replace c2 := X2.cell
  replace l2 := X2.lt
  replace c3 := X3.cell
  replace l3 := X3.lt
  have c4 := X4.cell
  have l4 := X4.lt
  have g5 := Lib.hid hb5
  clear hb5
  go_wp2_with fail
  refine (LNA.out _).mono ?_
  rintro e w6 ⟨rfl, hb6⟩
  replace X0 : Bx w6 (w.heap.size) 24 #[.int .i64 a.e, .int .i64 a.d, .int .i64 a.l0, .int .i64 a.l1, .int .i64 a.l2, .int .i64 a.l3] := (X0).ge hb6
  replace X1 : Bx w6 (w.heap.size + 1) 24 #[.int .i64 b.e, .int .i64 b.d, .int .i64 b.l0, .int .i64 b.l1, .int .i64 b.l2, .int .i64 b.l3] := (X1).ge hb6
  replace X2 : Bx w6 (w2.heap.size) 24 #[.int .i64 (enterT a).e, .int .i64 (enterT a).d, .int .i64 (enterT a).l0, .int .i64 (enterT a).l1, .int .i64 (enterT a).l2, .int .i64 (enterT a).l3] := (X2).ge hb6
  replace X3 : Bx w6 (w3.heap.size) 24 #[.int .i64 a.e, .int .i64 a.d, .int .i64 a.l0, .int .i64 a.l1, .int .i64 a.l2, .int .i64 a.l3] := (X3).ge hb6
  replace X4 : Bx w6 (w4.heap.size) 24 #[.int .i64 (nextT a).e, .int .i64 (nextT a).d, .int .i64 (nextT a).l0, .int .i64 (nextT a).l1, .int .i64 (nextT a).l2, .int .i64 (nextT a).l3] := (X4).ge hb6
  replace c0 := X0.cell
  replace l0 := X0.lt
  replace c1 := X1.cell
  replace l1 := X1.lt
  replace c2 := X2.cell
  replace l2 := X2.lt
  replace c3 := X3.cell
  replace l3 := X3.lt
  replace c4 := X4.cell
  replace l4 := X4.lt
  have g6 := Lib.hid hb6
  clear hb6
  go_wp2_with fail
  refine (LAB.out _).mono ?_
  rintro e w7 ⟨rfl, hb7⟩
  replace X0 : Bx w7 (w.heap.size) 24 #[.int .i64 a.e, .int .i64 a.d, .int .i64 a.l0, .int .i64 a.l1, .int .i64 a.l2, .int .i64 a.l3] := (X0).ge hb7
  replace X1 : Bx w7 (w.heap.size + 1) 24 #[.int .i64 b.e, .int .i64 b.d, .int .i64 b.l0, .int .i64 b.l1, .int .i64 b.l2, .int .i64 b.l3] := (X1).ge hb7
  replace X2 : Bx w7 (w2.heap.size) 24 #[.int .i64 (enterT a).e, .int .i64 (enterT a).d, .int .i64 (enterT a).l0, .int .i64 (enterT a).l1, .int .i64 (enterT a).l2, .int .i64 (enterT a).l3] := (X2).ge hb7
  replace X3 : Bx w7 (w3.heap.size) 24 #[.int .i64 a.e, .int .i64 a.d, .int .i64 a.l0, .int .i64 a.l1, .int .i64 a.l2, .int .i64 a.l3] := (X3).ge hb7
  replace X4 : Bx w7 (w4.heap.size) 24 #[.int .i64 (nextT a).e, .int .i64 (nextT a).d, .int .i64 (nextT a).l0, .int .i64 (nextT a).l1, .int .i64 (nextT a).l2, .int .i64 (nextT a).l3] := (X4).ge hb7
  replace c0 := X0.cell
  replace l0 := X0.lt
  replace c1 := X1.cell
  replace l1 := X1.lt
  replace c2 := X2.cell
  replace l2 := X2.lt
  replace c3 := X3.cell
  replace l3 := X3.lt
  replace c4 := X4.cell
  replace l4 := X4.lt
  have g7 := Lib.hid hb7
  clear hb7
  go_wp2_with fail
  refine (LBN.out _).mono ?_
  rintro e w8 ⟨rfl, hb8⟩
  replace X0 : Bx w8 (w.heap.size) 24 #[.int .i64 a.e, .int .i64 a.d, .int .i64 a.l0, .int .i64 a.l1, .int .i64 a.l2, .int .i64 a.l3] := (X0).ge hb8
  replace X1 : Bx w8 (w.heap.size + 1) 24 #[.int .i64 b.e, .int .i64 b.d, .int .i64 b.l0, .int .i64 b.l1, .int .i64 b.l2, .int .i64 b.l3] := (X1).ge hb8
  replace X2 : Bx w8 (w2.heap.size) 24 #[.int .i64 (enterT a).e, .int .i64 (enterT a).d, .int .i64 (enterT a).l0, .int .i64 (enterT a).l1, .int .i64 (enterT a).l2, .int .i64 (enterT a).l3] := (X2).ge hb8
  replace X3 : Bx w8 (w3.heap.size) 24 #[.int .i64 a.e, .int .i64 a.d, .int .i64 a.l0, .int .i64 a.l1, .int .i64 a.l2, .int .i64 a.l3] := (X3).ge hb8
  replace X4 : Bx w8 (w4.heap.size) 24 #[.int .i64 (nextT a).e, .int .i64 (nextT a).d, .int .i64 (nextT a).l0, .int .i64 (nextT a).l1, .int .i64 (nextT a).l2, .int .i64 (nextT a).l3] := (X4).ge hb8
  replace c0 := X0.cell
  replace l0 := X0.lt
  replace c1 := X1.cell
  replace l1 := X1.lt
  replace c2 := X2.cell
  replace l2 := X2.lt
  replace c3 := X3.cell
  replace l3 := X3.lt
  replace c4 := X4.cell
  replace l4 := X4.lt
  have g8 := Lib.hid hb8
  clear hb8
  go_wp2_with fail
  refine (LAB.out _).mono ?_
  rintro e w9 ⟨rfl, hb9⟩
  replace X0 : Bx w9 (w.heap.size) 24 #[.int .i64 a.e, .int .i64 a.d, .int .i64 a.l0, .int .i64 a.l1, .int .i64 a.l2, .int .i64 a.l3] := (X0).ge hb9
  replace X1 : Bx w9 (w.heap.size + 1) 24 #[.int .i64 b.e, .int .i64 b.d, .int .i64 b.l0, .int .i64 b.l1, .int .i64 b.l2, .int .i64 b.l3] := (X1).ge hb9
  replace X2 : Bx w9 (w2.heap.size) 24 #[.int .i64 (enterT a).e, .int .i64 (enterT a).d, .int .i64 (enterT a).l0, .int .i64 (enterT a).l1, .int .i64 (enterT a).l2, .int .i64 (enterT a).l3] := (X2).ge hb9
  replace X3 : Bx w9 (w3.heap.size) 24 #[.int .i64 a.e, .int .i64 a.d, .int .i64 a.l0, .int .i64 a.l1, .int .i64 a.l2, .int .i64 a.l3] := (X3).ge hb9
  replace X4 : Bx w9 (w4.heap.size) 24 #[.int .i64 (nextT a).e, .int .i64 (nextT a).d, .int .i64 (nextT a).l0, .int .i64 (nextT a).l1, .int .i64 (nextT a).l2, .int .i64 (nextT a).l3] := (X4).ge hb9
  replace c0 := X0.cell
  replace l0 := X0.lt
  replace c1 := X1.cell
  replace l1 := X1.lt
  replace c2 := X2.cell
  replace l2 := X2.lt
  replace c3 := X3.cell
  replace l3 := X3.lt
  replace c4 := X4.cell
  replace l4 := X4.lt
  have g9 := Lib.hid hb9
  clear hb9
  go_wp2_with fail
  refine (EB.out _).mono ?_
  rintro e w10 ⟨rfl, hb10⟩
  replace X0 : Bx w10 (w.heap.size) 24 #[.int .i64 a.e, .int .i64 a.d, .int .i64 a.l0, .int .i64 a.l1, .int .i64 a.l2, .int .i64 a.l3] := (X0).ge hb10
  replace X1 : Bx w10 (w.heap.size + 1) 24 #[.int .i64 b.e, .int .i64 b.d, .int .i64 b.l0, .int .i64 b.l1, .int .i64 b.l2, .int .i64 b.l3] := (X1).ge hb10
  replace X2 : Bx w10 (w2.heap.size) 24 #[.int .i64 (enterT a).e, .int .i64 (enterT a).d, .int .i64 (enterT a).l0, .int .i64 (enterT a).l1, .int .i64 (enterT a).l2, .int .i64 (enterT a).l3] := (X2).ge hb10
  replace X3 : Bx w10 (w3.heap.size) 24 #[.int .i64 a.e, .int .i64 a.d, .int .i64 a.l0, .int .i64 a.l1, .int .i64 a.l2, .int .i64 a.l3] := (X3).ge hb10
  replace X4 : Bx w10 (w4.heap.size) 24 #[.int .i64 (nextT a).e, .int .i64 (nextT a).d, .int .i64 (nextT a).l0, .int .i64 (nextT a).l1, .int .i64 (nextT a).l2, .int .i64 (nextT a).l3] := (X4).ge hb10
  replace c0 := X0.cell
  replace l0 := X0.lt
  replace c1 := X1.cell
  replace l1 := X1.lt
  replace c2 := X2.cell
  replace l2 := X2.lt
  replace c3 := X3.cell
  replace l3 := X3.lt
  replace c4 := X4.cell
  replace l4 := X4.lt
  have g10 := Lib.hid hb10
  clear hb10
  go_wp2_with fail
  refine (NB.out _).mono ?_
  rintro e w11 ⟨rfl, hb11⟩
  replace X0 : Bx w11 (w.heap.size) 24 #[.int .i64 a.e, .int .i64 a.d, .int .i64 a.l0, .int .i64 a.l1, .int .i64 a.l2, .int .i64 a.l3] := (X0.alloc _).ge hb11
  replace X1 : Bx w11 (w.heap.size + 1) 24 #[.int .i64 b.e, .int .i64 b.d, .int .i64 b.l0, .int .i64 b.l1, .int .i64 b.l2, .int .i64 b.l3] := (X1.alloc _).ge hb11
  replace X2 : Bx w11 (w2.heap.size) 24 #[.int .i64 (enterT a).e, .int .i64 (enterT a).d, .int .i64 (enterT a).l0, .int .i64 (enterT a).l1, .int .i64 (enterT a).l2, .int .i64 (enterT a).l3] := (X2.alloc _).ge hb11
  replace X3 : Bx w11 (w3.heap.size) 24 #[.int .i64 a.e, .int .i64 a.d, .int .i64 a.l0, .int .i64 a.l1, .int .i64 a.l2, .int .i64 a.l3] := (X3.alloc _).ge hb11
  replace X4 : Bx w11 (w4.heap.size) 24 #[.int .i64 (nextT a).e, .int .i64 (nextT a).d, .int .i64 (nextT a).l0, .int .i64 (nextT a).l1, .int .i64 (nextT a).l2, .int .i64 (nextT a).l3] := (X4.alloc _).ge hb11
  have X5 : Bx w11 (w10.heap.size) 24 #[.int .i64 (enterT b).e, .int .i64 (enterT b).d, .int .i64 (enterT b).l0, .int .i64 (enterT b).l1, .int .i64 (enterT b).l2, .int .i64 (enterT b).l3] := ((Bx.new _ _ _ (by simp))).ge hb11
  replace c0 := X0.cell
  replace l0 := X0.lt
  replace c1 := X1.cell
  replace l1 := X1.lt
  replace c2 := X2.cell
  replace l2 := X2.lt
  replace c3 := X3.cell
  replace l3 := X3.lt
  replace c4 := X4.cell
  replace l4 := X4.lt
  have c5 := X5.cell
  have l5 := X5.lt
  have g11 := Lib.hid hb11
  clear hb11
  go_wp2_with fail
  refine (LVA.out _).mono ?_
  rintro e w12 ⟨rfl, hb12⟩
  replace X0 : Bx w12 (w.heap.size) 24 #[.int .i64 a.e, .int .i64 a.d, .int .i64 a.l0, .int .i64 a.l1, .int .i64 a.l2, .int .i64 a.l3] := (X0.alloc _).ge hb12
  replace X1 : Bx w12 (w.heap.size + 1) 24 #[.int .i64 b.e, .int .i64 b.d, .int .i64 b.l0, .int .i64 b.l1, .int .i64 b.l2, .int .i64 b.l3] := (X1.alloc _).ge hb12
  replace X2 : Bx w12 (w2.heap.size) 24 #[.int .i64 (enterT a).e, .int .i64 (enterT a).d, .int .i64 (enterT a).l0, .int .i64 (enterT a).l1, .int .i64 (enterT a).l2, .int .i64 (enterT a).l3] := (X2.alloc _).ge hb12
  replace X3 : Bx w12 (w3.heap.size) 24 #[.int .i64 a.e, .int .i64 a.d, .int .i64 a.l0, .int .i64 a.l1, .int .i64 a.l2, .int .i64 a.l3] := (X3.alloc _).ge hb12
  replace X4 : Bx w12 (w4.heap.size) 24 #[.int .i64 (nextT a).e, .int .i64 (nextT a).d, .int .i64 (nextT a).l0, .int .i64 (nextT a).l1, .int .i64 (nextT a).l2, .int .i64 (nextT a).l3] := (X4.alloc _).ge hb12
  replace X5 : Bx w12 (w10.heap.size) 24 #[.int .i64 (enterT b).e, .int .i64 (enterT b).d, .int .i64 (enterT b).l0, .int .i64 (enterT b).l1, .int .i64 (enterT b).l2, .int .i64 (enterT b).l3] := (X5.alloc _).ge hb12
  have X6 : Bx w12 (w11.heap.size) 24 #[.int .i64 (nextT b).e, .int .i64 (nextT b).d, .int .i64 (nextT b).l0, .int .i64 (nextT b).l1, .int .i64 (nextT b).l2, .int .i64 (nextT b).l3] := ((Bx.new _ _ _ (by simp))).ge hb12
  replace c0 := X0.cell
  replace l0 := X0.lt
  replace c1 := X1.cell
  replace l1 := X1.lt
  replace c2 := X2.cell
  replace l2 := X2.lt
  replace c3 := X3.cell
  replace l3 := X3.lt
  replace c4 := X4.cell
  replace l4 := X4.lt
  replace c5 := X5.cell
  replace l5 := X5.lt
  have c6 := X6.cell
  have l6 := X6.lt
  have g12 := Lib.hid hb12
  clear hb12
  go_wp2_with fail
  refine (LVB.out _).mono ?_
  rintro e w13 ⟨rfl, hb13⟩
  replace X0 : Bx w13 (w.heap.size) 24 #[.int .i64 a.e, .int .i64 a.d, .int .i64 a.l0, .int .i64 a.l1, .int .i64 a.l2, .int .i64 a.l3] := (X0.alloc _).ge hb13
  replace X1 : Bx w13 (w.heap.size + 1) 24 #[.int .i64 b.e, .int .i64 b.d, .int .i64 b.l0, .int .i64 b.l1, .int .i64 b.l2, .int .i64 b.l3] := (X1.alloc _).ge hb13
  replace X2 : Bx w13 (w2.heap.size) 24 #[.int .i64 (enterT a).e, .int .i64 (enterT a).d, .int .i64 (enterT a).l0, .int .i64 (enterT a).l1, .int .i64 (enterT a).l2, .int .i64 (enterT a).l3] := (X2.alloc _).ge hb13
  replace X3 : Bx w13 (w3.heap.size) 24 #[.int .i64 a.e, .int .i64 a.d, .int .i64 a.l0, .int .i64 a.l1, .int .i64 a.l2, .int .i64 a.l3] := (X3.alloc _).ge hb13
  replace X4 : Bx w13 (w4.heap.size) 24 #[.int .i64 (nextT a).e, .int .i64 (nextT a).d, .int .i64 (nextT a).l0, .int .i64 (nextT a).l1, .int .i64 (nextT a).l2, .int .i64 (nextT a).l3] := (X4.alloc _).ge hb13
  replace X5 : Bx w13 (w10.heap.size) 24 #[.int .i64 (enterT b).e, .int .i64 (enterT b).d, .int .i64 (enterT b).l0, .int .i64 (enterT b).l1, .int .i64 (enterT b).l2, .int .i64 (enterT b).l3] := (X5.alloc _).ge hb13
  replace X6 : Bx w13 (w11.heap.size) 24 #[.int .i64 (nextT b).e, .int .i64 (nextT b).d, .int .i64 (nextT b).l0, .int .i64 (nextT b).l1, .int .i64 (nextT b).l2, .int .i64 (nextT b).l3] := (X6.alloc _).ge hb13
  have X7 : Bx w13 (w12.heap.size) 24 #[.int .i64 (leaveT a).e, .int .i64 (leaveT a).d, .int .i64 (leaveT a).l0, .int .i64 (leaveT a).l1, .int .i64 (leaveT a).l2, .int .i64 (leaveT a).l3] := ((Bx.new _ _ _ (by simp))).ge hb13
  replace c0 := X0.cell
  replace l0 := X0.lt
  replace c1 := X1.cell
  replace l1 := X1.lt
  replace c2 := X2.cell
  replace l2 := X2.lt
  replace c3 := X3.cell
  replace l3 := X3.lt
  replace c4 := X4.cell
  replace l4 := X4.lt
  replace c5 := X5.cell
  replace l5 := X5.lt
  replace c6 := X6.cell
  replace l6 := X6.lt
  have c7 := X7.cell
  have l7 := X7.lt
  have g13 := Lib.hid hb13
  clear hb13
  go_wp2_with fail
  refine (LEE.out _).mono ?_
  rintro e w14 ⟨rfl, hb14⟩
  replace X0 : Bx w14 (w.heap.size) 24 #[.int .i64 a.e, .int .i64 a.d, .int .i64 a.l0, .int .i64 a.l1, .int .i64 a.l2, .int .i64 a.l3] := (X0.alloc _).ge hb14
  replace X1 : Bx w14 (w.heap.size + 1) 24 #[.int .i64 b.e, .int .i64 b.d, .int .i64 b.l0, .int .i64 b.l1, .int .i64 b.l2, .int .i64 b.l3] := (X1.alloc _).ge hb14
  replace X2 : Bx w14 (w2.heap.size) 24 #[.int .i64 (enterT a).e, .int .i64 (enterT a).d, .int .i64 (enterT a).l0, .int .i64 (enterT a).l1, .int .i64 (enterT a).l2, .int .i64 (enterT a).l3] := (X2.alloc _).ge hb14
  replace X3 : Bx w14 (w3.heap.size) 24 #[.int .i64 a.e, .int .i64 a.d, .int .i64 a.l0, .int .i64 a.l1, .int .i64 a.l2, .int .i64 a.l3] := (X3.alloc _).ge hb14
  replace X4 : Bx w14 (w4.heap.size) 24 #[.int .i64 (nextT a).e, .int .i64 (nextT a).d, .int .i64 (nextT a).l0, .int .i64 (nextT a).l1, .int .i64 (nextT a).l2, .int .i64 (nextT a).l3] := (X4.alloc _).ge hb14
  replace X5 : Bx w14 (w10.heap.size) 24 #[.int .i64 (enterT b).e, .int .i64 (enterT b).d, .int .i64 (enterT b).l0, .int .i64 (enterT b).l1, .int .i64 (enterT b).l2, .int .i64 (enterT b).l3] := (X5.alloc _).ge hb14
  replace X6 : Bx w14 (w11.heap.size) 24 #[.int .i64 (nextT b).e, .int .i64 (nextT b).d, .int .i64 (nextT b).l0, .int .i64 (nextT b).l1, .int .i64 (nextT b).l2, .int .i64 (nextT b).l3] := (X6.alloc _).ge hb14
  replace X7 : Bx w14 (w12.heap.size) 24 #[.int .i64 (leaveT a).e, .int .i64 (leaveT a).d, .int .i64 (leaveT a).l0, .int .i64 (leaveT a).l1, .int .i64 (leaveT a).l2, .int .i64 (leaveT a).l3] := (X7.alloc _).ge hb14
  have X8 : Bx w14 (w13.heap.size) 24 #[.int .i64 (leaveT b).e, .int .i64 (leaveT b).d, .int .i64 (leaveT b).l0, .int .i64 (leaveT b).l1, .int .i64 (leaveT b).l2, .int .i64 (leaveT b).l3] := ((Bx.new _ _ _ (by simp))).ge hb14
  replace c0 := X0.cell
  replace l0 := X0.lt
  replace c1 := X1.cell
  replace l1 := X1.lt
  replace c2 := X2.cell
  replace l2 := X2.lt
  replace c3 := X3.cell
  replace l3 := X3.lt
  replace c4 := X4.cell
  replace l4 := X4.lt
  replace c5 := X5.cell
  replace l5 := X5.lt
  replace c6 := X6.cell
  replace l6 := X6.lt
  replace c7 := X7.cell
  replace l7 := X7.lt
  have c8 := X8.cell
  have l8 := X8.lt
  have g14 := Lib.hid hb14
  clear hb14
  go_wp2_with fail
  refine (LLL.out _).mono ?_
  rintro e w15 ⟨rfl, hb15⟩
  replace X0 : Bx w15 (w.heap.size) 24 #[.int .i64 a.e, .int .i64 a.d, .int .i64 a.l0, .int .i64 a.l1, .int .i64 a.l2, .int .i64 a.l3] := (X0).ge hb15
  replace X1 : Bx w15 (w.heap.size + 1) 24 #[.int .i64 b.e, .int .i64 b.d, .int .i64 b.l0, .int .i64 b.l1, .int .i64 b.l2, .int .i64 b.l3] := (X1).ge hb15
  replace X2 : Bx w15 (w2.heap.size) 24 #[.int .i64 (enterT a).e, .int .i64 (enterT a).d, .int .i64 (enterT a).l0, .int .i64 (enterT a).l1, .int .i64 (enterT a).l2, .int .i64 (enterT a).l3] := (X2).ge hb15
  replace X3 : Bx w15 (w3.heap.size) 24 #[.int .i64 a.e, .int .i64 a.d, .int .i64 a.l0, .int .i64 a.l1, .int .i64 a.l2, .int .i64 a.l3] := (X3).ge hb15
  replace X4 : Bx w15 (w4.heap.size) 24 #[.int .i64 (nextT a).e, .int .i64 (nextT a).d, .int .i64 (nextT a).l0, .int .i64 (nextT a).l1, .int .i64 (nextT a).l2, .int .i64 (nextT a).l3] := (X4).ge hb15
  replace X5 : Bx w15 (w10.heap.size) 24 #[.int .i64 (enterT b).e, .int .i64 (enterT b).d, .int .i64 (enterT b).l0, .int .i64 (enterT b).l1, .int .i64 (enterT b).l2, .int .i64 (enterT b).l3] := (X5).ge hb15
  replace X6 : Bx w15 (w11.heap.size) 24 #[.int .i64 (nextT b).e, .int .i64 (nextT b).d, .int .i64 (nextT b).l0, .int .i64 (nextT b).l1, .int .i64 (nextT b).l2, .int .i64 (nextT b).l3] := (X6).ge hb15
  replace X7 : Bx w15 (w12.heap.size) 24 #[.int .i64 (leaveT a).e, .int .i64 (leaveT a).d, .int .i64 (leaveT a).l0, .int .i64 (leaveT a).l1, .int .i64 (leaveT a).l2, .int .i64 (leaveT a).l3] := (X7).ge hb15
  replace X8 : Bx w15 (w13.heap.size) 24 #[.int .i64 (leaveT b).e, .int .i64 (leaveT b).d, .int .i64 (leaveT b).l0, .int .i64 (leaveT b).l1, .int .i64 (leaveT b).l2, .int .i64 (leaveT b).l3] := (X8).ge hb15
  replace c0 := X0.cell
  replace l0 := X0.lt
  replace c1 := X1.cell
  replace l1 := X1.lt
  replace c2 := X2.cell
  replace l2 := X2.lt
  replace c3 := X3.cell
  replace l3 := X3.lt
  replace c4 := X4.cell
  replace l4 := X4.lt
  replace c5 := X5.cell
  replace l5 := X5.lt
  replace c6 := X6.cell
  replace l6 := X6.lt
  replace c7 := X7.cell
  replace l7 := X7.lt
  replace c8 := X8.cell
  replace l8 := X8.lt
  have g15 := Lib.hid hb15
  clear hb15
  go_wp2
  go_ret
  exact ⟨rfl, (((((((((((((((((((((((((Ge.refl w).alloc _).alloc _).trans g1.out).trans g2.out).alloc _).trans g3.out).alloc _).trans g4.out).alloc _).trans g5.out).trans g6.out).trans g7.out).trans g8.out).trans g9.out).trans g10.out).alloc _).trans g11.out).alloc _).trans g12.out).alloc _).trans g13.out).alloc _).trans g14.out).trans g15.out)⟩

set_option maxHeartbeats 4000000 in
theorem inout_111N11 (a b : Tm) (w : World) (hE : enterE a = 0) (hG : nextE a = 0) (hL : leqB a b = true) (hM : leqB b (nextT a) = true) (hQ : eqB b a = false) (hR : eqB b (nextT a) = true) (hI : nextE b = 0) (hJ : leaveE a = 0) :
    Calls Try.prog 3 #[.agg #[.int .i64 a.e, .int .i64 a.d, .int .i64 a.l0, .int .i64 a.l1, .int .i64 a.l2, .int .i64 a.l3], .agg #[.int .i64 b.e, .int .i64 b.d, .int .i64 b.l0, .int .i64 b.l1, .int .i64 b.l2, .int .i64 b.l3]] w fun e w' => e = .returned (.bool true) ∧ Below w.heap.size w w' := by
  have EA := Lib.hid (fun w => by have := enter_any a w; rwa [hE] at this)
  have LE := Lib.hid (fun w => by have := leave_any (enterT a) w; rwa [(leave_enter hE).1, (leave_enter hE).2] at this)
  have q1 := fun w => neq_tm a a w
  simp only [eqB_self, Bool.not_true] at q1
  have NA := Lib.hid (fun w => by have := next_any a w; rwa [hG] at this)
  have LAN := Lib.hid (fun w => by have := leq_any a (nextT a) w; rwa [(leq_next hG).1] at this)
  have LNA := Lib.hid (fun w => by have := leq_any (nextT a) a w; rwa [(leq_next hG).2] at this)
  have LAB := Lib.hid (fun w => by have := leq_any a b w; rwa [hL] at this)
  have LBN := Lib.hid (fun w => by have := leq_any b (nextT a) w; rwa [hM] at this)
  have q2 := fun w => neq_tm b a w
  simp only [hQ, Bool.not_false] at q2
  have q3 := fun w => neq_tm b (nextT a) w
  simp only [hR, Bool.not_true] at q3
  have hEb := enter_same hL hE
  have EB := Lib.hid (fun w => by have := enter_any b w; rwa [hEb] at this)
  have LEE := Lib.hid (fun w => by have := leq_any (enterT a) (enterT b) w; rwa [le_enter hL hE hEb] at this)
  have NB := Lib.hid (fun w => by have := next_any b w; rwa [hI] at this)
  have LNN := Lib.hid (fun w => by have := leq_any (nextT a) (nextT b) w; rwa [le_next hL hG hI] at this)
  have hJb := leave_same hL hJ
  have LVA := Lib.hid (fun w => by have := leave_any a w; rwa [hJ] at this)
  have LVB := Lib.hid (fun w => by have := leave_any b w; rwa [hJb] at this)
  have LLL := Lib.hid (fun w => by have := leq_any (leaveT a) (leaveT b) w; rwa [le_leave hL hJ hJb] at this)
  clear hE hG hL hM hR hQ hEb hI hJ hJb
  go_enter Try.func3, Try.ntmps3
  go_wp2_with fail
  refine (live_any _).mono ?_
  rintro e w1 ⟨rfl, hb1⟩
  have X0 : Bx w1 (w.heap.size) 24 #[.int .i64 a.e, .int .i64 a.d, .int .i64 a.l0, .int .i64 a.l1, .int .i64 a.l2, .int .i64 a.l3] := ((Bx.new _ _ _ (by simp)).alloc _).ge hb1
  have X1 : Bx w1 (w.heap.size + 1) 24 #[.int .i64 b.e, .int .i64 b.d, .int .i64 b.l0, .int .i64 b.l1, .int .i64 b.l2, .int .i64 b.l3] := ((Bx.new _ _ _ (by simp))).ge hb1
  have c0 := X0.cell
  have l0 := X0.lt
  have c1 := X1.cell
  have l1 := X1.lt
  have g1 := Lib.hid hb1
  clear hb1
  go_wp2_with fail
  refine (EA.out _).mono ?_
  rintro e w2 ⟨rfl, hb2⟩
  replace X0 : Bx w2 (w.heap.size) 24 #[.int .i64 a.e, .int .i64 a.d, .int .i64 a.l0, .int .i64 a.l1, .int .i64 a.l2, .int .i64 a.l3] := (X0).ge hb2
  replace X1 : Bx w2 (w.heap.size + 1) 24 #[.int .i64 b.e, .int .i64 b.d, .int .i64 b.l0, .int .i64 b.l1, .int .i64 b.l2, .int .i64 b.l3] := (X1).ge hb2
  replace c0 := X0.cell
  replace l0 := X0.lt
  replace c1 := X1.cell
  replace l1 := X1.lt
  have g2 := Lib.hid hb2
  clear hb2
  go_wp2_with fail
  refine (LE.out _).mono ?_
  rintro e w3 ⟨rfl, hb3⟩
  replace X0 : Bx w3 (w.heap.size) 24 #[.int .i64 a.e, .int .i64 a.d, .int .i64 a.l0, .int .i64 a.l1, .int .i64 a.l2, .int .i64 a.l3] := (X0.alloc _).ge hb3
  replace X1 : Bx w3 (w.heap.size + 1) 24 #[.int .i64 b.e, .int .i64 b.d, .int .i64 b.l0, .int .i64 b.l1, .int .i64 b.l2, .int .i64 b.l3] := (X1.alloc _).ge hb3
  have X2 : Bx w3 (w2.heap.size) 24 #[.int .i64 (enterT a).e, .int .i64 (enterT a).d, .int .i64 (enterT a).l0, .int .i64 (enterT a).l1, .int .i64 (enterT a).l2, .int .i64 (enterT a).l3] := ((Bx.new _ _ _ (by simp))).ge hb3
  replace c0 := X0.cell
  replace l0 := X0.lt
  replace c1 := X1.cell
  replace l1 := X1.lt
  have c2 := X2.cell
  have l2 := X2.lt
  have g3 := Lib.hid hb3
  clear hb3
  go_wp2_with fail
  refine (NA.out _).mono ?_
  rintro e w4 ⟨rfl, hb4⟩
  replace X0 : Bx w4 (w.heap.size) 24 #[.int .i64 a.e, .int .i64 a.d, .int .i64 a.l0, .int .i64 a.l1, .int .i64 a.l2, .int .i64 a.l3] := (X0.alloc _).ge hb4
  replace X1 : Bx w4 (w.heap.size + 1) 24 #[.int .i64 b.e, .int .i64 b.d, .int .i64 b.l0, .int .i64 b.l1, .int .i64 b.l2, .int .i64 b.l3] := (X1.alloc _).ge hb4
  replace X2 : Bx w4 (w2.heap.size) 24 #[.int .i64 (enterT a).e, .int .i64 (enterT a).d, .int .i64 (enterT a).l0, .int .i64 (enterT a).l1, .int .i64 (enterT a).l2, .int .i64 (enterT a).l3] := (X2.alloc _).ge hb4
  have X3 : Bx w4 (w3.heap.size) 24 #[.int .i64 a.e, .int .i64 a.d, .int .i64 a.l0, .int .i64 a.l1, .int .i64 a.l2, .int .i64 a.l3] := ((Bx.new _ _ _ (by simp))).ge hb4
  replace c0 := X0.cell
  replace l0 := X0.lt
  replace c1 := X1.cell
  replace l1 := X1.lt
  replace c2 := X2.cell
  replace l2 := X2.lt
  have c3 := X3.cell
  have l3 := X3.lt
  have g4 := Lib.hid hb4
  clear hb4
  go_wp2_with fail
  refine (LAN.out _).mono ?_
  rintro e w5 ⟨rfl, hb5⟩
  replace X0 : Bx w5 (w.heap.size) 24 #[.int .i64 a.e, .int .i64 a.d, .int .i64 a.l0, .int .i64 a.l1, .int .i64 a.l2, .int .i64 a.l3] := (X0.alloc _).ge hb5
  replace X1 : Bx w5 (w.heap.size + 1) 24 #[.int .i64 b.e, .int .i64 b.d, .int .i64 b.l0, .int .i64 b.l1, .int .i64 b.l2, .int .i64 b.l3] := (X1.alloc _).ge hb5
  replace X2 : Bx w5 (w2.heap.size) 24 #[.int .i64 (enterT a).e, .int .i64 (enterT a).d, .int .i64 (enterT a).l0, .int .i64 (enterT a).l1, .int .i64 (enterT a).l2, .int .i64 (enterT a).l3] := (X2.alloc _).ge hb5
  replace X3 : Bx w5 (w3.heap.size) 24 #[.int .i64 a.e, .int .i64 a.d, .int .i64 a.l0, .int .i64 a.l1, .int .i64 a.l2, .int .i64 a.l3] := (X3.alloc _).ge hb5
  have X4 : Bx w5 (w4.heap.size) 24 #[.int .i64 (nextT a).e, .int .i64 (nextT a).d, .int .i64 (nextT a).l0, .int .i64 (nextT a).l1, .int .i64 (nextT a).l2, .int .i64 (nextT a).l3] := ((Bx.new _ _ _ (by simp))).ge hb5
  replace c0 := X0.cell
  replace l0 := X0.lt
  replace c1 := X1.cell
  replace l1 := X1.lt
  replace c2 := X2.cell
  replace l2 := X2.lt
  replace c3 := X3.cell
  replace l3 := X3.lt
  have c4 := X4.cell
  have l4 := X4.lt
  have g5 := Lib.hid hb5
  clear hb5
  go_wp2_with fail
  refine (LNA.out _).mono ?_
  rintro e w6 ⟨rfl, hb6⟩
  replace X0 : Bx w6 (w.heap.size) 24 #[.int .i64 a.e, .int .i64 a.d, .int .i64 a.l0, .int .i64 a.l1, .int .i64 a.l2, .int .i64 a.l3] := (X0).ge hb6
  replace X1 : Bx w6 (w.heap.size + 1) 24 #[.int .i64 b.e, .int .i64 b.d, .int .i64 b.l0, .int .i64 b.l1, .int .i64 b.l2, .int .i64 b.l3] := (X1).ge hb6
  replace X2 : Bx w6 (w2.heap.size) 24 #[.int .i64 (enterT a).e, .int .i64 (enterT a).d, .int .i64 (enterT a).l0, .int .i64 (enterT a).l1, .int .i64 (enterT a).l2, .int .i64 (enterT a).l3] := (X2).ge hb6
  replace X3 : Bx w6 (w3.heap.size) 24 #[.int .i64 a.e, .int .i64 a.d, .int .i64 a.l0, .int .i64 a.l1, .int .i64 a.l2, .int .i64 a.l3] := (X3).ge hb6
  replace X4 : Bx w6 (w4.heap.size) 24 #[.int .i64 (nextT a).e, .int .i64 (nextT a).d, .int .i64 (nextT a).l0, .int .i64 (nextT a).l1, .int .i64 (nextT a).l2, .int .i64 (nextT a).l3] := (X4).ge hb6
  replace c0 := X0.cell
  replace l0 := X0.lt
  replace c1 := X1.cell
  replace l1 := X1.lt
  replace c2 := X2.cell
  replace l2 := X2.lt
  replace c3 := X3.cell
  replace l3 := X3.lt
  replace c4 := X4.cell
  replace l4 := X4.lt
  have g6 := Lib.hid hb6
  clear hb6
  go_wp2_with fail
  refine (LAB.out _).mono ?_
  rintro e w7 ⟨rfl, hb7⟩
  replace X0 : Bx w7 (w.heap.size) 24 #[.int .i64 a.e, .int .i64 a.d, .int .i64 a.l0, .int .i64 a.l1, .int .i64 a.l2, .int .i64 a.l3] := (X0).ge hb7
  replace X1 : Bx w7 (w.heap.size + 1) 24 #[.int .i64 b.e, .int .i64 b.d, .int .i64 b.l0, .int .i64 b.l1, .int .i64 b.l2, .int .i64 b.l3] := (X1).ge hb7
  replace X2 : Bx w7 (w2.heap.size) 24 #[.int .i64 (enterT a).e, .int .i64 (enterT a).d, .int .i64 (enterT a).l0, .int .i64 (enterT a).l1, .int .i64 (enterT a).l2, .int .i64 (enterT a).l3] := (X2).ge hb7
  replace X3 : Bx w7 (w3.heap.size) 24 #[.int .i64 a.e, .int .i64 a.d, .int .i64 a.l0, .int .i64 a.l1, .int .i64 a.l2, .int .i64 a.l3] := (X3).ge hb7
  replace X4 : Bx w7 (w4.heap.size) 24 #[.int .i64 (nextT a).e, .int .i64 (nextT a).d, .int .i64 (nextT a).l0, .int .i64 (nextT a).l1, .int .i64 (nextT a).l2, .int .i64 (nextT a).l3] := (X4).ge hb7
  replace c0 := X0.cell
  replace l0 := X0.lt
  replace c1 := X1.cell
  replace l1 := X1.lt
  replace c2 := X2.cell
  replace l2 := X2.lt
  replace c3 := X3.cell
  replace l3 := X3.lt
  replace c4 := X4.cell
  replace l4 := X4.lt
  have g7 := Lib.hid hb7
  clear hb7
  go_wp2_with fail
  refine (LBN.out _).mono ?_
  rintro e w8 ⟨rfl, hb8⟩
  replace X0 : Bx w8 (w.heap.size) 24 #[.int .i64 a.e, .int .i64 a.d, .int .i64 a.l0, .int .i64 a.l1, .int .i64 a.l2, .int .i64 a.l3] := (X0).ge hb8
  replace X1 : Bx w8 (w.heap.size + 1) 24 #[.int .i64 b.e, .int .i64 b.d, .int .i64 b.l0, .int .i64 b.l1, .int .i64 b.l2, .int .i64 b.l3] := (X1).ge hb8
  replace X2 : Bx w8 (w2.heap.size) 24 #[.int .i64 (enterT a).e, .int .i64 (enterT a).d, .int .i64 (enterT a).l0, .int .i64 (enterT a).l1, .int .i64 (enterT a).l2, .int .i64 (enterT a).l3] := (X2).ge hb8
  replace X3 : Bx w8 (w3.heap.size) 24 #[.int .i64 a.e, .int .i64 a.d, .int .i64 a.l0, .int .i64 a.l1, .int .i64 a.l2, .int .i64 a.l3] := (X3).ge hb8
  replace X4 : Bx w8 (w4.heap.size) 24 #[.int .i64 (nextT a).e, .int .i64 (nextT a).d, .int .i64 (nextT a).l0, .int .i64 (nextT a).l1, .int .i64 (nextT a).l2, .int .i64 (nextT a).l3] := (X4).ge hb8
  replace c0 := X0.cell
  replace l0 := X0.lt
  replace c1 := X1.cell
  replace l1 := X1.lt
  replace c2 := X2.cell
  replace l2 := X2.lt
  replace c3 := X3.cell
  replace l3 := X3.lt
  replace c4 := X4.cell
  replace l4 := X4.lt
  have g8 := Lib.hid hb8
  clear hb8
  go_wp2_with fail
  refine (LAB.out _).mono ?_
  rintro e w9 ⟨rfl, hb9⟩
  replace X0 : Bx w9 (w.heap.size) 24 #[.int .i64 a.e, .int .i64 a.d, .int .i64 a.l0, .int .i64 a.l1, .int .i64 a.l2, .int .i64 a.l3] := (X0).ge hb9
  replace X1 : Bx w9 (w.heap.size + 1) 24 #[.int .i64 b.e, .int .i64 b.d, .int .i64 b.l0, .int .i64 b.l1, .int .i64 b.l2, .int .i64 b.l3] := (X1).ge hb9
  replace X2 : Bx w9 (w2.heap.size) 24 #[.int .i64 (enterT a).e, .int .i64 (enterT a).d, .int .i64 (enterT a).l0, .int .i64 (enterT a).l1, .int .i64 (enterT a).l2, .int .i64 (enterT a).l3] := (X2).ge hb9
  replace X3 : Bx w9 (w3.heap.size) 24 #[.int .i64 a.e, .int .i64 a.d, .int .i64 a.l0, .int .i64 a.l1, .int .i64 a.l2, .int .i64 a.l3] := (X3).ge hb9
  replace X4 : Bx w9 (w4.heap.size) 24 #[.int .i64 (nextT a).e, .int .i64 (nextT a).d, .int .i64 (nextT a).l0, .int .i64 (nextT a).l1, .int .i64 (nextT a).l2, .int .i64 (nextT a).l3] := (X4).ge hb9
  replace c0 := X0.cell
  replace l0 := X0.lt
  replace c1 := X1.cell
  replace l1 := X1.lt
  replace c2 := X2.cell
  replace l2 := X2.lt
  replace c3 := X3.cell
  replace l3 := X3.lt
  replace c4 := X4.cell
  replace l4 := X4.lt
  have g9 := Lib.hid hb9
  clear hb9
  go_wp2_with fail
  refine (EB.out _).mono ?_
  rintro e w10 ⟨rfl, hb10⟩
  replace X0 : Bx w10 (w.heap.size) 24 #[.int .i64 a.e, .int .i64 a.d, .int .i64 a.l0, .int .i64 a.l1, .int .i64 a.l2, .int .i64 a.l3] := (X0).ge hb10
  replace X1 : Bx w10 (w.heap.size + 1) 24 #[.int .i64 b.e, .int .i64 b.d, .int .i64 b.l0, .int .i64 b.l1, .int .i64 b.l2, .int .i64 b.l3] := (X1).ge hb10
  replace X2 : Bx w10 (w2.heap.size) 24 #[.int .i64 (enterT a).e, .int .i64 (enterT a).d, .int .i64 (enterT a).l0, .int .i64 (enterT a).l1, .int .i64 (enterT a).l2, .int .i64 (enterT a).l3] := (X2).ge hb10
  replace X3 : Bx w10 (w3.heap.size) 24 #[.int .i64 a.e, .int .i64 a.d, .int .i64 a.l0, .int .i64 a.l1, .int .i64 a.l2, .int .i64 a.l3] := (X3).ge hb10
  replace X4 : Bx w10 (w4.heap.size) 24 #[.int .i64 (nextT a).e, .int .i64 (nextT a).d, .int .i64 (nextT a).l0, .int .i64 (nextT a).l1, .int .i64 (nextT a).l2, .int .i64 (nextT a).l3] := (X4).ge hb10
  replace c0 := X0.cell
  replace l0 := X0.lt
  replace c1 := X1.cell
  replace l1 := X1.lt
  replace c2 := X2.cell
  replace l2 := X2.lt
  replace c3 := X3.cell
  replace l3 := X3.lt
  replace c4 := X4.cell
  replace l4 := X4.lt
  have g10 := Lib.hid hb10
  clear hb10
  go_wp2_with fail
  refine (NB.out _).mono ?_
  rintro e w11 ⟨rfl, hb11⟩
  replace X0 : Bx w11 (w.heap.size) 24 #[.int .i64 a.e, .int .i64 a.d, .int .i64 a.l0, .int .i64 a.l1, .int .i64 a.l2, .int .i64 a.l3] := (X0.alloc _).ge hb11
  replace X1 : Bx w11 (w.heap.size + 1) 24 #[.int .i64 b.e, .int .i64 b.d, .int .i64 b.l0, .int .i64 b.l1, .int .i64 b.l2, .int .i64 b.l3] := (X1.alloc _).ge hb11
  replace X2 : Bx w11 (w2.heap.size) 24 #[.int .i64 (enterT a).e, .int .i64 (enterT a).d, .int .i64 (enterT a).l0, .int .i64 (enterT a).l1, .int .i64 (enterT a).l2, .int .i64 (enterT a).l3] := (X2.alloc _).ge hb11
  replace X3 : Bx w11 (w3.heap.size) 24 #[.int .i64 a.e, .int .i64 a.d, .int .i64 a.l0, .int .i64 a.l1, .int .i64 a.l2, .int .i64 a.l3] := (X3.alloc _).ge hb11
  replace X4 : Bx w11 (w4.heap.size) 24 #[.int .i64 (nextT a).e, .int .i64 (nextT a).d, .int .i64 (nextT a).l0, .int .i64 (nextT a).l1, .int .i64 (nextT a).l2, .int .i64 (nextT a).l3] := (X4.alloc _).ge hb11
  have X5 : Bx w11 (w10.heap.size) 24 #[.int .i64 (enterT b).e, .int .i64 (enterT b).d, .int .i64 (enterT b).l0, .int .i64 (enterT b).l1, .int .i64 (enterT b).l2, .int .i64 (enterT b).l3] := ((Bx.new _ _ _ (by simp))).ge hb11
  replace c0 := X0.cell
  replace l0 := X0.lt
  replace c1 := X1.cell
  replace l1 := X1.lt
  replace c2 := X2.cell
  replace l2 := X2.lt
  replace c3 := X3.cell
  replace l3 := X3.lt
  replace c4 := X4.cell
  replace l4 := X4.lt
  have c5 := X5.cell
  have l5 := X5.lt
  have g11 := Lib.hid hb11
  clear hb11
  go_wp2_with fail
  refine (LVA.out _).mono ?_
  rintro e w12 ⟨rfl, hb12⟩
  replace X0 : Bx w12 (w.heap.size) 24 #[.int .i64 a.e, .int .i64 a.d, .int .i64 a.l0, .int .i64 a.l1, .int .i64 a.l2, .int .i64 a.l3] := (X0.alloc _).ge hb12
  replace X1 : Bx w12 (w.heap.size + 1) 24 #[.int .i64 b.e, .int .i64 b.d, .int .i64 b.l0, .int .i64 b.l1, .int .i64 b.l2, .int .i64 b.l3] := (X1.alloc _).ge hb12
  replace X2 : Bx w12 (w2.heap.size) 24 #[.int .i64 (enterT a).e, .int .i64 (enterT a).d, .int .i64 (enterT a).l0, .int .i64 (enterT a).l1, .int .i64 (enterT a).l2, .int .i64 (enterT a).l3] := (X2.alloc _).ge hb12
  replace X3 : Bx w12 (w3.heap.size) 24 #[.int .i64 a.e, .int .i64 a.d, .int .i64 a.l0, .int .i64 a.l1, .int .i64 a.l2, .int .i64 a.l3] := (X3.alloc _).ge hb12
  replace X4 : Bx w12 (w4.heap.size) 24 #[.int .i64 (nextT a).e, .int .i64 (nextT a).d, .int .i64 (nextT a).l0, .int .i64 (nextT a).l1, .int .i64 (nextT a).l2, .int .i64 (nextT a).l3] := (X4.alloc _).ge hb12
  replace X5 : Bx w12 (w10.heap.size) 24 #[.int .i64 (enterT b).e, .int .i64 (enterT b).d, .int .i64 (enterT b).l0, .int .i64 (enterT b).l1, .int .i64 (enterT b).l2, .int .i64 (enterT b).l3] := (X5.alloc _).ge hb12
  have X6 : Bx w12 (w11.heap.size) 24 #[.int .i64 (nextT b).e, .int .i64 (nextT b).d, .int .i64 (nextT b).l0, .int .i64 (nextT b).l1, .int .i64 (nextT b).l2, .int .i64 (nextT b).l3] := ((Bx.new _ _ _ (by simp))).ge hb12
  replace c0 := X0.cell
  replace l0 := X0.lt
  replace c1 := X1.cell
  replace l1 := X1.lt
  replace c2 := X2.cell
  replace l2 := X2.lt
  replace c3 := X3.cell
  replace l3 := X3.lt
  replace c4 := X4.cell
  replace l4 := X4.lt
  replace c5 := X5.cell
  replace l5 := X5.lt
  have c6 := X6.cell
  have l6 := X6.lt
  have g12 := Lib.hid hb12
  clear hb12
  go_wp2_with fail
  refine (LVB.out _).mono ?_
  rintro e w13 ⟨rfl, hb13⟩
  replace X0 : Bx w13 (w.heap.size) 24 #[.int .i64 a.e, .int .i64 a.d, .int .i64 a.l0, .int .i64 a.l1, .int .i64 a.l2, .int .i64 a.l3] := (X0.alloc _).ge hb13
  replace X1 : Bx w13 (w.heap.size + 1) 24 #[.int .i64 b.e, .int .i64 b.d, .int .i64 b.l0, .int .i64 b.l1, .int .i64 b.l2, .int .i64 b.l3] := (X1.alloc _).ge hb13
  replace X2 : Bx w13 (w2.heap.size) 24 #[.int .i64 (enterT a).e, .int .i64 (enterT a).d, .int .i64 (enterT a).l0, .int .i64 (enterT a).l1, .int .i64 (enterT a).l2, .int .i64 (enterT a).l3] := (X2.alloc _).ge hb13
  replace X3 : Bx w13 (w3.heap.size) 24 #[.int .i64 a.e, .int .i64 a.d, .int .i64 a.l0, .int .i64 a.l1, .int .i64 a.l2, .int .i64 a.l3] := (X3.alloc _).ge hb13
  replace X4 : Bx w13 (w4.heap.size) 24 #[.int .i64 (nextT a).e, .int .i64 (nextT a).d, .int .i64 (nextT a).l0, .int .i64 (nextT a).l1, .int .i64 (nextT a).l2, .int .i64 (nextT a).l3] := (X4.alloc _).ge hb13
  replace X5 : Bx w13 (w10.heap.size) 24 #[.int .i64 (enterT b).e, .int .i64 (enterT b).d, .int .i64 (enterT b).l0, .int .i64 (enterT b).l1, .int .i64 (enterT b).l2, .int .i64 (enterT b).l3] := (X5.alloc _).ge hb13
  replace X6 : Bx w13 (w11.heap.size) 24 #[.int .i64 (nextT b).e, .int .i64 (nextT b).d, .int .i64 (nextT b).l0, .int .i64 (nextT b).l1, .int .i64 (nextT b).l2, .int .i64 (nextT b).l3] := (X6.alloc _).ge hb13
  have X7 : Bx w13 (w12.heap.size) 24 #[.int .i64 (leaveT a).e, .int .i64 (leaveT a).d, .int .i64 (leaveT a).l0, .int .i64 (leaveT a).l1, .int .i64 (leaveT a).l2, .int .i64 (leaveT a).l3] := ((Bx.new _ _ _ (by simp))).ge hb13
  replace c0 := X0.cell
  replace l0 := X0.lt
  replace c1 := X1.cell
  replace l1 := X1.lt
  replace c2 := X2.cell
  replace l2 := X2.lt
  replace c3 := X3.cell
  replace l3 := X3.lt
  replace c4 := X4.cell
  replace l4 := X4.lt
  replace c5 := X5.cell
  replace l5 := X5.lt
  replace c6 := X6.cell
  replace l6 := X6.lt
  have c7 := X7.cell
  have l7 := X7.lt
  have g13 := Lib.hid hb13
  clear hb13
  go_wp2_with fail
  refine (LEE.out _).mono ?_
  rintro e w14 ⟨rfl, hb14⟩
  replace X0 : Bx w14 (w.heap.size) 24 #[.int .i64 a.e, .int .i64 a.d, .int .i64 a.l0, .int .i64 a.l1, .int .i64 a.l2, .int .i64 a.l3] := (X0.alloc _).ge hb14
  replace X1 : Bx w14 (w.heap.size + 1) 24 #[.int .i64 b.e, .int .i64 b.d, .int .i64 b.l0, .int .i64 b.l1, .int .i64 b.l2, .int .i64 b.l3] := (X1.alloc _).ge hb14
  replace X2 : Bx w14 (w2.heap.size) 24 #[.int .i64 (enterT a).e, .int .i64 (enterT a).d, .int .i64 (enterT a).l0, .int .i64 (enterT a).l1, .int .i64 (enterT a).l2, .int .i64 (enterT a).l3] := (X2.alloc _).ge hb14
  replace X3 : Bx w14 (w3.heap.size) 24 #[.int .i64 a.e, .int .i64 a.d, .int .i64 a.l0, .int .i64 a.l1, .int .i64 a.l2, .int .i64 a.l3] := (X3.alloc _).ge hb14
  replace X4 : Bx w14 (w4.heap.size) 24 #[.int .i64 (nextT a).e, .int .i64 (nextT a).d, .int .i64 (nextT a).l0, .int .i64 (nextT a).l1, .int .i64 (nextT a).l2, .int .i64 (nextT a).l3] := (X4.alloc _).ge hb14
  replace X5 : Bx w14 (w10.heap.size) 24 #[.int .i64 (enterT b).e, .int .i64 (enterT b).d, .int .i64 (enterT b).l0, .int .i64 (enterT b).l1, .int .i64 (enterT b).l2, .int .i64 (enterT b).l3] := (X5.alloc _).ge hb14
  replace X6 : Bx w14 (w11.heap.size) 24 #[.int .i64 (nextT b).e, .int .i64 (nextT b).d, .int .i64 (nextT b).l0, .int .i64 (nextT b).l1, .int .i64 (nextT b).l2, .int .i64 (nextT b).l3] := (X6.alloc _).ge hb14
  replace X7 : Bx w14 (w12.heap.size) 24 #[.int .i64 (leaveT a).e, .int .i64 (leaveT a).d, .int .i64 (leaveT a).l0, .int .i64 (leaveT a).l1, .int .i64 (leaveT a).l2, .int .i64 (leaveT a).l3] := (X7.alloc _).ge hb14
  have X8 : Bx w14 (w13.heap.size) 24 #[.int .i64 (leaveT b).e, .int .i64 (leaveT b).d, .int .i64 (leaveT b).l0, .int .i64 (leaveT b).l1, .int .i64 (leaveT b).l2, .int .i64 (leaveT b).l3] := ((Bx.new _ _ _ (by simp))).ge hb14
  replace c0 := X0.cell
  replace l0 := X0.lt
  replace c1 := X1.cell
  replace l1 := X1.lt
  replace c2 := X2.cell
  replace l2 := X2.lt
  replace c3 := X3.cell
  replace l3 := X3.lt
  replace c4 := X4.cell
  replace l4 := X4.lt
  replace c5 := X5.cell
  replace l5 := X5.lt
  replace c6 := X6.cell
  replace l6 := X6.lt
  replace c7 := X7.cell
  replace l7 := X7.lt
  have c8 := X8.cell
  have l8 := X8.lt
  have g14 := Lib.hid hb14
  clear hb14
  go_wp2_with fail
  refine (LNN.out _).mono ?_
  rintro e w15 ⟨rfl, hb15⟩
  replace X0 : Bx w15 (w.heap.size) 24 #[.int .i64 a.e, .int .i64 a.d, .int .i64 a.l0, .int .i64 a.l1, .int .i64 a.l2, .int .i64 a.l3] := (X0).ge hb15
  replace X1 : Bx w15 (w.heap.size + 1) 24 #[.int .i64 b.e, .int .i64 b.d, .int .i64 b.l0, .int .i64 b.l1, .int .i64 b.l2, .int .i64 b.l3] := (X1).ge hb15
  replace X2 : Bx w15 (w2.heap.size) 24 #[.int .i64 (enterT a).e, .int .i64 (enterT a).d, .int .i64 (enterT a).l0, .int .i64 (enterT a).l1, .int .i64 (enterT a).l2, .int .i64 (enterT a).l3] := (X2).ge hb15
  replace X3 : Bx w15 (w3.heap.size) 24 #[.int .i64 a.e, .int .i64 a.d, .int .i64 a.l0, .int .i64 a.l1, .int .i64 a.l2, .int .i64 a.l3] := (X3).ge hb15
  replace X4 : Bx w15 (w4.heap.size) 24 #[.int .i64 (nextT a).e, .int .i64 (nextT a).d, .int .i64 (nextT a).l0, .int .i64 (nextT a).l1, .int .i64 (nextT a).l2, .int .i64 (nextT a).l3] := (X4).ge hb15
  replace X5 : Bx w15 (w10.heap.size) 24 #[.int .i64 (enterT b).e, .int .i64 (enterT b).d, .int .i64 (enterT b).l0, .int .i64 (enterT b).l1, .int .i64 (enterT b).l2, .int .i64 (enterT b).l3] := (X5).ge hb15
  replace X6 : Bx w15 (w11.heap.size) 24 #[.int .i64 (nextT b).e, .int .i64 (nextT b).d, .int .i64 (nextT b).l0, .int .i64 (nextT b).l1, .int .i64 (nextT b).l2, .int .i64 (nextT b).l3] := (X6).ge hb15
  replace X7 : Bx w15 (w12.heap.size) 24 #[.int .i64 (leaveT a).e, .int .i64 (leaveT a).d, .int .i64 (leaveT a).l0, .int .i64 (leaveT a).l1, .int .i64 (leaveT a).l2, .int .i64 (leaveT a).l3] := (X7).ge hb15
  replace X8 : Bx w15 (w13.heap.size) 24 #[.int .i64 (leaveT b).e, .int .i64 (leaveT b).d, .int .i64 (leaveT b).l0, .int .i64 (leaveT b).l1, .int .i64 (leaveT b).l2, .int .i64 (leaveT b).l3] := (X8).ge hb15
  replace c0 := X0.cell
  replace l0 := X0.lt
  replace c1 := X1.cell
  replace l1 := X1.lt
  replace c2 := X2.cell
  replace l2 := X2.lt
  replace c3 := X3.cell
  replace l3 := X3.lt
  replace c4 := X4.cell
  replace l4 := X4.lt
  replace c5 := X5.cell
  replace l5 := X5.lt
  replace c6 := X6.cell
  replace l6 := X6.lt
  replace c7 := X7.cell
  replace l7 := X7.lt
  replace c8 := X8.cell
  replace l8 := X8.lt
  have g15 := Lib.hid hb15
  clear hb15
  go_wp2_with fail
  refine (LLL.out _).mono ?_
  rintro e w16 ⟨rfl, hb16⟩
  replace X0 : Bx w16 (w.heap.size) 24 #[.int .i64 a.e, .int .i64 a.d, .int .i64 a.l0, .int .i64 a.l1, .int .i64 a.l2, .int .i64 a.l3] := (X0).ge hb16
  replace X1 : Bx w16 (w.heap.size + 1) 24 #[.int .i64 b.e, .int .i64 b.d, .int .i64 b.l0, .int .i64 b.l1, .int .i64 b.l2, .int .i64 b.l3] := (X1).ge hb16
  replace X2 : Bx w16 (w2.heap.size) 24 #[.int .i64 (enterT a).e, .int .i64 (enterT a).d, .int .i64 (enterT a).l0, .int .i64 (enterT a).l1, .int .i64 (enterT a).l2, .int .i64 (enterT a).l3] := (X2).ge hb16
  replace X3 : Bx w16 (w3.heap.size) 24 #[.int .i64 a.e, .int .i64 a.d, .int .i64 a.l0, .int .i64 a.l1, .int .i64 a.l2, .int .i64 a.l3] := (X3).ge hb16
  replace X4 : Bx w16 (w4.heap.size) 24 #[.int .i64 (nextT a).e, .int .i64 (nextT a).d, .int .i64 (nextT a).l0, .int .i64 (nextT a).l1, .int .i64 (nextT a).l2, .int .i64 (nextT a).l3] := (X4).ge hb16
  replace X5 : Bx w16 (w10.heap.size) 24 #[.int .i64 (enterT b).e, .int .i64 (enterT b).d, .int .i64 (enterT b).l0, .int .i64 (enterT b).l1, .int .i64 (enterT b).l2, .int .i64 (enterT b).l3] := (X5).ge hb16
  replace X6 : Bx w16 (w11.heap.size) 24 #[.int .i64 (nextT b).e, .int .i64 (nextT b).d, .int .i64 (nextT b).l0, .int .i64 (nextT b).l1, .int .i64 (nextT b).l2, .int .i64 (nextT b).l3] := (X6).ge hb16
  replace X7 : Bx w16 (w12.heap.size) 24 #[.int .i64 (leaveT a).e, .int .i64 (leaveT a).d, .int .i64 (leaveT a).l0, .int .i64 (leaveT a).l1, .int .i64 (leaveT a).l2, .int .i64 (leaveT a).l3] := (X7).ge hb16
  replace X8 : Bx w16 (w13.heap.size) 24 #[.int .i64 (leaveT b).e, .int .i64 (leaveT b).d, .int .i64 (leaveT b).l0, .int .i64 (leaveT b).l1, .int .i64 (leaveT b).l2, .int .i64 (leaveT b).l3] := (X8).ge hb16
  replace c0 := X0.cell
  replace l0 := X0.lt
  replace c1 := X1.cell
  replace l1 := X1.lt
  replace c2 := X2.cell
  replace l2 := X2.lt
  replace c3 := X3.cell
  replace l3 := X3.lt
  replace c4 := X4.cell
  replace l4 := X4.lt
  replace c5 := X5.cell
  replace l5 := X5.lt
  replace c6 := X6.cell
  replace l6 := X6.lt
  replace c7 := X7.cell
  replace l7 := X7.lt
  replace c8 := X8.cell
  replace l8 := X8.lt
  have g16 := Lib.hid hb16
  clear hb16
  go_wp2
  go_ret
  exact ⟨rfl, ((((((((((((((((((((((((((Ge.refl w).alloc _).alloc _).trans g1.out).trans g2.out).alloc _).trans g3.out).alloc _).trans g4.out).alloc _).trans g5.out).trans g6.out).trans g7.out).trans g8.out).trans g9.out).trans g10.out).alloc _).trans g11.out).alloc _).trans g12.out).alloc _).trans g13.out).alloc _).trans g14.out).trans g15.out).trans g16.out)⟩

set_option maxHeartbeats 4000000 in
theorem inout_011011 (a b : Tm) (w : World) (hE : enterE a ≠ 0) (hG : nextE a = 0) (hL : leqB a b = true) (hM : leqB b (nextT a) = false) (hI : nextE b = 0) (hJ : leaveE a = 0) :
    Calls Try.prog 3 #[.agg #[.int .i64 a.e, .int .i64 a.d, .int .i64 a.l0, .int .i64 a.l1, .int .i64 a.l2, .int .i64 a.l3], .agg #[.int .i64 b.e, .int .i64 b.d, .int .i64 b.l0, .int .i64 b.l1, .int .i64 b.l2, .int .i64 b.l3]] w fun e w' => e = .returned (.bool true) ∧ Below w.heap.size w w' := by
  have EA := Lib.hid (enter_any a)
  have e1 : (enterE a == 0) = false := by simp [hE]
  have e2 : (enterE a != 0) = true := by simp [hE]
  have NA := Lib.hid (fun w => by have := next_any a w; rwa [hG] at this)
  have LAN := Lib.hid (fun w => by have := leq_any a (nextT a) w; rwa [(leq_next hG).1] at this)
  have LNA := Lib.hid (fun w => by have := leq_any (nextT a) a w; rwa [(leq_next hG).2] at this)
  have LAB := Lib.hid (fun w => by have := leq_any a b w; rwa [hL] at this)
  have LBN := Lib.hid (fun w => by have := leq_any b (nextT a) w; rwa [hM] at this)
  have EB := Lib.hid (enter_any b)
  have NB := Lib.hid (fun w => by have := next_any b w; rwa [hI] at this)
  have LNN := Lib.hid (fun w => by have := leq_any (nextT a) (nextT b) w; rwa [le_next hL hG hI] at this)
  have hJb := leave_same hL hJ
  have LVA := Lib.hid (fun w => by have := leave_any a w; rwa [hJ] at this)
  have LVB := Lib.hid (fun w => by have := leave_any b w; rwa [hJb] at this)
  have LLL := Lib.hid (fun w => by have := leq_any (leaveT a) (leaveT b) w; rwa [le_leave hL hJ hJb] at this)
  clear hE hG hL hM hI hJ hJb
  go_enter Try.func3, Try.ntmps3
  go_wp2_with fail
  refine (live_any _).mono ?_
  rintro e w1 ⟨rfl, hb1⟩
  have X0 : Bx w1 (w.heap.size) 24 #[.int .i64 a.e, .int .i64 a.d, .int .i64 a.l0, .int .i64 a.l1, .int .i64 a.l2, .int .i64 a.l3] := ((Bx.new _ _ _ (by simp)).alloc _).ge hb1
  have X1 : Bx w1 (w.heap.size + 1) 24 #[.int .i64 b.e, .int .i64 b.d, .int .i64 b.l0, .int .i64 b.l1, .int .i64 b.l2, .int .i64 b.l3] := ((Bx.new _ _ _ (by simp))).ge hb1
  have c0 := X0.cell
  have l0 := X0.lt
  have c1 := X1.cell
  have l1 := X1.lt
  have g1 := Lib.hid hb1
  clear hb1
  go_wp2_with fail
  refine (EA.out _).mono ?_
  rintro e w2 ⟨rfl, hb2⟩
  replace X0 : Bx w2 (w.heap.size) 24 #[.int .i64 a.e, .int .i64 a.d, .int .i64 a.l0, .int .i64 a.l1, .int .i64 a.l2, .int .i64 a.l3] := (X0).ge hb2
  replace X1 : Bx w2 (w.heap.size + 1) 24 #[.int .i64 b.e, .int .i64 b.d, .int .i64 b.l0, .int .i64 b.l1, .int .i64 b.l2, .int .i64 b.l3] := (X1).ge hb2
  replace c0 := X0.cell
  replace l0 := X0.lt
  replace c1 := X1.cell
  replace l1 := X1.lt
  have g2 := Lib.hid hb2
  clear hb2
  go_wp2_with fail
  refine (NA.out _).mono ?_
  rintro e w3 ⟨rfl, hb3⟩
  replace X0 : Bx w3 (w.heap.size) 24 #[.int .i64 a.e, .int .i64 a.d, .int .i64 a.l0, .int .i64 a.l1, .int .i64 a.l2, .int .i64 a.l3] := (X0.alloc _).ge hb3
  replace X1 : Bx w3 (w.heap.size + 1) 24 #[.int .i64 b.e, .int .i64 b.d, .int .i64 b.l0, .int .i64 b.l1, .int .i64 b.l2, .int .i64 b.l3] := (X1.alloc _).ge hb3
  have X2 : Bx w3 (w2.heap.size) 24 #[.int .i64 (enterT a).e, .int .i64 (enterT a).d, .int .i64 (enterT a).l0, .int .i64 (enterT a).l1, .int .i64 (enterT a).l2, .int .i64 (enterT a).l3] := ((Bx.new _ _ _ (by simp))).ge hb3
  replace c0 := X0.cell
  replace l0 := X0.lt
  replace c1 := X1.cell
  replace l1 := X1.lt
  have c2 := X2.cell
  have l2 := X2.lt
  have g3 := Lib.hid hb3
  clear hb3
  go_wp2_with fail
  refine (LAN.out _).mono ?_
  rintro e w4 ⟨rfl, hb4⟩
  replace X0 : Bx w4 (w.heap.size) 24 #[.int .i64 a.e, .int .i64 a.d, .int .i64 a.l0, .int .i64 a.l1, .int .i64 a.l2, .int .i64 a.l3] := (X0.alloc _).ge hb4
  replace X1 : Bx w4 (w.heap.size + 1) 24 #[.int .i64 b.e, .int .i64 b.d, .int .i64 b.l0, .int .i64 b.l1, .int .i64 b.l2, .int .i64 b.l3] := (X1.alloc _).ge hb4
  replace X2 : Bx w4 (w2.heap.size) 24 #[.int .i64 (enterT a).e, .int .i64 (enterT a).d, .int .i64 (enterT a).l0, .int .i64 (enterT a).l1, .int .i64 (enterT a).l2, .int .i64 (enterT a).l3] := (X2.alloc _).ge hb4
  have X3 : Bx w4 (w3.heap.size) 24 #[.int .i64 (nextT a).e, .int .i64 (nextT a).d, .int .i64 (nextT a).l0, .int .i64 (nextT a).l1, .int .i64 (nextT a).l2, .int .i64 (nextT a).l3] := ((Bx.new _ _ _ (by simp))).ge hb4
  replace c0 := X0.cell
  replace l0 := X0.lt
  replace c1 := X1.cell
  replace l1 := X1.lt
  replace c2 := X2.cell
  replace l2 := X2.lt
  have c3 := X3.cell
  have l3 := X3.lt
  have g4 := Lib.hid hb4
  clear hb4
  go_wp2_with fail
  refine (LNA.out _).mono ?_
  rintro e w5 ⟨rfl, hb5⟩
  replace X0 : Bx w5 (w.heap.size) 24 #[.int .i64 a.e, .int .i64 a.d, .int .i64 a.l0, .int .i64 a.l1, .int .i64 a.l2, .int .i64 a.l3] := (X0).ge hb5
  replace X1 : Bx w5 (w.heap.size + 1) 24 #[.int .i64 b.e, .int .i64 b.d, .int .i64 b.l0, .int .i64 b.l1, .int .i64 b.l2, .int .i64 b.l3] := (X1).ge hb5
  replace X2 : Bx w5 (w2.heap.size) 24 #[.int .i64 (enterT a).e, .int .i64 (enterT a).d, .int .i64 (enterT a).l0, .int .i64 (enterT a).l1, .int .i64 (enterT a).l2, .int .i64 (enterT a).l3] := (X2).ge hb5
  replace X3 : Bx w5 (w3.heap.size) 24 #[.int .i64 (nextT a).e, .int .i64 (nextT a).d, .int .i64 (nextT a).l0, .int .i64 (nextT a).l1, .int .i64 (nextT a).l2, .int .i64 (nextT a).l3] := (X3).ge hb5
  replace c0 := X0.cell
  replace l0 := X0.lt
  replace c1 := X1.cell
  replace l1 := X1.lt
  replace c2 := X2.cell
  replace l2 := X2.lt
  replace c3 := X3.cell
  replace l3 := X3.lt
  have g5 := Lib.hid hb5
  clear hb5
  go_wp2_with fail
  refine (LAB.out _).mono ?_
  rintro e w6 ⟨rfl, hb6⟩
  replace X0 : Bx w6 (w.heap.size) 24 #[.int .i64 a.e, .int .i64 a.d, .int .i64 a.l0, .int .i64 a.l1, .int .i64 a.l2, .int .i64 a.l3] := (X0).ge hb6
  replace X1 : Bx w6 (w.heap.size + 1) 24 #[.int .i64 b.e, .int .i64 b.d, .int .i64 b.l0, .int .i64 b.l1, .int .i64 b.l2, .int .i64 b.l3] := (X1).ge hb6
  replace X2 : Bx w6 (w2.heap.size) 24 #[.int .i64 (enterT a).e, .int .i64 (enterT a).d, .int .i64 (enterT a).l0, .int .i64 (enterT a).l1, .int .i64 (enterT a).l2, .int .i64 (enterT a).l3] := (X2).ge hb6
  replace X3 : Bx w6 (w3.heap.size) 24 #[.int .i64 (nextT a).e, .int .i64 (nextT a).d, .int .i64 (nextT a).l0, .int .i64 (nextT a).l1, .int .i64 (nextT a).l2, .int .i64 (nextT a).l3] := (X3).ge hb6
  replace c0 := X0.cell
  replace l0 := X0.lt
  replace c1 := X1.cell
  replace l1 := X1.lt
  replace c2 := X2.cell
  replace l2 := X2.lt
  replace c3 := X3.cell
  replace l3 := X3.lt
  have g6 := Lib.hid hb6
  clear hb6
  go_wp2_with fail
  refine (LBN.out _).mono ?_
  rintro e w7 ⟨rfl, hb7⟩
  replace X0 : Bx w7 (w.heap.size) 24 #[.int .i64 a.e, .int .i64 a.d, .int .i64 a.l0, .int .i64 a.l1, .int .i64 a.l2, .int .i64 a.l3] := (X0).ge hb7
  replace X1 : Bx w7 (w.heap.size + 1) 24 #[.int .i64 b.e, .int .i64 b.d, .int .i64 b.l0, .int .i64 b.l1, .int .i64 b.l2, .int .i64 b.l3] := (X1).ge hb7
  replace X2 : Bx w7 (w2.heap.size) 24 #[.int .i64 (enterT a).e, .int .i64 (enterT a).d, .int .i64 (enterT a).l0, .int .i64 (enterT a).l1, .int .i64 (enterT a).l2, .int .i64 (enterT a).l3] := (X2).ge hb7
  replace X3 : Bx w7 (w3.heap.size) 24 #[.int .i64 (nextT a).e, .int .i64 (nextT a).d, .int .i64 (nextT a).l0, .int .i64 (nextT a).l1, .int .i64 (nextT a).l2, .int .i64 (nextT a).l3] := (X3).ge hb7
  replace c0 := X0.cell
  replace l0 := X0.lt
  replace c1 := X1.cell
  replace l1 := X1.lt
  replace c2 := X2.cell
  replace l2 := X2.lt
  replace c3 := X3.cell
  replace l3 := X3.lt
  have g7 := Lib.hid hb7
  clear hb7
  go_wp2_with fail
  refine (LAB.out _).mono ?_
  rintro e w8 ⟨rfl, hb8⟩
  replace X0 : Bx w8 (w.heap.size) 24 #[.int .i64 a.e, .int .i64 a.d, .int .i64 a.l0, .int .i64 a.l1, .int .i64 a.l2, .int .i64 a.l3] := (X0).ge hb8
  replace X1 : Bx w8 (w.heap.size + 1) 24 #[.int .i64 b.e, .int .i64 b.d, .int .i64 b.l0, .int .i64 b.l1, .int .i64 b.l2, .int .i64 b.l3] := (X1).ge hb8
  replace X2 : Bx w8 (w2.heap.size) 24 #[.int .i64 (enterT a).e, .int .i64 (enterT a).d, .int .i64 (enterT a).l0, .int .i64 (enterT a).l1, .int .i64 (enterT a).l2, .int .i64 (enterT a).l3] := (X2).ge hb8
  replace X3 : Bx w8 (w3.heap.size) 24 #[.int .i64 (nextT a).e, .int .i64 (nextT a).d, .int .i64 (nextT a).l0, .int .i64 (nextT a).l1, .int .i64 (nextT a).l2, .int .i64 (nextT a).l3] := (X3).ge hb8
  replace c0 := X0.cell
  replace l0 := X0.lt
  replace c1 := X1.cell
  replace l1 := X1.lt
  replace c2 := X2.cell
  replace l2 := X2.lt
  replace c3 := X3.cell
  replace l3 := X3.lt
  have g8 := Lib.hid hb8
  clear hb8
  go_wp2_with fail
  refine (EB.out _).mono ?_
  rintro e w9 ⟨rfl, hb9⟩
  replace X0 : Bx w9 (w.heap.size) 24 #[.int .i64 a.e, .int .i64 a.d, .int .i64 a.l0, .int .i64 a.l1, .int .i64 a.l2, .int .i64 a.l3] := (X0).ge hb9
  replace X1 : Bx w9 (w.heap.size + 1) 24 #[.int .i64 b.e, .int .i64 b.d, .int .i64 b.l0, .int .i64 b.l1, .int .i64 b.l2, .int .i64 b.l3] := (X1).ge hb9
  replace X2 : Bx w9 (w2.heap.size) 24 #[.int .i64 (enterT a).e, .int .i64 (enterT a).d, .int .i64 (enterT a).l0, .int .i64 (enterT a).l1, .int .i64 (enterT a).l2, .int .i64 (enterT a).l3] := (X2).ge hb9
  replace X3 : Bx w9 (w3.heap.size) 24 #[.int .i64 (nextT a).e, .int .i64 (nextT a).d, .int .i64 (nextT a).l0, .int .i64 (nextT a).l1, .int .i64 (nextT a).l2, .int .i64 (nextT a).l3] := (X3).ge hb9
  replace c0 := X0.cell
  replace l0 := X0.lt
  replace c1 := X1.cell
  replace l1 := X1.lt
  replace c2 := X2.cell
  replace l2 := X2.lt
  replace c3 := X3.cell
  replace l3 := X3.lt
  have g9 := Lib.hid hb9
  clear hb9
  go_wp2_with fail
  refine (NB.out _).mono ?_
  rintro e w10 ⟨rfl, hb10⟩
  replace X0 : Bx w10 (w.heap.size) 24 #[.int .i64 a.e, .int .i64 a.d, .int .i64 a.l0, .int .i64 a.l1, .int .i64 a.l2, .int .i64 a.l3] := (X0.alloc _).ge hb10
  replace X1 : Bx w10 (w.heap.size + 1) 24 #[.int .i64 b.e, .int .i64 b.d, .int .i64 b.l0, .int .i64 b.l1, .int .i64 b.l2, .int .i64 b.l3] := (X1.alloc _).ge hb10
  replace X2 : Bx w10 (w2.heap.size) 24 #[.int .i64 (enterT a).e, .int .i64 (enterT a).d, .int .i64 (enterT a).l0, .int .i64 (enterT a).l1, .int .i64 (enterT a).l2, .int .i64 (enterT a).l3] := (X2.alloc _).ge hb10
  replace X3 : Bx w10 (w3.heap.size) 24 #[.int .i64 (nextT a).e, .int .i64 (nextT a).d, .int .i64 (nextT a).l0, .int .i64 (nextT a).l1, .int .i64 (nextT a).l2, .int .i64 (nextT a).l3] := (X3.alloc _).ge hb10
  have X4 : Bx w10 (w9.heap.size) 24 #[.int .i64 (enterT b).e, .int .i64 (enterT b).d, .int .i64 (enterT b).l0, .int .i64 (enterT b).l1, .int .i64 (enterT b).l2, .int .i64 (enterT b).l3] := ((Bx.new _ _ _ (by simp))).ge hb10
  replace c0 := X0.cell
  replace l0 := X0.lt
  replace c1 := X1.cell
  replace l1 := X1.lt
  replace c2 := X2.cell
  replace l2 := X2.lt
  replace c3 := X3.cell
  replace l3 := X3.lt
  have c4 := X4.cell
  have l4 := X4.lt
  have g10 := Lib.hid hb10
  clear hb10
  go_wp2_with fail
  refine (LVA.out _).mono ?_
  rintro e w11 ⟨rfl, hb11⟩
  replace X0 : Bx w11 (w.heap.size) 24 #[.int .i64 a.e, .int .i64 a.d, .int .i64 a.l0, .int .i64 a.l1, .int .i64 a.l2, .int .i64 a.l3] := (X0.alloc _).ge hb11
  replace X1 : Bx w11 (w.heap.size + 1) 24 #[.int .i64 b.e, .int .i64 b.d, .int .i64 b.l0, .int .i64 b.l1, .int .i64 b.l2, .int .i64 b.l3] := (X1.alloc _).ge hb11
  replace X2 : Bx w11 (w2.heap.size) 24 #[.int .i64 (enterT a).e, .int .i64 (enterT a).d, .int .i64 (enterT a).l0, .int .i64 (enterT a).l1, .int .i64 (enterT a).l2, .int .i64 (enterT a).l3] := (X2.alloc _).ge hb11
  replace X3 : Bx w11 (w3.heap.size) 24 #[.int .i64 (nextT a).e, .int .i64 (nextT a).d, .int .i64 (nextT a).l0, .int .i64 (nextT a).l1, .int .i64 (nextT a).l2, .int .i64 (nextT a).l3] := (X3.alloc _).ge hb11
  replace X4 : Bx w11 (w9.heap.size) 24 #[.int .i64 (enterT b).e, .int .i64 (enterT b).d, .int .i64 (enterT b).l0, .int .i64 (enterT b).l1, .int .i64 (enterT b).l2, .int .i64 (enterT b).l3] := (X4.alloc _).ge hb11
  have X5 : Bx w11 (w10.heap.size) 24 #[.int .i64 (nextT b).e, .int .i64 (nextT b).d, .int .i64 (nextT b).l0, .int .i64 (nextT b).l1, .int .i64 (nextT b).l2, .int .i64 (nextT b).l3] := ((Bx.new _ _ _ (by simp))).ge hb11
  replace c0 := X0.cell
  replace l0 := X0.lt
  replace c1 := X1.cell
  replace l1 := X1.lt
  replace c2 := X2.cell
  replace l2 := X2.lt
  replace c3 := X3.cell
  replace l3 := X3.lt
  replace c4 := X4.cell
  replace l4 := X4.lt
  have c5 := X5.cell
  have l5 := X5.lt
  have g11 := Lib.hid hb11
  clear hb11
  go_wp2_with fail
  refine (LVB.out _).mono ?_
  rintro e w12 ⟨rfl, hb12⟩
  replace X0 : Bx w12 (w.heap.size) 24 #[.int .i64 a.e, .int .i64 a.d, .int .i64 a.l0, .int .i64 a.l1, .int .i64 a.l2, .int .i64 a.l3] := (X0.alloc _).ge hb12
  replace X1 : Bx w12 (w.heap.size + 1) 24 #[.int .i64 b.e, .int .i64 b.d, .int .i64 b.l0, .int .i64 b.l1, .int .i64 b.l2, .int .i64 b.l3] := (X1.alloc _).ge hb12
  replace X2 : Bx w12 (w2.heap.size) 24 #[.int .i64 (enterT a).e, .int .i64 (enterT a).d, .int .i64 (enterT a).l0, .int .i64 (enterT a).l1, .int .i64 (enterT a).l2, .int .i64 (enterT a).l3] := (X2.alloc _).ge hb12
  replace X3 : Bx w12 (w3.heap.size) 24 #[.int .i64 (nextT a).e, .int .i64 (nextT a).d, .int .i64 (nextT a).l0, .int .i64 (nextT a).l1, .int .i64 (nextT a).l2, .int .i64 (nextT a).l3] := (X3.alloc _).ge hb12
  replace X4 : Bx w12 (w9.heap.size) 24 #[.int .i64 (enterT b).e, .int .i64 (enterT b).d, .int .i64 (enterT b).l0, .int .i64 (enterT b).l1, .int .i64 (enterT b).l2, .int .i64 (enterT b).l3] := (X4.alloc _).ge hb12
  replace X5 : Bx w12 (w10.heap.size) 24 #[.int .i64 (nextT b).e, .int .i64 (nextT b).d, .int .i64 (nextT b).l0, .int .i64 (nextT b).l1, .int .i64 (nextT b).l2, .int .i64 (nextT b).l3] := (X5.alloc _).ge hb12
  have X6 : Bx w12 (w11.heap.size) 24 #[.int .i64 (leaveT a).e, .int .i64 (leaveT a).d, .int .i64 (leaveT a).l0, .int .i64 (leaveT a).l1, .int .i64 (leaveT a).l2, .int .i64 (leaveT a).l3] := ((Bx.new _ _ _ (by simp))).ge hb12
  replace c0 := X0.cell
  replace l0 := X0.lt
  replace c1 := X1.cell
  replace l1 := X1.lt
  replace c2 := X2.cell
  replace l2 := X2.lt
  replace c3 := X3.cell
  replace l3 := X3.lt
  replace c4 := X4.cell
  replace l4 := X4.lt
  replace c5 := X5.cell
  replace l5 := X5.lt
  have c6 := X6.cell
  have l6 := X6.lt
  have g12 := Lib.hid hb12
  clear hb12
  go_wp2_with fail
  refine (LNN.out _).mono ?_
  rintro e w13 ⟨rfl, hb13⟩
  replace X0 : Bx w13 (w.heap.size) 24 #[.int .i64 a.e, .int .i64 a.d, .int .i64 a.l0, .int .i64 a.l1, .int .i64 a.l2, .int .i64 a.l3] := (X0.alloc _).ge hb13
  replace X1 : Bx w13 (w.heap.size + 1) 24 #[.int .i64 b.e, .int .i64 b.d, .int .i64 b.l0, .int .i64 b.l1, .int .i64 b.l2, .int .i64 b.l3] := (X1.alloc _).ge hb13
  replace X2 : Bx w13 (w2.heap.size) 24 #[.int .i64 (enterT a).e, .int .i64 (enterT a).d, .int .i64 (enterT a).l0, .int .i64 (enterT a).l1, .int .i64 (enterT a).l2, .int .i64 (enterT a).l3] := (X2.alloc _).ge hb13
  replace X3 : Bx w13 (w3.heap.size) 24 #[.int .i64 (nextT a).e, .int .i64 (nextT a).d, .int .i64 (nextT a).l0, .int .i64 (nextT a).l1, .int .i64 (nextT a).l2, .int .i64 (nextT a).l3] := (X3.alloc _).ge hb13
  replace X4 : Bx w13 (w9.heap.size) 24 #[.int .i64 (enterT b).e, .int .i64 (enterT b).d, .int .i64 (enterT b).l0, .int .i64 (enterT b).l1, .int .i64 (enterT b).l2, .int .i64 (enterT b).l3] := (X4.alloc _).ge hb13
  replace X5 : Bx w13 (w10.heap.size) 24 #[.int .i64 (nextT b).e, .int .i64 (nextT b).d, .int .i64 (nextT b).l0, .int .i64 (nextT b).l1, .int .i64 (nextT b).l2, .int .i64 (nextT b).l3] := (X5.alloc _).ge hb13
  replace X6 : Bx w13 (w11.heap.size) 24 #[.int .i64 (leaveT a).e, .int .i64 (leaveT a).d, .int .i64 (leaveT a).l0, .int .i64 (leaveT a).l1, .int .i64 (leaveT a).l2, .int .i64 (leaveT a).l3] := (X6.alloc _).ge hb13
  have X7 : Bx w13 (w12.heap.size) 24 #[.int .i64 (leaveT b).e, .int .i64 (leaveT b).d, .int .i64 (leaveT b).l0, .int .i64 (leaveT b).l1, .int .i64 (leaveT b).l2, .int .i64 (leaveT b).l3] := ((Bx.new _ _ _ (by simp))).ge hb13
  replace c0 := X0.cell
  replace l0 := X0.lt
  replace c1 := X1.cell
  replace l1 := X1.lt
  replace c2 := X2.cell
  replace l2 := X2.lt
  replace c3 := X3.cell
  replace l3 := X3.lt
  replace c4 := X4.cell
  replace l4 := X4.lt
  replace c5 := X5.cell
  replace l5 := X5.lt
  replace c6 := X6.cell
  replace l6 := X6.lt
  have c7 := X7.cell
  have l7 := X7.lt
  have g13 := Lib.hid hb13
  clear hb13
  go_wp2_with fail
  refine (LLL.out _).mono ?_
  rintro e w14 ⟨rfl, hb14⟩
  replace X0 : Bx w14 (w.heap.size) 24 #[.int .i64 a.e, .int .i64 a.d, .int .i64 a.l0, .int .i64 a.l1, .int .i64 a.l2, .int .i64 a.l3] := (X0).ge hb14
  replace X1 : Bx w14 (w.heap.size + 1) 24 #[.int .i64 b.e, .int .i64 b.d, .int .i64 b.l0, .int .i64 b.l1, .int .i64 b.l2, .int .i64 b.l3] := (X1).ge hb14
  replace X2 : Bx w14 (w2.heap.size) 24 #[.int .i64 (enterT a).e, .int .i64 (enterT a).d, .int .i64 (enterT a).l0, .int .i64 (enterT a).l1, .int .i64 (enterT a).l2, .int .i64 (enterT a).l3] := (X2).ge hb14
  replace X3 : Bx w14 (w3.heap.size) 24 #[.int .i64 (nextT a).e, .int .i64 (nextT a).d, .int .i64 (nextT a).l0, .int .i64 (nextT a).l1, .int .i64 (nextT a).l2, .int .i64 (nextT a).l3] := (X3).ge hb14
  replace X4 : Bx w14 (w9.heap.size) 24 #[.int .i64 (enterT b).e, .int .i64 (enterT b).d, .int .i64 (enterT b).l0, .int .i64 (enterT b).l1, .int .i64 (enterT b).l2, .int .i64 (enterT b).l3] := (X4).ge hb14
  replace X5 : Bx w14 (w10.heap.size) 24 #[.int .i64 (nextT b).e, .int .i64 (nextT b).d, .int .i64 (nextT b).l0, .int .i64 (nextT b).l1, .int .i64 (nextT b).l2, .int .i64 (nextT b).l3] := (X5).ge hb14
  replace X6 : Bx w14 (w11.heap.size) 24 #[.int .i64 (leaveT a).e, .int .i64 (leaveT a).d, .int .i64 (leaveT a).l0, .int .i64 (leaveT a).l1, .int .i64 (leaveT a).l2, .int .i64 (leaveT a).l3] := (X6).ge hb14
  replace X7 : Bx w14 (w12.heap.size) 24 #[.int .i64 (leaveT b).e, .int .i64 (leaveT b).d, .int .i64 (leaveT b).l0, .int .i64 (leaveT b).l1, .int .i64 (leaveT b).l2, .int .i64 (leaveT b).l3] := (X7).ge hb14
  replace c0 := X0.cell
  replace l0 := X0.lt
  replace c1 := X1.cell
  replace l1 := X1.lt
  replace c2 := X2.cell
  replace l2 := X2.lt
  replace c3 := X3.cell
  replace l3 := X3.lt
  replace c4 := X4.cell
  replace l4 := X4.lt
  replace c5 := X5.cell
  replace l5 := X5.lt
  replace c6 := X6.cell
  replace l6 := X6.lt
  replace c7 := X7.cell
  replace l7 := X7.lt
  have g14 := Lib.hid hb14
  clear hb14
  go_wp2
  go_ret
  exact ⟨rfl, (((((((((((((((((((((((Ge.refl w).alloc _).alloc _).trans g1.out).trans g2.out).alloc _).trans g3.out).alloc _).trans g4.out).trans g5.out).trans g6.out).trans g7.out).trans g8.out).trans g9.out).alloc _).trans g10.out).alloc _).trans g11.out).alloc _).trans g12.out).alloc _).trans g13.out).trans g14.out)⟩

set_option maxHeartbeats 4000000 in
theorem inout_011A01 (a b : Tm) (w : World) (hE : enterE a ≠ 0) (hG : nextE a = 0) (hL : leqB a b = true) (hM : leqB b (nextT a) = true) (hQ : eqB b a = true) (hI : nextE b ≠ 0) (hJ : leaveE a = 0) :
    Calls Try.prog 3 #[.agg #[.int .i64 a.e, .int .i64 a.d, .int .i64 a.l0, .int .i64 a.l1, .int .i64 a.l2, .int .i64 a.l3], .agg #[.int .i64 b.e, .int .i64 b.d, .int .i64 b.l0, .int .i64 b.l1, .int .i64 b.l2, .int .i64 b.l3]] w fun e w' => e = .returned (.bool true) ∧ Below w.heap.size w w' := by
  have EA := Lib.hid (enter_any a)
  have e1 : (enterE a == 0) = false := by simp [hE]
  have e2 : (enterE a != 0) = true := by simp [hE]
  have NA := Lib.hid (fun w => by have := next_any a w; rwa [hG] at this)
  have LAN := Lib.hid (fun w => by have := leq_any a (nextT a) w; rwa [(leq_next hG).1] at this)
  have LNA := Lib.hid (fun w => by have := leq_any (nextT a) a w; rwa [(leq_next hG).2] at this)
  have LAB := Lib.hid (fun w => by have := leq_any a b w; rwa [hL] at this)
  have LBN := Lib.hid (fun w => by have := leq_any b (nextT a) w; rwa [hM] at this)
  have q2 := fun w => neq_tm b a w
  simp only [hQ, Bool.not_true] at q2
  have EB := Lib.hid (enter_any b)
  have NB := Lib.hid (next_any b)
  have i2 : (nextE b != 0) = true := by simp [hI]
  have hJb := leave_same hL hJ
  have LVA := Lib.hid (fun w => by have := leave_any a w; rwa [hJ] at this)
  have LVB := Lib.hid (fun w => by have := leave_any b w; rwa [hJb] at this)
  have LLL := Lib.hid (fun w => by have := leq_any (leaveT a) (leaveT b) w; rwa [le_leave hL hJ hJb] at this)
  clear hE hG hL hM hQ hI hJ hJb
  go_enter Try.func3, Try.ntmps3
  go_wp2_with fail
  refine (live_any _).mono ?_
  rintro e w1 ⟨rfl, hb1⟩
  have X0 : Bx w1 (w.heap.size) 24 #[.int .i64 a.e, .int .i64 a.d, .int .i64 a.l0, .int .i64 a.l1, .int .i64 a.l2, .int .i64 a.l3] := ((Bx.new _ _ _ (by simp)).alloc _).ge hb1
  have X1 : Bx w1 (w.heap.size + 1) 24 #[.int .i64 b.e, .int .i64 b.d, .int .i64 b.l0, .int .i64 b.l1, .int .i64 b.l2, .int .i64 b.l3] := ((Bx.new _ _ _ (by simp))).ge hb1
  have c0 := X0.cell
  have l0 := X0.lt
  have c1 := X1.cell
  have l1 := X1.lt
  have g1 := Lib.hid hb1
  clear hb1
  go_wp2_with fail
  refine (EA.out _).mono ?_
  rintro e w2 ⟨rfl, hb2⟩
  replace X0 : Bx w2 (w.heap.size) 24 #[.int .i64 a.e, .int .i64 a.d, .int .i64 a.l0, .int .i64 a.l1, .int .i64 a.l2, .int .i64 a.l3] := (X0).ge hb2
  replace X1 : Bx w2 (w.heap.size + 1) 24 #[.int .i64 b.e, .int .i64 b.d, .int .i64 b.l0, .int .i64 b.l1, .int .i64 b.l2, .int .i64 b.l3] := (X1).ge hb2
  replace c0 := X0.cell
  replace l0 := X0.lt
  replace c1 := X1.cell
  replace l1 := X1.lt
  have g2 := Lib.hid hb2
  clear hb2
  go_wp2_with fail
  refine (NA.out _).mono ?_
  rintro e w3 ⟨rfl, hb3⟩
  replace X0 : Bx w3 (w.heap.size) 24 #[.int .i64 a.e, .int .i64 a.d, .int .i64 a.l0, .int .i64 a.l1, .int .i64 a.l2, .int .i64 a.l3] := (X0.alloc _).ge hb3
  replace X1 : Bx w3 (w.heap.size + 1) 24 #[.int .i64 b.e, .int .i64 b.d, .int .i64 b.l0, .int .i64 b.l1, .int .i64 b.l2, .int .i64 b.l3] := (X1.alloc _).ge hb3
  have X2 : Bx w3 (w2.heap.size) 24 #[.int .i64 (enterT a).e, .int .i64 (enterT a).d, .int .i64 (enterT a).l0, .int .i64 (enterT a).l1, .int .i64 (enterT a).l2, .int .i64 (enterT a).l3] := ((Bx.new _ _ _ (by simp))).ge hb3
  replace c0 := X0.cell
  replace l0 := X0.lt
  replace c1 := X1.cell
  replace l1 := X1.lt
  have c2 := X2.cell
  have l2 := X2.lt
  have g3 := Lib.hid hb3
  clear hb3
  go_wp2_with fail
  refine (LAN.out _).mono ?_
  rintro e w4 ⟨rfl, hb4⟩
  replace X0 : Bx w4 (w.heap.size) 24 #[.int .i64 a.e, .int .i64 a.d, .int .i64 a.l0, .int .i64 a.l1, .int .i64 a.l2, .int .i64 a.l3] := (X0.alloc _).ge hb4
  replace X1 : Bx w4 (w.heap.size + 1) 24 #[.int .i64 b.e, .int .i64 b.d, .int .i64 b.l0, .int .i64 b.l1, .int .i64 b.l2, .int .i64 b.l3] := (X1.alloc _).ge hb4
  replace X2 : Bx w4 (w2.heap.size) 24 #[.int .i64 (enterT a).e, .int .i64 (enterT a).d, .int .i64 (enterT a).l0, .int .i64 (enterT a).l1, .int .i64 (enterT a).l2, .int .i64 (enterT a).l3] := (X2.alloc _).ge hb4
  have X3 : Bx w4 (w3.heap.size) 24 #[.int .i64 (nextT a).e, .int .i64 (nextT a).d, .int .i64 (nextT a).l0, .int .i64 (nextT a).l1, .int .i64 (nextT a).l2, .int .i64 (nextT a).l3] := ((Bx.new _ _ _ (by simp))).ge hb4
  replace c0 := X0.cell
  replace l0 := X0.lt
  replace c1 := X1.cell
  replace l1 := X1.lt
  replace c2 := X2.cell
  replace l2 := X2.lt
  have c3 := X3.cell
  have l3 := X3.lt
  have g4 := Lib.hid hb4
  clear hb4
  go_wp2_with fail
  refine (LNA.out _).mono ?_
  rintro e w5 ⟨rfl, hb5⟩
  replace X0 : Bx w5 (w.heap.size) 24 #[.int .i64 a.e, .int .i64 a.d, .int .i64 a.l0, .int .i64 a.l1, .int .i64 a.l2, .int .i64 a.l3] := (X0).ge hb5
  replace X1 : Bx w5 (w.heap.size + 1) 24 #[.int .i64 b.e, .int .i64 b.d, .int .i64 b.l0, .int .i64 b.l1, .int .i64 b.l2, .int .i64 b.l3] := (X1).ge hb5
  replace X2 : Bx w5 (w2.heap.size) 24 #[.int .i64 (enterT a).e, .int .i64 (enterT a).d, .int .i64 (enterT a).l0, .int .i64 (enterT a).l1, .int .i64 (enterT a).l2, .int .i64 (enterT a).l3] := (X2).ge hb5
  replace X3 : Bx w5 (w3.heap.size) 24 #[.int .i64 (nextT a).e, .int .i64 (nextT a).d, .int .i64 (nextT a).l0, .int .i64 (nextT a).l1, .int .i64 (nextT a).l2, .int .i64 (nextT a).l3] := (X3).ge hb5
  replace c0 := X0.cell
  replace l0 := X0.lt
  replace c1 := X1.cell
  replace l1 := X1.lt
  replace c2 := X2.cell
  replace l2 := X2.lt
  replace c3 := X3.cell
  replace l3 := X3.lt
  have g5 := Lib.hid hb5
  clear hb5
  go_wp2_with fail
  refine (LAB.out _).mono ?_
  rintro e w6 ⟨rfl, hb6⟩
  replace X0 : Bx w6 (w.heap.size) 24 #[.int .i64 a.e, .int .i64 a.d, .int .i64 a.l0, .int .i64 a.l1, .int .i64 a.l2, .int .i64 a.l3] := (X0).ge hb6
  replace X1 : Bx w6 (w.heap.size + 1) 24 #[.int .i64 b.e, .int .i64 b.d, .int .i64 b.l0, .int .i64 b.l1, .int .i64 b.l2, .int .i64 b.l3] := (X1).ge hb6
  replace X2 : Bx w6 (w2.heap.size) 24 #[.int .i64 (enterT a).e, .int .i64 (enterT a).d, .int .i64 (enterT a).l0, .int .i64 (enterT a).l1, .int .i64 (enterT a).l2, .int .i64 (enterT a).l3] := (X2).ge hb6
  replace X3 : Bx w6 (w3.heap.size) 24 #[.int .i64 (nextT a).e, .int .i64 (nextT a).d, .int .i64 (nextT a).l0, .int .i64 (nextT a).l1, .int .i64 (nextT a).l2, .int .i64 (nextT a).l3] := (X3).ge hb6
  replace c0 := X0.cell
  replace l0 := X0.lt
  replace c1 := X1.cell
  replace l1 := X1.lt
  replace c2 := X2.cell
  replace l2 := X2.lt
  replace c3 := X3.cell
  replace l3 := X3.lt
  have g6 := Lib.hid hb6
  clear hb6
  go_wp2_with fail
  refine (LBN.out _).mono ?_
  rintro e w7 ⟨rfl, hb7⟩
  replace X0 : Bx w7 (w.heap.size) 24 #[.int .i64 a.e, .int .i64 a.d, .int .i64 a.l0, .int .i64 a.l1, .int .i64 a.l2, .int .i64 a.l3] := (X0).ge hb7
  replace X1 : Bx w7 (w.heap.size + 1) 24 #[.int .i64 b.e, .int .i64 b.d, .int .i64 b.l0, .int .i64 b.l1, .int .i64 b.l2, .int .i64 b.l3] := (X1).ge hb7
  replace X2 : Bx w7 (w2.heap.size) 24 #[.int .i64 (enterT a).e, .int .i64 (enterT a).d, .int .i64 (enterT a).l0, .int .i64 (enterT a).l1, .int .i64 (enterT a).l2, .int .i64 (enterT a).l3] := (X2).ge hb7
  replace X3 : Bx w7 (w3.heap.size) 24 #[.int .i64 (nextT a).e, .int .i64 (nextT a).d, .int .i64 (nextT a).l0, .int .i64 (nextT a).l1, .int .i64 (nextT a).l2, .int .i64 (nextT a).l3] := (X3).ge hb7
  replace c0 := X0.cell
  replace l0 := X0.lt
  replace c1 := X1.cell
  replace l1 := X1.lt
  replace c2 := X2.cell
  replace l2 := X2.lt
  replace c3 := X3.cell
  replace l3 := X3.lt
  have g7 := Lib.hid hb7
  clear hb7
  go_wp2_with fail
  refine (LAB.out _).mono ?_
  rintro e w8 ⟨rfl, hb8⟩
  replace X0 : Bx w8 (w.heap.size) 24 #[.int .i64 a.e, .int .i64 a.d, .int .i64 a.l0, .int .i64 a.l1, .int .i64 a.l2, .int .i64 a.l3] := (X0).ge hb8
  replace X1 : Bx w8 (w.heap.size + 1) 24 #[.int .i64 b.e, .int .i64 b.d, .int .i64 b.l0, .int .i64 b.l1, .int .i64 b.l2, .int .i64 b.l3] := (X1).ge hb8
  replace X2 : Bx w8 (w2.heap.size) 24 #[.int .i64 (enterT a).e, .int .i64 (enterT a).d, .int .i64 (enterT a).l0, .int .i64 (enterT a).l1, .int .i64 (enterT a).l2, .int .i64 (enterT a).l3] := (X2).ge hb8
  replace X3 : Bx w8 (w3.heap.size) 24 #[.int .i64 (nextT a).e, .int .i64 (nextT a).d, .int .i64 (nextT a).l0, .int .i64 (nextT a).l1, .int .i64 (nextT a).l2, .int .i64 (nextT a).l3] := (X3).ge hb8
  replace c0 := X0.cell
  replace l0 := X0.lt
  replace c1 := X1.cell
  replace l1 := X1.lt
  replace c2 := X2.cell
  replace l2 := X2.lt
  replace c3 := X3.cell
  replace l3 := X3.lt
  have g8 := Lib.hid hb8
  clear hb8
  go_wp2_with fail
  refine (EB.out _).mono ?_
  rintro e w9 ⟨rfl, hb9⟩
  replace X0 : Bx w9 (w.heap.size) 24 #[.int .i64 a.e, .int .i64 a.d, .int .i64 a.l0, .int .i64 a.l1, .int .i64 a.l2, .int .i64 a.l3] := (X0).ge hb9
  replace X1 : Bx w9 (w.heap.size + 1) 24 #[.int .i64 b.e, .int .i64 b.d, .int .i64 b.l0, .int .i64 b.l1, .int .i64 b.l2, .int .i64 b.l3] := (X1).ge hb9
  replace X2 : Bx w9 (w2.heap.size) 24 #[.int .i64 (enterT a).e, .int .i64 (enterT a).d, .int .i64 (enterT a).l0, .int .i64 (enterT a).l1, .int .i64 (enterT a).l2, .int .i64 (enterT a).l3] := (X2).ge hb9
  replace X3 : Bx w9 (w3.heap.size) 24 #[.int .i64 (nextT a).e, .int .i64 (nextT a).d, .int .i64 (nextT a).l0, .int .i64 (nextT a).l1, .int .i64 (nextT a).l2, .int .i64 (nextT a).l3] := (X3).ge hb9
  replace c0 := X0.cell
  replace l0 := X0.lt
  replace c1 := X1.cell
  replace l1 := X1.lt
  replace c2 := X2.cell
  replace l2 := X2.lt
  replace c3 := X3.cell
  replace l3 := X3.lt
  have g9 := Lib.hid hb9
  clear hb9
  go_wp2_with fail
  refine (NB.out _).mono ?_
  rintro e w10 ⟨rfl, hb10⟩
  replace X0 : Bx w10 (w.heap.size) 24 #[.int .i64 a.e, .int .i64 a.d, .int .i64 a.l0, .int .i64 a.l1, .int .i64 a.l2, .int .i64 a.l3] := (X0.alloc _).ge hb10
  replace X1 : Bx w10 (w.heap.size + 1) 24 #[.int .i64 b.e, .int .i64 b.d, .int .i64 b.l0, .int .i64 b.l1, .int .i64 b.l2, .int .i64 b.l3] := (X1.alloc _).ge hb10
  replace X2 : Bx w10 (w2.heap.size) 24 #[.int .i64 (enterT a).e, .int .i64 (enterT a).d, .int .i64 (enterT a).l0, .int .i64 (enterT a).l1, .int .i64 (enterT a).l2, .int .i64 (enterT a).l3] := (X2.alloc _).ge hb10
  replace X3 : Bx w10 (w3.heap.size) 24 #[.int .i64 (nextT a).e, .int .i64 (nextT a).d, .int .i64 (nextT a).l0, .int .i64 (nextT a).l1, .int .i64 (nextT a).l2, .int .i64 (nextT a).l3] := (X3.alloc _).ge hb10
  have X4 : Bx w10 (w9.heap.size) 24 #[.int .i64 (enterT b).e, .int .i64 (enterT b).d, .int .i64 (enterT b).l0, .int .i64 (enterT b).l1, .int .i64 (enterT b).l2, .int .i64 (enterT b).l3] := ((Bx.new _ _ _ (by simp))).ge hb10
  replace c0 := X0.cell
  replace l0 := X0.lt
  replace c1 := X1.cell
  replace l1 := X1.lt
  replace c2 := X2.cell
  replace l2 := X2.lt
  replace c3 := X3.cell
  replace l3 := X3.lt
  have c4 := X4.cell
  have l4 := X4.lt
  have g10 := Lib.hid hb10
  clear hb10
  go_wp2_with fail
  refine (LVA.out _).mono ?_
  rintro e w11 ⟨rfl, hb11⟩
  replace X0 : Bx w11 (w.heap.size) 24 #[.int .i64 a.e, .int .i64 a.d, .int .i64 a.l0, .int .i64 a.l1, .int .i64 a.l2, .int .i64 a.l3] := (X0.alloc _).ge hb11
  replace X1 : Bx w11 (w.heap.size + 1) 24 #[.int .i64 b.e, .int .i64 b.d, .int .i64 b.l0, .int .i64 b.l1, .int .i64 b.l2, .int .i64 b.l3] := (X1.alloc _).ge hb11
  replace X2 : Bx w11 (w2.heap.size) 24 #[.int .i64 (enterT a).e, .int .i64 (enterT a).d, .int .i64 (enterT a).l0, .int .i64 (enterT a).l1, .int .i64 (enterT a).l2, .int .i64 (enterT a).l3] := (X2.alloc _).ge hb11
  replace X3 : Bx w11 (w3.heap.size) 24 #[.int .i64 (nextT a).e, .int .i64 (nextT a).d, .int .i64 (nextT a).l0, .int .i64 (nextT a).l1, .int .i64 (nextT a).l2, .int .i64 (nextT a).l3] := (X3.alloc _).ge hb11
  replace X4 : Bx w11 (w9.heap.size) 24 #[.int .i64 (enterT b).e, .int .i64 (enterT b).d, .int .i64 (enterT b).l0, .int .i64 (enterT b).l1, .int .i64 (enterT b).l2, .int .i64 (enterT b).l3] := (X4.alloc _).ge hb11
  have X5 : Bx w11 (w10.heap.size) 24 #[.int .i64 (nextT b).e, .int .i64 (nextT b).d, .int .i64 (nextT b).l0, .int .i64 (nextT b).l1, .int .i64 (nextT b).l2, .int .i64 (nextT b).l3] := ((Bx.new _ _ _ (by simp))).ge hb11
  replace c0 := X0.cell
  replace l0 := X0.lt
  replace c1 := X1.cell
  replace l1 := X1.lt
  replace c2 := X2.cell
  replace l2 := X2.lt
  replace c3 := X3.cell
  replace l3 := X3.lt
  replace c4 := X4.cell
  replace l4 := X4.lt
  have c5 := X5.cell
  have l5 := X5.lt
  have g11 := Lib.hid hb11
  clear hb11
  go_wp2_with fail
  refine (LVB.out _).mono ?_
  rintro e w12 ⟨rfl, hb12⟩
  replace X0 : Bx w12 (w.heap.size) 24 #[.int .i64 a.e, .int .i64 a.d, .int .i64 a.l0, .int .i64 a.l1, .int .i64 a.l2, .int .i64 a.l3] := (X0.alloc _).ge hb12
  replace X1 : Bx w12 (w.heap.size + 1) 24 #[.int .i64 b.e, .int .i64 b.d, .int .i64 b.l0, .int .i64 b.l1, .int .i64 b.l2, .int .i64 b.l3] := (X1.alloc _).ge hb12
  replace X2 : Bx w12 (w2.heap.size) 24 #[.int .i64 (enterT a).e, .int .i64 (enterT a).d, .int .i64 (enterT a).l0, .int .i64 (enterT a).l1, .int .i64 (enterT a).l2, .int .i64 (enterT a).l3] := (X2.alloc _).ge hb12
  replace X3 : Bx w12 (w3.heap.size) 24 #[.int .i64 (nextT a).e, .int .i64 (nextT a).d, .int .i64 (nextT a).l0, .int .i64 (nextT a).l1, .int .i64 (nextT a).l2, .int .i64 (nextT a).l3] := (X3.alloc _).ge hb12
  replace X4 : Bx w12 (w9.heap.size) 24 #[.int .i64 (enterT b).e, .int .i64 (enterT b).d, .int .i64 (enterT b).l0, .int .i64 (enterT b).l1, .int .i64 (enterT b).l2, .int .i64 (enterT b).l3] := (X4.alloc _).ge hb12
  replace X5 : Bx w12 (w10.heap.size) 24 #[.int .i64 (nextT b).e, .int .i64 (nextT b).d, .int .i64 (nextT b).l0, .int .i64 (nextT b).l1, .int .i64 (nextT b).l2, .int .i64 (nextT b).l3] := (X5.alloc _).ge hb12
  have X6 : Bx w12 (w11.heap.size) 24 #[.int .i64 (leaveT a).e, .int .i64 (leaveT a).d, .int .i64 (leaveT a).l0, .int .i64 (leaveT a).l1, .int .i64 (leaveT a).l2, .int .i64 (leaveT a).l3] := ((Bx.new _ _ _ (by simp))).ge hb12
  replace c0 := X0.cell
  replace l0 := X0.lt
  replace c1 := X1.cell
  replace l1 := X1.lt
  replace c2 := X2.cell
  replace l2 := X2.lt
  replace c3 := X3.cell
  replace l3 := X3.lt
  replace c4 := X4.cell
  replace l4 := X4.lt
  replace c5 := X5.cell
  replace l5 := X5.lt
  have c6 := X6.cell
  have l6 := X6.lt
  have g12 := Lib.hid hb12
  clear hb12
  go_wp2_with fail
  refine (LLL.out _).mono ?_
  rintro e w13 ⟨rfl, hb13⟩
  replace X0 : Bx w13 (w.heap.size) 24 #[.int .i64 a.e, .int .i64 a.d, .int .i64 a.l0, .int .i64 a.l1, .int .i64 a.l2, .int .i64 a.l3] := (X0.alloc _).ge hb13
  replace X1 : Bx w13 (w.heap.size + 1) 24 #[.int .i64 b.e, .int .i64 b.d, .int .i64 b.l0, .int .i64 b.l1, .int .i64 b.l2, .int .i64 b.l3] := (X1.alloc _).ge hb13
  replace X2 : Bx w13 (w2.heap.size) 24 #[.int .i64 (enterT a).e, .int .i64 (enterT a).d, .int .i64 (enterT a).l0, .int .i64 (enterT a).l1, .int .i64 (enterT a).l2, .int .i64 (enterT a).l3] := (X2.alloc _).ge hb13
  replace X3 : Bx w13 (w3.heap.size) 24 #[.int .i64 (nextT a).e, .int .i64 (nextT a).d, .int .i64 (nextT a).l0, .int .i64 (nextT a).l1, .int .i64 (nextT a).l2, .int .i64 (nextT a).l3] := (X3.alloc _).ge hb13
  replace X4 : Bx w13 (w9.heap.size) 24 #[.int .i64 (enterT b).e, .int .i64 (enterT b).d, .int .i64 (enterT b).l0, .int .i64 (enterT b).l1, .int .i64 (enterT b).l2, .int .i64 (enterT b).l3] := (X4.alloc _).ge hb13
  replace X5 : Bx w13 (w10.heap.size) 24 #[.int .i64 (nextT b).e, .int .i64 (nextT b).d, .int .i64 (nextT b).l0, .int .i64 (nextT b).l1, .int .i64 (nextT b).l2, .int .i64 (nextT b).l3] := (X5.alloc _).ge hb13
  replace X6 : Bx w13 (w11.heap.size) 24 #[.int .i64 (leaveT a).e, .int .i64 (leaveT a).d, .int .i64 (leaveT a).l0, .int .i64 (leaveT a).l1, .int .i64 (leaveT a).l2, .int .i64 (leaveT a).l3] := (X6.alloc _).ge hb13
  have X7 : Bx w13 (w12.heap.size) 24 #[.int .i64 (leaveT b).e, .int .i64 (leaveT b).d, .int .i64 (leaveT b).l0, .int .i64 (leaveT b).l1, .int .i64 (leaveT b).l2, .int .i64 (leaveT b).l3] := ((Bx.new _ _ _ (by simp))).ge hb13
  replace c0 := X0.cell
  replace l0 := X0.lt
  replace c1 := X1.cell
  replace l1 := X1.lt
  replace c2 := X2.cell
  replace l2 := X2.lt
  replace c3 := X3.cell
  replace l3 := X3.lt
  replace c4 := X4.cell
  replace l4 := X4.lt
  replace c5 := X5.cell
  replace l5 := X5.lt
  replace c6 := X6.cell
  replace l6 := X6.lt
  have c7 := X7.cell
  have l7 := X7.lt
  have g13 := Lib.hid hb13
  clear hb13
  go_wp2
  go_ret
  exact ⟨rfl, ((((((((((((((((((((((Ge.refl w).alloc _).alloc _).trans g1.out).trans g2.out).alloc _).trans g3.out).alloc _).trans g4.out).trans g5.out).trans g6.out).trans g7.out).trans g8.out).trans g9.out).alloc _).trans g10.out).alloc _).trans g11.out).alloc _).trans g12.out).alloc _).trans g13.out)⟩

end Go.Proofs.Ytedccllpbajbfaa
