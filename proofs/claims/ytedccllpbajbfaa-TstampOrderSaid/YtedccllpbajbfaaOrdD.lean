/-
  TstampOrder: walks, one for each way through (part D).
-/
import Derived.Test.YtedccllpbajbfaaPlainF
import Derived.Test.YtedccllpbajbfaaLeq
import Derived.Test.YtedccllpbajbfaaLive
namespace Go.Proofs.Ytedccllpbajbfaa
open Go.RowKit
attribute [local go_sem] Dr.upT

set_option maxRecDepth 100000 in
set_option maxHeartbeats 8000000 in
theorem order_1000110 (a b c : Tm) (w : World) (hA : Chk a) (hL : leqB a b = false) (hE : bothE a b = 0) (hP : leqB a c = true) (hR : leqB c a = false) :
    Calls Try.prog 6 #[.agg #[.int .i64 a.e, .int .i64 a.d, .int .i64 a.l0, .int .i64 a.l1, .int .i64 a.l2, .int .i64 a.l3], .agg #[.int .i64 b.e, .int .i64 b.d, .int .i64 b.l0, .int .i64 b.l1, .int .i64 b.l2, .int .i64 b.l3], .agg #[.int .i64 c.e, .int .i64 c.d, .int .i64 c.l0, .int .i64 c.l1, .int .i64 c.l2, .int .i64 c.l3]] w fun e w' => e = .returned (.bool true) ∧ Below w.heap.size w w' := by
  have RC : Hid (∀ w, Calls Try.prog 20 #[.agg #[.int .i64 a.e, .int .i64 a.d, .int .i64 a.l0, .int .i64 a.l1, .int .i64 a.l2, .int .i64 a.l3]] w fun e w' => e = .returned (.int .i64 0) ∧ Ge w w') := fun w => (rcheck_yes hA w).mono fun e w' ⟨h, k⟩ => ⟨h, by rw [k]; exact (Ge.refl _).alloc _⟩
  have LAA := Lib.hid (fun w => by have := leq_any a a w; rwa [leqB_self hA] at this)
  have LAB := Lib.hid (fun w => by have := leq_any a b w; rwa [hL] at this)
  have LAC := Lib.hid (fun w => by have := leq_any a c w; rwa [hP] at this)
  have LCA := Lib.hid (fun w => by have := leq_any c a w; rwa [hR] at this)
  have JN := Lib.hid (fun w => by have := join_any a b w; rwa [hE] at this)
  have MT := Lib.hid (fun w => by have := meet_any a b w; rwa [hE] at this)
  have LAJ := Lib.hid (fun w => by have := leq_any a (bothT max a b) w; rwa [(join_up hE).1] at this)
  have LBJ := Lib.hid (fun w => by have := leq_any b (bothT max a b) w; rwa [(join_up hE).2] at this)
  have LMA := Lib.hid (fun w => by have := leq_any (bothT min a b) a w; rwa [(meet_down hE).1] at this)
  have LMB := Lib.hid (fun w => by have := leq_any (bothT min a b) b w; rwa [(meet_down hE).2] at this)
  have LJC := Lib.hid (fun w => by have := leq_any (bothT max a b) c w; rwa [join_least c hE, hP, Bool.true_and] at this)
  have LCM := Lib.hid (fun w => by have := leq_any c (bothT min a b) w; rwa [meet_most c hE, hR, Bool.false_and] at this)
  have SBC := Lib.hid (leq_any b c)
  have SCB := Lib.hid (leq_any c b)
  clear hR hP hE hL hA
  go_enter Try.func6, Try.ntmps6
  go_wp2_with fail
  refine (live_any _).mono ?_
  rintro e w1 ⟨rfl, hb1⟩
  have X0 : Bx w1 (w.heap.size) 24 #[.int .i64 a.e, .int .i64 a.d, .int .i64 a.l0, .int .i64 a.l1, .int .i64 a.l2, .int .i64 a.l3] := (((Bx.new _ _ _ (by simp)).alloc _).alloc _).ge hb1
  have X1 : Bx w1 (w.heap.size + 1) 24 #[.int .i64 b.e, .int .i64 b.d, .int .i64 b.l0, .int .i64 b.l1, .int .i64 b.l2, .int .i64 b.l3] := ((Bx.new _ _ _ (by simp)).alloc _).ge hb1
  have X2 : Bx w1 (w.heap.size + 1 + 1) 24 #[.int .i64 c.e, .int .i64 c.d, .int .i64 c.l0, .int .i64 c.l1, .int .i64 c.l2, .int .i64 c.l3] := (Bx.new _ _ _ (by simp)).ge hb1
  have c0 := X0.cell
  have l0 := X0.lt
  have c1 := X1.cell
  have l1 := X1.lt
  have c2 := X2.cell
  have l2 := X2.lt
  have g1 := Lib.hid hb1
  clear hb1
  go_wp2_with fail
  refine (RC.out _).mono ?_
  rintro e w2 ⟨rfl, hb2⟩
  replace X0 : Bx w2 (w.heap.size) 24 #[.int .i64 a.e, .int .i64 a.d, .int .i64 a.l0, .int .i64 a.l1, .int .i64 a.l2, .int .i64 a.l3] := X0.ge hb2
  replace X1 : Bx w2 (w.heap.size + 1) 24 #[.int .i64 b.e, .int .i64 b.d, .int .i64 b.l0, .int .i64 b.l1, .int .i64 b.l2, .int .i64 b.l3] := X1.ge hb2
  replace X2 : Bx w2 (w.heap.size + 1 + 1) 24 #[.int .i64 c.e, .int .i64 c.d, .int .i64 c.l0, .int .i64 c.l1, .int .i64 c.l2, .int .i64 c.l3] := X2.ge hb2
  replace c0 := X0.cell
  replace l0 := X0.lt
  replace c1 := X1.cell
  replace l1 := X1.lt
  replace c2 := X2.cell
  replace l2 := X2.lt
  have g2 := Lib.hid hb2
  clear hb2
  go_wp2_with fail
  refine (LAA.out _).mono ?_
  rintro e w3 ⟨rfl, hb3⟩
  replace X0 : Bx w3 (w.heap.size) 24 #[.int .i64 a.e, .int .i64 a.d, .int .i64 a.l0, .int .i64 a.l1, .int .i64 a.l2, .int .i64 a.l3] := X0.ge hb3
  replace X1 : Bx w3 (w.heap.size + 1) 24 #[.int .i64 b.e, .int .i64 b.d, .int .i64 b.l0, .int .i64 b.l1, .int .i64 b.l2, .int .i64 b.l3] := X1.ge hb3
  replace X2 : Bx w3 (w.heap.size + 1 + 1) 24 #[.int .i64 c.e, .int .i64 c.d, .int .i64 c.l0, .int .i64 c.l1, .int .i64 c.l2, .int .i64 c.l3] := X2.ge hb3
  replace c0 := X0.cell
  replace l0 := X0.lt
  replace c1 := X1.cell
  replace l1 := X1.lt
  replace c2 := X2.cell
  replace l2 := X2.lt
  have g3 := Lib.hid hb3
  clear hb3
  go_wp2_with fail
  refine (LAB.out _).mono ?_
  rintro e w4 ⟨rfl, hb4⟩
  replace X0 : Bx w4 (w.heap.size) 24 #[.int .i64 a.e, .int .i64 a.d, .int .i64 a.l0, .int .i64 a.l1, .int .i64 a.l2, .int .i64 a.l3] := X0.ge hb4
  replace X1 : Bx w4 (w.heap.size + 1) 24 #[.int .i64 b.e, .int .i64 b.d, .int .i64 b.l0, .int .i64 b.l1, .int .i64 b.l2, .int .i64 b.l3] := X1.ge hb4
  replace X2 : Bx w4 (w.heap.size + 1 + 1) 24 #[.int .i64 c.e, .int .i64 c.d, .int .i64 c.l0, .int .i64 c.l1, .int .i64 c.l2, .int .i64 c.l3] := X2.ge hb4
  replace c0 := X0.cell
  replace l0 := X0.lt
  replace c1 := X1.cell
  replace l1 := X1.lt
  replace c2 := X2.cell
  replace l2 := X2.lt
  have g4 := Lib.hid hb4
  clear hb4
  go_wp2_with fail
  refine (LAB.out _).mono ?_
  rintro e w5 ⟨rfl, hb5⟩
  replace X0 : Bx w5 (w.heap.size) 24 #[.int .i64 a.e, .int .i64 a.d, .int .i64 a.l0, .int .i64 a.l1, .int .i64 a.l2, .int .i64 a.l3] := X0.ge hb5
  replace X1 : Bx w5 (w.heap.size + 1) 24 #[.int .i64 b.e, .int .i64 b.d, .int .i64 b.l0, .int .i64 b.l1, .int .i64 b.l2, .int .i64 b.l3] := X1.ge hb5
  replace X2 : Bx w5 (w.heap.size + 1 + 1) 24 #[.int .i64 c.e, .int .i64 c.d, .int .i64 c.l0, .int .i64 c.l1, .int .i64 c.l2, .int .i64 c.l3] := X2.ge hb5
  replace c0 := X0.cell
  replace l0 := X0.lt
  replace c1 := X1.cell
  replace l1 := X1.lt
  replace c2 := X2.cell
  replace l2 := X2.lt
  have g5 := Lib.hid hb5
  clear hb5
  go_wp2_with fail
  refine (JN.out _).mono ?_
  rintro e w6 ⟨rfl, hb6⟩
  replace X0 : Bx w6 (w.heap.size) 24 #[.int .i64 a.e, .int .i64 a.d, .int .i64 a.l0, .int .i64 a.l1, .int .i64 a.l2, .int .i64 a.l3] := X0.ge hb6
  replace X1 : Bx w6 (w.heap.size + 1) 24 #[.int .i64 b.e, .int .i64 b.d, .int .i64 b.l0, .int .i64 b.l1, .int .i64 b.l2, .int .i64 b.l3] := X1.ge hb6
  replace X2 : Bx w6 (w.heap.size + 1 + 1) 24 #[.int .i64 c.e, .int .i64 c.d, .int .i64 c.l0, .int .i64 c.l1, .int .i64 c.l2, .int .i64 c.l3] := X2.ge hb6
  replace c0 := X0.cell
  replace l0 := X0.lt
  replace c1 := X1.cell
  replace l1 := X1.lt
  replace c2 := X2.cell
  replace l2 := X2.lt
  have g6 := Lib.hid hb6
  clear hb6
  go_wp2_with fail
  refine (MT.out _).mono ?_
  rintro e w7 ⟨rfl, hb7⟩
  replace X0 : Bx w7 (w.heap.size) 24 #[.int .i64 a.e, .int .i64 a.d, .int .i64 a.l0, .int .i64 a.l1, .int .i64 a.l2, .int .i64 a.l3] := (X0.alloc _).ge hb7
  replace X1 : Bx w7 (w.heap.size + 1) 24 #[.int .i64 b.e, .int .i64 b.d, .int .i64 b.l0, .int .i64 b.l1, .int .i64 b.l2, .int .i64 b.l3] := (X1.alloc _).ge hb7
  replace X2 : Bx w7 (w.heap.size + 1 + 1) 24 #[.int .i64 c.e, .int .i64 c.d, .int .i64 c.l0, .int .i64 c.l1, .int .i64 c.l2, .int .i64 c.l3] := (X2.alloc _).ge hb7
  have X3 : Bx w7 (w6.heap.size) 24 #[.int .i64 (bothT max a b).e, .int .i64 (bothT max a b).d, .int .i64 (bothT max a b).l0, .int .i64 (bothT max a b).l1, .int .i64 (bothT max a b).l2, .int .i64 (bothT max a b).l3] := (Bx.new _ _ _ (by simp)).ge hb7
  replace c0 := X0.cell
  replace l0 := X0.lt
  replace c1 := X1.cell
  replace l1 := X1.lt
  replace c2 := X2.cell
  replace l2 := X2.lt
  have c3 := X3.cell
  have l3 := X3.lt
  have g7 := Lib.hid hb7
  clear hb7
  go_wp2_with fail
  refine (LAJ.out _).mono ?_
  rintro e w8 ⟨rfl, hb8⟩
  replace X0 : Bx w8 (w.heap.size) 24 #[.int .i64 a.e, .int .i64 a.d, .int .i64 a.l0, .int .i64 a.l1, .int .i64 a.l2, .int .i64 a.l3] := (X0.alloc _).ge hb8
  replace X1 : Bx w8 (w.heap.size + 1) 24 #[.int .i64 b.e, .int .i64 b.d, .int .i64 b.l0, .int .i64 b.l1, .int .i64 b.l2, .int .i64 b.l3] := (X1.alloc _).ge hb8
  replace X2 : Bx w8 (w.heap.size + 1 + 1) 24 #[.int .i64 c.e, .int .i64 c.d, .int .i64 c.l0, .int .i64 c.l1, .int .i64 c.l2, .int .i64 c.l3] := (X2.alloc _).ge hb8
  replace X3 : Bx w8 (w6.heap.size) 24 #[.int .i64 (bothT max a b).e, .int .i64 (bothT max a b).d, .int .i64 (bothT max a b).l0, .int .i64 (bothT max a b).l1, .int .i64 (bothT max a b).l2, .int .i64 (bothT max a b).l3] := (X3.alloc _).ge hb8
  have X4 : Bx w8 (w7.heap.size) 24 #[.int .i64 (bothT min a b).e, .int .i64 (bothT min a b).d, .int .i64 (bothT min a b).l0, .int .i64 (bothT min a b).l1, .int .i64 (bothT min a b).l2, .int .i64 (bothT min a b).l3] := (Bx.new _ _ _ (by simp)).ge hb8
  replace c0 := X0.cell
  replace l0 := X0.lt
  replace c1 := X1.cell
  replace l1 := X1.lt
  replace c2 := X2.cell
  replace l2 := X2.lt
  replace c3 := X3.cell
  replace l3 := X3.lt
  have c4 := X4.cell
  have l4 := X4.lt
  have g8 := Lib.hid hb8
  clear hb8
  go_wp2_with fail
  refine (LBJ.out _).mono ?_
  rintro e w9 ⟨rfl, hb9⟩
  replace X0 : Bx w9 (w.heap.size) 24 #[.int .i64 a.e, .int .i64 a.d, .int .i64 a.l0, .int .i64 a.l1, .int .i64 a.l2, .int .i64 a.l3] := X0.ge hb9
  replace X1 : Bx w9 (w.heap.size + 1) 24 #[.int .i64 b.e, .int .i64 b.d, .int .i64 b.l0, .int .i64 b.l1, .int .i64 b.l2, .int .i64 b.l3] := X1.ge hb9
  replace X2 : Bx w9 (w.heap.size + 1 + 1) 24 #[.int .i64 c.e, .int .i64 c.d, .int .i64 c.l0, .int .i64 c.l1, .int .i64 c.l2, .int .i64 c.l3] := X2.ge hb9
  replace X3 : Bx w9 (w6.heap.size) 24 #[.int .i64 (bothT max a b).e, .int .i64 (bothT max a b).d, .int .i64 (bothT max a b).l0, .int .i64 (bothT max a b).l1, .int .i64 (bothT max a b).l2, .int .i64 (bothT max a b).l3] := X3.ge hb9
  replace X4 : Bx w9 (w7.heap.size) 24 #[.int .i64 (bothT min a b).e, .int .i64 (bothT min a b).d, .int .i64 (bothT min a b).l0, .int .i64 (bothT min a b).l1, .int .i64 (bothT min a b).l2, .int .i64 (bothT min a b).l3] := X4.ge hb9
  replace c0 := X0.cell
  replace l0 := X0.lt
  replace c1 := X1.cell
  replace l1 := X1.lt
  replace c2 := X2.cell
  replace l2 := X2.lt
  replace c3 := X3.cell
  replace l3 := X3.lt
  replace c4 := X4.cell
  replace l4 := X4.lt
  have g9 := Lib.hid hb9
  clear hb9
  go_wp2_with fail
  refine (LMA.out _).mono ?_
  rintro e w10 ⟨rfl, hb10⟩
  replace X0 : Bx w10 (w.heap.size) 24 #[.int .i64 a.e, .int .i64 a.d, .int .i64 a.l0, .int .i64 a.l1, .int .i64 a.l2, .int .i64 a.l3] := X0.ge hb10
  replace X1 : Bx w10 (w.heap.size + 1) 24 #[.int .i64 b.e, .int .i64 b.d, .int .i64 b.l0, .int .i64 b.l1, .int .i64 b.l2, .int .i64 b.l3] := X1.ge hb10
  replace X2 : Bx w10 (w.heap.size + 1 + 1) 24 #[.int .i64 c.e, .int .i64 c.d, .int .i64 c.l0, .int .i64 c.l1, .int .i64 c.l2, .int .i64 c.l3] := X2.ge hb10
  replace X3 : Bx w10 (w6.heap.size) 24 #[.int .i64 (bothT max a b).e, .int .i64 (bothT max a b).d, .int .i64 (bothT max a b).l0, .int .i64 (bothT max a b).l1, .int .i64 (bothT max a b).l2, .int .i64 (bothT max a b).l3] := X3.ge hb10
  replace X4 : Bx w10 (w7.heap.size) 24 #[.int .i64 (bothT min a b).e, .int .i64 (bothT min a b).d, .int .i64 (bothT min a b).l0, .int .i64 (bothT min a b).l1, .int .i64 (bothT min a b).l2, .int .i64 (bothT min a b).l3] := X4.ge hb10
  replace c0 := X0.cell
  replace l0 := X0.lt
  replace c1 := X1.cell
  replace l1 := X1.lt
  replace c2 := X2.cell
  replace l2 := X2.lt
  replace c3 := X3.cell
  replace l3 := X3.lt
  replace c4 := X4.cell
  replace l4 := X4.lt
  have g10 := Lib.hid hb10
  clear hb10
  go_wp2_with fail
  refine (LMB.out _).mono ?_
  rintro e w11 ⟨rfl, hb11⟩
  replace X0 : Bx w11 (w.heap.size) 24 #[.int .i64 a.e, .int .i64 a.d, .int .i64 a.l0, .int .i64 a.l1, .int .i64 a.l2, .int .i64 a.l3] := X0.ge hb11
  replace X1 : Bx w11 (w.heap.size + 1) 24 #[.int .i64 b.e, .int .i64 b.d, .int .i64 b.l0, .int .i64 b.l1, .int .i64 b.l2, .int .i64 b.l3] := X1.ge hb11
  replace X2 : Bx w11 (w.heap.size + 1 + 1) 24 #[.int .i64 c.e, .int .i64 c.d, .int .i64 c.l0, .int .i64 c.l1, .int .i64 c.l2, .int .i64 c.l3] := X2.ge hb11
  replace X3 : Bx w11 (w6.heap.size) 24 #[.int .i64 (bothT max a b).e, .int .i64 (bothT max a b).d, .int .i64 (bothT max a b).l0, .int .i64 (bothT max a b).l1, .int .i64 (bothT max a b).l2, .int .i64 (bothT max a b).l3] := X3.ge hb11
  replace X4 : Bx w11 (w7.heap.size) 24 #[.int .i64 (bothT min a b).e, .int .i64 (bothT min a b).d, .int .i64 (bothT min a b).l0, .int .i64 (bothT min a b).l1, .int .i64 (bothT min a b).l2, .int .i64 (bothT min a b).l3] := X4.ge hb11
  replace c0 := X0.cell
  replace l0 := X0.lt
  replace c1 := X1.cell
  replace l1 := X1.lt
  replace c2 := X2.cell
  replace l2 := X2.lt
  replace c3 := X3.cell
  replace l3 := X3.lt
  replace c4 := X4.cell
  replace l4 := X4.lt
  have g11 := Lib.hid hb11
  clear hb11
  clear c0 l0 c1 l1 c2 l2 c3 l3 c4 l4
  go_wp2_with fail
  refine Dr.wp_region_T (by kernel_rfl) (by kernel_rfl) ?_
  apply Dr.wpT_det
  · intro u w2 hw hF
    clear hF
    have c0 := (X0.ge hw).cell
    have l0 := (X0.ge hw).lt
    have c1 := (X1.ge hw).cell
    have l1 := (X1.ge hw).lt
    have c2 := (X2.ge hw).cell
    have l2 := (X2.ge hw).lt
    have c3 := (X3.ge hw).cell
    have l3 := (X3.ge hw).lt
    have c4 := (X4.ge hw).cell
    have l4 := (X4.ge hw).lt
    go_simp
    first | exact ⟨Ge.refl _, rfl⟩ | exact Ge.refl _
  apply Dr.wpT_det
  · intro u w2 hw hF
    clear hF
    have c0 := (X0.ge hw).cell
    have l0 := (X0.ge hw).lt
    have c1 := (X1.ge hw).cell
    have l1 := (X1.ge hw).lt
    have c2 := (X2.ge hw).cell
    have l2 := (X2.ge hw).lt
    have c3 := (X3.ge hw).cell
    have l3 := (X3.ge hw).lt
    have c4 := (X4.ge hw).cell
    have l4 := (X4.ge hw).lt
    go_simp
    first | exact ⟨Ge.refl _, rfl⟩ | exact Ge.refl _
  refine Dr.wpT_det (.bool true) ?_ ?_
  · intro u w2 hw hF
    clear hF
    go_simp
    refine (LAC.out _).mono ?_
    rintro e w3 ⟨rfl, hg⟩
    exact ⟨rfl, hg⟩
  refine Dr.wpT_det (.bool true) ?_ ?_
  · intro u w2 hw hF
    clear hF
    have c0 := (X0.ge hw).cell
    have l0 := (X0.ge hw).lt
    have c1 := (X1.ge hw).cell
    have l1 := (X1.ge hw).lt
    have c2 := (X2.ge hw).cell
    have l2 := (X2.ge hw).lt
    have c3 := (X3.ge hw).cell
    have l3 := (X3.ge hw).lt
    have c4 := (X4.ge hw).cell
    have l4 := (X4.ge hw).lt
    go_simp
    first | exact ⟨Ge.refl _, rfl⟩ | exact Ge.refl _
  apply Dr.wpT_det
  · intro u w2 hw hF
    clear hF
    have c0 := (X0.ge hw).cell
    have l0 := (X0.ge hw).lt
    have c1 := (X1.ge hw).cell
    have l1 := (X1.ge hw).lt
    have c2 := (X2.ge hw).cell
    have l2 := (X2.ge hw).lt
    have c3 := (X3.ge hw).cell
    have l3 := (X3.ge hw).lt
    have c4 := (X4.ge hw).cell
    have l4 := (X4.ge hw).lt
    go_simp
    first | exact ⟨Ge.refl _, rfl⟩ | exact Ge.refl _
  apply Dr.wpT_det
  · intro u w2 hw hF
    clear hF
    have c0 := (X0.ge hw).cell
    have l0 := (X0.ge hw).lt
    have c1 := (X1.ge hw).cell
    have l1 := (X1.ge hw).lt
    have c2 := (X2.ge hw).cell
    have l2 := (X2.ge hw).lt
    have c3 := (X3.ge hw).cell
    have l3 := (X3.ge hw).lt
    have c4 := (X4.ge hw).cell
    have l4 := (X4.ge hw).lt
    go_simp
    first | exact ⟨Ge.refl _, rfl⟩ | exact Ge.refl _
  refine Dr.wpT_det (.bool (leqB b c)) ?_ ?_
  · intro u w2 hw hF
    clear hF
    go_simp
    refine (SBC.out _).mono ?_
    rintro e w3 ⟨rfl, hg⟩
    exact ⟨rfl, hg⟩
  refine Dr.wpT_det (.bool (leqB b c)) ?_ ?_
  · intro u w2 hw hF
    clear hF
    have c0 := (X0.ge hw).cell
    have l0 := (X0.ge hw).lt
    have c1 := (X1.ge hw).cell
    have l1 := (X1.ge hw).lt
    have c2 := (X2.ge hw).cell
    have l2 := (X2.ge hw).lt
    have c3 := (X3.ge hw).cell
    have l3 := (X3.ge hw).lt
    have c4 := (X4.ge hw).cell
    have l4 := (X4.ge hw).lt
    go_simp
    first | exact ⟨Ge.refl _, rfl⟩ | exact Ge.refl _
  apply Dr.wpT_det
  · intro u w2 hw hF
    clear hF
    have c0 := (X0.ge hw).cell
    have l0 := (X0.ge hw).lt
    have c1 := (X1.ge hw).cell
    have l1 := (X1.ge hw).lt
    have c2 := (X2.ge hw).cell
    have l2 := (X2.ge hw).lt
    have c3 := (X3.ge hw).cell
    have l3 := (X3.ge hw).lt
    have c4 := (X4.ge hw).cell
    have l4 := (X4.ge hw).lt
    go_simp
    first | exact ⟨Ge.refl _, rfl⟩ | exact Ge.refl _
  apply Dr.wpT_det
  · intro u w2 hw hF
    clear hF
    have c0 := (X0.ge hw).cell
    have l0 := (X0.ge hw).lt
    have c1 := (X1.ge hw).cell
    have l1 := (X1.ge hw).lt
    have c2 := (X2.ge hw).cell
    have l2 := (X2.ge hw).lt
    have c3 := (X3.ge hw).cell
    have l3 := (X3.ge hw).lt
    have c4 := (X4.ge hw).cell
    have l4 := (X4.ge hw).lt
    go_simp
    first | exact ⟨Ge.refl _, rfl⟩ | exact Ge.refl _
  refine Dr.wpT_det (.bool (leqB b c)) ?_ ?_
  · intro u w2 hw hF
    clear hF
    go_simp
    refine (LJC.out _).mono ?_
    rintro e w3 ⟨rfl, hg⟩
    exact ⟨rfl, hg⟩
  refine Dr.wpT_det (.bool true) ?_ ?_
  · intro u w2 hw hF
    clear hF
    have c0 := (X0.ge hw).cell
    have l0 := (X0.ge hw).lt
    have c1 := (X1.ge hw).cell
    have l1 := (X1.ge hw).lt
    have c2 := (X2.ge hw).cell
    have l2 := (X2.ge hw).lt
    have c3 := (X3.ge hw).cell
    have l3 := (X3.ge hw).lt
    have c4 := (X4.ge hw).cell
    have l4 := (X4.ge hw).lt
    go_simp
    first | exact ⟨Ge.refl _, rfl⟩ | exact Ge.refl _
  refine Dr.wpT_det (.bool true) ?_ ?_
  · intro u w2 hw hF
    clear hF
    have c0 := (X0.ge hw).cell
    have l0 := (X0.ge hw).lt
    have c1 := (X1.ge hw).cell
    have l1 := (X1.ge hw).lt
    have c2 := (X2.ge hw).cell
    have l2 := (X2.ge hw).lt
    have c3 := (X3.ge hw).cell
    have l3 := (X3.ge hw).lt
    have c4 := (X4.ge hw).cell
    have l4 := (X4.ge hw).lt
    go_simp
    first | exact ⟨Ge.refl _, rfl⟩ | exact Ge.refl _
  apply Dr.wpT_det
  · intro u w2 hw hF
    clear hF
    have c0 := (X0.ge hw).cell
    have l0 := (X0.ge hw).lt
    have c1 := (X1.ge hw).cell
    have l1 := (X1.ge hw).lt
    have c2 := (X2.ge hw).cell
    have l2 := (X2.ge hw).lt
    have c3 := (X3.ge hw).cell
    have l3 := (X3.ge hw).lt
    have c4 := (X4.ge hw).cell
    have l4 := (X4.ge hw).lt
    go_simp
    first | exact ⟨Ge.refl _, rfl⟩ | exact Ge.refl _
  apply Dr.wpT_det
  · intro u w2 hw hF
    clear hF
    have c0 := (X0.ge hw).cell
    have l0 := (X0.ge hw).lt
    have c1 := (X1.ge hw).cell
    have l1 := (X1.ge hw).lt
    have c2 := (X2.ge hw).cell
    have l2 := (X2.ge hw).lt
    have c3 := (X3.ge hw).cell
    have l3 := (X3.ge hw).lt
    have c4 := (X4.ge hw).cell
    have l4 := (X4.ge hw).lt
    go_simp
    first | exact ⟨Ge.refl _, rfl⟩ | exact Ge.refl _
  refine Dr.wpT_det (.bool false) ?_ ?_
  · intro u w2 hw hF
    clear hF
    go_simp
    refine (LCA.out _).mono ?_
    rintro e w3 ⟨rfl, hg⟩
    exact ⟨rfl, hg⟩
  refine Dr.wpT_det (.bool false) ?_ ?_
  · intro u w2 hw hF
    clear hF
    have c0 := (X0.ge hw).cell
    have l0 := (X0.ge hw).lt
    have c1 := (X1.ge hw).cell
    have l1 := (X1.ge hw).lt
    have c2 := (X2.ge hw).cell
    have l2 := (X2.ge hw).lt
    have c3 := (X3.ge hw).cell
    have l3 := (X3.ge hw).lt
    have c4 := (X4.ge hw).cell
    have l4 := (X4.ge hw).lt
    go_simp
    first | exact ⟨Ge.refl _, rfl⟩ | exact Ge.refl _
  refine Dr.wpT_det undef ?_ ?_
  · intro u w2 hw hF
    clear hF
    go_simp
  refine Dr.wpT_det undef ?_ ?_
  · intro u w2 hw hF
    clear hF
    go_simp
  refine Dr.wpT_det undef ?_ ?_
  · intro u w2 hw hF
    clear hF
    go_simp
  refine Dr.wpT_det (.bool false) ?_ ?_
  · intro u w2 hw hF
    clear hF
    have c0 := (X0.ge hw).cell
    have l0 := (X0.ge hw).lt
    have c1 := (X1.ge hw).cell
    have l1 := (X1.ge hw).lt
    have c2 := (X2.ge hw).cell
    have l2 := (X2.ge hw).lt
    have c3 := (X3.ge hw).cell
    have l3 := (X3.ge hw).lt
    have c4 := (X4.ge hw).cell
    have l4 := (X4.ge hw).lt
    go_simp
    first | exact ⟨Ge.refl _, rfl⟩ | exact Ge.refl _
  apply Dr.wpT_det
  · intro u w2 hw hF
    clear hF
    have c0 := (X0.ge hw).cell
    have l0 := (X0.ge hw).lt
    have c1 := (X1.ge hw).cell
    have l1 := (X1.ge hw).lt
    have c2 := (X2.ge hw).cell
    have l2 := (X2.ge hw).lt
    have c3 := (X3.ge hw).cell
    have l3 := (X3.ge hw).lt
    have c4 := (X4.ge hw).cell
    have l4 := (X4.ge hw).lt
    go_simp
    first | exact ⟨Ge.refl _, rfl⟩ | exact Ge.refl _
  apply Dr.wpT_det
  · intro u w2 hw hF
    clear hF
    have c0 := (X0.ge hw).cell
    have l0 := (X0.ge hw).lt
    have c1 := (X1.ge hw).cell
    have l1 := (X1.ge hw).lt
    have c2 := (X2.ge hw).cell
    have l2 := (X2.ge hw).lt
    have c3 := (X3.ge hw).cell
    have l3 := (X3.ge hw).lt
    have c4 := (X4.ge hw).cell
    have l4 := (X4.ge hw).lt
    go_simp
    first | exact ⟨Ge.refl _, rfl⟩ | exact Ge.refl _
  refine Dr.wpT_det (.bool false) ?_ ?_
  · intro u w2 hw hF
    clear hF
    go_simp
    refine (LCM.out _).mono ?_
    rintro e w3 ⟨rfl, hg⟩
    exact ⟨rfl, hg⟩
  refine Dr.wpT_det (.bool true) ?_ ?_
  · intro u w2 hw hF
    clear hF
    have c0 := (X0.ge hw).cell
    have l0 := (X0.ge hw).lt
    have c1 := (X1.ge hw).cell
    have l1 := (X1.ge hw).lt
    have c2 := (X2.ge hw).cell
    have l2 := (X2.ge hw).lt
    have c3 := (X3.ge hw).cell
    have l3 := (X3.ge hw).lt
    have c4 := (X4.ge hw).cell
    have l4 := (X4.ge hw).lt
    go_simp
    first | exact ⟨Ge.refl _, rfl⟩ | exact Ge.refl _
  refine Dr.wpT_det (.bool true) ?_ ?_
  · intro u w2 hw hF
    clear hF
    have c0 := (X0.ge hw).cell
    have l0 := (X0.ge hw).lt
    have c1 := (X1.ge hw).cell
    have l1 := (X1.ge hw).lt
    have c2 := (X2.ge hw).cell
    have l2 := (X2.ge hw).lt
    have c3 := (X3.ge hw).cell
    have l3 := (X3.ge hw).lt
    have c4 := (X4.ge hw).cell
    have l4 := (X4.ge hw).lt
    go_simp
    first | exact ⟨Ge.refl _, rfl⟩ | exact Ge.refl _
  refine Dr.wpT_det (.bool true) ?_ ?_
  · intro u w2 hw hF
    clear hF
    have c0 := (X0.ge hw).cell
    have l0 := (X0.ge hw).lt
    have c1 := (X1.ge hw).cell
    have l1 := (X1.ge hw).lt
    have c2 := (X2.ge hw).cell
    have l2 := (X2.ge hw).lt
    have c3 := (X3.ge hw).cell
    have l3 := (X3.ge hw).lt
    have c4 := (X4.ge hw).cell
    have l4 := (X4.ge hw).lt
    go_simp
    first | exact ⟨Ge.refl _, rfl⟩ | exact Ge.refl _
  intro u w2 hw hF
  clear hF
  go_wp2
  simp only [Act.put, List.setIfInBounds_toArray, List.set_cons_zero, List.set_cons_succ]
  go_returns
  exact ⟨rfl, (((((((((((((((((Ge.refl w).alloc _).alloc _).alloc _).trans g1.out).trans g2.out).trans g3.out).trans g4.out).trans g5.out).trans g6.out).alloc _).trans g7.out).alloc _).trans g8.out).trans g9.out).trans g10.out).trans g11.out).trans hw⟩

set_option maxRecDepth 100000 in
set_option maxHeartbeats 8000000 in
theorem order_1111110 (a b c : Tm) (w : World) (hA : Chk a) (hL : leqB a b = true) (hM : leqB b a = true) (hN : leqB b c = true) (hR : leqB c a = false) :
    Calls Try.prog 6 #[.agg #[.int .i64 a.e, .int .i64 a.d, .int .i64 a.l0, .int .i64 a.l1, .int .i64 a.l2, .int .i64 a.l3], .agg #[.int .i64 b.e, .int .i64 b.d, .int .i64 b.l0, .int .i64 b.l1, .int .i64 b.l2, .int .i64 b.l3], .agg #[.int .i64 c.e, .int .i64 c.d, .int .i64 c.l0, .int .i64 c.l1, .int .i64 c.l2, .int .i64 c.l3]] w fun e w' => e = .returned (.bool true) ∧ Below w.heap.size w w' := by
  have RC : Hid (∀ w, Calls Try.prog 20 #[.agg #[.int .i64 a.e, .int .i64 a.d, .int .i64 a.l0, .int .i64 a.l1, .int .i64 a.l2, .int .i64 a.l3]] w fun e w' => e = .returned (.int .i64 0) ∧ Ge w w') := fun w => (rcheck_yes hA w).mono fun e w' ⟨h, k⟩ => ⟨h, by rw [k]; exact (Ge.refl _).alloc _⟩
  have LAA := Lib.hid (fun w => by have := leq_any a a w; rwa [leqB_self hA] at this)
  have LAB := Lib.hid (fun w => by have := leq_any a b w; rwa [hL] at this)
  have LBA := Lib.hid (fun w => by have := leq_any b a w; rwa [hM] at this)
  have LBC := Lib.hid (fun w => by have := leq_any b c w; rwa [hN] at this)
  have hE := bothE_leq hL
  have q := fun w => neq_tm a b w
  simp only [eqB_of_leq hL hM, Bool.not_true] at q
  have hP := leqB_trans hL hN
  have LAC := Lib.hid (fun w => by have := leq_any a c w; rwa [hP] at this)
  have LCA := Lib.hid (fun w => by have := leq_any c a w; rwa [hR] at this)
  have JN := Lib.hid (fun w => by have := join_any a b w; rwa [hE] at this)
  have MT := Lib.hid (fun w => by have := meet_any a b w; rwa [hE] at this)
  have LAJ := Lib.hid (fun w => by have := leq_any a (bothT max a b) w; rwa [(join_up hE).1] at this)
  have LBJ := Lib.hid (fun w => by have := leq_any b (bothT max a b) w; rwa [(join_up hE).2] at this)
  have LMA := Lib.hid (fun w => by have := leq_any (bothT min a b) a w; rwa [(meet_down hE).1] at this)
  have LMB := Lib.hid (fun w => by have := leq_any (bothT min a b) b w; rwa [(meet_down hE).2] at this)
  have LJC := Lib.hid (fun w => by have := leq_any (bothT max a b) c w; rwa [join_least c hE, hP, Bool.true_and] at this)
  have LCM := Lib.hid (fun w => by have := leq_any c (bothT min a b) w; rwa [meet_most c hE, hR, Bool.false_and] at this)
  have SBC := Lib.hid (leq_any b c)
  have SCB := Lib.hid (leq_any c b)
  clear hR hP hE hN hM hL hA
  go_enter Try.func6, Try.ntmps6
  go_wp2_with fail
  refine (live_any _).mono ?_
  rintro e w1 ⟨rfl, hb1⟩
  have X0 : Bx w1 (w.heap.size) 24 #[.int .i64 a.e, .int .i64 a.d, .int .i64 a.l0, .int .i64 a.l1, .int .i64 a.l2, .int .i64 a.l3] := (((Bx.new _ _ _ (by simp)).alloc _).alloc _).ge hb1
  have X1 : Bx w1 (w.heap.size + 1) 24 #[.int .i64 b.e, .int .i64 b.d, .int .i64 b.l0, .int .i64 b.l1, .int .i64 b.l2, .int .i64 b.l3] := ((Bx.new _ _ _ (by simp)).alloc _).ge hb1
  have X2 : Bx w1 (w.heap.size + 1 + 1) 24 #[.int .i64 c.e, .int .i64 c.d, .int .i64 c.l0, .int .i64 c.l1, .int .i64 c.l2, .int .i64 c.l3] := (Bx.new _ _ _ (by simp)).ge hb1
  have c0 := X0.cell
  have l0 := X0.lt
  have c1 := X1.cell
  have l1 := X1.lt
  have c2 := X2.cell
  have l2 := X2.lt
  have g1 := Lib.hid hb1
  clear hb1
  go_wp2_with fail
  refine (RC.out _).mono ?_
  rintro e w2 ⟨rfl, hb2⟩
  replace X0 : Bx w2 (w.heap.size) 24 #[.int .i64 a.e, .int .i64 a.d, .int .i64 a.l0, .int .i64 a.l1, .int .i64 a.l2, .int .i64 a.l3] := X0.ge hb2
  replace X1 : Bx w2 (w.heap.size + 1) 24 #[.int .i64 b.e, .int .i64 b.d, .int .i64 b.l0, .int .i64 b.l1, .int .i64 b.l2, .int .i64 b.l3] := X1.ge hb2
  replace X2 : Bx w2 (w.heap.size + 1 + 1) 24 #[.int .i64 c.e, .int .i64 c.d, .int .i64 c.l0, .int .i64 c.l1, .int .i64 c.l2, .int .i64 c.l3] := X2.ge hb2
  replace c0 := X0.cell
  replace l0 := X0.lt
  replace c1 := X1.cell
  replace l1 := X1.lt
  replace c2 := X2.cell
  replace l2 := X2.lt
  have g2 := Lib.hid hb2
  clear hb2
  go_wp2_with fail
  refine (LAA.out _).mono ?_
  rintro e w3 ⟨rfl, hb3⟩
  replace X0 : Bx w3 (w.heap.size) 24 #[.int .i64 a.e, .int .i64 a.d, .int .i64 a.l0, .int .i64 a.l1, .int .i64 a.l2, .int .i64 a.l3] := X0.ge hb3
  replace X1 : Bx w3 (w.heap.size + 1) 24 #[.int .i64 b.e, .int .i64 b.d, .int .i64 b.l0, .int .i64 b.l1, .int .i64 b.l2, .int .i64 b.l3] := X1.ge hb3
  replace X2 : Bx w3 (w.heap.size + 1 + 1) 24 #[.int .i64 c.e, .int .i64 c.d, .int .i64 c.l0, .int .i64 c.l1, .int .i64 c.l2, .int .i64 c.l3] := X2.ge hb3
  replace c0 := X0.cell
  replace l0 := X0.lt
  replace c1 := X1.cell
  replace l1 := X1.lt
  replace c2 := X2.cell
  replace l2 := X2.lt
  have g3 := Lib.hid hb3
  clear hb3
  go_wp2_with fail
  refine (LAB.out _).mono ?_
  rintro e w4 ⟨rfl, hb4⟩
  replace X0 : Bx w4 (w.heap.size) 24 #[.int .i64 a.e, .int .i64 a.d, .int .i64 a.l0, .int .i64 a.l1, .int .i64 a.l2, .int .i64 a.l3] := X0.ge hb4
  replace X1 : Bx w4 (w.heap.size + 1) 24 #[.int .i64 b.e, .int .i64 b.d, .int .i64 b.l0, .int .i64 b.l1, .int .i64 b.l2, .int .i64 b.l3] := X1.ge hb4
  replace X2 : Bx w4 (w.heap.size + 1 + 1) 24 #[.int .i64 c.e, .int .i64 c.d, .int .i64 c.l0, .int .i64 c.l1, .int .i64 c.l2, .int .i64 c.l3] := X2.ge hb4
  replace c0 := X0.cell
  replace l0 := X0.lt
  replace c1 := X1.cell
  replace l1 := X1.lt
  replace c2 := X2.cell
  replace l2 := X2.lt
  have g4 := Lib.hid hb4
  clear hb4
  go_wp2_with fail
  refine (LBA.out _).mono ?_
  rintro e w5 ⟨rfl, hb5⟩
  replace X0 : Bx w5 (w.heap.size) 24 #[.int .i64 a.e, .int .i64 a.d, .int .i64 a.l0, .int .i64 a.l1, .int .i64 a.l2, .int .i64 a.l3] := X0.ge hb5
  replace X1 : Bx w5 (w.heap.size + 1) 24 #[.int .i64 b.e, .int .i64 b.d, .int .i64 b.l0, .int .i64 b.l1, .int .i64 b.l2, .int .i64 b.l3] := X1.ge hb5
  replace X2 : Bx w5 (w.heap.size + 1 + 1) 24 #[.int .i64 c.e, .int .i64 c.d, .int .i64 c.l0, .int .i64 c.l1, .int .i64 c.l2, .int .i64 c.l3] := X2.ge hb5
  replace c0 := X0.cell
  replace l0 := X0.lt
  replace c1 := X1.cell
  replace l1 := X1.lt
  replace c2 := X2.cell
  replace l2 := X2.lt
  have g5 := Lib.hid hb5
  clear hb5
  go_wp2_with fail
  refine (LAB.out _).mono ?_
  rintro e w6 ⟨rfl, hb6⟩
  replace X0 : Bx w6 (w.heap.size) 24 #[.int .i64 a.e, .int .i64 a.d, .int .i64 a.l0, .int .i64 a.l1, .int .i64 a.l2, .int .i64 a.l3] := X0.ge hb6
  replace X1 : Bx w6 (w.heap.size + 1) 24 #[.int .i64 b.e, .int .i64 b.d, .int .i64 b.l0, .int .i64 b.l1, .int .i64 b.l2, .int .i64 b.l3] := X1.ge hb6
  replace X2 : Bx w6 (w.heap.size + 1 + 1) 24 #[.int .i64 c.e, .int .i64 c.d, .int .i64 c.l0, .int .i64 c.l1, .int .i64 c.l2, .int .i64 c.l3] := X2.ge hb6
  replace c0 := X0.cell
  replace l0 := X0.lt
  replace c1 := X1.cell
  replace l1 := X1.lt
  replace c2 := X2.cell
  replace l2 := X2.lt
  have g6 := Lib.hid hb6
  clear hb6
  go_wp2_with fail
  refine (LBC.out _).mono ?_
  rintro e w7 ⟨rfl, hb7⟩
  replace X0 : Bx w7 (w.heap.size) 24 #[.int .i64 a.e, .int .i64 a.d, .int .i64 a.l0, .int .i64 a.l1, .int .i64 a.l2, .int .i64 a.l3] := X0.ge hb7
  replace X1 : Bx w7 (w.heap.size + 1) 24 #[.int .i64 b.e, .int .i64 b.d, .int .i64 b.l0, .int .i64 b.l1, .int .i64 b.l2, .int .i64 b.l3] := X1.ge hb7
  replace X2 : Bx w7 (w.heap.size + 1 + 1) 24 #[.int .i64 c.e, .int .i64 c.d, .int .i64 c.l0, .int .i64 c.l1, .int .i64 c.l2, .int .i64 c.l3] := X2.ge hb7
  replace c0 := X0.cell
  replace l0 := X0.lt
  replace c1 := X1.cell
  replace l1 := X1.lt
  replace c2 := X2.cell
  replace l2 := X2.lt
  have g7 := Lib.hid hb7
  clear hb7
  go_wp2_with fail
  refine (LAC.out _).mono ?_
  rintro e w8 ⟨rfl, hb8⟩
  replace X0 : Bx w8 (w.heap.size) 24 #[.int .i64 a.e, .int .i64 a.d, .int .i64 a.l0, .int .i64 a.l1, .int .i64 a.l2, .int .i64 a.l3] := X0.ge hb8
  replace X1 : Bx w8 (w.heap.size + 1) 24 #[.int .i64 b.e, .int .i64 b.d, .int .i64 b.l0, .int .i64 b.l1, .int .i64 b.l2, .int .i64 b.l3] := X1.ge hb8
  replace X2 : Bx w8 (w.heap.size + 1 + 1) 24 #[.int .i64 c.e, .int .i64 c.d, .int .i64 c.l0, .int .i64 c.l1, .int .i64 c.l2, .int .i64 c.l3] := X2.ge hb8
  replace c0 := X0.cell
  replace l0 := X0.lt
  replace c1 := X1.cell
  replace l1 := X1.lt
  replace c2 := X2.cell
  replace l2 := X2.lt
  have g8 := Lib.hid hb8
  clear hb8
  go_wp2_with fail
  refine (JN.out _).mono ?_
  rintro e w9 ⟨rfl, hb9⟩
  replace X0 : Bx w9 (w.heap.size) 24 #[.int .i64 a.e, .int .i64 a.d, .int .i64 a.l0, .int .i64 a.l1, .int .i64 a.l2, .int .i64 a.l3] := X0.ge hb9
  replace X1 : Bx w9 (w.heap.size + 1) 24 #[.int .i64 b.e, .int .i64 b.d, .int .i64 b.l0, .int .i64 b.l1, .int .i64 b.l2, .int .i64 b.l3] := X1.ge hb9
  replace X2 : Bx w9 (w.heap.size + 1 + 1) 24 #[.int .i64 c.e, .int .i64 c.d, .int .i64 c.l0, .int .i64 c.l1, .int .i64 c.l2, .int .i64 c.l3] := X2.ge hb9
  replace c0 := X0.cell
  replace l0 := X0.lt
  replace c1 := X1.cell
  replace l1 := X1.lt
  replace c2 := X2.cell
  replace l2 := X2.lt
  have g9 := Lib.hid hb9
  clear hb9
  go_wp2_with fail
  refine (MT.out _).mono ?_
  rintro e w10 ⟨rfl, hb10⟩
  replace X0 : Bx w10 (w.heap.size) 24 #[.int .i64 a.e, .int .i64 a.d, .int .i64 a.l0, .int .i64 a.l1, .int .i64 a.l2, .int .i64 a.l3] := (X0.alloc _).ge hb10
  replace X1 : Bx w10 (w.heap.size + 1) 24 #[.int .i64 b.e, .int .i64 b.d, .int .i64 b.l0, .int .i64 b.l1, .int .i64 b.l2, .int .i64 b.l3] := (X1.alloc _).ge hb10
  replace X2 : Bx w10 (w.heap.size + 1 + 1) 24 #[.int .i64 c.e, .int .i64 c.d, .int .i64 c.l0, .int .i64 c.l1, .int .i64 c.l2, .int .i64 c.l3] := (X2.alloc _).ge hb10
  have X3 : Bx w10 (w9.heap.size) 24 #[.int .i64 (bothT max a b).e, .int .i64 (bothT max a b).d, .int .i64 (bothT max a b).l0, .int .i64 (bothT max a b).l1, .int .i64 (bothT max a b).l2, .int .i64 (bothT max a b).l3] := (Bx.new _ _ _ (by simp)).ge hb10
  replace c0 := X0.cell
  replace l0 := X0.lt
  replace c1 := X1.cell
  replace l1 := X1.lt
  replace c2 := X2.cell
  replace l2 := X2.lt
  have c3 := X3.cell
  have l3 := X3.lt
  have g10 := Lib.hid hb10
  clear hb10
  go_wp2_with fail
  refine (LAJ.out _).mono ?_
  rintro e w11 ⟨rfl, hb11⟩
  replace X0 : Bx w11 (w.heap.size) 24 #[.int .i64 a.e, .int .i64 a.d, .int .i64 a.l0, .int .i64 a.l1, .int .i64 a.l2, .int .i64 a.l3] := (X0.alloc _).ge hb11
  replace X1 : Bx w11 (w.heap.size + 1) 24 #[.int .i64 b.e, .int .i64 b.d, .int .i64 b.l0, .int .i64 b.l1, .int .i64 b.l2, .int .i64 b.l3] := (X1.alloc _).ge hb11
  replace X2 : Bx w11 (w.heap.size + 1 + 1) 24 #[.int .i64 c.e, .int .i64 c.d, .int .i64 c.l0, .int .i64 c.l1, .int .i64 c.l2, .int .i64 c.l3] := (X2.alloc _).ge hb11
  replace X3 : Bx w11 (w9.heap.size) 24 #[.int .i64 (bothT max a b).e, .int .i64 (bothT max a b).d, .int .i64 (bothT max a b).l0, .int .i64 (bothT max a b).l1, .int .i64 (bothT max a b).l2, .int .i64 (bothT max a b).l3] := (X3.alloc _).ge hb11
  have X4 : Bx w11 (w10.heap.size) 24 #[.int .i64 (bothT min a b).e, .int .i64 (bothT min a b).d, .int .i64 (bothT min a b).l0, .int .i64 (bothT min a b).l1, .int .i64 (bothT min a b).l2, .int .i64 (bothT min a b).l3] := (Bx.new _ _ _ (by simp)).ge hb11
  replace c0 := X0.cell
  replace l0 := X0.lt
  replace c1 := X1.cell
  replace l1 := X1.lt
  replace c2 := X2.cell
  replace l2 := X2.lt
  replace c3 := X3.cell
  replace l3 := X3.lt
  have c4 := X4.cell
  have l4 := X4.lt
  have g11 := Lib.hid hb11
  clear hb11
  go_wp2_with fail
  refine (LBJ.out _).mono ?_
  rintro e w12 ⟨rfl, hb12⟩
  replace X0 : Bx w12 (w.heap.size) 24 #[.int .i64 a.e, .int .i64 a.d, .int .i64 a.l0, .int .i64 a.l1, .int .i64 a.l2, .int .i64 a.l3] := X0.ge hb12
  replace X1 : Bx w12 (w.heap.size + 1) 24 #[.int .i64 b.e, .int .i64 b.d, .int .i64 b.l0, .int .i64 b.l1, .int .i64 b.l2, .int .i64 b.l3] := X1.ge hb12
  replace X2 : Bx w12 (w.heap.size + 1 + 1) 24 #[.int .i64 c.e, .int .i64 c.d, .int .i64 c.l0, .int .i64 c.l1, .int .i64 c.l2, .int .i64 c.l3] := X2.ge hb12
  replace X3 : Bx w12 (w9.heap.size) 24 #[.int .i64 (bothT max a b).e, .int .i64 (bothT max a b).d, .int .i64 (bothT max a b).l0, .int .i64 (bothT max a b).l1, .int .i64 (bothT max a b).l2, .int .i64 (bothT max a b).l3] := X3.ge hb12
  replace X4 : Bx w12 (w10.heap.size) 24 #[.int .i64 (bothT min a b).e, .int .i64 (bothT min a b).d, .int .i64 (bothT min a b).l0, .int .i64 (bothT min a b).l1, .int .i64 (bothT min a b).l2, .int .i64 (bothT min a b).l3] := X4.ge hb12
  replace c0 := X0.cell
  replace l0 := X0.lt
  replace c1 := X1.cell
  replace l1 := X1.lt
  replace c2 := X2.cell
  replace l2 := X2.lt
  replace c3 := X3.cell
  replace l3 := X3.lt
  replace c4 := X4.cell
  replace l4 := X4.lt
  have g12 := Lib.hid hb12
  clear hb12
  go_wp2_with fail
  refine (LMA.out _).mono ?_
  rintro e w13 ⟨rfl, hb13⟩
  replace X0 : Bx w13 (w.heap.size) 24 #[.int .i64 a.e, .int .i64 a.d, .int .i64 a.l0, .int .i64 a.l1, .int .i64 a.l2, .int .i64 a.l3] := X0.ge hb13
  replace X1 : Bx w13 (w.heap.size + 1) 24 #[.int .i64 b.e, .int .i64 b.d, .int .i64 b.l0, .int .i64 b.l1, .int .i64 b.l2, .int .i64 b.l3] := X1.ge hb13
  replace X2 : Bx w13 (w.heap.size + 1 + 1) 24 #[.int .i64 c.e, .int .i64 c.d, .int .i64 c.l0, .int .i64 c.l1, .int .i64 c.l2, .int .i64 c.l3] := X2.ge hb13
  replace X3 : Bx w13 (w9.heap.size) 24 #[.int .i64 (bothT max a b).e, .int .i64 (bothT max a b).d, .int .i64 (bothT max a b).l0, .int .i64 (bothT max a b).l1, .int .i64 (bothT max a b).l2, .int .i64 (bothT max a b).l3] := X3.ge hb13
  replace X4 : Bx w13 (w10.heap.size) 24 #[.int .i64 (bothT min a b).e, .int .i64 (bothT min a b).d, .int .i64 (bothT min a b).l0, .int .i64 (bothT min a b).l1, .int .i64 (bothT min a b).l2, .int .i64 (bothT min a b).l3] := X4.ge hb13
  replace c0 := X0.cell
  replace l0 := X0.lt
  replace c1 := X1.cell
  replace l1 := X1.lt
  replace c2 := X2.cell
  replace l2 := X2.lt
  replace c3 := X3.cell
  replace l3 := X3.lt
  replace c4 := X4.cell
  replace l4 := X4.lt
  have g13 := Lib.hid hb13
  clear hb13
  go_wp2_with fail
  refine (LMB.out _).mono ?_
  rintro e w14 ⟨rfl, hb14⟩
  replace X0 : Bx w14 (w.heap.size) 24 #[.int .i64 a.e, .int .i64 a.d, .int .i64 a.l0, .int .i64 a.l1, .int .i64 a.l2, .int .i64 a.l3] := X0.ge hb14
  replace X1 : Bx w14 (w.heap.size + 1) 24 #[.int .i64 b.e, .int .i64 b.d, .int .i64 b.l0, .int .i64 b.l1, .int .i64 b.l2, .int .i64 b.l3] := X1.ge hb14
  replace X2 : Bx w14 (w.heap.size + 1 + 1) 24 #[.int .i64 c.e, .int .i64 c.d, .int .i64 c.l0, .int .i64 c.l1, .int .i64 c.l2, .int .i64 c.l3] := X2.ge hb14
  replace X3 : Bx w14 (w9.heap.size) 24 #[.int .i64 (bothT max a b).e, .int .i64 (bothT max a b).d, .int .i64 (bothT max a b).l0, .int .i64 (bothT max a b).l1, .int .i64 (bothT max a b).l2, .int .i64 (bothT max a b).l3] := X3.ge hb14
  replace X4 : Bx w14 (w10.heap.size) 24 #[.int .i64 (bothT min a b).e, .int .i64 (bothT min a b).d, .int .i64 (bothT min a b).l0, .int .i64 (bothT min a b).l1, .int .i64 (bothT min a b).l2, .int .i64 (bothT min a b).l3] := X4.ge hb14
  replace c0 := X0.cell
  replace l0 := X0.lt
  replace c1 := X1.cell
  replace l1 := X1.lt
  replace c2 := X2.cell
  replace l2 := X2.lt
  replace c3 := X3.cell
  replace l3 := X3.lt
  replace c4 := X4.cell
  replace l4 := X4.lt
  have g14 := Lib.hid hb14
  clear hb14
  clear c0 l0 c1 l1 c2 l2 c3 l3 c4 l4
  go_wp2_with fail
  refine Dr.wp_region_T (by kernel_rfl) (by kernel_rfl) ?_
  apply Dr.wpT_det
  · intro u w2 hw hF
    clear hF
    have c0 := (X0.ge hw).cell
    have l0 := (X0.ge hw).lt
    have c1 := (X1.ge hw).cell
    have l1 := (X1.ge hw).lt
    have c2 := (X2.ge hw).cell
    have l2 := (X2.ge hw).lt
    have c3 := (X3.ge hw).cell
    have l3 := (X3.ge hw).lt
    have c4 := (X4.ge hw).cell
    have l4 := (X4.ge hw).lt
    go_simp
    first | exact ⟨Ge.refl _, rfl⟩ | exact Ge.refl _
  apply Dr.wpT_det
  · intro u w2 hw hF
    clear hF
    have c0 := (X0.ge hw).cell
    have l0 := (X0.ge hw).lt
    have c1 := (X1.ge hw).cell
    have l1 := (X1.ge hw).lt
    have c2 := (X2.ge hw).cell
    have l2 := (X2.ge hw).lt
    have c3 := (X3.ge hw).cell
    have l3 := (X3.ge hw).lt
    have c4 := (X4.ge hw).cell
    have l4 := (X4.ge hw).lt
    go_simp
    first | exact ⟨Ge.refl _, rfl⟩ | exact Ge.refl _
  refine Dr.wpT_det (.bool true) ?_ ?_
  · intro u w2 hw hF
    clear hF
    go_simp
    refine (LAC.out _).mono ?_
    rintro e w3 ⟨rfl, hg⟩
    exact ⟨rfl, hg⟩
  refine Dr.wpT_det (.bool true) ?_ ?_
  · intro u w2 hw hF
    clear hF
    have c0 := (X0.ge hw).cell
    have l0 := (X0.ge hw).lt
    have c1 := (X1.ge hw).cell
    have l1 := (X1.ge hw).lt
    have c2 := (X2.ge hw).cell
    have l2 := (X2.ge hw).lt
    have c3 := (X3.ge hw).cell
    have l3 := (X3.ge hw).lt
    have c4 := (X4.ge hw).cell
    have l4 := (X4.ge hw).lt
    go_simp
    first | exact ⟨Ge.refl _, rfl⟩ | exact Ge.refl _
  apply Dr.wpT_det
  · intro u w2 hw hF
    clear hF
    have c0 := (X0.ge hw).cell
    have l0 := (X0.ge hw).lt
    have c1 := (X1.ge hw).cell
    have l1 := (X1.ge hw).lt
    have c2 := (X2.ge hw).cell
    have l2 := (X2.ge hw).lt
    have c3 := (X3.ge hw).cell
    have l3 := (X3.ge hw).lt
    have c4 := (X4.ge hw).cell
    have l4 := (X4.ge hw).lt
    go_simp
    first | exact ⟨Ge.refl _, rfl⟩ | exact Ge.refl _
  apply Dr.wpT_det
  · intro u w2 hw hF
    clear hF
    have c0 := (X0.ge hw).cell
    have l0 := (X0.ge hw).lt
    have c1 := (X1.ge hw).cell
    have l1 := (X1.ge hw).lt
    have c2 := (X2.ge hw).cell
    have l2 := (X2.ge hw).lt
    have c3 := (X3.ge hw).cell
    have l3 := (X3.ge hw).lt
    have c4 := (X4.ge hw).cell
    have l4 := (X4.ge hw).lt
    go_simp
    first | exact ⟨Ge.refl _, rfl⟩ | exact Ge.refl _
  refine Dr.wpT_det (.bool (leqB b c)) ?_ ?_
  · intro u w2 hw hF
    clear hF
    go_simp
    refine (SBC.out _).mono ?_
    rintro e w3 ⟨rfl, hg⟩
    exact ⟨rfl, hg⟩
  refine Dr.wpT_det (.bool (leqB b c)) ?_ ?_
  · intro u w2 hw hF
    clear hF
    have c0 := (X0.ge hw).cell
    have l0 := (X0.ge hw).lt
    have c1 := (X1.ge hw).cell
    have l1 := (X1.ge hw).lt
    have c2 := (X2.ge hw).cell
    have l2 := (X2.ge hw).lt
    have c3 := (X3.ge hw).cell
    have l3 := (X3.ge hw).lt
    have c4 := (X4.ge hw).cell
    have l4 := (X4.ge hw).lt
    go_simp
    first | exact ⟨Ge.refl _, rfl⟩ | exact Ge.refl _
  apply Dr.wpT_det
  · intro u w2 hw hF
    clear hF
    have c0 := (X0.ge hw).cell
    have l0 := (X0.ge hw).lt
    have c1 := (X1.ge hw).cell
    have l1 := (X1.ge hw).lt
    have c2 := (X2.ge hw).cell
    have l2 := (X2.ge hw).lt
    have c3 := (X3.ge hw).cell
    have l3 := (X3.ge hw).lt
    have c4 := (X4.ge hw).cell
    have l4 := (X4.ge hw).lt
    go_simp
    first | exact ⟨Ge.refl _, rfl⟩ | exact Ge.refl _
  apply Dr.wpT_det
  · intro u w2 hw hF
    clear hF
    have c0 := (X0.ge hw).cell
    have l0 := (X0.ge hw).lt
    have c1 := (X1.ge hw).cell
    have l1 := (X1.ge hw).lt
    have c2 := (X2.ge hw).cell
    have l2 := (X2.ge hw).lt
    have c3 := (X3.ge hw).cell
    have l3 := (X3.ge hw).lt
    have c4 := (X4.ge hw).cell
    have l4 := (X4.ge hw).lt
    go_simp
    first | exact ⟨Ge.refl _, rfl⟩ | exact Ge.refl _
  refine Dr.wpT_det (.bool (leqB b c)) ?_ ?_
  · intro u w2 hw hF
    clear hF
    go_simp
    refine (LJC.out _).mono ?_
    rintro e w3 ⟨rfl, hg⟩
    exact ⟨rfl, hg⟩
  refine Dr.wpT_det (.bool true) ?_ ?_
  · intro u w2 hw hF
    clear hF
    have c0 := (X0.ge hw).cell
    have l0 := (X0.ge hw).lt
    have c1 := (X1.ge hw).cell
    have l1 := (X1.ge hw).lt
    have c2 := (X2.ge hw).cell
    have l2 := (X2.ge hw).lt
    have c3 := (X3.ge hw).cell
    have l3 := (X3.ge hw).lt
    have c4 := (X4.ge hw).cell
    have l4 := (X4.ge hw).lt
    go_simp
    first | exact ⟨Ge.refl _, rfl⟩ | exact Ge.refl _
  refine Dr.wpT_det (.bool true) ?_ ?_
  · intro u w2 hw hF
    clear hF
    have c0 := (X0.ge hw).cell
    have l0 := (X0.ge hw).lt
    have c1 := (X1.ge hw).cell
    have l1 := (X1.ge hw).lt
    have c2 := (X2.ge hw).cell
    have l2 := (X2.ge hw).lt
    have c3 := (X3.ge hw).cell
    have l3 := (X3.ge hw).lt
    have c4 := (X4.ge hw).cell
    have l4 := (X4.ge hw).lt
    go_simp
    first | exact ⟨Ge.refl _, rfl⟩ | exact Ge.refl _
  apply Dr.wpT_det
  · intro u w2 hw hF
    clear hF
    have c0 := (X0.ge hw).cell
    have l0 := (X0.ge hw).lt
    have c1 := (X1.ge hw).cell
    have l1 := (X1.ge hw).lt
    have c2 := (X2.ge hw).cell
    have l2 := (X2.ge hw).lt
    have c3 := (X3.ge hw).cell
    have l3 := (X3.ge hw).lt
    have c4 := (X4.ge hw).cell
    have l4 := (X4.ge hw).lt
    go_simp
    first | exact ⟨Ge.refl _, rfl⟩ | exact Ge.refl _
  apply Dr.wpT_det
  · intro u w2 hw hF
    clear hF
    have c0 := (X0.ge hw).cell
    have l0 := (X0.ge hw).lt
    have c1 := (X1.ge hw).cell
    have l1 := (X1.ge hw).lt
    have c2 := (X2.ge hw).cell
    have l2 := (X2.ge hw).lt
    have c3 := (X3.ge hw).cell
    have l3 := (X3.ge hw).lt
    have c4 := (X4.ge hw).cell
    have l4 := (X4.ge hw).lt
    go_simp
    first | exact ⟨Ge.refl _, rfl⟩ | exact Ge.refl _
  refine Dr.wpT_det (.bool false) ?_ ?_
  · intro u w2 hw hF
    clear hF
    go_simp
    refine (LCA.out _).mono ?_
    rintro e w3 ⟨rfl, hg⟩
    exact ⟨rfl, hg⟩
  refine Dr.wpT_det (.bool false) ?_ ?_
  · intro u w2 hw hF
    clear hF
    have c0 := (X0.ge hw).cell
    have l0 := (X0.ge hw).lt
    have c1 := (X1.ge hw).cell
    have l1 := (X1.ge hw).lt
    have c2 := (X2.ge hw).cell
    have l2 := (X2.ge hw).lt
    have c3 := (X3.ge hw).cell
    have l3 := (X3.ge hw).lt
    have c4 := (X4.ge hw).cell
    have l4 := (X4.ge hw).lt
    go_simp
    first | exact ⟨Ge.refl _, rfl⟩ | exact Ge.refl _
  refine Dr.wpT_det undef ?_ ?_
  · intro u w2 hw hF
    clear hF
    go_simp
  refine Dr.wpT_det undef ?_ ?_
  · intro u w2 hw hF
    clear hF
    go_simp
  refine Dr.wpT_det undef ?_ ?_
  · intro u w2 hw hF
    clear hF
    go_simp
  refine Dr.wpT_det (.bool false) ?_ ?_
  · intro u w2 hw hF
    clear hF
    have c0 := (X0.ge hw).cell
    have l0 := (X0.ge hw).lt
    have c1 := (X1.ge hw).cell
    have l1 := (X1.ge hw).lt
    have c2 := (X2.ge hw).cell
    have l2 := (X2.ge hw).lt
    have c3 := (X3.ge hw).cell
    have l3 := (X3.ge hw).lt
    have c4 := (X4.ge hw).cell
    have l4 := (X4.ge hw).lt
    go_simp
    first | exact ⟨Ge.refl _, rfl⟩ | exact Ge.refl _
  apply Dr.wpT_det
  · intro u w2 hw hF
    clear hF
    have c0 := (X0.ge hw).cell
    have l0 := (X0.ge hw).lt
    have c1 := (X1.ge hw).cell
    have l1 := (X1.ge hw).lt
    have c2 := (X2.ge hw).cell
    have l2 := (X2.ge hw).lt
    have c3 := (X3.ge hw).cell
    have l3 := (X3.ge hw).lt
    have c4 := (X4.ge hw).cell
    have l4 := (X4.ge hw).lt
    go_simp
    first | exact ⟨Ge.refl _, rfl⟩ | exact Ge.refl _
  apply Dr.wpT_det
  · intro u w2 hw hF
    clear hF
    have c0 := (X0.ge hw).cell
    have l0 := (X0.ge hw).lt
    have c1 := (X1.ge hw).cell
    have l1 := (X1.ge hw).lt
    have c2 := (X2.ge hw).cell
    have l2 := (X2.ge hw).lt
    have c3 := (X3.ge hw).cell
    have l3 := (X3.ge hw).lt
    have c4 := (X4.ge hw).cell
    have l4 := (X4.ge hw).lt
    go_simp
    first | exact ⟨Ge.refl _, rfl⟩ | exact Ge.refl _
  refine Dr.wpT_det (.bool false) ?_ ?_
  · intro u w2 hw hF
    clear hF
    go_simp
    refine (LCM.out _).mono ?_
    rintro e w3 ⟨rfl, hg⟩
    exact ⟨rfl, hg⟩
  refine Dr.wpT_det (.bool true) ?_ ?_
  · intro u w2 hw hF
    clear hF
    have c0 := (X0.ge hw).cell
    have l0 := (X0.ge hw).lt
    have c1 := (X1.ge hw).cell
    have l1 := (X1.ge hw).lt
    have c2 := (X2.ge hw).cell
    have l2 := (X2.ge hw).lt
    have c3 := (X3.ge hw).cell
    have l3 := (X3.ge hw).lt
    have c4 := (X4.ge hw).cell
    have l4 := (X4.ge hw).lt
    go_simp
    first | exact ⟨Ge.refl _, rfl⟩ | exact Ge.refl _
  refine Dr.wpT_det (.bool true) ?_ ?_
  · intro u w2 hw hF
    clear hF
    have c0 := (X0.ge hw).cell
    have l0 := (X0.ge hw).lt
    have c1 := (X1.ge hw).cell
    have l1 := (X1.ge hw).lt
    have c2 := (X2.ge hw).cell
    have l2 := (X2.ge hw).lt
    have c3 := (X3.ge hw).cell
    have l3 := (X3.ge hw).lt
    have c4 := (X4.ge hw).cell
    have l4 := (X4.ge hw).lt
    go_simp
    first | exact ⟨Ge.refl _, rfl⟩ | exact Ge.refl _
  refine Dr.wpT_det (.bool true) ?_ ?_
  · intro u w2 hw hF
    clear hF
    have c0 := (X0.ge hw).cell
    have l0 := (X0.ge hw).lt
    have c1 := (X1.ge hw).cell
    have l1 := (X1.ge hw).lt
    have c2 := (X2.ge hw).cell
    have l2 := (X2.ge hw).lt
    have c3 := (X3.ge hw).cell
    have l3 := (X3.ge hw).lt
    have c4 := (X4.ge hw).cell
    have l4 := (X4.ge hw).lt
    go_simp
    first | exact ⟨Ge.refl _, rfl⟩ | exact Ge.refl _
  intro u w2 hw hF
  clear hF
  go_wp2
  simp only [Act.put, List.setIfInBounds_toArray, List.set_cons_zero, List.set_cons_succ]
  go_returns
  exact ⟨rfl, ((((((((((((((((((((Ge.refl w).alloc _).alloc _).alloc _).trans g1.out).trans g2.out).trans g3.out).trans g4.out).trans g5.out).trans g6.out).trans g7.out).trans g8.out).trans g9.out).alloc _).trans g10.out).alloc _).trans g11.out).trans g12.out).trans g13.out).trans g14.out).trans hw⟩

set_option maxRecDepth 100000 in
set_option maxHeartbeats 8000000 in
theorem order_1110100 (a b c : Tm) (w : World) (hA : Chk a) (hL : leqB a b = true) (hM : leqB b a = true) (hN : leqB b c = false) (hP : leqB a c = false) (hR : leqB c a = false) :
    Calls Try.prog 6 #[.agg #[.int .i64 a.e, .int .i64 a.d, .int .i64 a.l0, .int .i64 a.l1, .int .i64 a.l2, .int .i64 a.l3], .agg #[.int .i64 b.e, .int .i64 b.d, .int .i64 b.l0, .int .i64 b.l1, .int .i64 b.l2, .int .i64 b.l3], .agg #[.int .i64 c.e, .int .i64 c.d, .int .i64 c.l0, .int .i64 c.l1, .int .i64 c.l2, .int .i64 c.l3]] w fun e w' => e = .returned (.bool true) ∧ Below w.heap.size w w' := by
  have RC : Hid (∀ w, Calls Try.prog 20 #[.agg #[.int .i64 a.e, .int .i64 a.d, .int .i64 a.l0, .int .i64 a.l1, .int .i64 a.l2, .int .i64 a.l3]] w fun e w' => e = .returned (.int .i64 0) ∧ Ge w w') := fun w => (rcheck_yes hA w).mono fun e w' ⟨h, k⟩ => ⟨h, by rw [k]; exact (Ge.refl _).alloc _⟩
  have LAA := Lib.hid (fun w => by have := leq_any a a w; rwa [leqB_self hA] at this)
  have LAB := Lib.hid (fun w => by have := leq_any a b w; rwa [hL] at this)
  have LBA := Lib.hid (fun w => by have := leq_any b a w; rwa [hM] at this)
  have LBC := Lib.hid (fun w => by have := leq_any b c w; rwa [hN] at this)
  have hE := bothE_leq hL
  have q := fun w => neq_tm a b w
  simp only [eqB_of_leq hL hM, Bool.not_true] at q
  have LAC := Lib.hid (fun w => by have := leq_any a c w; rwa [hP] at this)
  have LCA := Lib.hid (fun w => by have := leq_any c a w; rwa [hR] at this)
  have JN := Lib.hid (fun w => by have := join_any a b w; rwa [hE] at this)
  have MT := Lib.hid (fun w => by have := meet_any a b w; rwa [hE] at this)
  have LAJ := Lib.hid (fun w => by have := leq_any a (bothT max a b) w; rwa [(join_up hE).1] at this)
  have LBJ := Lib.hid (fun w => by have := leq_any b (bothT max a b) w; rwa [(join_up hE).2] at this)
  have LMA := Lib.hid (fun w => by have := leq_any (bothT min a b) a w; rwa [(meet_down hE).1] at this)
  have LMB := Lib.hid (fun w => by have := leq_any (bothT min a b) b w; rwa [(meet_down hE).2] at this)
  have LJC := Lib.hid (fun w => by have := leq_any (bothT max a b) c w; rwa [join_least c hE, hP, Bool.false_and] at this)
  have LCM := Lib.hid (fun w => by have := leq_any c (bothT min a b) w; rwa [meet_most c hE, hR, Bool.false_and] at this)
  have SBC := Lib.hid (leq_any b c)
  have SCB := Lib.hid (leq_any c b)
  clear hR hP hE hN hM hL hA
  go_enter Try.func6, Try.ntmps6
  go_wp2_with fail
  refine (live_any _).mono ?_
  rintro e w1 ⟨rfl, hb1⟩
  have X0 : Bx w1 (w.heap.size) 24 #[.int .i64 a.e, .int .i64 a.d, .int .i64 a.l0, .int .i64 a.l1, .int .i64 a.l2, .int .i64 a.l3] := (((Bx.new _ _ _ (by simp)).alloc _).alloc _).ge hb1
  have X1 : Bx w1 (w.heap.size + 1) 24 #[.int .i64 b.e, .int .i64 b.d, .int .i64 b.l0, .int .i64 b.l1, .int .i64 b.l2, .int .i64 b.l3] := ((Bx.new _ _ _ (by simp)).alloc _).ge hb1
  have X2 : Bx w1 (w.heap.size + 1 + 1) 24 #[.int .i64 c.e, .int .i64 c.d, .int .i64 c.l0, .int .i64 c.l1, .int .i64 c.l2, .int .i64 c.l3] := (Bx.new _ _ _ (by simp)).ge hb1
  have c0 := X0.cell
  have l0 := X0.lt
  have c1 := X1.cell
  have l1 := X1.lt
  have c2 := X2.cell
  have l2 := X2.lt
  have g1 := Lib.hid hb1
  clear hb1
  go_wp2_with fail
  refine (RC.out _).mono ?_
  rintro e w2 ⟨rfl, hb2⟩
  replace X0 : Bx w2 (w.heap.size) 24 #[.int .i64 a.e, .int .i64 a.d, .int .i64 a.l0, .int .i64 a.l1, .int .i64 a.l2, .int .i64 a.l3] := X0.ge hb2
  replace X1 : Bx w2 (w.heap.size + 1) 24 #[.int .i64 b.e, .int .i64 b.d, .int .i64 b.l0, .int .i64 b.l1, .int .i64 b.l2, .int .i64 b.l3] := X1.ge hb2
  replace X2 : Bx w2 (w.heap.size + 1 + 1) 24 #[.int .i64 c.e, .int .i64 c.d, .int .i64 c.l0, .int .i64 c.l1, .int .i64 c.l2, .int .i64 c.l3] := X2.ge hb2
  replace c0 := X0.cell
  replace l0 := X0.lt
  replace c1 := X1.cell
  replace l1 := X1.lt
  replace c2 := X2.cell
  replace l2 := X2.lt
  have g2 := Lib.hid hb2
  clear hb2
  go_wp2_with fail
  refine (LAA.out _).mono ?_
  rintro e w3 ⟨rfl, hb3⟩
  replace X0 : Bx w3 (w.heap.size) 24 #[.int .i64 a.e, .int .i64 a.d, .int .i64 a.l0, .int .i64 a.l1, .int .i64 a.l2, .int .i64 a.l3] := X0.ge hb3
  replace X1 : Bx w3 (w.heap.size + 1) 24 #[.int .i64 b.e, .int .i64 b.d, .int .i64 b.l0, .int .i64 b.l1, .int .i64 b.l2, .int .i64 b.l3] := X1.ge hb3
  replace X2 : Bx w3 (w.heap.size + 1 + 1) 24 #[.int .i64 c.e, .int .i64 c.d, .int .i64 c.l0, .int .i64 c.l1, .int .i64 c.l2, .int .i64 c.l3] := X2.ge hb3
  replace c0 := X0.cell
  replace l0 := X0.lt
  replace c1 := X1.cell
  replace l1 := X1.lt
  replace c2 := X2.cell
  replace l2 := X2.lt
  have g3 := Lib.hid hb3
  clear hb3
  go_wp2_with fail
  refine (LAB.out _).mono ?_
  rintro e w4 ⟨rfl, hb4⟩
  replace X0 : Bx w4 (w.heap.size) 24 #[.int .i64 a.e, .int .i64 a.d, .int .i64 a.l0, .int .i64 a.l1, .int .i64 a.l2, .int .i64 a.l3] := X0.ge hb4
  replace X1 : Bx w4 (w.heap.size + 1) 24 #[.int .i64 b.e, .int .i64 b.d, .int .i64 b.l0, .int .i64 b.l1, .int .i64 b.l2, .int .i64 b.l3] := X1.ge hb4
  replace X2 : Bx w4 (w.heap.size + 1 + 1) 24 #[.int .i64 c.e, .int .i64 c.d, .int .i64 c.l0, .int .i64 c.l1, .int .i64 c.l2, .int .i64 c.l3] := X2.ge hb4
  replace c0 := X0.cell
  replace l0 := X0.lt
  replace c1 := X1.cell
  replace l1 := X1.lt
  replace c2 := X2.cell
  replace l2 := X2.lt
  have g4 := Lib.hid hb4
  clear hb4
  go_wp2_with fail
  refine (LBA.out _).mono ?_
  rintro e w5 ⟨rfl, hb5⟩
  replace X0 : Bx w5 (w.heap.size) 24 #[.int .i64 a.e, .int .i64 a.d, .int .i64 a.l0, .int .i64 a.l1, .int .i64 a.l2, .int .i64 a.l3] := X0.ge hb5
  replace X1 : Bx w5 (w.heap.size + 1) 24 #[.int .i64 b.e, .int .i64 b.d, .int .i64 b.l0, .int .i64 b.l1, .int .i64 b.l2, .int .i64 b.l3] := X1.ge hb5
  replace X2 : Bx w5 (w.heap.size + 1 + 1) 24 #[.int .i64 c.e, .int .i64 c.d, .int .i64 c.l0, .int .i64 c.l1, .int .i64 c.l2, .int .i64 c.l3] := X2.ge hb5
  replace c0 := X0.cell
  replace l0 := X0.lt
  replace c1 := X1.cell
  replace l1 := X1.lt
  replace c2 := X2.cell
  replace l2 := X2.lt
  have g5 := Lib.hid hb5
  clear hb5
  go_wp2_with fail
  refine (LAB.out _).mono ?_
  rintro e w6 ⟨rfl, hb6⟩
  replace X0 : Bx w6 (w.heap.size) 24 #[.int .i64 a.e, .int .i64 a.d, .int .i64 a.l0, .int .i64 a.l1, .int .i64 a.l2, .int .i64 a.l3] := X0.ge hb6
  replace X1 : Bx w6 (w.heap.size + 1) 24 #[.int .i64 b.e, .int .i64 b.d, .int .i64 b.l0, .int .i64 b.l1, .int .i64 b.l2, .int .i64 b.l3] := X1.ge hb6
  replace X2 : Bx w6 (w.heap.size + 1 + 1) 24 #[.int .i64 c.e, .int .i64 c.d, .int .i64 c.l0, .int .i64 c.l1, .int .i64 c.l2, .int .i64 c.l3] := X2.ge hb6
  replace c0 := X0.cell
  replace l0 := X0.lt
  replace c1 := X1.cell
  replace l1 := X1.lt
  replace c2 := X2.cell
  replace l2 := X2.lt
  have g6 := Lib.hid hb6
  clear hb6
  go_wp2_with fail
  refine (LBC.out _).mono ?_
  rintro e w7 ⟨rfl, hb7⟩
  replace X0 : Bx w7 (w.heap.size) 24 #[.int .i64 a.e, .int .i64 a.d, .int .i64 a.l0, .int .i64 a.l1, .int .i64 a.l2, .int .i64 a.l3] := X0.ge hb7
  replace X1 : Bx w7 (w.heap.size + 1) 24 #[.int .i64 b.e, .int .i64 b.d, .int .i64 b.l0, .int .i64 b.l1, .int .i64 b.l2, .int .i64 b.l3] := X1.ge hb7
  replace X2 : Bx w7 (w.heap.size + 1 + 1) 24 #[.int .i64 c.e, .int .i64 c.d, .int .i64 c.l0, .int .i64 c.l1, .int .i64 c.l2, .int .i64 c.l3] := X2.ge hb7
  replace c0 := X0.cell
  replace l0 := X0.lt
  replace c1 := X1.cell
  replace l1 := X1.lt
  replace c2 := X2.cell
  replace l2 := X2.lt
  have g7 := Lib.hid hb7
  clear hb7
  go_wp2_with fail
  refine (JN.out _).mono ?_
  rintro e w8 ⟨rfl, hb8⟩
  replace X0 : Bx w8 (w.heap.size) 24 #[.int .i64 a.e, .int .i64 a.d, .int .i64 a.l0, .int .i64 a.l1, .int .i64 a.l2, .int .i64 a.l3] := X0.ge hb8
  replace X1 : Bx w8 (w.heap.size + 1) 24 #[.int .i64 b.e, .int .i64 b.d, .int .i64 b.l0, .int .i64 b.l1, .int .i64 b.l2, .int .i64 b.l3] := X1.ge hb8
  replace X2 : Bx w8 (w.heap.size + 1 + 1) 24 #[.int .i64 c.e, .int .i64 c.d, .int .i64 c.l0, .int .i64 c.l1, .int .i64 c.l2, .int .i64 c.l3] := X2.ge hb8
  replace c0 := X0.cell
  replace l0 := X0.lt
  replace c1 := X1.cell
  replace l1 := X1.lt
  replace c2 := X2.cell
  replace l2 := X2.lt
  have g8 := Lib.hid hb8
  clear hb8
  go_wp2_with fail
  refine (MT.out _).mono ?_
  rintro e w9 ⟨rfl, hb9⟩
  replace X0 : Bx w9 (w.heap.size) 24 #[.int .i64 a.e, .int .i64 a.d, .int .i64 a.l0, .int .i64 a.l1, .int .i64 a.l2, .int .i64 a.l3] := (X0.alloc _).ge hb9
  replace X1 : Bx w9 (w.heap.size + 1) 24 #[.int .i64 b.e, .int .i64 b.d, .int .i64 b.l0, .int .i64 b.l1, .int .i64 b.l2, .int .i64 b.l3] := (X1.alloc _).ge hb9
  replace X2 : Bx w9 (w.heap.size + 1 + 1) 24 #[.int .i64 c.e, .int .i64 c.d, .int .i64 c.l0, .int .i64 c.l1, .int .i64 c.l2, .int .i64 c.l3] := (X2.alloc _).ge hb9
  have X3 : Bx w9 (w8.heap.size) 24 #[.int .i64 (bothT max a b).e, .int .i64 (bothT max a b).d, .int .i64 (bothT max a b).l0, .int .i64 (bothT max a b).l1, .int .i64 (bothT max a b).l2, .int .i64 (bothT max a b).l3] := (Bx.new _ _ _ (by simp)).ge hb9
  replace c0 := X0.cell
  replace l0 := X0.lt
  replace c1 := X1.cell
  replace l1 := X1.lt
  replace c2 := X2.cell
  replace l2 := X2.lt
  have c3 := X3.cell
  have l3 := X3.lt
  have g9 := Lib.hid hb9
  clear hb9
  go_wp2_with fail
  refine (LAJ.out _).mono ?_
  rintro e w10 ⟨rfl, hb10⟩
  replace X0 : Bx w10 (w.heap.size) 24 #[.int .i64 a.e, .int .i64 a.d, .int .i64 a.l0, .int .i64 a.l1, .int .i64 a.l2, .int .i64 a.l3] := (X0.alloc _).ge hb10
  replace X1 : Bx w10 (w.heap.size + 1) 24 #[.int .i64 b.e, .int .i64 b.d, .int .i64 b.l0, .int .i64 b.l1, .int .i64 b.l2, .int .i64 b.l3] := (X1.alloc _).ge hb10
  replace X2 : Bx w10 (w.heap.size + 1 + 1) 24 #[.int .i64 c.e, .int .i64 c.d, .int .i64 c.l0, .int .i64 c.l1, .int .i64 c.l2, .int .i64 c.l3] := (X2.alloc _).ge hb10
  replace X3 : Bx w10 (w8.heap.size) 24 #[.int .i64 (bothT max a b).e, .int .i64 (bothT max a b).d, .int .i64 (bothT max a b).l0, .int .i64 (bothT max a b).l1, .int .i64 (bothT max a b).l2, .int .i64 (bothT max a b).l3] := (X3.alloc _).ge hb10
  have X4 : Bx w10 (w9.heap.size) 24 #[.int .i64 (bothT min a b).e, .int .i64 (bothT min a b).d, .int .i64 (bothT min a b).l0, .int .i64 (bothT min a b).l1, .int .i64 (bothT min a b).l2, .int .i64 (bothT min a b).l3] := (Bx.new _ _ _ (by simp)).ge hb10
  replace c0 := X0.cell
  replace l0 := X0.lt
  replace c1 := X1.cell
  replace l1 := X1.lt
  replace c2 := X2.cell
  replace l2 := X2.lt
  replace c3 := X3.cell
  replace l3 := X3.lt
  have c4 := X4.cell
  have l4 := X4.lt
  have g10 := Lib.hid hb10
  clear hb10
  go_wp2_with fail
  refine (LBJ.out _).mono ?_
  rintro e w11 ⟨rfl, hb11⟩
  replace X0 : Bx w11 (w.heap.size) 24 #[.int .i64 a.e, .int .i64 a.d, .int .i64 a.l0, .int .i64 a.l1, .int .i64 a.l2, .int .i64 a.l3] := X0.ge hb11
  replace X1 : Bx w11 (w.heap.size + 1) 24 #[.int .i64 b.e, .int .i64 b.d, .int .i64 b.l0, .int .i64 b.l1, .int .i64 b.l2, .int .i64 b.l3] := X1.ge hb11
  replace X2 : Bx w11 (w.heap.size + 1 + 1) 24 #[.int .i64 c.e, .int .i64 c.d, .int .i64 c.l0, .int .i64 c.l1, .int .i64 c.l2, .int .i64 c.l3] := X2.ge hb11
  replace X3 : Bx w11 (w8.heap.size) 24 #[.int .i64 (bothT max a b).e, .int .i64 (bothT max a b).d, .int .i64 (bothT max a b).l0, .int .i64 (bothT max a b).l1, .int .i64 (bothT max a b).l2, .int .i64 (bothT max a b).l3] := X3.ge hb11
  replace X4 : Bx w11 (w9.heap.size) 24 #[.int .i64 (bothT min a b).e, .int .i64 (bothT min a b).d, .int .i64 (bothT min a b).l0, .int .i64 (bothT min a b).l1, .int .i64 (bothT min a b).l2, .int .i64 (bothT min a b).l3] := X4.ge hb11
  replace c0 := X0.cell
  replace l0 := X0.lt
  replace c1 := X1.cell
  replace l1 := X1.lt
  replace c2 := X2.cell
  replace l2 := X2.lt
  replace c3 := X3.cell
  replace l3 := X3.lt
  replace c4 := X4.cell
  replace l4 := X4.lt
  have g11 := Lib.hid hb11
  clear hb11
  go_wp2_with fail
  refine (LMA.out _).mono ?_
  rintro e w12 ⟨rfl, hb12⟩
  replace X0 : Bx w12 (w.heap.size) 24 #[.int .i64 a.e, .int .i64 a.d, .int .i64 a.l0, .int .i64 a.l1, .int .i64 a.l2, .int .i64 a.l3] := X0.ge hb12
  replace X1 : Bx w12 (w.heap.size + 1) 24 #[.int .i64 b.e, .int .i64 b.d, .int .i64 b.l0, .int .i64 b.l1, .int .i64 b.l2, .int .i64 b.l3] := X1.ge hb12
  replace X2 : Bx w12 (w.heap.size + 1 + 1) 24 #[.int .i64 c.e, .int .i64 c.d, .int .i64 c.l0, .int .i64 c.l1, .int .i64 c.l2, .int .i64 c.l3] := X2.ge hb12
  replace X3 : Bx w12 (w8.heap.size) 24 #[.int .i64 (bothT max a b).e, .int .i64 (bothT max a b).d, .int .i64 (bothT max a b).l0, .int .i64 (bothT max a b).l1, .int .i64 (bothT max a b).l2, .int .i64 (bothT max a b).l3] := X3.ge hb12
  replace X4 : Bx w12 (w9.heap.size) 24 #[.int .i64 (bothT min a b).e, .int .i64 (bothT min a b).d, .int .i64 (bothT min a b).l0, .int .i64 (bothT min a b).l1, .int .i64 (bothT min a b).l2, .int .i64 (bothT min a b).l3] := X4.ge hb12
  replace c0 := X0.cell
  replace l0 := X0.lt
  replace c1 := X1.cell
  replace l1 := X1.lt
  replace c2 := X2.cell
  replace l2 := X2.lt
  replace c3 := X3.cell
  replace l3 := X3.lt
  replace c4 := X4.cell
  replace l4 := X4.lt
  have g12 := Lib.hid hb12
  clear hb12
  go_wp2_with fail
  refine (LMB.out _).mono ?_
  rintro e w13 ⟨rfl, hb13⟩
  replace X0 : Bx w13 (w.heap.size) 24 #[.int .i64 a.e, .int .i64 a.d, .int .i64 a.l0, .int .i64 a.l1, .int .i64 a.l2, .int .i64 a.l3] := X0.ge hb13
  replace X1 : Bx w13 (w.heap.size + 1) 24 #[.int .i64 b.e, .int .i64 b.d, .int .i64 b.l0, .int .i64 b.l1, .int .i64 b.l2, .int .i64 b.l3] := X1.ge hb13
  replace X2 : Bx w13 (w.heap.size + 1 + 1) 24 #[.int .i64 c.e, .int .i64 c.d, .int .i64 c.l0, .int .i64 c.l1, .int .i64 c.l2, .int .i64 c.l3] := X2.ge hb13
  replace X3 : Bx w13 (w8.heap.size) 24 #[.int .i64 (bothT max a b).e, .int .i64 (bothT max a b).d, .int .i64 (bothT max a b).l0, .int .i64 (bothT max a b).l1, .int .i64 (bothT max a b).l2, .int .i64 (bothT max a b).l3] := X3.ge hb13
  replace X4 : Bx w13 (w9.heap.size) 24 #[.int .i64 (bothT min a b).e, .int .i64 (bothT min a b).d, .int .i64 (bothT min a b).l0, .int .i64 (bothT min a b).l1, .int .i64 (bothT min a b).l2, .int .i64 (bothT min a b).l3] := X4.ge hb13
  replace c0 := X0.cell
  replace l0 := X0.lt
  replace c1 := X1.cell
  replace l1 := X1.lt
  replace c2 := X2.cell
  replace l2 := X2.lt
  replace c3 := X3.cell
  replace l3 := X3.lt
  replace c4 := X4.cell
  replace l4 := X4.lt
  have g13 := Lib.hid hb13
  clear hb13
  clear c0 l0 c1 l1 c2 l2 c3 l3 c4 l4
  go_wp2_with fail
  refine Dr.wp_region_T (by kernel_rfl) (by kernel_rfl) ?_
  apply Dr.wpT_det
  · intro u w2 hw hF
    clear hF
    have c0 := (X0.ge hw).cell
    have l0 := (X0.ge hw).lt
    have c1 := (X1.ge hw).cell
    have l1 := (X1.ge hw).lt
    have c2 := (X2.ge hw).cell
    have l2 := (X2.ge hw).lt
    have c3 := (X3.ge hw).cell
    have l3 := (X3.ge hw).lt
    have c4 := (X4.ge hw).cell
    have l4 := (X4.ge hw).lt
    go_simp
    first | exact ⟨Ge.refl _, rfl⟩ | exact Ge.refl _
  apply Dr.wpT_det
  · intro u w2 hw hF
    clear hF
    have c0 := (X0.ge hw).cell
    have l0 := (X0.ge hw).lt
    have c1 := (X1.ge hw).cell
    have l1 := (X1.ge hw).lt
    have c2 := (X2.ge hw).cell
    have l2 := (X2.ge hw).lt
    have c3 := (X3.ge hw).cell
    have l3 := (X3.ge hw).lt
    have c4 := (X4.ge hw).cell
    have l4 := (X4.ge hw).lt
    go_simp
    first | exact ⟨Ge.refl _, rfl⟩ | exact Ge.refl _
  refine Dr.wpT_det (.bool false) ?_ ?_
  · intro u w2 hw hF
    clear hF
    go_simp
    refine (LAC.out _).mono ?_
    rintro e w3 ⟨rfl, hg⟩
    exact ⟨rfl, hg⟩
  refine Dr.wpT_det (.bool false) ?_ ?_
  · intro u w2 hw hF
    clear hF
    have c0 := (X0.ge hw).cell
    have l0 := (X0.ge hw).lt
    have c1 := (X1.ge hw).cell
    have l1 := (X1.ge hw).lt
    have c2 := (X2.ge hw).cell
    have l2 := (X2.ge hw).lt
    have c3 := (X3.ge hw).cell
    have l3 := (X3.ge hw).lt
    have c4 := (X4.ge hw).cell
    have l4 := (X4.ge hw).lt
    go_simp
    first | exact ⟨Ge.refl _, rfl⟩ | exact Ge.refl _
  refine Dr.wpT_det undef ?_ ?_
  · intro u w2 hw hF
    clear hF
    go_simp
  refine Dr.wpT_det undef ?_ ?_
  · intro u w2 hw hF
    clear hF
    go_simp
  refine Dr.wpT_det undef ?_ ?_
  · intro u w2 hw hF
    clear hF
    go_simp
  refine Dr.wpT_det (.bool false) ?_ ?_
  · intro u w2 hw hF
    clear hF
    have c0 := (X0.ge hw).cell
    have l0 := (X0.ge hw).lt
    have c1 := (X1.ge hw).cell
    have l1 := (X1.ge hw).lt
    have c2 := (X2.ge hw).cell
    have l2 := (X2.ge hw).lt
    have c3 := (X3.ge hw).cell
    have l3 := (X3.ge hw).lt
    have c4 := (X4.ge hw).cell
    have l4 := (X4.ge hw).lt
    go_simp
    first | exact ⟨Ge.refl _, rfl⟩ | exact Ge.refl _
  apply Dr.wpT_det
  · intro u w2 hw hF
    clear hF
    have c0 := (X0.ge hw).cell
    have l0 := (X0.ge hw).lt
    have c1 := (X1.ge hw).cell
    have l1 := (X1.ge hw).lt
    have c2 := (X2.ge hw).cell
    have l2 := (X2.ge hw).lt
    have c3 := (X3.ge hw).cell
    have l3 := (X3.ge hw).lt
    have c4 := (X4.ge hw).cell
    have l4 := (X4.ge hw).lt
    go_simp
    first | exact ⟨Ge.refl _, rfl⟩ | exact Ge.refl _
  apply Dr.wpT_det
  · intro u w2 hw hF
    clear hF
    have c0 := (X0.ge hw).cell
    have l0 := (X0.ge hw).lt
    have c1 := (X1.ge hw).cell
    have l1 := (X1.ge hw).lt
    have c2 := (X2.ge hw).cell
    have l2 := (X2.ge hw).lt
    have c3 := (X3.ge hw).cell
    have l3 := (X3.ge hw).lt
    have c4 := (X4.ge hw).cell
    have l4 := (X4.ge hw).lt
    go_simp
    first | exact ⟨Ge.refl _, rfl⟩ | exact Ge.refl _
  refine Dr.wpT_det (.bool false) ?_ ?_
  · intro u w2 hw hF
    clear hF
    go_simp
    refine (LJC.out _).mono ?_
    rintro e w3 ⟨rfl, hg⟩
    exact ⟨rfl, hg⟩
  refine Dr.wpT_det (.bool true) ?_ ?_
  · intro u w2 hw hF
    clear hF
    have c0 := (X0.ge hw).cell
    have l0 := (X0.ge hw).lt
    have c1 := (X1.ge hw).cell
    have l1 := (X1.ge hw).lt
    have c2 := (X2.ge hw).cell
    have l2 := (X2.ge hw).lt
    have c3 := (X3.ge hw).cell
    have l3 := (X3.ge hw).lt
    have c4 := (X4.ge hw).cell
    have l4 := (X4.ge hw).lt
    go_simp
    first | exact ⟨Ge.refl _, rfl⟩ | exact Ge.refl _
  refine Dr.wpT_det (.bool true) ?_ ?_
  · intro u w2 hw hF
    clear hF
    have c0 := (X0.ge hw).cell
    have l0 := (X0.ge hw).lt
    have c1 := (X1.ge hw).cell
    have l1 := (X1.ge hw).lt
    have c2 := (X2.ge hw).cell
    have l2 := (X2.ge hw).lt
    have c3 := (X3.ge hw).cell
    have l3 := (X3.ge hw).lt
    have c4 := (X4.ge hw).cell
    have l4 := (X4.ge hw).lt
    go_simp
    first | exact ⟨Ge.refl _, rfl⟩ | exact Ge.refl _
  apply Dr.wpT_det
  · intro u w2 hw hF
    clear hF
    have c0 := (X0.ge hw).cell
    have l0 := (X0.ge hw).lt
    have c1 := (X1.ge hw).cell
    have l1 := (X1.ge hw).lt
    have c2 := (X2.ge hw).cell
    have l2 := (X2.ge hw).lt
    have c3 := (X3.ge hw).cell
    have l3 := (X3.ge hw).lt
    have c4 := (X4.ge hw).cell
    have l4 := (X4.ge hw).lt
    go_simp
    first | exact ⟨Ge.refl _, rfl⟩ | exact Ge.refl _
  apply Dr.wpT_det
  · intro u w2 hw hF
    clear hF
    have c0 := (X0.ge hw).cell
    have l0 := (X0.ge hw).lt
    have c1 := (X1.ge hw).cell
    have l1 := (X1.ge hw).lt
    have c2 := (X2.ge hw).cell
    have l2 := (X2.ge hw).lt
    have c3 := (X3.ge hw).cell
    have l3 := (X3.ge hw).lt
    have c4 := (X4.ge hw).cell
    have l4 := (X4.ge hw).lt
    go_simp
    first | exact ⟨Ge.refl _, rfl⟩ | exact Ge.refl _
  refine Dr.wpT_det (.bool false) ?_ ?_
  · intro u w2 hw hF
    clear hF
    go_simp
    refine (LCA.out _).mono ?_
    rintro e w3 ⟨rfl, hg⟩
    exact ⟨rfl, hg⟩
  refine Dr.wpT_det (.bool false) ?_ ?_
  · intro u w2 hw hF
    clear hF
    have c0 := (X0.ge hw).cell
    have l0 := (X0.ge hw).lt
    have c1 := (X1.ge hw).cell
    have l1 := (X1.ge hw).lt
    have c2 := (X2.ge hw).cell
    have l2 := (X2.ge hw).lt
    have c3 := (X3.ge hw).cell
    have l3 := (X3.ge hw).lt
    have c4 := (X4.ge hw).cell
    have l4 := (X4.ge hw).lt
    go_simp
    first | exact ⟨Ge.refl _, rfl⟩ | exact Ge.refl _
  refine Dr.wpT_det undef ?_ ?_
  · intro u w2 hw hF
    clear hF
    go_simp
  refine Dr.wpT_det undef ?_ ?_
  · intro u w2 hw hF
    clear hF
    go_simp
  refine Dr.wpT_det undef ?_ ?_
  · intro u w2 hw hF
    clear hF
    go_simp
  refine Dr.wpT_det (.bool false) ?_ ?_
  · intro u w2 hw hF
    clear hF
    have c0 := (X0.ge hw).cell
    have l0 := (X0.ge hw).lt
    have c1 := (X1.ge hw).cell
    have l1 := (X1.ge hw).lt
    have c2 := (X2.ge hw).cell
    have l2 := (X2.ge hw).lt
    have c3 := (X3.ge hw).cell
    have l3 := (X3.ge hw).lt
    have c4 := (X4.ge hw).cell
    have l4 := (X4.ge hw).lt
    go_simp
    first | exact ⟨Ge.refl _, rfl⟩ | exact Ge.refl _
  apply Dr.wpT_det
  · intro u w2 hw hF
    clear hF
    have c0 := (X0.ge hw).cell
    have l0 := (X0.ge hw).lt
    have c1 := (X1.ge hw).cell
    have l1 := (X1.ge hw).lt
    have c2 := (X2.ge hw).cell
    have l2 := (X2.ge hw).lt
    have c3 := (X3.ge hw).cell
    have l3 := (X3.ge hw).lt
    have c4 := (X4.ge hw).cell
    have l4 := (X4.ge hw).lt
    go_simp
    first | exact ⟨Ge.refl _, rfl⟩ | exact Ge.refl _
  apply Dr.wpT_det
  · intro u w2 hw hF
    clear hF
    have c0 := (X0.ge hw).cell
    have l0 := (X0.ge hw).lt
    have c1 := (X1.ge hw).cell
    have l1 := (X1.ge hw).lt
    have c2 := (X2.ge hw).cell
    have l2 := (X2.ge hw).lt
    have c3 := (X3.ge hw).cell
    have l3 := (X3.ge hw).lt
    have c4 := (X4.ge hw).cell
    have l4 := (X4.ge hw).lt
    go_simp
    first | exact ⟨Ge.refl _, rfl⟩ | exact Ge.refl _
  refine Dr.wpT_det (.bool false) ?_ ?_
  · intro u w2 hw hF
    clear hF
    go_simp
    refine (LCM.out _).mono ?_
    rintro e w3 ⟨rfl, hg⟩
    exact ⟨rfl, hg⟩
  refine Dr.wpT_det (.bool true) ?_ ?_
  · intro u w2 hw hF
    clear hF
    have c0 := (X0.ge hw).cell
    have l0 := (X0.ge hw).lt
    have c1 := (X1.ge hw).cell
    have l1 := (X1.ge hw).lt
    have c2 := (X2.ge hw).cell
    have l2 := (X2.ge hw).lt
    have c3 := (X3.ge hw).cell
    have l3 := (X3.ge hw).lt
    have c4 := (X4.ge hw).cell
    have l4 := (X4.ge hw).lt
    go_simp
    first | exact ⟨Ge.refl _, rfl⟩ | exact Ge.refl _
  refine Dr.wpT_det (.bool true) ?_ ?_
  · intro u w2 hw hF
    clear hF
    have c0 := (X0.ge hw).cell
    have l0 := (X0.ge hw).lt
    have c1 := (X1.ge hw).cell
    have l1 := (X1.ge hw).lt
    have c2 := (X2.ge hw).cell
    have l2 := (X2.ge hw).lt
    have c3 := (X3.ge hw).cell
    have l3 := (X3.ge hw).lt
    have c4 := (X4.ge hw).cell
    have l4 := (X4.ge hw).lt
    go_simp
    first | exact ⟨Ge.refl _, rfl⟩ | exact Ge.refl _
  refine Dr.wpT_det (.bool true) ?_ ?_
  · intro u w2 hw hF
    clear hF
    have c0 := (X0.ge hw).cell
    have l0 := (X0.ge hw).lt
    have c1 := (X1.ge hw).cell
    have l1 := (X1.ge hw).lt
    have c2 := (X2.ge hw).cell
    have l2 := (X2.ge hw).lt
    have c3 := (X3.ge hw).cell
    have l3 := (X3.ge hw).lt
    have c4 := (X4.ge hw).cell
    have l4 := (X4.ge hw).lt
    go_simp
    first | exact ⟨Ge.refl _, rfl⟩ | exact Ge.refl _
  intro u w2 hw hF
  clear hF
  go_wp2
  simp only [Act.put, List.setIfInBounds_toArray, List.set_cons_zero, List.set_cons_succ]
  go_returns
  exact ⟨rfl, (((((((((((((((((((Ge.refl w).alloc _).alloc _).alloc _).trans g1.out).trans g2.out).trans g3.out).trans g4.out).trans g5.out).trans g6.out).trans g7.out).trans g8.out).alloc _).trans g9.out).alloc _).trans g10.out).trans g11.out).trans g12.out).trans g13.out).trans hw⟩

set_option maxRecDepth 100000 in
set_option maxHeartbeats 8000000 in
theorem order_1100110 (a b c : Tm) (w : World) (hA : Chk a) (hL : leqB a b = true) (hM : leqB b a = false) (hN : leqB b c = false) (hP : leqB a c = true) (hR : leqB c a = false) :
    Calls Try.prog 6 #[.agg #[.int .i64 a.e, .int .i64 a.d, .int .i64 a.l0, .int .i64 a.l1, .int .i64 a.l2, .int .i64 a.l3], .agg #[.int .i64 b.e, .int .i64 b.d, .int .i64 b.l0, .int .i64 b.l1, .int .i64 b.l2, .int .i64 b.l3], .agg #[.int .i64 c.e, .int .i64 c.d, .int .i64 c.l0, .int .i64 c.l1, .int .i64 c.l2, .int .i64 c.l3]] w fun e w' => e = .returned (.bool true) ∧ Below w.heap.size w w' := by
  have RC : Hid (∀ w, Calls Try.prog 20 #[.agg #[.int .i64 a.e, .int .i64 a.d, .int .i64 a.l0, .int .i64 a.l1, .int .i64 a.l2, .int .i64 a.l3]] w fun e w' => e = .returned (.int .i64 0) ∧ Ge w w') := fun w => (rcheck_yes hA w).mono fun e w' ⟨h, k⟩ => ⟨h, by rw [k]; exact (Ge.refl _).alloc _⟩
  have LAA := Lib.hid (fun w => by have := leq_any a a w; rwa [leqB_self hA] at this)
  have LAB := Lib.hid (fun w => by have := leq_any a b w; rwa [hL] at this)
  have LBA := Lib.hid (fun w => by have := leq_any b a w; rwa [hM] at this)
  have LBC := Lib.hid (fun w => by have := leq_any b c w; rwa [hN] at this)
  have hE := bothE_leq hL
  have LAC := Lib.hid (fun w => by have := leq_any a c w; rwa [hP] at this)
  have LCA := Lib.hid (fun w => by have := leq_any c a w; rwa [hR] at this)
  have JN := Lib.hid (fun w => by have := join_any a b w; rwa [hE] at this)
  have MT := Lib.hid (fun w => by have := meet_any a b w; rwa [hE] at this)
  have LAJ := Lib.hid (fun w => by have := leq_any a (bothT max a b) w; rwa [(join_up hE).1] at this)
  have LBJ := Lib.hid (fun w => by have := leq_any b (bothT max a b) w; rwa [(join_up hE).2] at this)
  have LMA := Lib.hid (fun w => by have := leq_any (bothT min a b) a w; rwa [(meet_down hE).1] at this)
  have LMB := Lib.hid (fun w => by have := leq_any (bothT min a b) b w; rwa [(meet_down hE).2] at this)
  have LJC := Lib.hid (fun w => by have := leq_any (bothT max a b) c w; rwa [join_least c hE, hP, Bool.true_and] at this)
  have LCM := Lib.hid (fun w => by have := leq_any c (bothT min a b) w; rwa [meet_most c hE, hR, Bool.false_and] at this)
  have SBC := Lib.hid (leq_any b c)
  have SCB := Lib.hid (leq_any c b)
  clear hR hP hE hN hM hL hA
  go_enter Try.func6, Try.ntmps6
  go_wp2_with fail
  refine (live_any _).mono ?_
  rintro e w1 ⟨rfl, hb1⟩
  have X0 : Bx w1 (w.heap.size) 24 #[.int .i64 a.e, .int .i64 a.d, .int .i64 a.l0, .int .i64 a.l1, .int .i64 a.l2, .int .i64 a.l3] := (((Bx.new _ _ _ (by simp)).alloc _).alloc _).ge hb1
  have X1 : Bx w1 (w.heap.size + 1) 24 #[.int .i64 b.e, .int .i64 b.d, .int .i64 b.l0, .int .i64 b.l1, .int .i64 b.l2, .int .i64 b.l3] := ((Bx.new _ _ _ (by simp)).alloc _).ge hb1
  have X2 : Bx w1 (w.heap.size + 1 + 1) 24 #[.int .i64 c.e, .int .i64 c.d, .int .i64 c.l0, .int .i64 c.l1, .int .i64 c.l2, .int .i64 c.l3] := (Bx.new _ _ _ (by simp)).ge hb1
  have c0 := X0.cell
  have l0 := X0.lt
  have c1 := X1.cell
  have l1 := X1.lt
  have c2 := X2.cell
  have l2 := X2.lt
  have g1 := Lib.hid hb1
  clear hb1
  go_wp2_with fail
  refine (RC.out _).mono ?_
  rintro e w2 ⟨rfl, hb2⟩
  replace X0 : Bx w2 (w.heap.size) 24 #[.int .i64 a.e, .int .i64 a.d, .int .i64 a.l0, .int .i64 a.l1, .int .i64 a.l2, .int .i64 a.l3] := X0.ge hb2
  replace X1 : Bx w2 (w.heap.size + 1) 24 #[.int .i64 b.e, .int .i64 b.d, .int .i64 b.l0, .int .i64 b.l1, .int .i64 b.l2, .int .i64 b.l3] := X1.ge hb2
  replace X2 : Bx w2 (w.heap.size + 1 + 1) 24 #[.int .i64 c.e, .int .i64 c.d, .int .i64 c.l0, .int .i64 c.l1, .int .i64 c.l2, .int .i64 c.l3] := X2.ge hb2
  replace c0 := X0.cell
  replace l0 := X0.lt
  replace c1 := X1.cell
  replace l1 := X1.lt
  replace c2 := X2.cell
  replace l2 := X2.lt
  have g2 := Lib.hid hb2
  clear hb2
  go_wp2_with fail
  refine (LAA.out _).mono ?_
  rintro e w3 ⟨rfl, hb3⟩
  replace X0 : Bx w3 (w.heap.size) 24 #[.int .i64 a.e, .int .i64 a.d, .int .i64 a.l0, .int .i64 a.l1, .int .i64 a.l2, .int .i64 a.l3] := X0.ge hb3
  replace X1 : Bx w3 (w.heap.size + 1) 24 #[.int .i64 b.e, .int .i64 b.d, .int .i64 b.l0, .int .i64 b.l1, .int .i64 b.l2, .int .i64 b.l3] := X1.ge hb3
  replace X2 : Bx w3 (w.heap.size + 1 + 1) 24 #[.int .i64 c.e, .int .i64 c.d, .int .i64 c.l0, .int .i64 c.l1, .int .i64 c.l2, .int .i64 c.l3] := X2.ge hb3
  replace c0 := X0.cell
  replace l0 := X0.lt
  replace c1 := X1.cell
  replace l1 := X1.lt
  replace c2 := X2.cell
  replace l2 := X2.lt
  have g3 := Lib.hid hb3
  clear hb3
  go_wp2_with fail
  refine (LAB.out _).mono ?_
  rintro e w4 ⟨rfl, hb4⟩
  replace X0 : Bx w4 (w.heap.size) 24 #[.int .i64 a.e, .int .i64 a.d, .int .i64 a.l0, .int .i64 a.l1, .int .i64 a.l2, .int .i64 a.l3] := X0.ge hb4
  replace X1 : Bx w4 (w.heap.size + 1) 24 #[.int .i64 b.e, .int .i64 b.d, .int .i64 b.l0, .int .i64 b.l1, .int .i64 b.l2, .int .i64 b.l3] := X1.ge hb4
  replace X2 : Bx w4 (w.heap.size + 1 + 1) 24 #[.int .i64 c.e, .int .i64 c.d, .int .i64 c.l0, .int .i64 c.l1, .int .i64 c.l2, .int .i64 c.l3] := X2.ge hb4
  replace c0 := X0.cell
  replace l0 := X0.lt
  replace c1 := X1.cell
  replace l1 := X1.lt
  replace c2 := X2.cell
  replace l2 := X2.lt
  have g4 := Lib.hid hb4
  clear hb4
  go_wp2_with fail
  refine (LBA.out _).mono ?_
  rintro e w5 ⟨rfl, hb5⟩
  replace X0 : Bx w5 (w.heap.size) 24 #[.int .i64 a.e, .int .i64 a.d, .int .i64 a.l0, .int .i64 a.l1, .int .i64 a.l2, .int .i64 a.l3] := X0.ge hb5
  replace X1 : Bx w5 (w.heap.size + 1) 24 #[.int .i64 b.e, .int .i64 b.d, .int .i64 b.l0, .int .i64 b.l1, .int .i64 b.l2, .int .i64 b.l3] := X1.ge hb5
  replace X2 : Bx w5 (w.heap.size + 1 + 1) 24 #[.int .i64 c.e, .int .i64 c.d, .int .i64 c.l0, .int .i64 c.l1, .int .i64 c.l2, .int .i64 c.l3] := X2.ge hb5
  replace c0 := X0.cell
  replace l0 := X0.lt
  replace c1 := X1.cell
  replace l1 := X1.lt
  replace c2 := X2.cell
  replace l2 := X2.lt
  have g5 := Lib.hid hb5
  clear hb5
  go_wp2_with fail
  refine (LAB.out _).mono ?_
  rintro e w6 ⟨rfl, hb6⟩
  replace X0 : Bx w6 (w.heap.size) 24 #[.int .i64 a.e, .int .i64 a.d, .int .i64 a.l0, .int .i64 a.l1, .int .i64 a.l2, .int .i64 a.l3] := X0.ge hb6
  replace X1 : Bx w6 (w.heap.size + 1) 24 #[.int .i64 b.e, .int .i64 b.d, .int .i64 b.l0, .int .i64 b.l1, .int .i64 b.l2, .int .i64 b.l3] := X1.ge hb6
  replace X2 : Bx w6 (w.heap.size + 1 + 1) 24 #[.int .i64 c.e, .int .i64 c.d, .int .i64 c.l0, .int .i64 c.l1, .int .i64 c.l2, .int .i64 c.l3] := X2.ge hb6
  replace c0 := X0.cell
  replace l0 := X0.lt
  replace c1 := X1.cell
  replace l1 := X1.lt
  replace c2 := X2.cell
  replace l2 := X2.lt
  have g6 := Lib.hid hb6
  clear hb6
  go_wp2_with fail
  refine (LBC.out _).mono ?_
  rintro e w7 ⟨rfl, hb7⟩
  replace X0 : Bx w7 (w.heap.size) 24 #[.int .i64 a.e, .int .i64 a.d, .int .i64 a.l0, .int .i64 a.l1, .int .i64 a.l2, .int .i64 a.l3] := X0.ge hb7
  replace X1 : Bx w7 (w.heap.size + 1) 24 #[.int .i64 b.e, .int .i64 b.d, .int .i64 b.l0, .int .i64 b.l1, .int .i64 b.l2, .int .i64 b.l3] := X1.ge hb7
  replace X2 : Bx w7 (w.heap.size + 1 + 1) 24 #[.int .i64 c.e, .int .i64 c.d, .int .i64 c.l0, .int .i64 c.l1, .int .i64 c.l2, .int .i64 c.l3] := X2.ge hb7
  replace c0 := X0.cell
  replace l0 := X0.lt
  replace c1 := X1.cell
  replace l1 := X1.lt
  replace c2 := X2.cell
  replace l2 := X2.lt
  have g7 := Lib.hid hb7
  clear hb7
  go_wp2_with fail
  refine (JN.out _).mono ?_
  rintro e w8 ⟨rfl, hb8⟩
  replace X0 : Bx w8 (w.heap.size) 24 #[.int .i64 a.e, .int .i64 a.d, .int .i64 a.l0, .int .i64 a.l1, .int .i64 a.l2, .int .i64 a.l3] := X0.ge hb8
  replace X1 : Bx w8 (w.heap.size + 1) 24 #[.int .i64 b.e, .int .i64 b.d, .int .i64 b.l0, .int .i64 b.l1, .int .i64 b.l2, .int .i64 b.l3] := X1.ge hb8
  replace X2 : Bx w8 (w.heap.size + 1 + 1) 24 #[.int .i64 c.e, .int .i64 c.d, .int .i64 c.l0, .int .i64 c.l1, .int .i64 c.l2, .int .i64 c.l3] := X2.ge hb8
  replace c0 := X0.cell
  replace l0 := X0.lt
  replace c1 := X1.cell
  replace l1 := X1.lt
  replace c2 := X2.cell
  replace l2 := X2.lt
  have g8 := Lib.hid hb8
  clear hb8
  go_wp2_with fail
  refine (MT.out _).mono ?_
  rintro e w9 ⟨rfl, hb9⟩
  replace X0 : Bx w9 (w.heap.size) 24 #[.int .i64 a.e, .int .i64 a.d, .int .i64 a.l0, .int .i64 a.l1, .int .i64 a.l2, .int .i64 a.l3] := (X0.alloc _).ge hb9
  replace X1 : Bx w9 (w.heap.size + 1) 24 #[.int .i64 b.e, .int .i64 b.d, .int .i64 b.l0, .int .i64 b.l1, .int .i64 b.l2, .int .i64 b.l3] := (X1.alloc _).ge hb9
  replace X2 : Bx w9 (w.heap.size + 1 + 1) 24 #[.int .i64 c.e, .int .i64 c.d, .int .i64 c.l0, .int .i64 c.l1, .int .i64 c.l2, .int .i64 c.l3] := (X2.alloc _).ge hb9
  have X3 : Bx w9 (w8.heap.size) 24 #[.int .i64 (bothT max a b).e, .int .i64 (bothT max a b).d, .int .i64 (bothT max a b).l0, .int .i64 (bothT max a b).l1, .int .i64 (bothT max a b).l2, .int .i64 (bothT max a b).l3] := (Bx.new _ _ _ (by simp)).ge hb9
  replace c0 := X0.cell
  replace l0 := X0.lt
  replace c1 := X1.cell
  replace l1 := X1.lt
  replace c2 := X2.cell
  replace l2 := X2.lt
  have c3 := X3.cell
  have l3 := X3.lt
  have g9 := Lib.hid hb9
  clear hb9
  go_wp2_with fail
  refine (LAJ.out _).mono ?_
  rintro e w10 ⟨rfl, hb10⟩
  replace X0 : Bx w10 (w.heap.size) 24 #[.int .i64 a.e, .int .i64 a.d, .int .i64 a.l0, .int .i64 a.l1, .int .i64 a.l2, .int .i64 a.l3] := (X0.alloc _).ge hb10
  replace X1 : Bx w10 (w.heap.size + 1) 24 #[.int .i64 b.e, .int .i64 b.d, .int .i64 b.l0, .int .i64 b.l1, .int .i64 b.l2, .int .i64 b.l3] := (X1.alloc _).ge hb10
  replace X2 : Bx w10 (w.heap.size + 1 + 1) 24 #[.int .i64 c.e, .int .i64 c.d, .int .i64 c.l0, .int .i64 c.l1, .int .i64 c.l2, .int .i64 c.l3] := (X2.alloc _).ge hb10
  replace X3 : Bx w10 (w8.heap.size) 24 #[.int .i64 (bothT max a b).e, .int .i64 (bothT max a b).d, .int .i64 (bothT max a b).l0, .int .i64 (bothT max a b).l1, .int .i64 (bothT max a b).l2, .int .i64 (bothT max a b).l3] := (X3.alloc _).ge hb10
  have X4 : Bx w10 (w9.heap.size) 24 #[.int .i64 (bothT min a b).e, .int .i64 (bothT min a b).d, .int .i64 (bothT min a b).l0, .int .i64 (bothT min a b).l1, .int .i64 (bothT min a b).l2, .int .i64 (bothT min a b).l3] := (Bx.new _ _ _ (by simp)).ge hb10
  replace c0 := X0.cell
  replace l0 := X0.lt
  replace c1 := X1.cell
  replace l1 := X1.lt
  replace c2 := X2.cell
  replace l2 := X2.lt
  replace c3 := X3.cell
  replace l3 := X3.lt
  have c4 := X4.cell
  have l4 := X4.lt
  have g10 := Lib.hid hb10
  clear hb10
  go_wp2_with fail
  refine (LBJ.out _).mono ?_
  rintro e w11 ⟨rfl, hb11⟩
  replace X0 : Bx w11 (w.heap.size) 24 #[.int .i64 a.e, .int .i64 a.d, .int .i64 a.l0, .int .i64 a.l1, .int .i64 a.l2, .int .i64 a.l3] := X0.ge hb11
  replace X1 : Bx w11 (w.heap.size + 1) 24 #[.int .i64 b.e, .int .i64 b.d, .int .i64 b.l0, .int .i64 b.l1, .int .i64 b.l2, .int .i64 b.l3] := X1.ge hb11
  replace X2 : Bx w11 (w.heap.size + 1 + 1) 24 #[.int .i64 c.e, .int .i64 c.d, .int .i64 c.l0, .int .i64 c.l1, .int .i64 c.l2, .int .i64 c.l3] := X2.ge hb11
  replace X3 : Bx w11 (w8.heap.size) 24 #[.int .i64 (bothT max a b).e, .int .i64 (bothT max a b).d, .int .i64 (bothT max a b).l0, .int .i64 (bothT max a b).l1, .int .i64 (bothT max a b).l2, .int .i64 (bothT max a b).l3] := X3.ge hb11
  replace X4 : Bx w11 (w9.heap.size) 24 #[.int .i64 (bothT min a b).e, .int .i64 (bothT min a b).d, .int .i64 (bothT min a b).l0, .int .i64 (bothT min a b).l1, .int .i64 (bothT min a b).l2, .int .i64 (bothT min a b).l3] := X4.ge hb11
  replace c0 := X0.cell
  replace l0 := X0.lt
  replace c1 := X1.cell
  replace l1 := X1.lt
  replace c2 := X2.cell
  replace l2 := X2.lt
  replace c3 := X3.cell
  replace l3 := X3.lt
  replace c4 := X4.cell
  replace l4 := X4.lt
  have g11 := Lib.hid hb11
  clear hb11
  go_wp2_with fail
  refine (LMA.out _).mono ?_
  rintro e w12 ⟨rfl, hb12⟩
  replace X0 : Bx w12 (w.heap.size) 24 #[.int .i64 a.e, .int .i64 a.d, .int .i64 a.l0, .int .i64 a.l1, .int .i64 a.l2, .int .i64 a.l3] := X0.ge hb12
  replace X1 : Bx w12 (w.heap.size + 1) 24 #[.int .i64 b.e, .int .i64 b.d, .int .i64 b.l0, .int .i64 b.l1, .int .i64 b.l2, .int .i64 b.l3] := X1.ge hb12
  replace X2 : Bx w12 (w.heap.size + 1 + 1) 24 #[.int .i64 c.e, .int .i64 c.d, .int .i64 c.l0, .int .i64 c.l1, .int .i64 c.l2, .int .i64 c.l3] := X2.ge hb12
  replace X3 : Bx w12 (w8.heap.size) 24 #[.int .i64 (bothT max a b).e, .int .i64 (bothT max a b).d, .int .i64 (bothT max a b).l0, .int .i64 (bothT max a b).l1, .int .i64 (bothT max a b).l2, .int .i64 (bothT max a b).l3] := X3.ge hb12
  replace X4 : Bx w12 (w9.heap.size) 24 #[.int .i64 (bothT min a b).e, .int .i64 (bothT min a b).d, .int .i64 (bothT min a b).l0, .int .i64 (bothT min a b).l1, .int .i64 (bothT min a b).l2, .int .i64 (bothT min a b).l3] := X4.ge hb12
  replace c0 := X0.cell
  replace l0 := X0.lt
  replace c1 := X1.cell
  replace l1 := X1.lt
  replace c2 := X2.cell
  replace l2 := X2.lt
  replace c3 := X3.cell
  replace l3 := X3.lt
  replace c4 := X4.cell
  replace l4 := X4.lt
  have g12 := Lib.hid hb12
  clear hb12
  go_wp2_with fail
  refine (LMB.out _).mono ?_
  rintro e w13 ⟨rfl, hb13⟩
  replace X0 : Bx w13 (w.heap.size) 24 #[.int .i64 a.e, .int .i64 a.d, .int .i64 a.l0, .int .i64 a.l1, .int .i64 a.l2, .int .i64 a.l3] := X0.ge hb13
  replace X1 : Bx w13 (w.heap.size + 1) 24 #[.int .i64 b.e, .int .i64 b.d, .int .i64 b.l0, .int .i64 b.l1, .int .i64 b.l2, .int .i64 b.l3] := X1.ge hb13
  replace X2 : Bx w13 (w.heap.size + 1 + 1) 24 #[.int .i64 c.e, .int .i64 c.d, .int .i64 c.l0, .int .i64 c.l1, .int .i64 c.l2, .int .i64 c.l3] := X2.ge hb13
  replace X3 : Bx w13 (w8.heap.size) 24 #[.int .i64 (bothT max a b).e, .int .i64 (bothT max a b).d, .int .i64 (bothT max a b).l0, .int .i64 (bothT max a b).l1, .int .i64 (bothT max a b).l2, .int .i64 (bothT max a b).l3] := X3.ge hb13
  replace X4 : Bx w13 (w9.heap.size) 24 #[.int .i64 (bothT min a b).e, .int .i64 (bothT min a b).d, .int .i64 (bothT min a b).l0, .int .i64 (bothT min a b).l1, .int .i64 (bothT min a b).l2, .int .i64 (bothT min a b).l3] := X4.ge hb13
  replace c0 := X0.cell
  replace l0 := X0.lt
  replace c1 := X1.cell
  replace l1 := X1.lt
  replace c2 := X2.cell
  replace l2 := X2.lt
  replace c3 := X3.cell
  replace l3 := X3.lt
  replace c4 := X4.cell
  replace l4 := X4.lt
  have g13 := Lib.hid hb13
  clear hb13
  clear c0 l0 c1 l1 c2 l2 c3 l3 c4 l4
  go_wp2_with fail
  refine Dr.wp_region_T (by kernel_rfl) (by kernel_rfl) ?_
  apply Dr.wpT_det
  · intro u w2 hw hF
    clear hF
    have c0 := (X0.ge hw).cell
    have l0 := (X0.ge hw).lt
    have c1 := (X1.ge hw).cell
    have l1 := (X1.ge hw).lt
    have c2 := (X2.ge hw).cell
    have l2 := (X2.ge hw).lt
    have c3 := (X3.ge hw).cell
    have l3 := (X3.ge hw).lt
    have c4 := (X4.ge hw).cell
    have l4 := (X4.ge hw).lt
    go_simp
    first | exact ⟨Ge.refl _, rfl⟩ | exact Ge.refl _
  apply Dr.wpT_det
  · intro u w2 hw hF
    clear hF
    have c0 := (X0.ge hw).cell
    have l0 := (X0.ge hw).lt
    have c1 := (X1.ge hw).cell
    have l1 := (X1.ge hw).lt
    have c2 := (X2.ge hw).cell
    have l2 := (X2.ge hw).lt
    have c3 := (X3.ge hw).cell
    have l3 := (X3.ge hw).lt
    have c4 := (X4.ge hw).cell
    have l4 := (X4.ge hw).lt
    go_simp
    first | exact ⟨Ge.refl _, rfl⟩ | exact Ge.refl _
  refine Dr.wpT_det (.bool true) ?_ ?_
  · intro u w2 hw hF
    clear hF
    go_simp
    refine (LAC.out _).mono ?_
    rintro e w3 ⟨rfl, hg⟩
    exact ⟨rfl, hg⟩
  refine Dr.wpT_det (.bool true) ?_ ?_
  · intro u w2 hw hF
    clear hF
    have c0 := (X0.ge hw).cell
    have l0 := (X0.ge hw).lt
    have c1 := (X1.ge hw).cell
    have l1 := (X1.ge hw).lt
    have c2 := (X2.ge hw).cell
    have l2 := (X2.ge hw).lt
    have c3 := (X3.ge hw).cell
    have l3 := (X3.ge hw).lt
    have c4 := (X4.ge hw).cell
    have l4 := (X4.ge hw).lt
    go_simp
    first | exact ⟨Ge.refl _, rfl⟩ | exact Ge.refl _
  apply Dr.wpT_det
  · intro u w2 hw hF
    clear hF
    have c0 := (X0.ge hw).cell
    have l0 := (X0.ge hw).lt
    have c1 := (X1.ge hw).cell
    have l1 := (X1.ge hw).lt
    have c2 := (X2.ge hw).cell
    have l2 := (X2.ge hw).lt
    have c3 := (X3.ge hw).cell
    have l3 := (X3.ge hw).lt
    have c4 := (X4.ge hw).cell
    have l4 := (X4.ge hw).lt
    go_simp
    first | exact ⟨Ge.refl _, rfl⟩ | exact Ge.refl _
  apply Dr.wpT_det
  · intro u w2 hw hF
    clear hF
    have c0 := (X0.ge hw).cell
    have l0 := (X0.ge hw).lt
    have c1 := (X1.ge hw).cell
    have l1 := (X1.ge hw).lt
    have c2 := (X2.ge hw).cell
    have l2 := (X2.ge hw).lt
    have c3 := (X3.ge hw).cell
    have l3 := (X3.ge hw).lt
    have c4 := (X4.ge hw).cell
    have l4 := (X4.ge hw).lt
    go_simp
    first | exact ⟨Ge.refl _, rfl⟩ | exact Ge.refl _
  refine Dr.wpT_det (.bool (leqB b c)) ?_ ?_
  · intro u w2 hw hF
    clear hF
    go_simp
    refine (SBC.out _).mono ?_
    rintro e w3 ⟨rfl, hg⟩
    exact ⟨rfl, hg⟩
  refine Dr.wpT_det (.bool (leqB b c)) ?_ ?_
  · intro u w2 hw hF
    clear hF
    have c0 := (X0.ge hw).cell
    have l0 := (X0.ge hw).lt
    have c1 := (X1.ge hw).cell
    have l1 := (X1.ge hw).lt
    have c2 := (X2.ge hw).cell
    have l2 := (X2.ge hw).lt
    have c3 := (X3.ge hw).cell
    have l3 := (X3.ge hw).lt
    have c4 := (X4.ge hw).cell
    have l4 := (X4.ge hw).lt
    go_simp
    first | exact ⟨Ge.refl _, rfl⟩ | exact Ge.refl _
  apply Dr.wpT_det
  · intro u w2 hw hF
    clear hF
    have c0 := (X0.ge hw).cell
    have l0 := (X0.ge hw).lt
    have c1 := (X1.ge hw).cell
    have l1 := (X1.ge hw).lt
    have c2 := (X2.ge hw).cell
    have l2 := (X2.ge hw).lt
    have c3 := (X3.ge hw).cell
    have l3 := (X3.ge hw).lt
    have c4 := (X4.ge hw).cell
    have l4 := (X4.ge hw).lt
    go_simp
    first | exact ⟨Ge.refl _, rfl⟩ | exact Ge.refl _
  apply Dr.wpT_det
  · intro u w2 hw hF
    clear hF
    have c0 := (X0.ge hw).cell
    have l0 := (X0.ge hw).lt
    have c1 := (X1.ge hw).cell
    have l1 := (X1.ge hw).lt
    have c2 := (X2.ge hw).cell
    have l2 := (X2.ge hw).lt
    have c3 := (X3.ge hw).cell
    have l3 := (X3.ge hw).lt
    have c4 := (X4.ge hw).cell
    have l4 := (X4.ge hw).lt
    go_simp
    first | exact ⟨Ge.refl _, rfl⟩ | exact Ge.refl _
  refine Dr.wpT_det (.bool (leqB b c)) ?_ ?_
  · intro u w2 hw hF
    clear hF
    go_simp
    refine (LJC.out _).mono ?_
    rintro e w3 ⟨rfl, hg⟩
    exact ⟨rfl, hg⟩
  refine Dr.wpT_det (.bool true) ?_ ?_
  · intro u w2 hw hF
    clear hF
    have c0 := (X0.ge hw).cell
    have l0 := (X0.ge hw).lt
    have c1 := (X1.ge hw).cell
    have l1 := (X1.ge hw).lt
    have c2 := (X2.ge hw).cell
    have l2 := (X2.ge hw).lt
    have c3 := (X3.ge hw).cell
    have l3 := (X3.ge hw).lt
    have c4 := (X4.ge hw).cell
    have l4 := (X4.ge hw).lt
    go_simp
    first | exact ⟨Ge.refl _, rfl⟩ | exact Ge.refl _
  refine Dr.wpT_det (.bool true) ?_ ?_
  · intro u w2 hw hF
    clear hF
    have c0 := (X0.ge hw).cell
    have l0 := (X0.ge hw).lt
    have c1 := (X1.ge hw).cell
    have l1 := (X1.ge hw).lt
    have c2 := (X2.ge hw).cell
    have l2 := (X2.ge hw).lt
    have c3 := (X3.ge hw).cell
    have l3 := (X3.ge hw).lt
    have c4 := (X4.ge hw).cell
    have l4 := (X4.ge hw).lt
    go_simp
    first | exact ⟨Ge.refl _, rfl⟩ | exact Ge.refl _
  apply Dr.wpT_det
  · intro u w2 hw hF
    clear hF
    have c0 := (X0.ge hw).cell
    have l0 := (X0.ge hw).lt
    have c1 := (X1.ge hw).cell
    have l1 := (X1.ge hw).lt
    have c2 := (X2.ge hw).cell
    have l2 := (X2.ge hw).lt
    have c3 := (X3.ge hw).cell
    have l3 := (X3.ge hw).lt
    have c4 := (X4.ge hw).cell
    have l4 := (X4.ge hw).lt
    go_simp
    first | exact ⟨Ge.refl _, rfl⟩ | exact Ge.refl _
  apply Dr.wpT_det
  · intro u w2 hw hF
    clear hF
    have c0 := (X0.ge hw).cell
    have l0 := (X0.ge hw).lt
    have c1 := (X1.ge hw).cell
    have l1 := (X1.ge hw).lt
    have c2 := (X2.ge hw).cell
    have l2 := (X2.ge hw).lt
    have c3 := (X3.ge hw).cell
    have l3 := (X3.ge hw).lt
    have c4 := (X4.ge hw).cell
    have l4 := (X4.ge hw).lt
    go_simp
    first | exact ⟨Ge.refl _, rfl⟩ | exact Ge.refl _
  refine Dr.wpT_det (.bool false) ?_ ?_
  · intro u w2 hw hF
    clear hF
    go_simp
    refine (LCA.out _).mono ?_
    rintro e w3 ⟨rfl, hg⟩
    exact ⟨rfl, hg⟩
  refine Dr.wpT_det (.bool false) ?_ ?_
  · intro u w2 hw hF
    clear hF
    have c0 := (X0.ge hw).cell
    have l0 := (X0.ge hw).lt
    have c1 := (X1.ge hw).cell
    have l1 := (X1.ge hw).lt
    have c2 := (X2.ge hw).cell
    have l2 := (X2.ge hw).lt
    have c3 := (X3.ge hw).cell
    have l3 := (X3.ge hw).lt
    have c4 := (X4.ge hw).cell
    have l4 := (X4.ge hw).lt
    go_simp
    first | exact ⟨Ge.refl _, rfl⟩ | exact Ge.refl _
  refine Dr.wpT_det undef ?_ ?_
  · intro u w2 hw hF
    clear hF
    go_simp
  refine Dr.wpT_det undef ?_ ?_
  · intro u w2 hw hF
    clear hF
    go_simp
  refine Dr.wpT_det undef ?_ ?_
  · intro u w2 hw hF
    clear hF
    go_simp
  refine Dr.wpT_det (.bool false) ?_ ?_
  · intro u w2 hw hF
    clear hF
    have c0 := (X0.ge hw).cell
    have l0 := (X0.ge hw).lt
    have c1 := (X1.ge hw).cell
    have l1 := (X1.ge hw).lt
    have c2 := (X2.ge hw).cell
    have l2 := (X2.ge hw).lt
    have c3 := (X3.ge hw).cell
    have l3 := (X3.ge hw).lt
    have c4 := (X4.ge hw).cell
    have l4 := (X4.ge hw).lt
    go_simp
    first | exact ⟨Ge.refl _, rfl⟩ | exact Ge.refl _
  apply Dr.wpT_det
  · intro u w2 hw hF
    clear hF
    have c0 := (X0.ge hw).cell
    have l0 := (X0.ge hw).lt
    have c1 := (X1.ge hw).cell
    have l1 := (X1.ge hw).lt
    have c2 := (X2.ge hw).cell
    have l2 := (X2.ge hw).lt
    have c3 := (X3.ge hw).cell
    have l3 := (X3.ge hw).lt
    have c4 := (X4.ge hw).cell
    have l4 := (X4.ge hw).lt
    go_simp
    first | exact ⟨Ge.refl _, rfl⟩ | exact Ge.refl _
  apply Dr.wpT_det
  · intro u w2 hw hF
    clear hF
    have c0 := (X0.ge hw).cell
    have l0 := (X0.ge hw).lt
    have c1 := (X1.ge hw).cell
    have l1 := (X1.ge hw).lt
    have c2 := (X2.ge hw).cell
    have l2 := (X2.ge hw).lt
    have c3 := (X3.ge hw).cell
    have l3 := (X3.ge hw).lt
    have c4 := (X4.ge hw).cell
    have l4 := (X4.ge hw).lt
    go_simp
    first | exact ⟨Ge.refl _, rfl⟩ | exact Ge.refl _
  refine Dr.wpT_det (.bool false) ?_ ?_
  · intro u w2 hw hF
    clear hF
    go_simp
    refine (LCM.out _).mono ?_
    rintro e w3 ⟨rfl, hg⟩
    exact ⟨rfl, hg⟩
  refine Dr.wpT_det (.bool true) ?_ ?_
  · intro u w2 hw hF
    clear hF
    have c0 := (X0.ge hw).cell
    have l0 := (X0.ge hw).lt
    have c1 := (X1.ge hw).cell
    have l1 := (X1.ge hw).lt
    have c2 := (X2.ge hw).cell
    have l2 := (X2.ge hw).lt
    have c3 := (X3.ge hw).cell
    have l3 := (X3.ge hw).lt
    have c4 := (X4.ge hw).cell
    have l4 := (X4.ge hw).lt
    go_simp
    first | exact ⟨Ge.refl _, rfl⟩ | exact Ge.refl _
  refine Dr.wpT_det (.bool true) ?_ ?_
  · intro u w2 hw hF
    clear hF
    have c0 := (X0.ge hw).cell
    have l0 := (X0.ge hw).lt
    have c1 := (X1.ge hw).cell
    have l1 := (X1.ge hw).lt
    have c2 := (X2.ge hw).cell
    have l2 := (X2.ge hw).lt
    have c3 := (X3.ge hw).cell
    have l3 := (X3.ge hw).lt
    have c4 := (X4.ge hw).cell
    have l4 := (X4.ge hw).lt
    go_simp
    first | exact ⟨Ge.refl _, rfl⟩ | exact Ge.refl _
  refine Dr.wpT_det (.bool true) ?_ ?_
  · intro u w2 hw hF
    clear hF
    have c0 := (X0.ge hw).cell
    have l0 := (X0.ge hw).lt
    have c1 := (X1.ge hw).cell
    have l1 := (X1.ge hw).lt
    have c2 := (X2.ge hw).cell
    have l2 := (X2.ge hw).lt
    have c3 := (X3.ge hw).cell
    have l3 := (X3.ge hw).lt
    have c4 := (X4.ge hw).cell
    have l4 := (X4.ge hw).lt
    go_simp
    first | exact ⟨Ge.refl _, rfl⟩ | exact Ge.refl _
  intro u w2 hw hF
  clear hF
  go_wp2
  simp only [Act.put, List.setIfInBounds_toArray, List.set_cons_zero, List.set_cons_succ]
  go_returns
  exact ⟨rfl, (((((((((((((((((((Ge.refl w).alloc _).alloc _).alloc _).trans g1.out).trans g2.out).trans g3.out).trans g4.out).trans g5.out).trans g6.out).trans g7.out).trans g8.out).alloc _).trans g9.out).alloc _).trans g10.out).trans g11.out).trans g12.out).trans g13.out).trans hw⟩

end Go.Proofs.Ytedccllpbajbfaa
