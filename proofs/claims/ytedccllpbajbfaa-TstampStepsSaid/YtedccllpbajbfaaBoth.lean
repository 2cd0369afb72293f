/-
  both: a time made counter by counter from two; Join, Meet.
-/
import Derived.Test.YtedccllpbajbfaaFun
import Derived.Test.YtedccllpbajbfaaDrawB
import Derived.Test.YtedccllpbajbfaaPlainB
namespace Go.Proofs.Ytedccllpbajbfaa
open Go.RowKit
attribute [local go_sem] Dr.upT

def bothE (a b : Tm) : Int := if Chk a ∧ Chk b then (if a.d = b.d then 0 else 11) else 10
def bothT (g : Int → Int → Int) (a b : Tm) : Tm := if bothE a b = 0 then ⟨g a.e b.e, a.d, g a.l0 b.l0, g a.l1 b.l1, g a.l2 b.l2, g a.l3 b.l3⟩ else tz

theorem bothT_yes {g : Int → Int → Int} {a b : Tm} (h : bothE a b = 0) : bothT g a b = ⟨g a.e b.e, a.d, g a.l0 b.l0, g a.l1 b.l1, g a.l2 b.l2, g a.l3 b.l3⟩ := if_pos h
theorem bothT_no {g : Int → Int → Int} {a b : Tm} (h : bothE a b ≠ 0) : bothT g a b = tz := if_neg h

set_option maxHeartbeats 4000000 in
theorem both_any (f : Nat) (g : Int → Int → Int) (hf0 : ∀ x y w, Calls Try.prog f #[.int .i64 x, .int .i64 y] w fun e w' => e = .returned (.int .i64 (g x y)) ∧ w' = w)
    (hcf : ∀ (x y : Int) (w : World), Sem.run Try.prog (callFunc f #[.int .i64 x, .int .i64 y]) w = .ok (.enter f #[.int .i64 x, .int .i64 y]) w) (a b : Tm) (w : World) :
    Calls Try.prog 40 #[.agg #[.int .i64 a.e, .int .i64 a.d, .int .i64 a.l0, .int .i64 a.l1, .int .i64 a.l2, .int .i64 a.l3], .agg #[.int .i64 b.e, .int .i64 b.d, .int .i64 b.l0, .int .i64 b.l1, .int .i64 b.l2, .int .i64 b.l3], .func (.func f) #[] #[]] w fun e w' =>
      e = .returned (.tuple #[.agg #[.int .i64 (bothT g a b).e, .int .i64 (bothT g a b).d, .int .i64 (bothT g a b).l0, .int .i64 (bothT g a b).l1, .int .i64 (bothT g a b).l2, .int .i64 (bothT g a b).l3], .int .i64 (bothE a b)]) ∧ Below w.heap.size w w' := by
  have hf := Lib.hid hf0
  clear hf0
  by_cases hca : Chk a
  · by_cases hcb : Chk b
    · by_cases hd : a.d = b.d
      · have HA := Lib.hid (check_yes hca)
        have HB := Lib.hid (check_yes hcb)
        have hd' : (a.d != b.d) = false := by simp [hd]
        have HE : Hid (bothE a b = 0) := by unfold Hid bothE; rw [if_pos ⟨hca, hcb⟩, if_pos hd]
        clear hca hcb hd
        rw [HE.out, bothT_yes HE.out]
        go_enter Try.func40, Try.ntmps40
        go_wp2_with fail
        refine (HA.out _).mono ?_
        rintro e w1 ⟨rfl, rfl⟩
        go_wp2_with fail
        refine (HB.out _).mono ?_
        rintro e w1 ⟨rfl, rfl⟩
        go_wp2_with fail
        refine (hf.out _ _ _).mono ?_
        rintro e w1 ⟨rfl, rfl⟩
        go_wp2_with fail
        obtain ⟨w0, hw0⟩ : ∃ w0, w0 = ((((w.alloc (.cells #[.int .i64 (g a.e b.e), .int .i64 a.d, .int .i64 a.l0, .int .i64 a.l1, .int .i64 a.l2, .int .i64 a.l3] 24)).alloc (.cells #[.int .i64 b.e, .int .i64 b.d, .int .i64 b.l0, .int .i64 b.l1, .int .i64 b.l2, .int .i64 b.l3] 24)).alloc (.cells #[.int .i64 0, .int .i64 0, .int .i64 0, .int .i64 0, .int .i64 0, .int .i64 0] 24)).alloc (.cells #[.int .i64 a.e, .int .i64 a.d, .int .i64 a.l0, .int .i64 a.l1, .int .i64 a.l2, .int .i64 a.l3] 24)).alloc (.cells #[.int .i64 b.e, .int .i64 b.d, .int .i64 b.l0, .int .i64 b.l1, .int .i64 b.l2, .int .i64 b.l3] 24) := ⟨_, rfl⟩
        have XA : Bx w0 w.heap.size 24 #[.int .i64 (g a.e b.e), .int .i64 a.d, .int .i64 a.l0, .int .i64 a.l1, .int .i64 a.l2, .int .i64 a.l3] := by rw [hw0]; exact ((((Bx.new _ _ _ rfl).alloc _).alloc _).alloc _).alloc _
        have XB : Bx w0 (w.heap.size + 1) 24 #[.int .i64 b.e, .int .i64 b.d, .int .i64 b.l0, .int .i64 b.l1, .int .i64 b.l2, .int .i64 b.l3] := by rw [hw0]; exact (((Bx.new _ _ _ (by simp)).alloc _).alloc _).alloc _
        have XZ : Bx w0 (w.heap.size + 1 + 1) 24 #[.int .i64 0, .int .i64 0, .int .i64 0, .int .i64 0, .int .i64 0, .int .i64 0] := by rw [hw0]; exact ((Bx.new _ _ _ (by simp)).alloc _).alloc _
        have GW : Hid (Ge w w0) := by rw [hw0]; exact ((((((Ge.refl w).alloc _).alloc _).alloc _).alloc _).alloc _)
        rw [← hw0]
        clear hw0
        refine wp_loop_rounds 5 ?_
        rw [rounds_succ]
        go_wp2_with fail
        refine Dr.wp_region_TU 13 (by kernel_rfl) (by kernel_rfl) (by decide) (by kernel_rfl) ?_
        apply Dr.wpT_det
        · intro u w2 hw hF
          clear hF
          have cA := (XA.ge hw).cell
          have cB := (XB.ge hw).cell
          have lA := (XA.ge hw).lt
          have lB := (XB.ge hw).lt
          go_simp
          first | exact ⟨Ge.refl _, rfl⟩ | exact Ge.refl _
        apply Dr.wpT_det
        · intro u w2 hw hF
          clear hF
          have cA := (XA.ge hw).cell
          have cB := (XB.ge hw).cell
          have lA := (XA.ge hw).lt
          have lB := (XB.ge hw).lt
          go_simp
          first | exact ⟨Ge.refl _, rfl⟩ | exact Ge.refl _
        apply Dr.wpT_det
        · intro u w2 hw hF
          clear hF
          have cA := (XA.ge hw).cell
          have cB := (XB.ge hw).cell
          have lA := (XA.ge hw).lt
          have lB := (XB.ge hw).lt
          go_simp
          first | exact ⟨Ge.refl _, rfl⟩ | exact Ge.refl _
        apply Dr.wpT_det
        · intro u w2 hw hF
          clear hF
          have cA := (XA.ge hw).cell
          have cB := (XB.ge hw).cell
          have lA := (XA.ge hw).lt
          have lB := (XB.ge hw).lt
          go_simp
          first | exact ⟨Ge.refl _, rfl⟩ | exact Ge.refl _
        apply Dr.wpT_det
        · intro u w2 hw hF
          clear hF
          have cA := (XA.ge hw).cell
          have cB := (XB.ge hw).cell
          have lA := (XA.ge hw).lt
          have lB := (XB.ge hw).lt
          go_simp
          first | exact ⟨Ge.refl _, rfl⟩ | exact Ge.refl _
        apply Dr.wpT_det
        · intro u w2 hw hF
          clear hF
          have cA := (XA.ge hw).cell
          have cB := (XB.ge hw).cell
          have lA := (XA.ge hw).lt
          have lB := (XB.ge hw).lt
          go_simp
          first | exact ⟨Ge.refl _, rfl⟩ | exact Ge.refl _
        apply Dr.wpT_det
        · intro u w2 hw hF
          clear hF
          have cA := (XA.ge hw).cell
          have cB := (XB.ge hw).cell
          have lA := (XA.ge hw).lt
          have lB := (XB.ge hw).lt
          go_simp
          first | exact ⟨Ge.refl _, rfl⟩ | exact Ge.refl _
        apply Dr.wpT_det
        · intro u w2 hw hF
          clear hF
          have cA := (XA.ge hw).cell
          have cB := (XB.ge hw).cell
          have lA := (XA.ge hw).lt
          have lB := (XB.ge hw).lt
          go_simp
          first | exact ⟨Ge.refl _, rfl⟩ | exact Ge.refl _
        apply Dr.wpT_det
        · intro u w2 hw hF
          clear hF
          have cA := (XA.ge hw).cell
          have cB := (XB.ge hw).cell
          have lA := (XA.ge hw).lt
          have lB := (XB.ge hw).lt
          go_simp
          first | exact ⟨Ge.refl _, rfl⟩ | exact Ge.refl _
        apply Dr.wpT_det
        · intro u w2 hw hF
          clear hF
          have cA := (XA.ge hw).cell
          have cB := (XB.ge hw).cell
          have lA := (XA.ge hw).lt
          have lB := (XB.ge hw).lt
          go_simp
          first | exact ⟨Ge.refl _, rfl⟩ | exact Ge.refl _
        refine Dr.wpT_det (.int .i64 (g a.l0 b.l0)) ?_ ?_
        · intro u w2 hw hF
          clear hF
          go_simp
          refine (hf.out _ _ _).mono ?_
          rintro e w3 ⟨rfl, rfl⟩
          exact ⟨rfl, Ge.refl _⟩
        apply Dr.wpT_det
        · intro u w2 hw hF
          clear hF
          have cA := (XA.ge hw).cell
          have cB := (XB.ge hw).cell
          have lA := (XA.ge hw).lt
          have lB := (XB.ge hw).lt
          go_simp
          first | exact ⟨Ge.refl _, rfl⟩ | exact Ge.refl _
        apply Dr.wpT_det
        · intro u w2 hw hF
          clear hF
          have cA := (XA.ge hw).cell
          have cB := (XB.ge hw).cell
          have lA := (XA.ge hw).lt
          have lB := (XB.ge hw).lt
          go_simp
          first | exact ⟨Ge.refl _, rfl⟩ | exact Ge.refl _
        intro u w2 hw hF
        clear hF
        replace XA := XA.ge hw
        replace XB := XB.ge hw
        replace XZ := XZ.ge hw
        replace GW := Lib.hid (GW.out.trans hw)
        have cA := XA.cell
        have cB := XB.cell
        have lA := XA.lt
        have lB := XB.lt
        have fA := XA.frozen
        clear hw
        go_wp2_with fail
        replace XA : Bx (w2.setCell ⟨w.heap.size, 2, none⟩ (.int .i64 (g a.l0 b.l0))) w.heap.size 24 #[.int .i64 (g a.e b.e), .int .i64 a.d, .int .i64 (g a.l0 b.l0), .int .i64 a.l1, .int .i64 a.l2, .int .i64 a.l3] := XA.set 2 _
        replace XB := XB.set_ne (b' := w.heap.size) 2 (.int .i64 (g a.l0 b.l0)) (by omega)
        replace XZ := XZ.set_ne (b' := w.heap.size) 2 (.int .i64 (g a.l0 b.l0)) (by omega)
        replace GW : Hid (Ge w (w2.setCell ⟨w.heap.size, 2, none⟩ (.int .i64 (g a.l0 b.l0)))) := Below.setCell GW.out (Nat.le_refl _) _
        clear cA cB lA lB fA
        generalize (w2.setCell ⟨w.heap.size, 2, none⟩ (.int .i64 (g a.l0 b.l0))) = w5 at *
        rw [rounds_succ]
        go_wp2_with fail
        refine Dr.wp_region_TU 13 (by kernel_rfl) (by kernel_rfl) (by decide) (by kernel_rfl) ?_
        apply Dr.wpT_det
        · intro u w2 hw hF
          clear hF
          have cA := (XA.ge hw).cell
          have cB := (XB.ge hw).cell
          have lA := (XA.ge hw).lt
          have lB := (XB.ge hw).lt
          go_simp
          first | exact ⟨Ge.refl _, rfl⟩ | exact Ge.refl _
        apply Dr.wpT_det
        · intro u w2 hw hF
          clear hF
          have cA := (XA.ge hw).cell
          have cB := (XB.ge hw).cell
          have lA := (XA.ge hw).lt
          have lB := (XB.ge hw).lt
          go_simp
          first | exact ⟨Ge.refl _, rfl⟩ | exact Ge.refl _
        apply Dr.wpT_det
        · intro u w2 hw hF
          clear hF
          have cA := (XA.ge hw).cell
          have cB := (XB.ge hw).cell
          have lA := (XA.ge hw).lt
          have lB := (XB.ge hw).lt
          go_simp
          first | exact ⟨Ge.refl _, rfl⟩ | exact Ge.refl _
        apply Dr.wpT_det
        · intro u w2 hw hF
          clear hF
          have cA := (XA.ge hw).cell
          have cB := (XB.ge hw).cell
          have lA := (XA.ge hw).lt
          have lB := (XB.ge hw).lt
          go_simp
          first | exact ⟨Ge.refl _, rfl⟩ | exact Ge.refl _
        apply Dr.wpT_det
        · intro u w2 hw hF
          clear hF
          have cA := (XA.ge hw).cell
          have cB := (XB.ge hw).cell
          have lA := (XA.ge hw).lt
          have lB := (XB.ge hw).lt
          go_simp
          first | exact ⟨Ge.refl _, rfl⟩ | exact Ge.refl _
        apply Dr.wpT_det
        · intro u w2 hw hF
          clear hF
          have cA := (XA.ge hw).cell
          have cB := (XB.ge hw).cell
          have lA := (XA.ge hw).lt
          have lB := (XB.ge hw).lt
          go_simp
          first | exact ⟨Ge.refl _, rfl⟩ | exact Ge.refl _
        apply Dr.wpT_det
        · intro u w2 hw hF
          clear hF
          have cA := (XA.ge hw).cell
          have cB := (XB.ge hw).cell
          have lA := (XA.ge hw).lt
          have lB := (XB.ge hw).lt
          go_simp
          first | exact ⟨Ge.refl _, rfl⟩ | exact Ge.refl _
        apply Dr.wpT_det
        · intro u w2 hw hF
          clear hF
          have cA := (XA.ge hw).cell
          have cB := (XB.ge hw).cell
          have lA := (XA.ge hw).lt
          have lB := (XB.ge hw).lt
          go_simp
          first | exact ⟨Ge.refl _, rfl⟩ | exact Ge.refl _
        apply Dr.wpT_det
        · intro u w2 hw hF
          clear hF
          have cA := (XA.ge hw).cell
          have cB := (XB.ge hw).cell
          have lA := (XA.ge hw).lt
          have lB := (XB.ge hw).lt
          go_simp
          first | exact ⟨Ge.refl _, rfl⟩ | exact Ge.refl _
        apply Dr.wpT_det
        · intro u w2 hw hF
          clear hF
          have cA := (XA.ge hw).cell
          have cB := (XB.ge hw).cell
          have lA := (XA.ge hw).lt
          have lB := (XB.ge hw).lt
          go_simp
          first | exact ⟨Ge.refl _, rfl⟩ | exact Ge.refl _
        refine Dr.wpT_det (.int .i64 (g a.l1 b.l1)) ?_ ?_
        · intro u w2 hw hF
          clear hF
          go_simp
          refine (hf.out _ _ _).mono ?_
          rintro e w3 ⟨rfl, rfl⟩
          exact ⟨rfl, Ge.refl _⟩
        apply Dr.wpT_det
        · intro u w2 hw hF
          clear hF
          have cA := (XA.ge hw).cell
          have cB := (XB.ge hw).cell
          have lA := (XA.ge hw).lt
          have lB := (XB.ge hw).lt
          go_simp
          first | exact ⟨Ge.refl _, rfl⟩ | exact Ge.refl _
        apply Dr.wpT_det
        · intro u w2 hw hF
          clear hF
          have cA := (XA.ge hw).cell
          have cB := (XB.ge hw).cell
          have lA := (XA.ge hw).lt
          have lB := (XB.ge hw).lt
          go_simp
          first | exact ⟨Ge.refl _, rfl⟩ | exact Ge.refl _
        intro u w2 hw hF
        clear hF
        replace XA := XA.ge hw
        replace XB := XB.ge hw
        replace XZ := XZ.ge hw
        replace GW := Lib.hid (GW.out.trans hw)
        have cA := XA.cell
        have cB := XB.cell
        have lA := XA.lt
        have lB := XB.lt
        have fA := XA.frozen
        clear hw
        go_wp2_with fail
        replace XA : Bx (w2.setCell ⟨w.heap.size, 3, none⟩ (.int .i64 (g a.l1 b.l1))) w.heap.size 24 #[.int .i64 (g a.e b.e), .int .i64 a.d, .int .i64 (g a.l0 b.l0), .int .i64 (g a.l1 b.l1), .int .i64 a.l2, .int .i64 a.l3] := XA.set 3 _
        replace XB := XB.set_ne (b' := w.heap.size) 3 (.int .i64 (g a.l1 b.l1)) (by omega)
        replace XZ := XZ.set_ne (b' := w.heap.size) 3 (.int .i64 (g a.l1 b.l1)) (by omega)
        replace GW : Hid (Ge w (w2.setCell ⟨w.heap.size, 3, none⟩ (.int .i64 (g a.l1 b.l1)))) := Below.setCell GW.out (Nat.le_refl _) _
        clear cA cB lA lB fA
        generalize (w2.setCell ⟨w.heap.size, 3, none⟩ (.int .i64 (g a.l1 b.l1))) = w6 at *
        rw [rounds_succ]
        go_wp2_with fail
        refine Dr.wp_region_TU 13 (by kernel_rfl) (by kernel_rfl) (by decide) (by kernel_rfl) ?_
        apply Dr.wpT_det
        · intro u w2 hw hF
          clear hF
          have cA := (XA.ge hw).cell
          have cB := (XB.ge hw).cell
          have lA := (XA.ge hw).lt
          have lB := (XB.ge hw).lt
          go_simp
          first | exact ⟨Ge.refl _, rfl⟩ | exact Ge.refl _
        apply Dr.wpT_det
        · intro u w2 hw hF
          clear hF
          have cA := (XA.ge hw).cell
          have cB := (XB.ge hw).cell
          have lA := (XA.ge hw).lt
          have lB := (XB.ge hw).lt
          go_simp
          first | exact ⟨Ge.refl _, rfl⟩ | exact Ge.refl _
        apply Dr.wpT_det
        · intro u w2 hw hF
          clear hF
          have cA := (XA.ge hw).cell
          have cB := (XB.ge hw).cell
          have lA := (XA.ge hw).lt
          have lB := (XB.ge hw).lt
          go_simp
          first | exact ⟨Ge.refl _, rfl⟩ | exact Ge.refl _
        apply Dr.wpT_det
        · intro u w2 hw hF
          clear hF
          have cA := (XA.ge hw).cell
          have cB := (XB.ge hw).cell
          have lA := (XA.ge hw).lt
          have lB := (XB.ge hw).lt
          go_simp
          first | exact ⟨Ge.refl _, rfl⟩ | exact Ge.refl _
        apply Dr.wpT_det
        · intro u w2 hw hF
          clear hF
          have cA := (XA.ge hw).cell
          have cB := (XB.ge hw).cell
          have lA := (XA.ge hw).lt
          have lB := (XB.ge hw).lt
          go_simp
          first | exact ⟨Ge.refl _, rfl⟩ | exact Ge.refl _
        apply Dr.wpT_det
        · intro u w2 hw hF
          clear hF
          have cA := (XA.ge hw).cell
          have cB := (XB.ge hw).cell
          have lA := (XA.ge hw).lt
          have lB := (XB.ge hw).lt
          go_simp
          first | exact ⟨Ge.refl _, rfl⟩ | exact Ge.refl _
        apply Dr.wpT_det
        · intro u w2 hw hF
          clear hF
          have cA := (XA.ge hw).cell
          have cB := (XB.ge hw).cell
          have lA := (XA.ge hw).lt
          have lB := (XB.ge hw).lt
          go_simp
          first | exact ⟨Ge.refl _, rfl⟩ | exact Ge.refl _
        apply Dr.wpT_det
        · intro u w2 hw hF
          clear hF
          have cA := (XA.ge hw).cell
          have cB := (XB.ge hw).cell
          have lA := (XA.ge hw).lt
          have lB := (XB.ge hw).lt
          go_simp
          first | exact ⟨Ge.refl _, rfl⟩ | exact Ge.refl _
        apply Dr.wpT_det
        · intro u w2 hw hF
          clear hF
          have cA := (XA.ge hw).cell
          have cB := (XB.ge hw).cell
          have lA := (XA.ge hw).lt
          have lB := (XB.ge hw).lt
          go_simp
          first | exact ⟨Ge.refl _, rfl⟩ | exact Ge.refl _
        apply Dr.wpT_det
        · intro u w2 hw hF
          clear hF
          have cA := (XA.ge hw).cell
          have cB := (XB.ge hw).cell
          have lA := (XA.ge hw).lt
          have lB := (XB.ge hw).lt
          go_simp
          first | exact ⟨Ge.refl _, rfl⟩ | exact Ge.refl _
        refine Dr.wpT_det (.int .i64 (g a.l2 b.l2)) ?_ ?_
        · intro u w2 hw hF
          clear hF
          go_simp
          refine (hf.out _ _ _).mono ?_
          rintro e w3 ⟨rfl, rfl⟩
          exact ⟨rfl, Ge.refl _⟩
        apply Dr.wpT_det
        · intro u w2 hw hF
          clear hF
          have cA := (XA.ge hw).cell
          have cB := (XB.ge hw).cell
          have lA := (XA.ge hw).lt
          have lB := (XB.ge hw).lt
          go_simp
          first | exact ⟨Ge.refl _, rfl⟩ | exact Ge.refl _
        apply Dr.wpT_det
        · intro u w2 hw hF
          clear hF
          have cA := (XA.ge hw).cell
          have cB := (XB.ge hw).cell
          have lA := (XA.ge hw).lt
          have lB := (XB.ge hw).lt
          go_simp
          first | exact ⟨Ge.refl _, rfl⟩ | exact Ge.refl _
        intro u w2 hw hF
        clear hF
        replace XA := XA.ge hw
        replace XB := XB.ge hw
        replace XZ := XZ.ge hw
        replace GW := Lib.hid (GW.out.trans hw)
        have cA := XA.cell
        have cB := XB.cell
        have lA := XA.lt
        have lB := XB.lt
        have fA := XA.frozen
        clear hw
        go_wp2_with fail
        replace XA : Bx (w2.setCell ⟨w.heap.size, 4, none⟩ (.int .i64 (g a.l2 b.l2))) w.heap.size 24 #[.int .i64 (g a.e b.e), .int .i64 a.d, .int .i64 (g a.l0 b.l0), .int .i64 (g a.l1 b.l1), .int .i64 (g a.l2 b.l2), .int .i64 a.l3] := XA.set 4 _
        replace XB := XB.set_ne (b' := w.heap.size) 4 (.int .i64 (g a.l2 b.l2)) (by omega)
        replace XZ := XZ.set_ne (b' := w.heap.size) 4 (.int .i64 (g a.l2 b.l2)) (by omega)
        replace GW : Hid (Ge w (w2.setCell ⟨w.heap.size, 4, none⟩ (.int .i64 (g a.l2 b.l2)))) := Below.setCell GW.out (Nat.le_refl _) _
        clear cA cB lA lB fA
        generalize (w2.setCell ⟨w.heap.size, 4, none⟩ (.int .i64 (g a.l2 b.l2))) = w7 at *
        rw [rounds_succ]
        go_wp2_with fail
        refine Dr.wp_region_TU 13 (by kernel_rfl) (by kernel_rfl) (by decide) (by kernel_rfl) ?_
        apply Dr.wpT_det
        · intro u w2 hw hF
          clear hF
          have cA := (XA.ge hw).cell
          have cB := (XB.ge hw).cell
          have lA := (XA.ge hw).lt
          have lB := (XB.ge hw).lt
          go_simp
          first | exact ⟨Ge.refl _, rfl⟩ | exact Ge.refl _
        apply Dr.wpT_det
        · intro u w2 hw hF
          clear hF
          have cA := (XA.ge hw).cell
          have cB := (XB.ge hw).cell
          have lA := (XA.ge hw).lt
          have lB := (XB.ge hw).lt
          go_simp
          first | exact ⟨Ge.refl _, rfl⟩ | exact Ge.refl _
        apply Dr.wpT_det
        · intro u w2 hw hF
          clear hF
          have cA := (XA.ge hw).cell
          have cB := (XB.ge hw).cell
          have lA := (XA.ge hw).lt
          have lB := (XB.ge hw).lt
          go_simp
          first | exact ⟨Ge.refl _, rfl⟩ | exact Ge.refl _
        apply Dr.wpT_det
        · intro u w2 hw hF
          clear hF
          have cA := (XA.ge hw).cell
          have cB := (XB.ge hw).cell
          have lA := (XA.ge hw).lt
          have lB := (XB.ge hw).lt
          go_simp
          first | exact ⟨Ge.refl _, rfl⟩ | exact Ge.refl _
        apply Dr.wpT_det
        · intro u w2 hw hF
          clear hF
          have cA := (XA.ge hw).cell
          have cB := (XB.ge hw).cell
          have lA := (XA.ge hw).lt
          have lB := (XB.ge hw).lt
          go_simp
          first | exact ⟨Ge.refl _, rfl⟩ | exact Ge.refl _
        apply Dr.wpT_det
        · intro u w2 hw hF
          clear hF
          have cA := (XA.ge hw).cell
          have cB := (XB.ge hw).cell
          have lA := (XA.ge hw).lt
          have lB := (XB.ge hw).lt
          go_simp
          first | exact ⟨Ge.refl _, rfl⟩ | exact Ge.refl _
        apply Dr.wpT_det
        · intro u w2 hw hF
          clear hF
          have cA := (XA.ge hw).cell
          have cB := (XB.ge hw).cell
          have lA := (XA.ge hw).lt
          have lB := (XB.ge hw).lt
          go_simp
          first | exact ⟨Ge.refl _, rfl⟩ | exact Ge.refl _
        apply Dr.wpT_det
        · intro u w2 hw hF
          clear hF
          have cA := (XA.ge hw).cell
          have cB := (XB.ge hw).cell
          have lA := (XA.ge hw).lt
          have lB := (XB.ge hw).lt
          go_simp
          first | exact ⟨Ge.refl _, rfl⟩ | exact Ge.refl _
        apply Dr.wpT_det
        · intro u w2 hw hF
          clear hF
          have cA := (XA.ge hw).cell
          have cB := (XB.ge hw).cell
          have lA := (XA.ge hw).lt
          have lB := (XB.ge hw).lt
          go_simp
          first | exact ⟨Ge.refl _, rfl⟩ | exact Ge.refl _
        apply Dr.wpT_det
        · intro u w2 hw hF
          clear hF
          have cA := (XA.ge hw).cell
          have cB := (XB.ge hw).cell
          have lA := (XA.ge hw).lt
          have lB := (XB.ge hw).lt
          go_simp
          first | exact ⟨Ge.refl _, rfl⟩ | exact Ge.refl _
        refine Dr.wpT_det (.int .i64 (g a.l3 b.l3)) ?_ ?_
        · intro u w2 hw hF
          clear hF
          go_simp
          refine (hf.out _ _ _).mono ?_
          rintro e w3 ⟨rfl, rfl⟩
          exact ⟨rfl, Ge.refl _⟩
        apply Dr.wpT_det
        · intro u w2 hw hF
          clear hF
          have cA := (XA.ge hw).cell
          have cB := (XB.ge hw).cell
          have lA := (XA.ge hw).lt
          have lB := (XB.ge hw).lt
          go_simp
          first | exact ⟨Ge.refl _, rfl⟩ | exact Ge.refl _
        apply Dr.wpT_det
        · intro u w2 hw hF
          clear hF
          have cA := (XA.ge hw).cell
          have cB := (XB.ge hw).cell
          have lA := (XA.ge hw).lt
          have lB := (XB.ge hw).lt
          go_simp
          first | exact ⟨Ge.refl _, rfl⟩ | exact Ge.refl _
        intro u w2 hw hF
        clear hF
        replace XA := XA.ge hw
        replace XB := XB.ge hw
        replace XZ := XZ.ge hw
        replace GW := Lib.hid (GW.out.trans hw)
        have cA := XA.cell
        have cB := XB.cell
        have lA := XA.lt
        have lB := XB.lt
        have fA := XA.frozen
        clear hw
        go_wp2_with fail
        replace XA : Bx (w2.setCell ⟨w.heap.size, 5, none⟩ (.int .i64 (g a.l3 b.l3))) w.heap.size 24 #[.int .i64 (g a.e b.e), .int .i64 a.d, .int .i64 (g a.l0 b.l0), .int .i64 (g a.l1 b.l1), .int .i64 (g a.l2 b.l2), .int .i64 (g a.l3 b.l3)] := XA.set 5 _
        replace XB := XB.set_ne (b' := w.heap.size) 5 (.int .i64 (g a.l3 b.l3)) (by omega)
        replace XZ := XZ.set_ne (b' := w.heap.size) 5 (.int .i64 (g a.l3 b.l3)) (by omega)
        replace GW : Hid (Ge w (w2.setCell ⟨w.heap.size, 5, none⟩ (.int .i64 (g a.l3 b.l3)))) := Below.setCell GW.out (Nat.le_refl _) _
        clear cA cB lA lB fA
        generalize (w2.setCell ⟨w.heap.size, 5, none⟩ (.int .i64 (g a.l3 b.l3))) = w8 at *
        rw [rounds_succ]
        have cA := XA.cell
        have cZ := XZ.cell
        have lA := XA.lt
        have lZ := XZ.lt
        have fZ := XZ.frozen
        go_wp2
        obtain ⟨wz, hwz⟩ : ∃ wz, wz = ((((((w8.setCell ⟨w.heap.size + 1 + 1, 0, none⟩ (.int .i64 (g a.e b.e))).setCell ⟨w.heap.size + 1 + 1, 1, none⟩ (.int .i64 (a.d))).setCell ⟨w.heap.size + 1 + 1, 2, none⟩ (.int .i64 (g a.l0 b.l0))).setCell ⟨w.heap.size + 1 + 1, 3, none⟩ (.int .i64 (g a.l1 b.l1))).setCell ⟨w.heap.size + 1 + 1, 4, none⟩ (.int .i64 (g a.l2 b.l2))).setCell ⟨w.heap.size + 1 + 1, 5, none⟩ (.int .i64 (g a.l3 b.l3))) := ⟨_, rfl⟩
        have XW : Bx wz (w.heap.size + 1 + 1) 24 #[.int .i64 (g a.e b.e), .int .i64 (a.d), .int .i64 (g a.l0 b.l0), .int .i64 (g a.l1 b.l1), .int .i64 (g a.l2 b.l2), .int .i64 (g a.l3 b.l3)] := by rw [hwz]; exact ((((((XZ.set 0 (.int .i64 (g a.e b.e))).set 1 (.int .i64 (a.d))).set 2 (.int .i64 (g a.l0 b.l0))).set 3 (.int .i64 (g a.l1 b.l1))).set 4 (.int .i64 (g a.l2 b.l2))).set 5 (.int .i64 (g a.l3 b.l3)))
        have GZ : Ge w wz := by rw [hwz]; exact (Below.setCell (Below.setCell (Below.setCell (Below.setCell (Below.setCell (Below.setCell GW.out (by show _ ≤ w.heap.size + 1 + 1; omega) _) (by show _ ≤ w.heap.size + 1 + 1; omega) _) (by show _ ≤ w.heap.size + 1 + 1; omega) _) (by show _ ≤ w.heap.size + 1 + 1; omega) _) (by show _ ≤ w.heap.size + 1 + 1; omega) _) (by show _ ≤ w.heap.size + 1 + 1; omega) _)
        rw [← hwz]
        have cW := XW.cell
        clear hwz
        refine bodyPost_ret (by simp [results, Try.results40, go_sem, cW]; try rfl) rfl ?_
        exact ⟨rfl, GZ⟩
      · have HA := Lib.hid (check_yes hca)
        have HB := Lib.hid (check_yes hcb)
        have hd' : (a.d != b.d) = true := by simp [hd]
        have HE : Hid (bothE a b = 11) := by unfold Hid bothE; rw [if_pos ⟨hca, hcb⟩, if_neg hd]
        clear hca hcb hd
        rw [bothT_no (by rw [HE.out]; decide), HE.out]
        go_enter Try.func40, Try.ntmps40
        go_wp2_with fail
        refine (HA.out _).mono ?_
        rintro e w1 ⟨rfl, rfl⟩
        go_wp2_with fail
        refine (HB.out _).mono ?_
        rintro e w1 ⟨rfl, rfl⟩
        go_wp2
        go_returns
        exact ⟨rfl, by go_grown⟩
    · have HA := Lib.hid (check_yes hca)
      have HB := Lib.hid (check_no hcb)
      have HE : Hid (bothE a b = 10) := by unfold Hid bothE; rw [if_neg (fun h => hcb h.2)]
      clear hca hcb
      rw [bothT_no (by rw [HE.out]; decide), HE.out]
      go_enter Try.func40, Try.ntmps40
      go_wp2_with fail
      refine (HA.out _).mono ?_
      rintro e w1 ⟨rfl, rfl⟩
      go_wp2_with fail
      refine (HB.out _).mono ?_
      rintro e w1 ⟨rfl, rfl⟩
      go_wp2
      go_returns
      exact ⟨rfl, by go_grown⟩
  · have HA := Lib.hid (check_no hca)
    have HE : Hid (bothE a b = 10) := by unfold Hid bothE; rw [if_neg (fun h => hca h.1)]
    clear hca
    rw [bothT_no (by rw [HE.out]; decide), HE.out]
    go_enter Try.func40, Try.ntmps40
    go_wp2_with fail
    refine (HA.out _).mono ?_
    rintro e w1 ⟨rfl, rfl⟩
    go_wp2
    go_returns
    exact ⟨rfl, by go_grown⟩

set_option maxHeartbeats 1000000 in
theorem join_any (a b : Tm) (w : World) :
    Calls Try.prog 21 #[.agg #[.int .i64 a.e, .int .i64 a.d, .int .i64 a.l0, .int .i64 a.l1, .int .i64 a.l2, .int .i64 a.l3], .agg #[.int .i64 b.e, .int .i64 b.d, .int .i64 b.l0, .int .i64 b.l1, .int .i64 b.l2, .int .i64 b.l3]] w fun e w' =>
      e = .returned (.tuple #[.agg #[.int .i64 (bothT max a b).e, .int .i64 (bothT max a b).d, .int .i64 (bothT max a b).l0, .int .i64 (bothT max a b).l1, .int .i64 (bothT max a b).l2, .int .i64 (bothT max a b).l3], .int .i64 (bothE a b)]) ∧ Below w.heap.size w w' := by
  go_enter Try.func21, Try.ntmps21
  go_wp2_with fail
  refine (both_any 41 max maxf (fun x y w => by kernel_rfl) a b _).mono ?_
  rintro e w1 ⟨rfl, hb1⟩
  have XZ : Bx w1 (w.heap.size + 1 + 1) 24 #[.int .i64 0, .int .i64 0, .int .i64 0, .int .i64 0, .int .i64 0, .int .i64 0] := (Bx.new _ _ _ (by simp)).ge hb1
  have cZ := XZ.cell
  have lZ := XZ.lt
  have fZ := XZ.frozen
  go_wp2
  obtain ⟨wz, hwz⟩ : ∃ wz, wz = ((((((w1.setCell ⟨w.heap.size + 1 + 1, 0, none⟩ (.int .i64 ((bothT max a b).e))).setCell ⟨w.heap.size + 1 + 1, 1, none⟩ (.int .i64 ((bothT max a b).d))).setCell ⟨w.heap.size + 1 + 1, 2, none⟩ (.int .i64 ((bothT max a b).l0))).setCell ⟨w.heap.size + 1 + 1, 3, none⟩ (.int .i64 ((bothT max a b).l1))).setCell ⟨w.heap.size + 1 + 1, 4, none⟩ (.int .i64 ((bothT max a b).l2))).setCell ⟨w.heap.size + 1 + 1, 5, none⟩ (.int .i64 ((bothT max a b).l3))) := ⟨_, rfl⟩
  have XW : Bx wz (w.heap.size + 1 + 1) 24 #[.int .i64 ((bothT max a b).e), .int .i64 ((bothT max a b).d), .int .i64 ((bothT max a b).l0), .int .i64 ((bothT max a b).l1), .int .i64 ((bothT max a b).l2), .int .i64 ((bothT max a b).l3)] := by rw [hwz]; exact ((((((XZ.set 0 (.int .i64 ((bothT max a b).e))).set 1 (.int .i64 ((bothT max a b).d))).set 2 (.int .i64 ((bothT max a b).l0))).set 3 (.int .i64 ((bothT max a b).l1))).set 4 (.int .i64 ((bothT max a b).l2))).set 5 (.int .i64 ((bothT max a b).l3)))
  have GZ : Ge w wz := by rw [hwz]; exact (Below.setCell (Below.setCell (Below.setCell (Below.setCell (Below.setCell (Below.setCell (((((Ge.refl w).alloc _).alloc _).alloc _).trans hb1) (by show _ ≤ w.heap.size + 1 + 1; omega) _) (by show _ ≤ w.heap.size + 1 + 1; omega) _) (by show _ ≤ w.heap.size + 1 + 1; omega) _) (by show _ ≤ w.heap.size + 1 + 1; omega) _) (by show _ ≤ w.heap.size + 1 + 1; omega) _) (by show _ ≤ w.heap.size + 1 + 1; omega) _)
  rw [← hwz]
  have cW := XW.cell
  clear hwz
  refine bodyPost_ret (by simp [results, Try.results21, go_sem, cW]; try rfl) rfl ?_
  exact ⟨rfl, GZ⟩
set_option maxHeartbeats 1000000 in
theorem meet_any (a b : Tm) (w : World) :
    Calls Try.prog 22 #[.agg #[.int .i64 a.e, .int .i64 a.d, .int .i64 a.l0, .int .i64 a.l1, .int .i64 a.l2, .int .i64 a.l3], .agg #[.int .i64 b.e, .int .i64 b.d, .int .i64 b.l0, .int .i64 b.l1, .int .i64 b.l2, .int .i64 b.l3]] w fun e w' =>
      e = .returned (.tuple #[.agg #[.int .i64 (bothT min a b).e, .int .i64 (bothT min a b).d, .int .i64 (bothT min a b).l0, .int .i64 (bothT min a b).l1, .int .i64 (bothT min a b).l2, .int .i64 (bothT min a b).l3], .int .i64 (bothE a b)]) ∧ Below w.heap.size w w' := by
  go_enter Try.func22, Try.ntmps22
  go_wp2_with fail
  refine (both_any 42 min minf (fun x y w => by kernel_rfl) a b _).mono ?_
  rintro e w1 ⟨rfl, hb1⟩
  have XZ : Bx w1 (w.heap.size + 1 + 1) 24 #[.int .i64 0, .int .i64 0, .int .i64 0, .int .i64 0, .int .i64 0, .int .i64 0] := (Bx.new _ _ _ (by simp)).ge hb1
  have cZ := XZ.cell
  have lZ := XZ.lt
  have fZ := XZ.frozen
  go_wp2
  obtain ⟨wz, hwz⟩ : ∃ wz, wz = ((((((w1.setCell ⟨w.heap.size + 1 + 1, 0, none⟩ (.int .i64 ((bothT min a b).e))).setCell ⟨w.heap.size + 1 + 1, 1, none⟩ (.int .i64 ((bothT min a b).d))).setCell ⟨w.heap.size + 1 + 1, 2, none⟩ (.int .i64 ((bothT min a b).l0))).setCell ⟨w.heap.size + 1 + 1, 3, none⟩ (.int .i64 ((bothT min a b).l1))).setCell ⟨w.heap.size + 1 + 1, 4, none⟩ (.int .i64 ((bothT min a b).l2))).setCell ⟨w.heap.size + 1 + 1, 5, none⟩ (.int .i64 ((bothT min a b).l3))) := ⟨_, rfl⟩
  have XW : Bx wz (w.heap.size + 1 + 1) 24 #[.int .i64 ((bothT min a b).e), .int .i64 ((bothT min a b).d), .int .i64 ((bothT min a b).l0), .int .i64 ((bothT min a b).l1), .int .i64 ((bothT min a b).l2), .int .i64 ((bothT min a b).l3)] := by rw [hwz]; exact ((((((XZ.set 0 (.int .i64 ((bothT min a b).e))).set 1 (.int .i64 ((bothT min a b).d))).set 2 (.int .i64 ((bothT min a b).l0))).set 3 (.int .i64 ((bothT min a b).l1))).set 4 (.int .i64 ((bothT min a b).l2))).set 5 (.int .i64 ((bothT min a b).l3)))
  have GZ : Ge w wz := by rw [hwz]; exact (Below.setCell (Below.setCell (Below.setCell (Below.setCell (Below.setCell (Below.setCell (((((Ge.refl w).alloc _).alloc _).alloc _).trans hb1) (by show _ ≤ w.heap.size + 1 + 1; omega) _) (by show _ ≤ w.heap.size + 1 + 1; omega) _) (by show _ ≤ w.heap.size + 1 + 1; omega) _) (by show _ ≤ w.heap.size + 1 + 1; omega) _) (by show _ ≤ w.heap.size + 1 + 1; omega) _) (by show _ ≤ w.heap.size + 1 + 1; omega) _)
  rw [← hwz]
  have cW := XW.cell
  clear hwz
  refine bodyPost_ret (by simp [results, Try.results22, go_sem, cW]; try rfl) rfl ?_
  exact ⟨rfl, GZ⟩
end Go.Proofs.Ytedccllpbajbfaa
