/-
  Loops(t): what it goes through.
-/
import Derived.RangeFuncNested
import Derived.RangeFuncBound
import Derived.RangeFuncCalls
import Derived.RangeFuncLeaves
import Derived.Shelf.Abstract
import Derived.Shelf.RegionOpen
import Derived.WalkKit
import Derived.OwnWalkIn
import Derived.TacticsInMore
import Derived.LoopNIn
import Derived.LoopIn
import Derived.Test.YtedccllpbajbfaaCheck
import Derived.Test.YtedccllpbajbfaaPlainB
import Derived.Lib.Hide
namespace Go.Proofs.Ytedccllpbajbfaa
open Go.RowKit Go.Shelf

attribute [local go_sem] Oper.semAt_some

/-- what has come when k rounds are over -/
def upto {α : Type} (f : Nat → α) (k : Nat) : List α := (List.range k).map f
theorem upto_succ {α : Type} (f : Nat → α) (k : Nat) : upto f (k + 1) = upto f k ++ [f k] := by simp [upto, List.range_succ]
theorem upto_length {α : Type} (f : Nat → α) (k : Nat) : (upto f k).length = k := by simp [upto]

/-- one block is as it was -/
def KeepB (B : Nat) (W W' : World) : Prop := W'.heap[B]? = W.heap[B]?
theorem KeepB.refl (B : Nat) (W : World) : KeepB B W W := rfl
theorem KeepB.trans {B : Nat} {W1 W2 W3 : World} (h : KeepB B W1 W2) (k : KeepB B W2 W3) : KeepB B W1 W3 := Eq.trans k h
theorem KeepB.cell {B : Nat} {W W' : World} (h : KeepB B W W') (o : Nat) : W'.cell? ⟨B, o, none⟩ = W.cell? ⟨B, o, none⟩ := World.cell?_of_block (w := W) h
theorem KeepB.alloc {B : Nat} {W : World} (h : B < W.heap.size) (o : Obj) : KeepB B W (W.alloc o) := Below.heap_alloc W o B h
theorem KeepB.putObj {B N : Nat} (hB : B < N) (W : World) (l : Nat) (o o' : Obj) (hl : N ≤ l) (_ : W.heap[l]? = some o) (_ : o.isCells = false) (_ : o.isWalk = false) : KeepB B W (W.putObj l o') :=
  World.putObj_heap_other (by omega)
theorem KeepB.setCell {B : Nat} {W : World} {p : Addr} (h : B ≠ p.block) (u : Value) : KeepB B W (W.setCell p u) := Below.heap_setCell W p u B h
theorem KeepB.drew {B : Nat} (W : World) : KeepB B W W.drew := rfl
theorem KeepB.below {B N : Nat} {W W' : World} (h : Below N W W') (hB : B < N) : KeepB B W W' := h.block B hB

def cntAt (t : Tm) (k : Nat) : Int := [t.l0, t.l1, t.l2, t.l3][k]?.getD 0
theorem cntAt_in {t : Tm} (hc : Chk t) (k : Nat) : 0 ≤ cntAt t k ∧ cntAt t k ≤ 1048576 := by
  obtain ⟨-, -, -, -, ⟨h00, h01, -⟩, ⟨h10, h11, -⟩, ⟨h20, h21, -⟩, h30, h31, -⟩ := hc
  rcases k with _ | _ | _ | _ | k <;> simp [cntAt] <;> omega
/-- a counter with its number -/
abbrev Cn := { x : Nat × Int // 0 ≤ x.2 ∧ x.2 ≤ 1048576 }
def cn (t : Tm) (hc : Chk t) (j : Nat) : Cn := ⟨(j, cntAt t j), cntAt_in hc j⟩

theorem slice_L0 (B : Nat) (w : World) : (Instr.sliceAt 22 (.pointer (some ⟨B, 2, none⟩)) none (some (.int .i64 0)) none).run Try.prog w = .ok (.slice (some ⟨B, 2, none⟩) 0 4) w := by kernel_rfl
theorem slice_L1 (B : Nat) (w : World) : (Instr.sliceAt 22 (.pointer (some ⟨B, 2, none⟩)) none (some (.int .i64 1)) none).run Try.prog w = .ok (.slice (some ⟨B, 2, none⟩) 1 4) w := by kernel_rfl
theorem slice_L2 (B : Nat) (w : World) : (Instr.sliceAt 22 (.pointer (some ⟨B, 2, none⟩)) none (some (.int .i64 2)) none).run Try.prog w = .ok (.slice (some ⟨B, 2, none⟩) 2 4) w := by kernel_rfl
theorem slice_L3 (B : Nat) (w : World) : (Instr.sliceAt 22 (.pointer (some ⟨B, 2, none⟩)) none (some (.int .i64 3)) none).run Try.prog w = .ok (.slice (some ⟨B, 2, none⟩) 3 4) w := by kernel_rfl
theorem slice_L4 (B : Nat) (w : World) : (Instr.sliceAt 22 (.pointer (some ⟨B, 2, none⟩)) none (some (.int .i64 4)) none).run Try.prog w = .ok (.slice (some ⟨B, 2, none⟩) 4 4) w := by kernel_rfl
theorem slice_L (B d : Nat) (h : d ≤ 4) (w : World) : (Instr.sliceAt 22 (.pointer (some ⟨B, 2, none⟩)) none (some (.int .i64 (d : Int))) none).run Try.prog w = .ok (.slice (some ⟨B, 2, none⟩) d 4) w := by
  have : d = 0 ∨ d = 1 ∨ d = 2 ∨ d = 3 ∨ d = 4 := by omega
  rcases this with rfl | rfl | rfl | rfl | rfl
  · exact slice_L0 B w
  · exact slice_L1 B w
  · exact slice_L2 B w
  · exact slice_L3 B w
  · exact slice_L4 B w

set_option maxRecDepth 100000 in
set_option maxHeartbeats 2000000 in
theorem loops1_yes (F : Fence) (n : Nat) (h49 : F.fn 49) (h34 : F.fn 34) (hro : F.round = none) (hw : F = Fence.wide) (hn : 1 ≤ n) (l Bt : Nat) (t : Tm) (d : Nat) (hd : t.d = (d : Int)) (hc : Chk t) (J Jx : List Cn → World → Prop)
    (W : World) (hJ : AbidesFrom W.heap.size J) (hlt : Bt < W.heap.size)
    (hY : ∀ pre x W, J pre W → pre.length < d → YieldAt F (n - 1) Try.prog l #[.int .i64 (x.1.1 : Int), .int .i64 x.1.2] W fun e W' =>
      (e = .returned (.bool true) ∧ J (pre ++ [x]) W' ∧ KeepB Bt W W') ∨ (e = .returned (.bool false) ∧ Jx (pre ++ [x]) W'))
    (c0 : W.cell? ⟨Bt, 0, none⟩ = some (.int .i64 t.e)) (c1 : W.cell? ⟨Bt, 1, none⟩ = some (.int .i64 (d : Int))) (c2 : W.cell? ⟨Bt, 2, none⟩ = some (.int .i64 t.l0)) (c3 : W.cell? ⟨Bt, 3, none⟩ = some (.int .i64 t.l1)) (c4 : W.cell? ⟨Bt, 4, none⟩ = some (.int .i64 t.l2)) (c5 : W.cell? ⟨Bt, 5, none⟩ = some (.int .i64 t.l3)) (h0 : J [] W) :
    CallsIn F n Try.prog 49 #[.func (.yield l) #[] #[], .pointer (some ⟨Bt, 0, none⟩)] W fun e W' => (∃ v, e = .returned v) ∧
      ((∃ ys, ys = upto (cn t hc) d ∧ J ys W') ∨ (∃ pre, (∃ k, k ≤ d ∧ pre = upto (cn t hc) k) ∧ Jx pre W')) := by
  subst hw
  have hd4 : d ≤ 4 := by have := hc.2.2.2.1; omega
  have H := Lib.hid (fun w => (callsIn_wide (n := n - 1)).2 (check_yes hc w))
  rw [hd] at H
  refine callsIn_of_wp Try.func49 rfl h49 ?_ hro
  simp only [Try.ntmps49, List.size_toArray, List.length_cons, List.length_nil, Nat.reduceAdd, Nat.reduceSub, Array.replicate_succ, Array.replicate_zero, List.push_toArray, List.append_toArray, List.nil_append, List.cons_append]
  gi_wp2_with fail
  refine (H.out _).mono ?_
  rintro e w1 ⟨rfl, rfl⟩
  have h0' := hJ _ _ _ none h0 (World.grownBy_alloc W (.cells #[.int .i64 t.e, .int .i64 (d : Int), .int .i64 t.l0, .int .i64 t.l1, .int .i64 t.l2, .int .i64 t.l3] 24) none) (by simp)
  have HB := Lib.hid (KeepB.alloc hlt (.cells #[.int .i64 t.e, .int .i64 (d : Int), .int .i64 t.l0, .int .i64 t.l1, .int .i64 t.l2, .int .i64 t.l3] 24))
  have hcc : ∀ k, k < 4 → W.cell? ⟨Bt, 2 + k, none⟩ = some (.int .i64 (cntAt t k)) := by
    intro k hk
    have : k = 0 ∨ k = 1 ∨ k = 2 ∨ k = 3 := by omega
    rcases this with rfl | rfl | rfl | rfl <;> simp [cntAt, c2, c3, c4, c5]
  have hsl : ∀ w, (Instr.sliceAt 22 (.pointer (some ⟨Bt, 2, none⟩)) none (some (.int .i64 (d : Int))) none).run Try.prog w = .ok (.slice (some ⟨Bt, 2, none⟩) d 4) w := slice_L Bt d hd4
  have HCC := Lib.hid hcc
  clear hcc
  gi_wp2
  gi_loopw [13] (fun i wr => ∃ k : Nat, k ≤ d ∧ i = .int .i64 k ∧ J (upto (cn t hc) k) wr ∧ KeepB Bt W wr)
    (fun i _ => d - (intOf i).toNat)
  case atStart => exact ⟨0, Nat.zero_le _, rfl, h0', HB.out⟩
  case round =>
    obtain ⟨k, hk, rfl, hJs, hnx⟩ := hrel
    by_cases hlk : k < d
    · obtain ⟨fn, tmps, assign, body, hy, hR⟩ := hY _ (cn t hc k) wr hJs (by rw [upto_length]; exact hlk)
      dsimp only [cn] at hy
      have hcx : wr.cell? ⟨Bt, 2 + k, none⟩ = some (.int .i64 (cntAt t k)) := (hnx.cell _).trans (HCC.out k (by omega))
      have HX := Lib.hid hnx
      have HR := Lib.hid hR
      clear hnx hR
      gi_wp2
      refine HR.out.mono ?_
      rintro e W3 (⟨rfl, hJ3, hk3⟩ | ⟨rfl, hJx3⟩)
      · gi_wp2
        go_roundw
        case rel => exact ⟨k + 1, by omega, by simp, by rw [upto_succ]; exact hJ3, HX.out.trans hk3⟩
        case measure => simp [intOf]; omega
      · gi_wp2
        refine bodyPost_ret (results_none rfl _ _ _) rfl ?_
        exact ⟨⟨_, rfl⟩, .inr ⟨_, ⟨k + 1, by omega, (upto_succ _ _).symm⟩, hJx3⟩⟩
    · obtain rfl : k = d := by omega
      gi_wp2
      go_end0
      exact ⟨⟨_, rfl⟩, .inl ⟨_, rfl, hJs⟩⟩

/-- Loops(t): the closure, and the box that it captures -/
theorem loops_in (n : Nat) (t : Tm) (w : World) :
    CallsIn Fence.wide n Try.prog 39 #[.agg #[.int .i64 t.e, .int .i64 t.d, .int .i64 t.l0, .int .i64 t.l1, .int .i64 t.l2, .int .i64 t.l3]] w fun e w' =>
      e = .returned (.func (.func 49) #[] #[.pointer (some ⟨w.heap.size, 0, none⟩)]) ∧ w' = w.alloc (.cells #[.int .i64 t.e, .int .i64 t.d, .int .i64 t.l0, .int .i64 t.l1, .int .i64 t.l2, .int .i64 t.l3] 24) := by
  refine callsIn_of_wp Try.func39 rfl trivial ?_ rfl
  simp only [Try.ntmps39, List.size_toArray, List.length_cons, List.length_nil, Nat.reduceAdd, Nat.reduceSub, Array.replicate_succ, Array.replicate_zero, List.push_toArray, List.append_toArray, List.nil_append, List.cons_append]
  gi_wp2
  go_ret
  exact ⟨rfl, rfl⟩

theorem loops_stops_yes (n : Nat) (hn : 1 ≤ n) (Bt : Nat) (t : Tm) (d : Nat) (hd : t.d = (d : Int)) (hc : Chk t) (w : World) (hB : Bt < w.heap.size)
    (hcell : ∀ k, k < 6 → w.cell? ⟨Bt, k, none⟩ = some (.int .i64 ([t.e, (d : Int), t.l0, t.l1, t.l2, t.l3][k]?.getD 0))) :
    SeqStopsK Fence.wide n Try.prog 49 #[.pointer (some ⟨Bt, 0, none⟩)] (fun x : Cn => #[.int .i64 (x.1.1 : Int), .int .i64 x.1.2]) (KeepB Bt) (fun ys => ys = upto (cn t hc) d)
      (fun pre => ∃ k, k ≤ d ∧ pre = upto (cn t hc) k) d w := fun l J Jx W hW hJ _ hY h0 => by
  have hc' : ∀ k, k < 6 → W.cell? ⟨Bt, k, none⟩ = some (.int .i64 ([t.e, (d : Int), t.l0, t.l1, t.l2, t.l3][k]?.getD 0)) := fun k hk => (hW.cell (p := ⟨Bt, k, none⟩) hB).trans (hcell k hk)
  exact loops1_yes Fence.wide n trivial trivial rfl rfl hn l Bt t d hd hc J Jx W hJ (Nat.lt_of_lt_of_le hB hW.size) hY (hc' 0 (by omega)) (hc' 1 (by omega)) (hc' 2 (by omega)) (hc' 3 (by omega)) (hc' 4 (by omega)) (hc' 5 (by omega)) h0
end Go.Proofs.Ytedccllpbajbfaa
