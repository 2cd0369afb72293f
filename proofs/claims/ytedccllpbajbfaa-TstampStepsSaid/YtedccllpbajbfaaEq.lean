/-
  '==' and '!=' at times.
-/
import Derived.Test.YtedccllpbajbfaaProg
import Derived.Test.YtedccllpbajbfaaPlainC
import Derived.Handy
import Derived.Laws.StructEq
import Derived.KernelRfl
import Derived.ChangeKeysEq
namespace Go.Proofs.Ytedccllpbajbfaa
open Go.RowKit

def eqB (a b : Tm) : Bool := a.e == b.e && a.d == b.d && a.l0 == b.l0 && a.l1 == b.l1 && a.l2 == b.l2 && a.l3 == b.l3
theorem eqB_self (a : Tm) : eqB a a = true := by simp [eqB]
theorem eqB_iff (a b : Tm) : eqB a b = true ↔ a = b := by
  constructor
  · intro h
    simp [eqB] at h
    exact Tm.ext' h.1.1.1.1.1 h.1.1.1.1.2 h.1.1.1.2 h.1.1.2 h.1.2 h.2
  · rintro rfl; exact eqB_self a

theorem arr_eq (x0 x1 x2 x3 y0 y1 y2 y3 : Int) (w : World) : (Op.equalIn 9999 22 (.agg #[.int .i64 x0, .int .i64 x1, .int .i64 x2, .int .i64 x3]) (.agg #[.int .i64 y0, .int .i64 y1, .int .i64 y2, .int .i64 y3])).run Try.prog w =
    .ok (x0 == y0 && x1 == y1 && x2 == y2 && x3 == y3) w := by
  have u2 := Try.underlying2
  have hC : Try.prog.cellsOf 2 = 1 := by kernel_rfl
  obtain ⟨i2, hi2⟩ : ∃ i, Try.prog.info? 2 = some i := ⟨_, rfl⟩
  rw [show (9999 : Nat) = 9998 + 1 from rfl, run_equalIn_array w 9998 _ _ Try.underlying22 hi2, hC]
  have p0 : ∀ (c0 c1 c2 c3 : Int) (w : World), (part 2 #[.int .i64 c0, .int .i64 c1, .int .i64 c2, .int .i64 c3] 0).run Try.prog w = .ok (.int .i64 c0) w := fun _ _ _ _ _ => by simp [part, isAgg, run_underlying u2]
  have p1 : ∀ (c0 c1 c2 c3 : Int) (w : World), (part 2 #[.int .i64 c0, .int .i64 c1, .int .i64 c2, .int .i64 c3] 1).run Try.prog w = .ok (.int .i64 c1) w := fun _ _ _ _ _ => by simp [part, isAgg, run_underlying u2]
  have p2 : ∀ (c0 c1 c2 c3 : Int) (w : World), (part 2 #[.int .i64 c0, .int .i64 c1, .int .i64 c2, .int .i64 c3] 2).run Try.prog w = .ok (.int .i64 c2) w := fun _ _ _ _ _ => by simp [part, isAgg, run_underlying u2]
  have p3 : ∀ (c0 c1 c2 c3 : Int) (w : World), (part 2 #[.int .i64 c0, .int .i64 c1, .int .i64 c2, .int .i64 c3] 3).run Try.prog w = .ok (.int .i64 c3) w := fun _ _ _ _ _ => by simp [part, isAgg, run_underlying u2]
  have he := fun a b w => run_equalIn_int (P := Try.prog) w 9997 2 .i64 .i64 a b u2
  simp only [Nat.reduceAdd] at he
  rw [show List.range 4 = [0, 1, 2, 3] from rfl]
  simp only [Op.eqItems, Sem.run_bind, Nat.mul_one, p0, Result.andThen_ok, he]
  by_cases h0 : x0 = y0
  · by_cases h1 : x1 = y1
    · by_cases h2 : x2 = y2
      · by_cases h3 : x3 = y3
        · simp [h0, h1, h2, h3, p1, p2, p3, he]
        · simp [h0, h1, h2, h3, p1, p2, p3, he]
      · simp [h0, h1, h2, p1, p2, he]
    · simp [h0, h1, p1, he]
  · simp [h0]

theorem eql_tm (a b : Tm) (w : World) : (binOp .eql 24 (.agg #[.int .i64 a.e, .int .i64 a.d, .int .i64 a.l0, .int .i64 a.l1, .int .i64 a.l2, .int .i64 a.l3]) (.agg #[.int .i64 b.e, .int .i64 b.d, .int .i64 b.l0, .int .i64 b.l1, .int .i64 b.l2, .int .i64 b.l3])).run Try.prog w =
    .ok (.bool (eqB a b)) w := by
  have ha := arr_eq a.l0 a.l1 a.l2 a.l3 b.l0 b.l1 b.l2 b.l3
  have hS : Try.prog.underlying 24 = some (.struct (Try.prog.fieldsOf 24)) := by kernel_rfl
  have hp : Try.prog.stoodInHeld 24 = false := by kernel_rfl
  rw [run_eql_struct, show (10000 : Nat) = 9999 + 1 from rfl, run_equalIn_agg w 9999 24 _ _ hS hp]
  simp only [Program.fieldsOf, Try.underlying24]
  go_simp
  unfold eqB
  by_cases h0 : a.e = b.e <;> by_cases h1 : a.d = b.d <;> by_cases h2 : a.l0 = b.l0 <;> by_cases h3 : a.l1 = b.l1 <;> by_cases h4 : a.l2 = b.l2 <;> by_cases h5 : a.l3 = b.l3 <;> simp [h0, h1, h2, h3, h4, h5]
theorem neq_tm (a b : Tm) (w : World) : (binOp .neq 24 (.agg #[.int .i64 a.e, .int .i64 a.d, .int .i64 a.l0, .int .i64 a.l1, .int .i64 a.l2, .int .i64 a.l3]) (.agg #[.int .i64 b.e, .int .i64 b.d, .int .i64 b.l0, .int .i64 b.l1, .int .i64 b.l2, .int .i64 b.l3])).run Try.prog w =
    .ok (.bool (!eqB a b)) w := by
  have h := eql_tm a b w
  rw [run_eql_struct] at h
  rw [run_neq_struct]
  generalize (Op.equalIn 10000 24 _ _).run Try.prog w = r at *
  cases r with
  | ok b' w' =>
    simp [Result.andThen] at h ⊢
    exact ⟨by rw [h.1], h.2⟩
  | halt x w' => simp [Result.andThen] at h
end Go.Proofs.Ytedccllpbajbfaa
