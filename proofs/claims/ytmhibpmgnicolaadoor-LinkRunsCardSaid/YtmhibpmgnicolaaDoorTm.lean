/-
  Times, in plain Lean.
-/
namespace Go.Proofs.YtmhibpmgnicolaaDoor

structure Tm where
  e : Int
  d : Int
  l0 : Int
  l1 : Int
  l2 : Int
  l3 : Int
  deriving DecidableEq

/-- a counter at place i of a time with d counters -/
def Lok (d i n : Int) : Prop := 0 ≤ n ∧ n ≤ 1048576 ∧ (d ≤ i → n = 0)
instance (d i n : Int) : Decidable (Lok d i n) := by unfold Lok; exact inferInstance
def Chk (t : Tm) : Prop :=
  0 ≤ t.e ∧ t.e ≤ 1073741824 ∧ 0 ≤ t.d ∧ t.d ≤ 4 ∧ Lok t.d 0 t.l0 ∧ Lok t.d 1 t.l1 ∧ Lok t.d 2 t.l2 ∧ Lok t.d 3 t.l3
instance (t : Tm) : Decidable (Chk t) := by unfold Chk; exact inferInstance
def chkE (t : Tm) : Int := if Chk t then 0 else 10
theorem chkE_yes {t : Tm} (h : Chk t) : 0 = chkE t := (if_pos h).symm
theorem chkE_no {t : Tm} (h : ¬ Chk t) : 10 = chkE t := (if_neg h).symm

end Go.Proofs.YtmhibpmgnicolaaDoor
