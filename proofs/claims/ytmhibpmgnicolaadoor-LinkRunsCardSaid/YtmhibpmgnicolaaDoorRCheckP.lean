/-
  What the reference's Check reckons is the same.
-/
import Derived.Test.YtmhibpmgnicolaaDoorRBare
import Derived.Test.YtmhibpmgnicolaaDoorCheckM
import Derived.Test.YtmhibpmgnicolaaDoorRMSame
import Derived.Test.YtmhibpmgnicolaaDoorRGood
namespace Go.Proofs.YtmhibpmgnicolaaDoor
open Go.RowKit
attribute [local go_sem] Dr.upT

def condK (m : Msg) : Bool := if m.kind = 1 then decide (Chk m.t) && goodR m.recs else if m.kind = 2 then goodC m.chs else if m.kind = 3 then decide (0 ≤ m.cut) && decide (m.cut ≤ 1073741824)
  else if m.kind = 5 then (m.yes || m.ents.length == 0) && decide (m.ents.length ≤ 1024) else if m.kind = 6 then (m.yes || m.ents.length == 0) && decide (m.ents.length ≤ 1024) && (m.yes == (m.why == 0)) else true
def okM (m : Msg) : Bool := decide (1 ≤ m.kind) && decide (m.kind ≤ 6) && decide (0 ≤ m.ver) && decide (useM m = m)
theorem chk_eq (m : Msg) : chkM m = if okM m && condK m then 0 else 130 := by
  obtain ⟨kd, ve, p1, p2, t, rl, cl, dl, pl, ml, cu, el, ye, wy⟩ := m
  unfold chkM okM condK restM useM bareM mzero endB
  by_cases h1 : kd = 1
  · subst h1; simp [@eq_comm Int 0]; congr 1; apply propext; constructor <;> (intro h; simp_all)
  by_cases h2 : kd = 2
  · subst h2; simp [@eq_comm Int 0, @eq_comm Tm ⟨0, 0, 0, 0, 0, 0⟩]; congr 1; apply propext; constructor <;> (intro h; simp_all)
  by_cases h3 : kd = 3
  · subst h3; simp [@eq_comm Int 0, @eq_comm Tm ⟨0, 0, 0, 0, 0, 0⟩]; congr 1; apply propext; constructor <;> (intro h; simp_all)
  by_cases h4 : kd = 4
  · subst h4; simp [@eq_comm Int 0, @eq_comm Tm ⟨0, 0, 0, 0, 0, 0⟩]
  by_cases h5 : kd = 5
  · subst h5; simp [@eq_comm Int 0, @eq_comm Tm ⟨0, 0, 0, 0, 0, 0⟩]; congr 1; apply propext; constructor <;> (intro h; simp_all)
  by_cases h6 : kd = 6
  · subst h6
    rcases ye with _ | _
    · by_cases hw : wy = 0
      · subst hw; simp
      · simp [hw, @eq_comm Int 0, @eq_comm Tm ⟨0, 0, 0, 0, 0, 0⟩]; congr 1; apply propext; constructor <;> (intro h; simp_all)
    · by_cases hw : wy = 0
      · subst hw; simp [@eq_comm Int 0, @eq_comm Tm ⟨0, 0, 0, 0, 0, 0⟩]; congr 1; apply propext; constructor <;> (intro h; simp_all)
      · simp [hw]
  · simp only [h1, h2, h3, h4, h5, h6, if_false, Bool.false_eq_true, false_and]
    rw [if_neg]
    simp
    intro a b
    omega
end Go.Proofs.YtmhibpmgnicolaaDoor
