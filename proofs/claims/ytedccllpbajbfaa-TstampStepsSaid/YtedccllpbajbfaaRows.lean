/-
  No cell of these rows narrows 'for every input' (looked for: loops, veiled, ifaces, maps, wideKeys, modest, calm, conditions, laid).
  DERIVED. THE GIVEN ROWS OF THIS SEAT. 7 by the template 'for every input the law returns true; each argument reads behind the call as it read before'; 0 by the template 'total and deterministic' (their statements: YtedccllpbajbfaaTotals.lean).
  GIVEN WITH THE SEED: the statements are not yours to turn. If you find one false, say at which input.
  Laid BY PROGRAM, IN A SANDBOX (cutbox-rows.mjs): the forced cells as the released guide's own fill.sh prints them over the translation d4a448b445659dd8… (all of the seat's roots in one cut). By AI agents, Wed Nov 11 2026. No macro, syntax, notation, axiom, sorry.
-/
import Derived.Test.YtedccllpbajbfaaChecked
import GoSem.Claim
import GoSem.ClaimJoined
import GoSem.ClaimMapViews
import Derived.JoinedTies
import Derived.KernelRfl
namespace Go.Proofs.Ytedccllpbajbfaa
/- THE CELL 'sum', in the pinned program and in every row, IS THE sha256 OF THE DUMP (.gsa) THAT YtedccllpbajbfaaProg.lean LOADS. Nothing in Lean hashes anything: it is a label: what it is worth is what the hold of that sum in a sandbox is worth. -/
noncomputable def Try.pinned : Pinned := { name := "ytedccllpbajbfaa", sum := "d4a448b445659dd8a407d9a361dd0f29e6fb2e2ba40b74a3ac18457d8fc14320", checked := Try.checked }
namespace Rows
def none {H : Type} : Left H := { results := [], args := [] }

/-- 'rivuletlaw01.TstampInOut': WHATEVER THE INPUT: true; the input reads as it did. -/
def tstampInOutSpec : ChangeSpec := { name := "tstampInOut", fn := fun _ => fun
  | [d1, d2] => { results := [.lit (.bool true)], args := [d1, d2] }
  | _ => none }
def tstampInOutRow : OpenClaim := { program := "ytedccllpbajbfaa", sum := "d4a448b445659dd8a407d9a361dd0f29e6fb2e2ba40b74a3ac18457d8fc14320", func := "rivulet/rivuletlaw01.TstampInOut", spec := "tstampInOut", unfollowed := true, recurses := true, apart := false }
def TstampInOutSaid : Prop := tstampInOutRow.holds Try.pinned (OpenSpec.ofChange tstampInOutSpec)

/-- ITS FALSE NEIGHBOUR: 'it returns false'. Refute it at one input. -/
def tstampInOutWrong : ChangeSpec := { name := "tstampInOut", fn := fun _ => fun
  | [d1, d2] => { results := [.lit (.bool false)], args := [d1, d2] }
  | _ => none }
def TstampInOutWrongFalsely : Prop := tstampInOutRow.holds Try.pinned (OpenSpec.ofChange tstampInOutWrong)

/-- 'rivuletlaw01.TstampMakes': WHATEVER THE INPUT: true; the input reads as it did. -/
def tstampMakesSpec : ChangeSpec := { name := "tstampMakes", fn := fun _ => fun
  | [d1, d2, d3] => { results := [.lit (.bool true)], args := [d1, d2, d3] }
  | _ => none }
def tstampMakesRow : OpenClaim := { program := "ytedccllpbajbfaa", sum := "d4a448b445659dd8a407d9a361dd0f29e6fb2e2ba40b74a3ac18457d8fc14320", func := "rivulet/rivuletlaw01.TstampMakes", spec := "tstampMakes", unfollowed := true, recurses := true, apart := false }
def TstampMakesSaid : Prop := tstampMakesRow.holds Try.pinned (OpenSpec.ofChange tstampMakesSpec)

/-- ITS FALSE NEIGHBOUR: 'it returns false'. Refute it at one input. -/
def tstampMakesWrong : ChangeSpec := { name := "tstampMakes", fn := fun _ => fun
  | [d1, d2, d3] => { results := [.lit (.bool false)], args := [d1, d2, d3] }
  | _ => none }
def TstampMakesWrongFalsely : Prop := tstampMakesRow.holds Try.pinned (OpenSpec.ofChange tstampMakesWrong)

/-- 'rivuletlaw01.TstampBack': WHATEVER THE INPUT: true; the input reads as it did. -/
def tstampBackSpec : ChangeSpec := { name := "tstampBack", fn := fun _ => fun
  | [d1, d2] => { results := [.lit (.bool true)], args := [d1, d2] }
  | _ => none }
def tstampBackRow : OpenClaim := { program := "ytedccllpbajbfaa", sum := "d4a448b445659dd8a407d9a361dd0f29e6fb2e2ba40b74a3ac18457d8fc14320", func := "rivulet/rivuletlaw01.TstampBack", spec := "tstampBack", unfollowed := true, recurses := true, apart := false }
def TstampBackSaid : Prop := tstampBackRow.holds Try.pinned (OpenSpec.ofChange tstampBackSpec)

/-- ITS FALSE NEIGHBOUR: 'it returns false'. Refute it at one input. -/
def tstampBackWrong : ChangeSpec := { name := "tstampBack", fn := fun _ => fun
  | [d1, d2] => { results := [.lit (.bool false)], args := [d1, d2] }
  | _ => none }
def TstampBackWrongFalsely : Prop := tstampBackRow.holds Try.pinned (OpenSpec.ofChange tstampBackWrong)

/-- 'rivuletlaw01.TstampOrder': WHATEVER THE INPUT: true; the input reads as it did. -/
def tstampOrderSpec : ChangeSpec := { name := "tstampOrder", fn := fun _ => fun
  | [d1, d2, d3] => { results := [.lit (.bool true)], args := [d1, d2, d3] }
  | _ => none }
def tstampOrderRow : OpenClaim := { program := "ytedccllpbajbfaa", sum := "d4a448b445659dd8a407d9a361dd0f29e6fb2e2ba40b74a3ac18457d8fc14320", func := "rivulet/rivuletlaw01.TstampOrder", spec := "tstampOrder", unfollowed := true, recurses := true, apart := false }
def TstampOrderSaid : Prop := tstampOrderRow.holds Try.pinned (OpenSpec.ofChange tstampOrderSpec)

/-- ITS FALSE NEIGHBOUR: 'it returns false'. Refute it at one input. -/
def tstampOrderWrong : ChangeSpec := { name := "tstampOrder", fn := fun _ => fun
  | [d1, d2, d3] => { results := [.lit (.bool false)], args := [d1, d2, d3] }
  | _ => none }
def TstampOrderWrongFalsely : Prop := tstampOrderRow.holds Try.pinned (OpenSpec.ofChange tstampOrderWrong)

/-- 'rivuletlaw01.TstampSteps': WHATEVER THE INPUT: true; the input reads as it did. -/
def tstampStepsSpec : ChangeSpec := { name := "tstampSteps", fn := fun _ => fun
  | [d1, d2] => { results := [.lit (.bool true)], args := [d1, d2] }
  | _ => none }
def tstampStepsRow : OpenClaim := { program := "ytedccllpbajbfaa", sum := "d4a448b445659dd8a407d9a361dd0f29e6fb2e2ba40b74a3ac18457d8fc14320", func := "rivulet/rivuletlaw01.TstampSteps", spec := "tstampSteps", unfollowed := true, recurses := true, apart := false }
def TstampStepsSaid : Prop := tstampStepsRow.holds Try.pinned (OpenSpec.ofChange tstampStepsSpec)

/-- ITS FALSE NEIGHBOUR: 'it returns false'. Refute it at one input. -/
def tstampStepsWrong : ChangeSpec := { name := "tstampSteps", fn := fun _ => fun
  | [d1, d2] => { results := [.lit (.bool false)], args := [d1, d2] }
  | _ => none }
def TstampStepsWrongFalsely : Prop := tstampStepsRow.holds Try.pinned (OpenSpec.ofChange tstampStepsWrong)

/-- 'rivuletlaw01.TstampOrders': WHATEVER THE INPUT: true; the input reads as it did. -/
def tstampOrdersSpec : ChangeSpec := { name := "tstampOrders", fn := fun _ => fun
  | [d1, d2] => { results := [.lit (.bool true)], args := [d1, d2] }
  | _ => none }
def tstampOrdersRow : OpenClaim := { program := "ytedccllpbajbfaa", sum := "d4a448b445659dd8a407d9a361dd0f29e6fb2e2ba40b74a3ac18457d8fc14320", func := "rivulet/rivuletlaw01.TstampOrders", spec := "tstampOrders", unfollowed := true, recurses := true, apart := false }
def TstampOrdersSaid : Prop := tstampOrdersRow.holds Try.pinned (OpenSpec.ofChange tstampOrdersSpec)

/-- ITS FALSE NEIGHBOUR: 'it returns false'. Refute it at one input. -/
def tstampOrdersWrong : ChangeSpec := { name := "tstampOrders", fn := fun _ => fun
  | [d1, d2] => { results := [.lit (.bool false)], args := [d1, d2] }
  | _ => none }
def TstampOrdersWrongFalsely : Prop := tstampOrdersRow.holds Try.pinned (OpenSpec.ofChange tstampOrdersWrong)

/-- 'rivuletlaw01.TstampAhead': WHATEVER THE INPUT: true; the input reads as it did. -/
def tstampAheadSpec : ChangeSpec := { name := "tstampAhead", fn := fun _ => fun
  | [d1, d2, d3] => { results := [.lit (.bool true)], args := [d1, d2, d3] }
  | _ => none }
def tstampAheadRow : OpenClaim := { program := "ytedccllpbajbfaa", sum := "d4a448b445659dd8a407d9a361dd0f29e6fb2e2ba40b74a3ac18457d8fc14320", func := "rivulet/rivuletlaw01.TstampAhead", spec := "tstampAhead", unfollowed := true, recurses := true, apart := false }
def TstampAheadSaid : Prop := tstampAheadRow.holds Try.pinned (OpenSpec.ofChange tstampAheadSpec)

/-- ITS FALSE NEIGHBOUR: 'it returns false'. Refute it at one input. -/
def tstampAheadWrong : ChangeSpec := { name := "tstampAhead", fn := fun _ => fun
  | [d1, d2, d3] => { results := [.lit (.bool false)], args := [d1, d2, d3] }
  | _ => none }
def TstampAheadWrongFalsely : Prop := tstampAheadRow.holds Try.pinned (OpenSpec.ofChange tstampAheadWrong)

/- THE SECOND FORM. 'bulk': how many values and letters a reading holds, each counted each time it is reached (what is shared counts as often as it is met; a slice's spare places count too). A statement '..UptoSaid' is the law's where the arguments, and the package variables that the reading takes, are together of bulk at most 1048576: NARROWER than '..Said'. Prove '..Said' where nothing that the law and all that it calls make is longer than what came in: it says more and counts as full. Else prove '..UptoSaid'. A law counts once. -/
mutual
def uptoBulk {H : Type} : DataW H → Nat
  | .lit (.string bytes) => bytes.length + 1
  | .lit _ => 1
  | .nil => 1
  | .ptr d => uptoBulk d + 1
  | .slice elems spare => uptoBulkAll elems + uptoBulkAll spare + 1
  | .agg parts => uptoBulkAll parts + 1
  | .iface _ d => uptoBulk d + 1
  | .map entries => uptoBulkEntries entries + 1
  | .held _ => 1
def uptoBulkAll {H : Type} : List (DataW H) → Nat
  | [] => 0
  | d :: r => uptoBulk d + uptoBulkAll r
def uptoBulkEntries {H : Type} : List (Lit × DataW H) → Nat
  | [] => 0
  | x :: r => uptoBulkEntry x + uptoBulkEntries r
def uptoBulkEntry {H : Type} : Lit × DataW H → Nat
  | (.string bytes, d) => bytes.length + uptoBulk d + 1
  | (_, d) => uptoBulk d + 1
 end
def uptoSmall : (H : Type) → List (DataW H) → Bool := fun _ ds => decide (uptoBulkAll ds ≤ 1048576)
def OpenSpec.upto (s : _root_.Go.ChangeSpec) : _root_.Go.OpenSpec := { _root_.Go.OpenSpec.ofChange s with cond := some uptoSmall }

/-- 'rivuletlaw01.TstampInOut', WHERE WHAT IT READS IS OF BULK AT MOST 1048576: true; the input reads as it did. -/
def tstampInOutUptoRow : OpenClaim := { program := "ytedccllpbajbfaa", sum := "d4a448b445659dd8a407d9a361dd0f29e6fb2e2ba40b74a3ac18457d8fc14320", func := "rivulet/rivuletlaw01.TstampInOut", spec := "tstampInOut", unfollowed := true, recurses := true, apart := false, narrowed := true }
def TstampInOutUptoSaid : Prop := tstampInOutUptoRow.holds Try.pinned (OpenSpec.upto tstampInOutSpec)

/-- 'rivuletlaw01.TstampMakes', WHERE WHAT IT READS IS OF BULK AT MOST 1048576: true; the input reads as it did. -/
def tstampMakesUptoRow : OpenClaim := { program := "ytedccllpbajbfaa", sum := "d4a448b445659dd8a407d9a361dd0f29e6fb2e2ba40b74a3ac18457d8fc14320", func := "rivulet/rivuletlaw01.TstampMakes", spec := "tstampMakes", unfollowed := true, recurses := true, apart := false, narrowed := true }
def TstampMakesUptoSaid : Prop := tstampMakesUptoRow.holds Try.pinned (OpenSpec.upto tstampMakesSpec)

/-- 'rivuletlaw01.TstampBack', WHERE WHAT IT READS IS OF BULK AT MOST 1048576: true; the input reads as it did. -/
def tstampBackUptoRow : OpenClaim := { program := "ytedccllpbajbfaa", sum := "d4a448b445659dd8a407d9a361dd0f29e6fb2e2ba40b74a3ac18457d8fc14320", func := "rivulet/rivuletlaw01.TstampBack", spec := "tstampBack", unfollowed := true, recurses := true, apart := false, narrowed := true }
def TstampBackUptoSaid : Prop := tstampBackUptoRow.holds Try.pinned (OpenSpec.upto tstampBackSpec)

/-- 'rivuletlaw01.TstampOrder', WHERE WHAT IT READS IS OF BULK AT MOST 1048576: true; the input reads as it did. -/
def tstampOrderUptoRow : OpenClaim := { program := "ytedccllpbajbfaa", sum := "d4a448b445659dd8a407d9a361dd0f29e6fb2e2ba40b74a3ac18457d8fc14320", func := "rivulet/rivuletlaw01.TstampOrder", spec := "tstampOrder", unfollowed := true, recurses := true, apart := false, narrowed := true }
def TstampOrderUptoSaid : Prop := tstampOrderUptoRow.holds Try.pinned (OpenSpec.upto tstampOrderSpec)

/-- 'rivuletlaw01.TstampSteps', WHERE WHAT IT READS IS OF BULK AT MOST 1048576: true; the input reads as it did. -/
def tstampStepsUptoRow : OpenClaim := { program := "ytedccllpbajbfaa", sum := "d4a448b445659dd8a407d9a361dd0f29e6fb2e2ba40b74a3ac18457d8fc14320", func := "rivulet/rivuletlaw01.TstampSteps", spec := "tstampSteps", unfollowed := true, recurses := true, apart := false, narrowed := true }
def TstampStepsUptoSaid : Prop := tstampStepsUptoRow.holds Try.pinned (OpenSpec.upto tstampStepsSpec)

/-- 'rivuletlaw01.TstampOrders', WHERE WHAT IT READS IS OF BULK AT MOST 1048576: true; the input reads as it did. -/
def tstampOrdersUptoRow : OpenClaim := { program := "ytedccllpbajbfaa", sum := "d4a448b445659dd8a407d9a361dd0f29e6fb2e2ba40b74a3ac18457d8fc14320", func := "rivulet/rivuletlaw01.TstampOrders", spec := "tstampOrders", unfollowed := true, recurses := true, apart := false, narrowed := true }
def TstampOrdersUptoSaid : Prop := tstampOrdersUptoRow.holds Try.pinned (OpenSpec.upto tstampOrdersSpec)

/-- 'rivuletlaw01.TstampAhead', WHERE WHAT IT READS IS OF BULK AT MOST 1048576: true; the input reads as it did. -/
def tstampAheadUptoRow : OpenClaim := { program := "ytedccllpbajbfaa", sum := "d4a448b445659dd8a407d9a361dd0f29e6fb2e2ba40b74a3ac18457d8fc14320", func := "rivulet/rivuletlaw01.TstampAhead", spec := "tstampAhead", unfollowed := true, recurses := true, apart := false, narrowed := true }
def TstampAheadUptoSaid : Prop := tstampAheadUptoRow.holds Try.pinned (OpenSpec.upto tstampAheadSpec)

end Rows
end Go.Proofs.Ytedccllpbajbfaa
