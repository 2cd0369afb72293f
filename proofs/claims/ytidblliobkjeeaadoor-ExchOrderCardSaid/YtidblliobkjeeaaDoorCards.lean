/-
  DERIVED. GIVEN WITH THE SEED: THE CARDS: each row of YtidblliobkjeeaaDoorRows.lean that lists a variable, with what it lists TIED to the program's text (the seventh form; the later family's looks); each row that meets fmt, with fmt's text TOLD by the authors' own Lean function (tested against real Go, not proved from fmt's source: count such statements apart). THE CARD IS WHAT COUNTS. Prove the row's statement (the work); the ties are given (YtidblliobkjeeaaDoorTie.lean); close each card by the builder's one call (the guide's Derived/Test/ToyasCard.lean, 'card_holds'). Laid BY PROGRAM, IN A SANDBOX (cutbox-door.mjs). By AI agents, Wed Nov 11 2026. No macro, syntax, notation, axiom, sorry.
-/
import Derived.Test.YtidblliobkjeeaaDoorRows
import GoSem.ClaimSeven
namespace Go.Proofs.YtidblliobkjeeaaDoor
namespace Rows

/-- THE TIED CARD OF 'rivuletlaw14.ExchHashes'. -/
def exchHashesCard : Claim7 := { stood := { row := exchHashesRow, standIns := [], harness := (true, "74404434a81a9174d227ed5ea570f1aea3993cd08b59eefa1fa1f3c36ca8086b"), looks := false }, kinds := [], alts := [], laidByText := true, laidKinds := [.data, .pinned], laidTests := true, laidLooks := .later }
def ExchHashesCardSaid : Prop := Claim7.holds Tryd.pinned (.plain (OpenSpec.ofChange exchHashesSpec)) exchHashesCard

/-- THE TIED CARD OF 'rivuletlaw14.ExchOrder'. -/
def exchOrderCard : Claim7 := { stood := { row := exchOrderRow, standIns := [], harness := (true, "74404434a81a9174d227ed5ea570f1aea3993cd08b59eefa1fa1f3c36ca8086b"), looks := false }, kinds := [], alts := [], laidByText := true, laidKinds := [.data, .pinned], laidTests := true, laidLooks := .later }
def ExchOrderCardSaid : Prop := Claim7.holds Tryd.pinned (.plain (OpenSpec.ofChange exchOrderSpec)) exchOrderCard

/-- THE TIED CARD OF 'rivuletlaw14.ExchEach'. -/
def exchEachCard : Claim7 := { stood := { row := exchEachRow, standIns := [], harness := (true, "74404434a81a9174d227ed5ea570f1aea3993cd08b59eefa1fa1f3c36ca8086b"), looks := false }, kinds := [], alts := [], laidByText := true, laidKinds := [.data, .pinned], laidTests := true, laidLooks := .later }
def ExchEachCardSaid : Prop := Claim7.holds Tryd.pinned (.plain (OpenSpec.ofChange exchEachSpec)) exchEachCard

/-- THE TIED CARD OF 'rivuletlaw14.ExchParts'. -/
def exchPartsCard : Claim7 := { stood := { row := exchPartsRow, standIns := [], harness := (true, "74404434a81a9174d227ed5ea570f1aea3993cd08b59eefa1fa1f3c36ca8086b"), looks := false }, kinds := [], alts := [], laidByText := true, laidKinds := [.data, .pinned], laidTests := true, laidLooks := .later }
def ExchPartsCardSaid : Prop := Claim7.holds Tryd.pinned (.plain (OpenSpec.ofChange exchPartsSpec)) exchPartsCard

/-- THE SECOND FORM's CARD OF 'rivuletlaw14.ExchHashes'. -/
def exchHashesUptoCard : Claim7 := { stood := { row := exchHashesUptoRow, standIns := [], harness := (true, "74404434a81a9174d227ed5ea570f1aea3993cd08b59eefa1fa1f3c36ca8086b"), looks := false }, kinds := [], alts := [], laidByText := true, laidKinds := [.data, .pinned], laidTests := true, laidLooks := .later }
def ExchHashesUptoCardSaid : Prop := Claim7.holds Tryd.pinned (.plain (OpenSpec.upto exchHashesSpec)) exchHashesUptoCard

/-- THE SECOND FORM's CARD OF 'rivuletlaw14.ExchOrder'. -/
def exchOrderUptoCard : Claim7 := { stood := { row := exchOrderUptoRow, standIns := [], harness := (true, "74404434a81a9174d227ed5ea570f1aea3993cd08b59eefa1fa1f3c36ca8086b"), looks := false }, kinds := [], alts := [], laidByText := true, laidKinds := [.data, .pinned], laidTests := true, laidLooks := .later }
def ExchOrderUptoCardSaid : Prop := Claim7.holds Tryd.pinned (.plain (OpenSpec.upto exchOrderSpec)) exchOrderUptoCard

/-- THE SECOND FORM's CARD OF 'rivuletlaw14.ExchEach'. -/
def exchEachUptoCard : Claim7 := { stood := { row := exchEachUptoRow, standIns := [], harness := (true, "74404434a81a9174d227ed5ea570f1aea3993cd08b59eefa1fa1f3c36ca8086b"), looks := false }, kinds := [], alts := [], laidByText := true, laidKinds := [.data, .pinned], laidTests := true, laidLooks := .later }
def ExchEachUptoCardSaid : Prop := Claim7.holds Tryd.pinned (.plain (OpenSpec.upto exchEachSpec)) exchEachUptoCard

/-- THE SECOND FORM's CARD OF 'rivuletlaw14.ExchParts'. -/
def exchPartsUptoCard : Claim7 := { stood := { row := exchPartsUptoRow, standIns := [], harness := (true, "74404434a81a9174d227ed5ea570f1aea3993cd08b59eefa1fa1f3c36ca8086b"), looks := false }, kinds := [], alts := [], laidByText := true, laidKinds := [.data, .pinned], laidTests := true, laidLooks := .later }
def ExchPartsUptoCardSaid : Prop := Claim7.holds Tryd.pinned (.plain (OpenSpec.upto exchPartsSpec)) exchPartsUptoCard
end Rows
end Go.Proofs.YtidblliobkjeeaaDoor
