/-
  DERIVED. GIVEN WITH THE SEED: THE CARDS: each row of YtmhibpmgnicolaaDoorRows.lean that lists a variable, with what it lists TIED to the program's text (the seventh form; the later family's looks); each row that meets fmt, with fmt's text TOLD by the authors' own Lean function (tested against real Go, not proved from fmt's source: count such statements apart). THE CARD IS WHAT COUNTS. Prove the row's statement (the work); the ties are given (YtmhibpmgnicolaaDoorTie.lean); close each card by the builder's one call (the guide's Derived/Test/ToyasCard.lean, 'card_holds'). Laid BY PROGRAM, IN A SANDBOX (cutbox-door.mjs). By AI agents, Wed Nov 11 2026. No macro, syntax, notation, axiom, sorry.
-/
import Derived.Test.YtmhibpmgnicolaaDoorRows
import GoSem.ClaimSeven
namespace Go.Proofs.YtmhibpmgnicolaaDoor
namespace Rows

/-- THE TIED CARD OF 'rivuletlaw13.LinkRuns'. -/
def linkRunsCard : Claim7 := { stood := { row := linkRunsRow, standIns := [], harness := (true, "a49f271843c14815832d4a5253f0f46d508fb4f90cce59116ebd1fe70fc02c77"), looks := false }, kinds := [], alts := [], laidByText := true, laidKinds := [.data, .pinned], laidTests := true, laidLooks := .later }
def LinkRunsCardSaid : Prop := Claim7.holds Tryd.pinned (.plain (OpenSpec.ofChange linkRunsSpec)) linkRunsCard

/-- THE TIED CARD OF 'rivuletlaw13.LinkNone'. -/
def linkNoneCard : Claim7 := { stood := { row := linkNoneRow, standIns := [], harness := (true, "a49f271843c14815832d4a5253f0f46d508fb4f90cce59116ebd1fe70fc02c77"), looks := false }, kinds := [], alts := [], laidByText := true, laidKinds := [.data, .pinned], laidTests := true, laidLooks := .later }
def LinkNoneCardSaid : Prop := Claim7.holds Tryd.pinned (.plain (OpenSpec.ofChange linkNoneSpec)) linkNoneCard

/-- THE TIED CARD OF 'rivuletlaw13.LinkMsgs'. -/
def linkMsgsCard : Claim7 := { stood := { row := linkMsgsRow, standIns := [], harness := (true, "a49f271843c14815832d4a5253f0f46d508fb4f90cce59116ebd1fe70fc02c77"), looks := false }, kinds := [], alts := [], laidByText := true, laidKinds := [.data, .pinned], laidTests := true, laidLooks := .later }
def LinkMsgsCardSaid : Prop := Claim7.holds Tryd.pinned (.plain (OpenSpec.ofChange linkMsgsSpec)) linkMsgsCard

/-- THE TIED CARD OF 'rivuletlaw13.LinkOrder'. -/
def linkOrderCard : Claim7 := { stood := { row := linkOrderRow, standIns := [], harness := (true, "a49f271843c14815832d4a5253f0f46d508fb4f90cce59116ebd1fe70fc02c77"), looks := false }, kinds := [], alts := [], laidByText := true, laidKinds := [.data, .pinned], laidTests := true, laidLooks := .later }
def LinkOrderCardSaid : Prop := Claim7.holds Tryd.pinned (.plain (OpenSpec.ofChange linkOrderSpec)) linkOrderCard

/-- THE TIED CARD OF 'rivuletlaw13.LinkAgain'. -/
def linkAgainCard : Claim7 := { stood := { row := linkAgainRow, standIns := [], harness := (true, "a49f271843c14815832d4a5253f0f46d508fb4f90cce59116ebd1fe70fc02c77"), looks := false }, kinds := [], alts := [], laidByText := true, laidKinds := [.data, .pinned], laidTests := true, laidLooks := .later }
def LinkAgainCardSaid : Prop := Claim7.holds Tryd.pinned (.plain (OpenSpec.ofChange linkAgainSpec)) linkAgainCard

/-- THE SECOND FORM's CARD OF 'rivuletlaw13.LinkRuns'. -/
def linkRunsUptoCard : Claim7 := { stood := { row := linkRunsUptoRow, standIns := [], harness := (true, "a49f271843c14815832d4a5253f0f46d508fb4f90cce59116ebd1fe70fc02c77"), looks := false }, kinds := [], alts := [], laidByText := true, laidKinds := [.data, .pinned], laidTests := true, laidLooks := .later }
def LinkRunsUptoCardSaid : Prop := Claim7.holds Tryd.pinned (.plain (OpenSpec.upto linkRunsSpec)) linkRunsUptoCard

/-- THE SECOND FORM's CARD OF 'rivuletlaw13.LinkNone'. -/
def linkNoneUptoCard : Claim7 := { stood := { row := linkNoneUptoRow, standIns := [], harness := (true, "a49f271843c14815832d4a5253f0f46d508fb4f90cce59116ebd1fe70fc02c77"), looks := false }, kinds := [], alts := [], laidByText := true, laidKinds := [.data, .pinned], laidTests := true, laidLooks := .later }
def LinkNoneUptoCardSaid : Prop := Claim7.holds Tryd.pinned (.plain (OpenSpec.upto linkNoneSpec)) linkNoneUptoCard

/-- THE SECOND FORM's CARD OF 'rivuletlaw13.LinkMsgs'. -/
def linkMsgsUptoCard : Claim7 := { stood := { row := linkMsgsUptoRow, standIns := [], harness := (true, "a49f271843c14815832d4a5253f0f46d508fb4f90cce59116ebd1fe70fc02c77"), looks := false }, kinds := [], alts := [], laidByText := true, laidKinds := [.data, .pinned], laidTests := true, laidLooks := .later }
def LinkMsgsUptoCardSaid : Prop := Claim7.holds Tryd.pinned (.plain (OpenSpec.upto linkMsgsSpec)) linkMsgsUptoCard

/-- THE SECOND FORM's CARD OF 'rivuletlaw13.LinkOrder'. -/
def linkOrderUptoCard : Claim7 := { stood := { row := linkOrderUptoRow, standIns := [], harness := (true, "a49f271843c14815832d4a5253f0f46d508fb4f90cce59116ebd1fe70fc02c77"), looks := false }, kinds := [], alts := [], laidByText := true, laidKinds := [.data, .pinned], laidTests := true, laidLooks := .later }
def LinkOrderUptoCardSaid : Prop := Claim7.holds Tryd.pinned (.plain (OpenSpec.upto linkOrderSpec)) linkOrderUptoCard

/-- THE SECOND FORM's CARD OF 'rivuletlaw13.LinkAgain'. -/
def linkAgainUptoCard : Claim7 := { stood := { row := linkAgainUptoRow, standIns := [], harness := (true, "a49f271843c14815832d4a5253f0f46d508fb4f90cce59116ebd1fe70fc02c77"), looks := false }, kinds := [], alts := [], laidByText := true, laidKinds := [.data, .pinned], laidTests := true, laidLooks := .later }
def LinkAgainUptoCardSaid : Prop := Claim7.holds Tryd.pinned (.plain (OpenSpec.upto linkAgainSpec)) linkAgainUptoCard
end Rows
end Go.Proofs.YtmhibpmgnicolaaDoor
