/-
  DERIVED. GIVEN WITH THE SEED: THE CARDS: each row of YteaaiejfieaalaaGreatDoorRows.lean that lists a variable, with what it lists TIED to the program's text (the seventh form; the later family's looks); each row that meets fmt, with fmt's text TOLD by the authors' own Lean function (tested against real Go, not proved from fmt's source: count such statements apart). THE CARD IS WHAT COUNTS. Prove the row's statement (the work); the ties are given (YteaaiejfieaalaaGreatDoorTie.lean); close each card by the builder's one call (the guide's Derived/Test/ToyasCard.lean, 'card_holds'). Laid BY PROGRAM, IN A SANDBOX (cutbox-door.mjs). By AI agents, Wed Nov 11 2026. No macro, syntax, notation, axiom, sorry.
-/
import Derived.Test.YteaaiejfieaalaaGreatDoorRows
import GoSem.ClaimSeven
namespace Go.Proofs.YteaaiejfieaalaaGreatDoor
namespace Rows

/-- THE TIED CARD OF 'tarmaclaw04.WrapParses'. -/
def wrapParsesCard : Claim7 := { stood := { row := wrapParsesRow, standIns := [], harness := (true, "1aae2c026d41d77442ba6d85f790a41d1415811702e4d62207411f2455ff5a34"), looks := true }, kinds := [], alts := [], laidByText := true, laidKinds := [.data, .data, .data, .sentinel, .sentinel], laidTests := true, laidLooks := .later }
def WrapParsesCardSaid : Prop := Claim7.holds Tryz.pinned (.plain (OpenSpec.ofChange wrapParsesSpec)) wrapParsesCard

/-- THE TIED CARD OF 'tarmaclaw04.WrapPrints'. -/
def wrapPrintsCard : Claim7 := { stood := { row := wrapPrintsRow, standIns := [], harness := (true, "1aae2c026d41d77442ba6d85f790a41d1415811702e4d62207411f2455ff5a34"), looks := true }, kinds := [], alts := [], laidByText := true, laidKinds := [.data, .data, .data, .sentinel, .sentinel], laidTests := true, laidLooks := .later }
def WrapPrintsCardSaid : Prop := Claim7.holds Tryz.pinned (.plain (OpenSpec.ofChange wrapPrintsSpec)) wrapPrintsCard

/-- THE TIED CARD OF 'tarmaclaw04.WrapBack'. -/
def wrapBackCard : Claim7 := { stood := { row := wrapBackRow, standIns := [], harness := (true, "1aae2c026d41d77442ba6d85f790a41d1415811702e4d62207411f2455ff5a34"), looks := true }, kinds := [], alts := [], laidByText := true, laidKinds := [.data, .data, .data, .sentinel, .sentinel], laidTests := true, laidLooks := .later }
def WrapBackCardSaid : Prop := Claim7.holds Tryz.pinned (.plain (OpenSpec.ofChange wrapBackSpec)) wrapBackCard

/-- THE TIED CARD OF 'tarmaclaw04.WrapCounts'. -/
def wrapCountsCard : Claim7 := { stood := { row := wrapCountsRow, standIns := [], harness := (true, "1aae2c026d41d77442ba6d85f790a41d1415811702e4d62207411f2455ff5a34"), looks := true }, kinds := [], alts := [], laidByText := true, laidKinds := [.data, .data, .data, .sentinel, .sentinel], laidTests := true, laidLooks := .later }
def WrapCountsCardSaid : Prop := Claim7.holds Tryz.pinned (.plain (OpenSpec.ofChange wrapCountsSpec)) wrapCountsCard

/-- THE TIED CARD OF 'tarmaclaw04.WrapKnown'. -/
def wrapKnownCard : Claim7 := { stood := { row := wrapKnownRow, standIns := [], harness := (true, "1aae2c026d41d77442ba6d85f790a41d1415811702e4d62207411f2455ff5a34"), looks := true }, kinds := [], alts := [], laidByText := true, laidKinds := [.data, .data, .data, .sentinel, .sentinel], laidTests := true, laidLooks := .later }
def WrapKnownCardSaid : Prop := Claim7.holds Tryz.pinned (.plain (OpenSpec.ofChange wrapKnownSpec)) wrapKnownCard

/-- THE TIED CARD OF 'tarmaclaw04.WrapHeads'. -/
def wrapHeadsCard : Claim7 := { stood := { row := wrapHeadsRow, standIns := [], harness := (true, "1aae2c026d41d77442ba6d85f790a41d1415811702e4d62207411f2455ff5a34"), looks := true }, kinds := [], alts := [], laidByText := true, laidKinds := [.data, .data, .data, .sentinel, .sentinel], laidTests := true, laidLooks := .later }
def WrapHeadsCardSaid : Prop := Claim7.holds Tryz.pinned (.plain (OpenSpec.ofChange wrapHeadsSpec)) wrapHeadsCard

/-- THE SECOND FORM's CARD OF 'tarmaclaw04.WrapParses'. -/
def wrapParsesUptoCard : Claim7 := { stood := { row := wrapParsesUptoRow, standIns := [], harness := (true, "1aae2c026d41d77442ba6d85f790a41d1415811702e4d62207411f2455ff5a34"), looks := true }, kinds := [], alts := [], laidByText := true, laidKinds := [.data, .data, .data, .sentinel, .sentinel], laidTests := true, laidLooks := .later }
def WrapParsesUptoCardSaid : Prop := Claim7.holds Tryz.pinned (.plain (OpenSpec.upto wrapParsesSpec)) wrapParsesUptoCard

/-- THE SECOND FORM's CARD OF 'tarmaclaw04.WrapPrints'. -/
def wrapPrintsUptoCard : Claim7 := { stood := { row := wrapPrintsUptoRow, standIns := [], harness := (true, "1aae2c026d41d77442ba6d85f790a41d1415811702e4d62207411f2455ff5a34"), looks := true }, kinds := [], alts := [], laidByText := true, laidKinds := [.data, .data, .data, .sentinel, .sentinel], laidTests := true, laidLooks := .later }
def WrapPrintsUptoCardSaid : Prop := Claim7.holds Tryz.pinned (.plain (OpenSpec.upto wrapPrintsSpec)) wrapPrintsUptoCard

/-- THE SECOND FORM's CARD OF 'tarmaclaw04.WrapBack'. -/
def wrapBackUptoCard : Claim7 := { stood := { row := wrapBackUptoRow, standIns := [], harness := (true, "1aae2c026d41d77442ba6d85f790a41d1415811702e4d62207411f2455ff5a34"), looks := true }, kinds := [], alts := [], laidByText := true, laidKinds := [.data, .data, .data, .sentinel, .sentinel], laidTests := true, laidLooks := .later }
def WrapBackUptoCardSaid : Prop := Claim7.holds Tryz.pinned (.plain (OpenSpec.upto wrapBackSpec)) wrapBackUptoCard

/-- THE SECOND FORM's CARD OF 'tarmaclaw04.WrapCounts'. -/
def wrapCountsUptoCard : Claim7 := { stood := { row := wrapCountsUptoRow, standIns := [], harness := (true, "1aae2c026d41d77442ba6d85f790a41d1415811702e4d62207411f2455ff5a34"), looks := true }, kinds := [], alts := [], laidByText := true, laidKinds := [.data, .data, .data, .sentinel, .sentinel], laidTests := true, laidLooks := .later }
def WrapCountsUptoCardSaid : Prop := Claim7.holds Tryz.pinned (.plain (OpenSpec.upto wrapCountsSpec)) wrapCountsUptoCard

/-- THE SECOND FORM's CARD OF 'tarmaclaw04.WrapKnown'. -/
def wrapKnownUptoCard : Claim7 := { stood := { row := wrapKnownUptoRow, standIns := [], harness := (true, "1aae2c026d41d77442ba6d85f790a41d1415811702e4d62207411f2455ff5a34"), looks := true }, kinds := [], alts := [], laidByText := true, laidKinds := [.data, .data, .data, .sentinel, .sentinel], laidTests := true, laidLooks := .later }
def WrapKnownUptoCardSaid : Prop := Claim7.holds Tryz.pinned (.plain (OpenSpec.upto wrapKnownSpec)) wrapKnownUptoCard

/-- THE SECOND FORM's CARD OF 'tarmaclaw04.WrapHeads'. -/
def wrapHeadsUptoCard : Claim7 := { stood := { row := wrapHeadsUptoRow, standIns := [], harness := (true, "1aae2c026d41d77442ba6d85f790a41d1415811702e4d62207411f2455ff5a34"), looks := true }, kinds := [], alts := [], laidByText := true, laidKinds := [.data, .data, .data, .sentinel, .sentinel], laidTests := true, laidLooks := .later }
def WrapHeadsUptoCardSaid : Prop := Claim7.holds Tryz.pinned (.plain (OpenSpec.upto wrapHeadsSpec)) wrapHeadsUptoCard
end Rows
end Go.Proofs.YteaaiejfieaalaaGreatDoor
