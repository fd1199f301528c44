/-
  DERIVED. GIVEN WITH THE SEED: THE CARDS: each row of YtfbiffdldfkmpaaGreatDoorRows.lean that lists a variable, with what it lists TIED to the program's text (the seventh form; the later family's looks); each row that meets fmt, with fmt's text TOLD by the authors' own Lean function (tested against real Go, not proved from fmt's source: count such statements apart). THE CARD IS WHAT COUNTS. Prove the row's statement (the work); the ties are given (YtfbiffdldfkmpaaGreatDoorTie.lean); close each card by the builder's one call (the guide's Derived/Test/ToyasCard.lean, 'card_holds'). Laid BY PROGRAM, IN A SANDBOX (cutbox-door.mjs). By AI agents, Wed Nov 11 2026. No macro, syntax, notation, axiom, sorry.
-/
import Derived.Test.YtfbiffdldfkmpaaGreatDoorRows
import GoSem.ClaimSeven
namespace Go.Proofs.YtfbiffdldfkmpaaGreatDoor
namespace Rows

/-- THE TIED CARD OF 'tarmaclaw10.MsgWraps'. -/
def msgWrapsCard : Claim7 := { stood := { row := msgWrapsRow, standIns := [], harness := (true, "14113e1b7c045576ae06361dbdaf9461c59cb7290d5467dbf1167518c5b9c653"), looks := true }, kinds := [], alts := [], laidByText := true, laidKinds := [.data, .data, .data, .sentinel, .sentinel], laidTests := true, laidLooks := .later }
def MsgWrapsCardSaid : Prop := Claim7.holds Tryz.pinned (.plain (OpenSpec.ofChange msgWrapsSpec)) msgWrapsCard

/-- THE TIED CARD OF 'tarmaclaw10.MsgPackets'. -/
def msgPacketsCard : Claim7 := { stood := { row := msgPacketsRow, standIns := [], harness := (true, "14113e1b7c045576ae06361dbdaf9461c59cb7290d5467dbf1167518c5b9c653"), looks := true }, kinds := [], alts := [], laidByText := true, laidKinds := [.data, .data, .data, .sentinel, .sentinel], laidTests := true, laidLooks := .later }
def MsgPacketsCardSaid : Prop := Claim7.holds Tryz.pinned (.plain (OpenSpec.ofChange msgPacketsSpec)) msgPacketsCard

/-- THE TIED CARD OF 'tarmaclaw10.MsgTexts'. -/
def msgTextsCard : Claim7 := { stood := { row := msgTextsRow, standIns := [], harness := (true, "14113e1b7c045576ae06361dbdaf9461c59cb7290d5467dbf1167518c5b9c653"), looks := true }, kinds := [], alts := [], laidByText := true, laidKinds := [.data, .data, .data, .sentinel, .sentinel], laidTests := true, laidLooks := .later }
def MsgTextsCardSaid : Prop := Claim7.holds Tryz.pinned (.plain (OpenSpec.ofChange msgTextsSpec)) msgTextsCard

/-- THE TIED CARD OF 'tarmaclaw10.MsgBack'. -/
def msgBackCard : Claim7 := { stood := { row := msgBackRow, standIns := [], harness := (true, "14113e1b7c045576ae06361dbdaf9461c59cb7290d5467dbf1167518c5b9c653"), looks := true }, kinds := [], alts := [], laidByText := true, laidKinds := [.data, .data, .data, .sentinel, .sentinel], laidTests := true, laidLooks := .later }
def MsgBackCardSaid : Prop := Claim7.holds Tryz.pinned (.plain (OpenSpec.ofChange msgBackSpec)) msgBackCard

/-- THE TIED CARD OF 'tarmaclaw10.MsgOnce'. -/
def msgOnceCard : Claim7 := { stood := { row := msgOnceRow, standIns := [], harness := (true, "14113e1b7c045576ae06361dbdaf9461c59cb7290d5467dbf1167518c5b9c653"), looks := true }, kinds := [], alts := [], laidByText := true, laidKinds := [.data, .data, .data, .sentinel, .sentinel], laidTests := true, laidLooks := .later }
def MsgOnceCardSaid : Prop := Claim7.holds Tryz.pinned (.plain (OpenSpec.ofChange msgOnceSpec)) msgOnceCard

/-- THE TIED CARD OF 'tarmaclaw10.MsgParts'. -/
def msgPartsCard : Claim7 := { stood := { row := msgPartsRow, standIns := [], harness := (true, "14113e1b7c045576ae06361dbdaf9461c59cb7290d5467dbf1167518c5b9c653"), looks := true }, kinds := [], alts := [], laidByText := true, laidKinds := [.data, .data, .data, .sentinel, .sentinel], laidTests := true, laidLooks := .later }
def MsgPartsCardSaid : Prop := Claim7.holds Tryz.pinned (.plain (OpenSpec.ofChange msgPartsSpec)) msgPartsCard

/-- THE TIED CARD OF 'tarmaclaw10.MsgKnown'. -/
def msgKnownCard : Claim7 := { stood := { row := msgKnownRow, standIns := [], harness := (true, "14113e1b7c045576ae06361dbdaf9461c59cb7290d5467dbf1167518c5b9c653"), looks := true }, kinds := [], alts := [], laidByText := true, laidKinds := [.data, .data, .data, .sentinel, .sentinel], laidTests := true, laidLooks := .later }
def MsgKnownCardSaid : Prop := Claim7.holds Tryz.pinned (.plain (OpenSpec.ofChange msgKnownSpec)) msgKnownCard

/-- THE TIED CARD OF 'tarmaclaw10.MsgKinds'. -/
def msgKindsCard : Claim7 := { stood := { row := msgKindsRow, standIns := [], harness := (true, "14113e1b7c045576ae06361dbdaf9461c59cb7290d5467dbf1167518c5b9c653"), looks := true }, kinds := [], alts := [], laidByText := true, laidKinds := [.data, .data, .data, .sentinel, .sentinel], laidTests := true, laidLooks := .later }
def MsgKindsCardSaid : Prop := Claim7.holds Tryz.pinned (.plain (OpenSpec.ofChange msgKindsSpec)) msgKindsCard

/-- THE SECOND FORM's CARD OF 'tarmaclaw10.MsgWraps'. -/
def msgWrapsUptoCard : Claim7 := { stood := { row := msgWrapsUptoRow, standIns := [], harness := (true, "14113e1b7c045576ae06361dbdaf9461c59cb7290d5467dbf1167518c5b9c653"), looks := true }, kinds := [], alts := [], laidByText := true, laidKinds := [.data, .data, .data, .sentinel, .sentinel], laidTests := true, laidLooks := .later }
def MsgWrapsUptoCardSaid : Prop := Claim7.holds Tryz.pinned (.plain (OpenSpec.upto msgWrapsSpec)) msgWrapsUptoCard

/-- THE SECOND FORM's CARD OF 'tarmaclaw10.MsgPackets'. -/
def msgPacketsUptoCard : Claim7 := { stood := { row := msgPacketsUptoRow, standIns := [], harness := (true, "14113e1b7c045576ae06361dbdaf9461c59cb7290d5467dbf1167518c5b9c653"), looks := true }, kinds := [], alts := [], laidByText := true, laidKinds := [.data, .data, .data, .sentinel, .sentinel], laidTests := true, laidLooks := .later }
def MsgPacketsUptoCardSaid : Prop := Claim7.holds Tryz.pinned (.plain (OpenSpec.upto msgPacketsSpec)) msgPacketsUptoCard

/-- THE SECOND FORM's CARD OF 'tarmaclaw10.MsgTexts'. -/
def msgTextsUptoCard : Claim7 := { stood := { row := msgTextsUptoRow, standIns := [], harness := (true, "14113e1b7c045576ae06361dbdaf9461c59cb7290d5467dbf1167518c5b9c653"), looks := true }, kinds := [], alts := [], laidByText := true, laidKinds := [.data, .data, .data, .sentinel, .sentinel], laidTests := true, laidLooks := .later }
def MsgTextsUptoCardSaid : Prop := Claim7.holds Tryz.pinned (.plain (OpenSpec.upto msgTextsSpec)) msgTextsUptoCard

/-- THE SECOND FORM's CARD OF 'tarmaclaw10.MsgBack'. -/
def msgBackUptoCard : Claim7 := { stood := { row := msgBackUptoRow, standIns := [], harness := (true, "14113e1b7c045576ae06361dbdaf9461c59cb7290d5467dbf1167518c5b9c653"), looks := true }, kinds := [], alts := [], laidByText := true, laidKinds := [.data, .data, .data, .sentinel, .sentinel], laidTests := true, laidLooks := .later }
def MsgBackUptoCardSaid : Prop := Claim7.holds Tryz.pinned (.plain (OpenSpec.upto msgBackSpec)) msgBackUptoCard

/-- THE SECOND FORM's CARD OF 'tarmaclaw10.MsgOnce'. -/
def msgOnceUptoCard : Claim7 := { stood := { row := msgOnceUptoRow, standIns := [], harness := (true, "14113e1b7c045576ae06361dbdaf9461c59cb7290d5467dbf1167518c5b9c653"), looks := true }, kinds := [], alts := [], laidByText := true, laidKinds := [.data, .data, .data, .sentinel, .sentinel], laidTests := true, laidLooks := .later }
def MsgOnceUptoCardSaid : Prop := Claim7.holds Tryz.pinned (.plain (OpenSpec.upto msgOnceSpec)) msgOnceUptoCard

/-- THE SECOND FORM's CARD OF 'tarmaclaw10.MsgParts'. -/
def msgPartsUptoCard : Claim7 := { stood := { row := msgPartsUptoRow, standIns := [], harness := (true, "14113e1b7c045576ae06361dbdaf9461c59cb7290d5467dbf1167518c5b9c653"), looks := true }, kinds := [], alts := [], laidByText := true, laidKinds := [.data, .data, .data, .sentinel, .sentinel], laidTests := true, laidLooks := .later }
def MsgPartsUptoCardSaid : Prop := Claim7.holds Tryz.pinned (.plain (OpenSpec.upto msgPartsSpec)) msgPartsUptoCard

/-- THE SECOND FORM's CARD OF 'tarmaclaw10.MsgKnown'. -/
def msgKnownUptoCard : Claim7 := { stood := { row := msgKnownUptoRow, standIns := [], harness := (true, "14113e1b7c045576ae06361dbdaf9461c59cb7290d5467dbf1167518c5b9c653"), looks := true }, kinds := [], alts := [], laidByText := true, laidKinds := [.data, .data, .data, .sentinel, .sentinel], laidTests := true, laidLooks := .later }
def MsgKnownUptoCardSaid : Prop := Claim7.holds Tryz.pinned (.plain (OpenSpec.upto msgKnownSpec)) msgKnownUptoCard

/-- THE SECOND FORM's CARD OF 'tarmaclaw10.MsgKinds'. -/
def msgKindsUptoCard : Claim7 := { stood := { row := msgKindsUptoRow, standIns := [], harness := (true, "14113e1b7c045576ae06361dbdaf9461c59cb7290d5467dbf1167518c5b9c653"), looks := true }, kinds := [], alts := [], laidByText := true, laidKinds := [.data, .data, .data, .sentinel, .sentinel], laidTests := true, laidLooks := .later }
def MsgKindsUptoCardSaid : Prop := Claim7.holds Tryz.pinned (.plain (OpenSpec.upto msgKindsSpec)) msgKindsUptoCard
end Rows
end Go.Proofs.YtfbiffdldfkmpaaGreatDoor
