/-
  DERIVED. GIVEN WITH THE SEED: THE CARDS: each row of YtgfijlamhjjecaaGreatDoorRows.lean that lists a variable, with what it lists TIED to the program's text (the seventh form; the later family's looks); each row that meets fmt, with fmt's text TOLD by the authors' own Lean function (tested against real Go, not proved from fmt's source: count such statements apart). THE CARD IS WHAT COUNTS. Prove the row's statement (the work); the ties are given (YtgfijlamhjjecaaGreatDoorTie.lean); close each card by the builder's one call (the guide's Derived/Test/ToyasCard.lean, 'card_holds'). Laid BY PROGRAM, IN A SANDBOX (cutbox-door.mjs). By AI agents, Wed Nov 11 2026. No macro, syntax, notation, axiom, sorry.
-/
import Derived.Test.YtgfijlamhjjecaaGreatDoorRows
import GoSem.ClaimSeven
namespace Go.Proofs.YtgfijlamhjjecaaGreatDoor
namespace Rows

/-- THE TIED CARD OF 'tarmaclaw10.MsgWraps'. -/
def msgWrapsCard : Claim7 := { stood := { row := msgWrapsRow, standIns := [], harness := (true, "a81039e66d42198399c94aeb1f8f590259bf3445cdd47cb1da20de2e0250377c"), looks := true }, kinds := [], alts := [], laidByText := true, laidKinds := [.data, .data, .data, .sentinel, .sentinel], laidTests := true, laidLooks := .later }
def MsgWrapsCardSaid : Prop := Claim7.holds Tryz.pinned (.plain (OpenSpec.ofChange msgWrapsSpec)) msgWrapsCard

/-- THE TIED CARD OF 'tarmaclaw10.MsgPackets'. -/
def msgPacketsCard : Claim7 := { stood := { row := msgPacketsRow, standIns := [], harness := (true, "a81039e66d42198399c94aeb1f8f590259bf3445cdd47cb1da20de2e0250377c"), looks := true }, kinds := [], alts := [], laidByText := true, laidKinds := [.data, .data, .data, .sentinel, .sentinel], laidTests := true, laidLooks := .later }
def MsgPacketsCardSaid : Prop := Claim7.holds Tryz.pinned (.plain (OpenSpec.ofChange msgPacketsSpec)) msgPacketsCard

/-- THE TIED CARD OF 'tarmaclaw10.MsgTexts'. -/
def msgTextsCard : Claim7 := { stood := { row := msgTextsRow, standIns := [], harness := (true, "a81039e66d42198399c94aeb1f8f590259bf3445cdd47cb1da20de2e0250377c"), looks := true }, kinds := [], alts := [], laidByText := true, laidKinds := [.data, .data, .data, .sentinel, .sentinel], laidTests := true, laidLooks := .later }
def MsgTextsCardSaid : Prop := Claim7.holds Tryz.pinned (.plain (OpenSpec.ofChange msgTextsSpec)) msgTextsCard

/-- THE TIED CARD OF 'tarmaclaw10.MsgKnown'. -/
def msgKnownCard : Claim7 := { stood := { row := msgKnownRow, standIns := [], harness := (true, "a81039e66d42198399c94aeb1f8f590259bf3445cdd47cb1da20de2e0250377c"), looks := true }, kinds := [], alts := [], laidByText := true, laidKinds := [.data, .data, .data, .sentinel, .sentinel], laidTests := true, laidLooks := .later }
def MsgKnownCardSaid : Prop := Claim7.holds Tryz.pinned (.plain (OpenSpec.ofChange msgKnownSpec)) msgKnownCard

/-- THE TIED CARD OF 'tarmaclaw11.SealMakes'. -/
def sealMakesCard : Claim7 := { stood := { row := sealMakesRow, standIns := [], harness := (true, "a81039e66d42198399c94aeb1f8f590259bf3445cdd47cb1da20de2e0250377c"), looks := true }, kinds := [], alts := [], laidByText := true, laidKinds := [.data, .data, .data, .sentinel, .sentinel, .data], laidTests := true, laidLooks := .later }
def SealMakesCardSaid : Prop := Claim7.holds Tryz.pinned (.plain (OpenSpec.ofChange sealMakesSpec)) sealMakesCard

/-- THE TIED CARD OF 'tarmaclaw11.SealOpens'. -/
def sealOpensCard : Claim7 := { stood := { row := sealOpensRow, standIns := [], harness := (true, "a81039e66d42198399c94aeb1f8f590259bf3445cdd47cb1da20de2e0250377c"), looks := true }, kinds := [], alts := [], laidByText := true, laidKinds := [.data, .data, .data, .sentinel, .sentinel, .data], laidTests := true, laidLooks := .later }
def SealOpensCardSaid : Prop := Claim7.holds Tryz.pinned (.plain (OpenSpec.ofChange sealOpensSpec)) sealOpensCard

/-- THE TIED CARD OF 'tarmaclaw11.SealNil'. -/
def sealNilCard : Claim7 := { stood := { row := sealNilRow, standIns := [], harness := (true, "a81039e66d42198399c94aeb1f8f590259bf3445cdd47cb1da20de2e0250377c"), looks := true }, kinds := [], alts := [], laidByText := true, laidKinds := [.data, .data, .data, .sentinel, .sentinel, .data], laidTests := true, laidLooks := .later }
def SealNilCardSaid : Prop := Claim7.holds Tryz.pinned (.plain (OpenSpec.ofChange sealNilSpec)) sealNilCard

/-- THE TIED CARD OF 'tarmaclaw11.SealBack'. -/
def sealBackCard : Claim7 := { stood := { row := sealBackRow, standIns := [], harness := (true, "a81039e66d42198399c94aeb1f8f590259bf3445cdd47cb1da20de2e0250377c"), looks := true }, kinds := [], alts := [], laidByText := true, laidKinds := [.data, .data, .data, .sentinel, .sentinel, .data], laidTests := true, laidLooks := .later }
def SealBackCardSaid : Prop := Claim7.holds Tryz.pinned (.plain (OpenSpec.ofChange sealBackSpec)) sealBackCard

/-- THE TIED CARD OF 'tarmaclaw11.SealForged'. -/
def sealForgedCard : Claim7 := { stood := { row := sealForgedRow, standIns := [], harness := (true, "a81039e66d42198399c94aeb1f8f590259bf3445cdd47cb1da20de2e0250377c"), looks := true }, kinds := [], alts := [], laidByText := true, laidKinds := [.data, .data, .data, .sentinel, .sentinel, .data], laidTests := true, laidLooks := .later }
def SealForgedCardSaid : Prop := Claim7.holds Tryz.pinned (.plain (OpenSpec.ofChange sealForgedSpec)) sealForgedCard

/-- THE TIED CARD OF 'tarmaclaw11.SealRings'. -/
def sealRingsCard : Claim7 := { stood := { row := sealRingsRow, standIns := [], harness := (true, "a81039e66d42198399c94aeb1f8f590259bf3445cdd47cb1da20de2e0250377c"), looks := true }, kinds := [], alts := [], laidByText := true, laidKinds := [.data, .data, .data, .sentinel, .sentinel, .data], laidTests := true, laidLooks := .later }
def SealRingsCardSaid : Prop := Claim7.holds Tryz.pinned (.plain (OpenSpec.ofChange sealRingsSpec)) sealRingsCard

/-- THE SECOND FORM's CARD OF 'tarmaclaw10.MsgWraps'. -/
def msgWrapsUptoCard : Claim7 := { stood := { row := msgWrapsUptoRow, standIns := [], harness := (true, "a81039e66d42198399c94aeb1f8f590259bf3445cdd47cb1da20de2e0250377c"), looks := true }, kinds := [], alts := [], laidByText := true, laidKinds := [.data, .data, .data, .sentinel, .sentinel], laidTests := true, laidLooks := .later }
def MsgWrapsUptoCardSaid : Prop := Claim7.holds Tryz.pinned (.plain (OpenSpec.upto msgWrapsSpec)) msgWrapsUptoCard

/-- THE SECOND FORM's CARD OF 'tarmaclaw10.MsgPackets'. -/
def msgPacketsUptoCard : Claim7 := { stood := { row := msgPacketsUptoRow, standIns := [], harness := (true, "a81039e66d42198399c94aeb1f8f590259bf3445cdd47cb1da20de2e0250377c"), looks := true }, kinds := [], alts := [], laidByText := true, laidKinds := [.data, .data, .data, .sentinel, .sentinel], laidTests := true, laidLooks := .later }
def MsgPacketsUptoCardSaid : Prop := Claim7.holds Tryz.pinned (.plain (OpenSpec.upto msgPacketsSpec)) msgPacketsUptoCard

/-- THE SECOND FORM's CARD OF 'tarmaclaw10.MsgTexts'. -/
def msgTextsUptoCard : Claim7 := { stood := { row := msgTextsUptoRow, standIns := [], harness := (true, "a81039e66d42198399c94aeb1f8f590259bf3445cdd47cb1da20de2e0250377c"), looks := true }, kinds := [], alts := [], laidByText := true, laidKinds := [.data, .data, .data, .sentinel, .sentinel], laidTests := true, laidLooks := .later }
def MsgTextsUptoCardSaid : Prop := Claim7.holds Tryz.pinned (.plain (OpenSpec.upto msgTextsSpec)) msgTextsUptoCard

/-- THE SECOND FORM's CARD OF 'tarmaclaw10.MsgKnown'. -/
def msgKnownUptoCard : Claim7 := { stood := { row := msgKnownUptoRow, standIns := [], harness := (true, "a81039e66d42198399c94aeb1f8f590259bf3445cdd47cb1da20de2e0250377c"), looks := true }, kinds := [], alts := [], laidByText := true, laidKinds := [.data, .data, .data, .sentinel, .sentinel], laidTests := true, laidLooks := .later }
def MsgKnownUptoCardSaid : Prop := Claim7.holds Tryz.pinned (.plain (OpenSpec.upto msgKnownSpec)) msgKnownUptoCard

/-- THE SECOND FORM's CARD OF 'tarmaclaw11.SealMakes'. -/
def sealMakesUptoCard : Claim7 := { stood := { row := sealMakesUptoRow, standIns := [], harness := (true, "a81039e66d42198399c94aeb1f8f590259bf3445cdd47cb1da20de2e0250377c"), looks := true }, kinds := [], alts := [], laidByText := true, laidKinds := [.data, .data, .data, .sentinel, .sentinel, .data], laidTests := true, laidLooks := .later }
def SealMakesUptoCardSaid : Prop := Claim7.holds Tryz.pinned (.plain (OpenSpec.upto sealMakesSpec)) sealMakesUptoCard

/-- THE SECOND FORM's CARD OF 'tarmaclaw11.SealOpens'. -/
def sealOpensUptoCard : Claim7 := { stood := { row := sealOpensUptoRow, standIns := [], harness := (true, "a81039e66d42198399c94aeb1f8f590259bf3445cdd47cb1da20de2e0250377c"), looks := true }, kinds := [], alts := [], laidByText := true, laidKinds := [.data, .data, .data, .sentinel, .sentinel, .data], laidTests := true, laidLooks := .later }
def SealOpensUptoCardSaid : Prop := Claim7.holds Tryz.pinned (.plain (OpenSpec.upto sealOpensSpec)) sealOpensUptoCard

/-- THE SECOND FORM's CARD OF 'tarmaclaw11.SealNil'. -/
def sealNilUptoCard : Claim7 := { stood := { row := sealNilUptoRow, standIns := [], harness := (true, "a81039e66d42198399c94aeb1f8f590259bf3445cdd47cb1da20de2e0250377c"), looks := true }, kinds := [], alts := [], laidByText := true, laidKinds := [.data, .data, .data, .sentinel, .sentinel, .data], laidTests := true, laidLooks := .later }
def SealNilUptoCardSaid : Prop := Claim7.holds Tryz.pinned (.plain (OpenSpec.upto sealNilSpec)) sealNilUptoCard

/-- THE SECOND FORM's CARD OF 'tarmaclaw11.SealBack'. -/
def sealBackUptoCard : Claim7 := { stood := { row := sealBackUptoRow, standIns := [], harness := (true, "a81039e66d42198399c94aeb1f8f590259bf3445cdd47cb1da20de2e0250377c"), looks := true }, kinds := [], alts := [], laidByText := true, laidKinds := [.data, .data, .data, .sentinel, .sentinel, .data], laidTests := true, laidLooks := .later }
def SealBackUptoCardSaid : Prop := Claim7.holds Tryz.pinned (.plain (OpenSpec.upto sealBackSpec)) sealBackUptoCard

/-- THE SECOND FORM's CARD OF 'tarmaclaw11.SealForged'. -/
def sealForgedUptoCard : Claim7 := { stood := { row := sealForgedUptoRow, standIns := [], harness := (true, "a81039e66d42198399c94aeb1f8f590259bf3445cdd47cb1da20de2e0250377c"), looks := true }, kinds := [], alts := [], laidByText := true, laidKinds := [.data, .data, .data, .sentinel, .sentinel, .data], laidTests := true, laidLooks := .later }
def SealForgedUptoCardSaid : Prop := Claim7.holds Tryz.pinned (.plain (OpenSpec.upto sealForgedSpec)) sealForgedUptoCard

/-- THE SECOND FORM's CARD OF 'tarmaclaw11.SealRings'. -/
def sealRingsUptoCard : Claim7 := { stood := { row := sealRingsUptoRow, standIns := [], harness := (true, "a81039e66d42198399c94aeb1f8f590259bf3445cdd47cb1da20de2e0250377c"), looks := true }, kinds := [], alts := [], laidByText := true, laidKinds := [.data, .data, .data, .sentinel, .sentinel, .data], laidTests := true, laidLooks := .later }
def SealRingsUptoCardSaid : Prop := Claim7.holds Tryz.pinned (.plain (OpenSpec.upto sealRingsSpec)) sealRingsUptoCard
end Rows
end Go.Proofs.YtgfijlamhjjecaaGreatDoor
