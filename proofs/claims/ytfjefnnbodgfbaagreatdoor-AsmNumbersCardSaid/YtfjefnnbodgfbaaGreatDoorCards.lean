/-
  DERIVED. GIVEN WITH THE SEED: THE CARDS: each row of YtfjefnnbodgfbaaGreatDoorRows.lean that lists a variable, with what it lists TIED to the program's text (the seventh form; the later family's looks); each row that meets fmt, with fmt's text TOLD by the authors' own Lean function (tested against real Go, not proved from fmt's source: count such statements apart). THE CARD IS WHAT COUNTS. Prove the row's statement (the work); the ties are given (YtfjefnnbodgfbaaGreatDoorTie.lean); close each card by the builder's one call (the guide's Derived/Test/ToyasCard.lean, 'card_holds'). Laid BY PROGRAM, IN A SANDBOX (cutbox-door.mjs). By AI agents, Wed Nov 11 2026. No macro, syntax, notation, axiom, sorry.
-/
import Derived.Test.YtfjefnnbodgfbaaGreatDoorRows
import GoSem.ClaimSeven
namespace Go.Proofs.YtfjefnnbodgfbaaGreatDoor
namespace Rows

/-- THE TIED CARD OF 'hatchwaylaw04.AsmParses'. -/
def asmParsesCard : Claim7 := { stood := { row := asmParsesRow, standIns := [], harness := (true, "6e64aa21a5cfe85164258825730b23d177da5a7041fefd3b060be3581ebd08e0"), looks := true }, kinds := [], alts := [], laidByText := true, laidKinds := [.data, .data, .data, .data, .sentinel, .sentinel, .listed, .data, .pinned], laidTests := true, laidLooks := .later }
def AsmParsesCardSaid : Prop := Claim7.holds Tryz.pinned (.plain (OpenSpec.ofChange asmParsesSpec)) asmParsesCard

/-- THE TIED CARD OF 'hatchwaylaw04.AsmShows'. -/
def asmShowsCard : Claim7 := { stood := { row := asmShowsRow, standIns := [], harness := (true, "6e64aa21a5cfe85164258825730b23d177da5a7041fefd3b060be3581ebd08e0"), looks := true }, kinds := [], alts := [], laidByText := true, laidKinds := [.data, .data, .data, .data, .sentinel, .sentinel, .listed, .data, .pinned], laidTests := true, laidLooks := .later }
def AsmShowsCardSaid : Prop := Claim7.holds Tryz.pinned (.plain (OpenSpec.ofChange asmShowsSpec)) asmShowsCard

/-- THE TIED CARD OF 'hatchwaylaw04.AsmOps'. -/
def asmOpsCard : Claim7 := { stood := { row := asmOpsRow, standIns := [], harness := (true, "6e64aa21a5cfe85164258825730b23d177da5a7041fefd3b060be3581ebd08e0"), looks := true }, kinds := [], alts := [], laidByText := true, laidKinds := [.data, .data, .data, .data, .sentinel, .sentinel, .listed, .data, .pinned], laidTests := true, laidLooks := .later }
def AsmOpsCardSaid : Prop := Claim7.holds Tryz.pinned (.plain (OpenSpec.ofChange asmOpsSpec)) asmOpsCard

/-- THE TIED CARD OF 'hatchwaylaw04.AsmBack'. -/
def asmBackCard : Claim7 := { stood := { row := asmBackRow, standIns := [], harness := (true, "6e64aa21a5cfe85164258825730b23d177da5a7041fefd3b060be3581ebd08e0"), looks := true }, kinds := [], alts := [], laidByText := true, laidKinds := [.data, .data, .data, .data, .sentinel, .sentinel, .listed, .data, .pinned], laidTests := true, laidLooks := .later }
def AsmBackCardSaid : Prop := Claim7.holds Tryz.pinned (.plain (OpenSpec.ofChange asmBackSpec)) asmBackCard

/-- THE TIED CARD OF 'hatchwaylaw04.AsmRow'. -/
def asmRowCard : Claim7 := { stood := { row := asmRowRow, standIns := [], harness := (true, "6e64aa21a5cfe85164258825730b23d177da5a7041fefd3b060be3581ebd08e0"), looks := true }, kinds := [], alts := [], laidByText := true, laidKinds := [.data, .data, .data, .data, .sentinel, .sentinel, .listed, .data, .pinned], laidTests := true, laidLooks := .later }
def AsmRowCardSaid : Prop := Claim7.holds Tryz.pinned (.plain (OpenSpec.ofChange asmRowSpec)) asmRowCard

/-- THE TIED CARD OF 'hatchwaylaw04.AsmNumbers'. -/
def asmNumbersCard : Claim7 := { stood := { row := asmNumbersRow, standIns := [], harness := (true, "6e64aa21a5cfe85164258825730b23d177da5a7041fefd3b060be3581ebd08e0"), looks := true }, kinds := [], alts := [], laidByText := true, laidKinds := [.data, .data, .data, .data, .sentinel, .sentinel, .listed, .data, .pinned, .pinned], laidTests := true, laidLooks := .later }
def AsmNumbersCardSaid : Prop := Claim7.holds Tryz.pinned (.plain (OpenSpec.ofChange asmNumbersSpec)) asmNumbersCard

/-- THE SECOND FORM's CARD OF 'hatchwaylaw04.AsmParses'. -/
def asmParsesUptoCard : Claim7 := { stood := { row := asmParsesUptoRow, standIns := [], harness := (true, "6e64aa21a5cfe85164258825730b23d177da5a7041fefd3b060be3581ebd08e0"), looks := true }, kinds := [], alts := [], laidByText := true, laidKinds := [.data, .data, .data, .data, .sentinel, .sentinel, .listed, .data, .pinned], laidTests := true, laidLooks := .later }
def AsmParsesUptoCardSaid : Prop := Claim7.holds Tryz.pinned (.plain (OpenSpec.upto asmParsesSpec)) asmParsesUptoCard

/-- THE SECOND FORM's CARD OF 'hatchwaylaw04.AsmShows'. -/
def asmShowsUptoCard : Claim7 := { stood := { row := asmShowsUptoRow, standIns := [], harness := (true, "6e64aa21a5cfe85164258825730b23d177da5a7041fefd3b060be3581ebd08e0"), looks := true }, kinds := [], alts := [], laidByText := true, laidKinds := [.data, .data, .data, .data, .sentinel, .sentinel, .listed, .data, .pinned], laidTests := true, laidLooks := .later }
def AsmShowsUptoCardSaid : Prop := Claim7.holds Tryz.pinned (.plain (OpenSpec.upto asmShowsSpec)) asmShowsUptoCard

/-- THE SECOND FORM's CARD OF 'hatchwaylaw04.AsmOps'. -/
def asmOpsUptoCard : Claim7 := { stood := { row := asmOpsUptoRow, standIns := [], harness := (true, "6e64aa21a5cfe85164258825730b23d177da5a7041fefd3b060be3581ebd08e0"), looks := true }, kinds := [], alts := [], laidByText := true, laidKinds := [.data, .data, .data, .data, .sentinel, .sentinel, .listed, .data, .pinned], laidTests := true, laidLooks := .later }
def AsmOpsUptoCardSaid : Prop := Claim7.holds Tryz.pinned (.plain (OpenSpec.upto asmOpsSpec)) asmOpsUptoCard

/-- THE SECOND FORM's CARD OF 'hatchwaylaw04.AsmBack'. -/
def asmBackUptoCard : Claim7 := { stood := { row := asmBackUptoRow, standIns := [], harness := (true, "6e64aa21a5cfe85164258825730b23d177da5a7041fefd3b060be3581ebd08e0"), looks := true }, kinds := [], alts := [], laidByText := true, laidKinds := [.data, .data, .data, .data, .sentinel, .sentinel, .listed, .data, .pinned], laidTests := true, laidLooks := .later }
def AsmBackUptoCardSaid : Prop := Claim7.holds Tryz.pinned (.plain (OpenSpec.upto asmBackSpec)) asmBackUptoCard

/-- THE SECOND FORM's CARD OF 'hatchwaylaw04.AsmRow'. -/
def asmRowUptoCard : Claim7 := { stood := { row := asmRowUptoRow, standIns := [], harness := (true, "6e64aa21a5cfe85164258825730b23d177da5a7041fefd3b060be3581ebd08e0"), looks := true }, kinds := [], alts := [], laidByText := true, laidKinds := [.data, .data, .data, .data, .sentinel, .sentinel, .listed, .data, .pinned], laidTests := true, laidLooks := .later }
def AsmRowUptoCardSaid : Prop := Claim7.holds Tryz.pinned (.plain (OpenSpec.upto asmRowSpec)) asmRowUptoCard

/-- THE SECOND FORM's CARD OF 'hatchwaylaw04.AsmNumbers'. -/
def asmNumbersUptoCard : Claim7 := { stood := { row := asmNumbersUptoRow, standIns := [], harness := (true, "6e64aa21a5cfe85164258825730b23d177da5a7041fefd3b060be3581ebd08e0"), looks := true }, kinds := [], alts := [], laidByText := true, laidKinds := [.data, .data, .data, .data, .sentinel, .sentinel, .listed, .data, .pinned, .pinned], laidTests := true, laidLooks := .later }
def AsmNumbersUptoCardSaid : Prop := Claim7.holds Tryz.pinned (.plain (OpenSpec.upto asmNumbersSpec)) asmNumbersUptoCard
end Rows
end Go.Proofs.YtfjefnnbodgfbaaGreatDoor
