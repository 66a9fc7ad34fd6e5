/-
  DERIVED. GIVEN WITH THE SEED: THE CARDS: each row of YtgllddebodfhkaaGreatDoorRows.lean that lists a variable, with what it lists TIED to the program's text (the seventh form; the later family's looks); each row that meets fmt, with fmt's text TOLD by the authors' own Lean function (tested against real Go, not proved from fmt's source: count such statements apart). THE CARD IS WHAT COUNTS. Prove the row's statement (the work); the ties are given (YtgllddebodfhkaaGreatDoorTie.lean); close each card by the builder's one call (the guide's Derived/Test/ToyasCard.lean, 'card_holds'). Laid BY PROGRAM, IN A SANDBOX (cutbox-door.mjs). By AI agents, Wed Nov 11 2026. No macro, syntax, notation, axiom, sorry.
-/
import Derived.Test.YtgllddebodfhkaaGreatDoorRows
import GoSem.ClaimSeven
namespace Go.Proofs.YtgllddebodfhkaaGreatDoor
namespace Rows

/-- THE TIED CARD OF 'tithebarnlaw2.AllocGoes'. -/
def allocGoesCard : Claim7 := { stood := { row := allocGoesRow, standIns := [], harness := (true, "1cee13f9b53cb3ae0e40e0a8baa889e13c5844f39460cb865c4261ca3a41bbda"), looks := true }, kinds := [], alts := [], laidByText := true, laidKinds := [.data, .handle, .sentinel, .sentinel, .sentinel, .sentinel, .sentinel, .sentinel, .sentinel, .sentinel, .sentinel, .sentinel, .sentinel, .sentinel, .pinned], laidTests := true, laidLooks := .later }
def AllocGoesCardSaid : Prop := Claim7.holds Tryz.pinned (.plain (OpenSpec.ofChange allocGoesSpec)) allocGoesCard

/-- THE TIED CARD OF 'tithebarnlaw2.BookDoes'. -/
def bookDoesCard : Claim7 := { stood := { row := bookDoesRow, standIns := [], harness := (true, "1cee13f9b53cb3ae0e40e0a8baa889e13c5844f39460cb865c4261ca3a41bbda"), looks := true }, kinds := [], alts := [], laidByText := true, laidKinds := [.data, .data, .data, .data, .handle, .sentinel, .sentinel, .sentinel, .sentinel, .sentinel, .sentinel, .sentinel, .sentinel, .sentinel, .sentinel, .sentinel, .sentinel, .pinned], laidTests := true, laidLooks := .later }
def BookDoesCardSaid : Prop := Claim7.holds Tryz.pinned (.plain (OpenSpec.ofChange bookDoesSpec)) bookDoesCard

/-- THE TIED CARD OF 'tithebarnlaw2.AllocParts'. -/
def allocPartsCard : Claim7 := { stood := { row := allocPartsRow, standIns := [], harness := (true, "1cee13f9b53cb3ae0e40e0a8baa889e13c5844f39460cb865c4261ca3a41bbda"), looks := true }, kinds := [], alts := [], laidByText := true, laidKinds := [.data, .data, .data, .data, .handle, .sentinel, .sentinel, .sentinel, .sentinel, .sentinel, .sentinel, .sentinel, .sentinel, .sentinel, .sentinel, .sentinel, .sentinel, .pinned], laidTests := true, laidLooks := .later }
def AllocPartsCardSaid : Prop := Claim7.holds Tryz.pinned (.plain (OpenSpec.ofChange allocPartsSpec)) allocPartsCard

/-- THE TIED CARD OF 'tithebarnlaw2.AllocPlans'. -/
def allocPlansCard : Claim7 := { stood := { row := allocPlansRow, standIns := [], harness := (true, "1cee13f9b53cb3ae0e40e0a8baa889e13c5844f39460cb865c4261ca3a41bbda"), looks := true }, kinds := [], alts := [], laidByText := true, laidKinds := [.data, .data, .data, .data, .handle, .sentinel, .sentinel, .sentinel, .sentinel, .sentinel, .sentinel, .sentinel, .sentinel, .sentinel, .sentinel, .sentinel, .sentinel, .pinned], laidTests := true, laidLooks := .later }
def AllocPlansCardSaid : Prop := Claim7.holds Tryz.pinned (.plain (OpenSpec.ofChange allocPlansSpec)) allocPlansCard

/-- THE TIED CARD OF 'tithebarnlaw2.BookLots'. -/
def bookLotsCard : Claim7 := { stood := { row := bookLotsRow, standIns := [], harness := (true, "1cee13f9b53cb3ae0e40e0a8baa889e13c5844f39460cb865c4261ca3a41bbda"), looks := true }, kinds := [], alts := [], laidByText := true, laidKinds := [.data, .data, .data, .data, .handle, .sentinel, .sentinel, .sentinel, .sentinel, .sentinel, .sentinel, .sentinel, .sentinel, .sentinel, .sentinel, .sentinel, .sentinel, .sentinel, .sentinel, .pinned], laidTests := true, laidLooks := .later }
def BookLotsCardSaid : Prop := Claim7.holds Tryz.pinned (.plain (OpenSpec.ofChange bookLotsSpec)) bookLotsCard

/-- THE SECOND FORM's CARD OF 'tithebarnlaw2.AllocGoes'. -/
def allocGoesUptoCard : Claim7 := { stood := { row := allocGoesUptoRow, standIns := [], harness := (true, "1cee13f9b53cb3ae0e40e0a8baa889e13c5844f39460cb865c4261ca3a41bbda"), looks := true }, kinds := [], alts := [], laidByText := true, laidKinds := [.data, .handle, .sentinel, .sentinel, .sentinel, .sentinel, .sentinel, .sentinel, .sentinel, .sentinel, .sentinel, .sentinel, .sentinel, .sentinel, .pinned], laidTests := true, laidLooks := .later }
def AllocGoesUptoCardSaid : Prop := Claim7.holds Tryz.pinned (.plain (OpenSpec.upto allocGoesSpec)) allocGoesUptoCard

/-- THE SECOND FORM's CARD OF 'tithebarnlaw2.BookDoes'. -/
def bookDoesUptoCard : Claim7 := { stood := { row := bookDoesUptoRow, standIns := [], harness := (true, "1cee13f9b53cb3ae0e40e0a8baa889e13c5844f39460cb865c4261ca3a41bbda"), looks := true }, kinds := [], alts := [], laidByText := true, laidKinds := [.data, .data, .data, .data, .handle, .sentinel, .sentinel, .sentinel, .sentinel, .sentinel, .sentinel, .sentinel, .sentinel, .sentinel, .sentinel, .sentinel, .sentinel, .pinned], laidTests := true, laidLooks := .later }
def BookDoesUptoCardSaid : Prop := Claim7.holds Tryz.pinned (.plain (OpenSpec.upto bookDoesSpec)) bookDoesUptoCard

/-- THE SECOND FORM's CARD OF 'tithebarnlaw2.AllocParts'. -/
def allocPartsUptoCard : Claim7 := { stood := { row := allocPartsUptoRow, standIns := [], harness := (true, "1cee13f9b53cb3ae0e40e0a8baa889e13c5844f39460cb865c4261ca3a41bbda"), looks := true }, kinds := [], alts := [], laidByText := true, laidKinds := [.data, .data, .data, .data, .handle, .sentinel, .sentinel, .sentinel, .sentinel, .sentinel, .sentinel, .sentinel, .sentinel, .sentinel, .sentinel, .sentinel, .sentinel, .pinned], laidTests := true, laidLooks := .later }
def AllocPartsUptoCardSaid : Prop := Claim7.holds Tryz.pinned (.plain (OpenSpec.upto allocPartsSpec)) allocPartsUptoCard

/-- THE SECOND FORM's CARD OF 'tithebarnlaw2.AllocPlans'. -/
def allocPlansUptoCard : Claim7 := { stood := { row := allocPlansUptoRow, standIns := [], harness := (true, "1cee13f9b53cb3ae0e40e0a8baa889e13c5844f39460cb865c4261ca3a41bbda"), looks := true }, kinds := [], alts := [], laidByText := true, laidKinds := [.data, .data, .data, .data, .handle, .sentinel, .sentinel, .sentinel, .sentinel, .sentinel, .sentinel, .sentinel, .sentinel, .sentinel, .sentinel, .sentinel, .sentinel, .pinned], laidTests := true, laidLooks := .later }
def AllocPlansUptoCardSaid : Prop := Claim7.holds Tryz.pinned (.plain (OpenSpec.upto allocPlansSpec)) allocPlansUptoCard

/-- THE SECOND FORM's CARD OF 'tithebarnlaw2.BookLots'. -/
def bookLotsUptoCard : Claim7 := { stood := { row := bookLotsUptoRow, standIns := [], harness := (true, "1cee13f9b53cb3ae0e40e0a8baa889e13c5844f39460cb865c4261ca3a41bbda"), looks := true }, kinds := [], alts := [], laidByText := true, laidKinds := [.data, .data, .data, .data, .handle, .sentinel, .sentinel, .sentinel, .sentinel, .sentinel, .sentinel, .sentinel, .sentinel, .sentinel, .sentinel, .sentinel, .sentinel, .sentinel, .sentinel, .pinned], laidTests := true, laidLooks := .later }
def BookLotsUptoCardSaid : Prop := Claim7.holds Tryz.pinned (.plain (OpenSpec.upto bookLotsSpec)) bookLotsUptoCard
end Rows
end Go.Proofs.YtgllddebodfhkaaGreatDoor
