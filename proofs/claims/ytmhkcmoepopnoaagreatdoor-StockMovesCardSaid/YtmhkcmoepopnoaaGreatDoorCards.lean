/-
  DERIVED. GIVEN WITH THE SEED: THE CARDS: each row of YtmhkcmoepopnoaaGreatDoorRows.lean that lists a variable, with what it lists TIED to the program's text (the seventh form; the later family's looks); each row that meets fmt, with fmt's text TOLD by the authors' own Lean function (tested against real Go, not proved from fmt's source: count such statements apart). THE CARD IS WHAT COUNTS. Prove the row's statement (the work); the ties are given (YtmhkcmoepopnoaaGreatDoorTie.lean); close each card by the builder's one call (the guide's Derived/Test/ToyasCard.lean, 'card_holds'). Laid BY PROGRAM, IN A SANDBOX (cutbox-door.mjs). By AI agents, Wed Nov 11 2026. No macro, syntax, notation, axiom, sorry.
-/
import Derived.Test.YtmhkcmoepopnoaaGreatDoorRows
import GoSem.ClaimSeven
namespace Go.Proofs.YtmhkcmoepopnoaaGreatDoor
namespace Rows

/-- THE TIED CARD OF 'tithebarnlaw1.StockActs'. -/
def stockActsCard : Claim7 := { stood := { row := stockActsRow, standIns := [], harness := (true, "73d47aa6ebe651d0860c776338dcdcb32214e3de94c0c8c0ad5a713e9e205748"), looks := true }, kinds := [], alts := [], laidByText := true, laidKinds := [.data, .data, .data, .data, .handle, .sentinel, .sentinel, .sentinel, .sentinel, .sentinel, .sentinel, .sentinel, .sentinel, .sentinel, .sentinel, .sentinel, .sentinel, .pinned], laidTests := true, laidLooks := .later }
def StockActsCardSaid : Prop := Claim7.holds Tryz.pinned (.plain (OpenSpec.ofChange stockActsSpec)) stockActsCard

/-- THE TIED CARD OF 'tithebarnlaw1.EntryTells'. -/
def entryTellsCard : Claim7 := { stood := { row := entryTellsRow, standIns := [], harness := (true, "73d47aa6ebe651d0860c776338dcdcb32214e3de94c0c8c0ad5a713e9e205748"), looks := true }, kinds := [], alts := [], laidByText := true, laidKinds := [.data, .data, .data, .data, .handle, .sentinel, .sentinel, .sentinel, .sentinel, .sentinel, .sentinel, .sentinel, .sentinel, .sentinel, .sentinel, .sentinel, .sentinel, .sentinel, .sentinel, .pinned], laidTests := true, laidLooks := .later }
def EntryTellsCardSaid : Prop := Claim7.holds Tryz.pinned (.plain (OpenSpec.ofChange entryTellsSpec)) entryTellsCard

/-- THE TIED CARD OF 'tithebarnlaw1.StockMoves'. -/
def stockMovesCard : Claim7 := { stood := { row := stockMovesRow, standIns := [], harness := (true, "73d47aa6ebe651d0860c776338dcdcb32214e3de94c0c8c0ad5a713e9e205748"), looks := true }, kinds := [], alts := [], laidByText := true, laidKinds := [.data, .data, .data, .data, .sentinel, .sentinel, .sentinel, .sentinel, .sentinel, .sentinel, .sentinel, .sentinel, .sentinel, .pinned], laidTests := true, laidLooks := .later }
def StockMovesCardSaid : Prop := Claim7.holds Tryz.pinned (.plain (OpenSpec.ofChange stockMovesSpec)) stockMovesCard

/-- THE TIED CARD OF 'tithebarnlaw1.StockReads'. -/
def stockReadsCard : Claim7 := { stood := { row := stockReadsRow, standIns := [], harness := (true, "73d47aa6ebe651d0860c776338dcdcb32214e3de94c0c8c0ad5a713e9e205748"), looks := true }, kinds := [], alts := [], laidByText := true, laidKinds := [.data, .data, .data, .data, .handle, .sentinel, .sentinel, .sentinel, .sentinel, .sentinel, .sentinel, .sentinel, .sentinel, .sentinel, .sentinel, .sentinel, .sentinel, .sentinel, .sentinel, .pinned], laidTests := true, laidLooks := .later }
def StockReadsCardSaid : Prop := Claim7.holds Tryz.pinned (.plain (OpenSpec.ofChange stockReadsSpec)) stockReadsCard

/-- THE SECOND FORM's CARD OF 'tithebarnlaw1.StockActs'. -/
def stockActsUptoCard : Claim7 := { stood := { row := stockActsUptoRow, standIns := [], harness := (true, "73d47aa6ebe651d0860c776338dcdcb32214e3de94c0c8c0ad5a713e9e205748"), looks := true }, kinds := [], alts := [], laidByText := true, laidKinds := [.data, .data, .data, .data, .handle, .sentinel, .sentinel, .sentinel, .sentinel, .sentinel, .sentinel, .sentinel, .sentinel, .sentinel, .sentinel, .sentinel, .sentinel, .pinned], laidTests := true, laidLooks := .later }
def StockActsUptoCardSaid : Prop := Claim7.holds Tryz.pinned (.plain (OpenSpec.upto stockActsSpec)) stockActsUptoCard

/-- THE SECOND FORM's CARD OF 'tithebarnlaw1.EntryTells'. -/
def entryTellsUptoCard : Claim7 := { stood := { row := entryTellsUptoRow, standIns := [], harness := (true, "73d47aa6ebe651d0860c776338dcdcb32214e3de94c0c8c0ad5a713e9e205748"), looks := true }, kinds := [], alts := [], laidByText := true, laidKinds := [.data, .data, .data, .data, .handle, .sentinel, .sentinel, .sentinel, .sentinel, .sentinel, .sentinel, .sentinel, .sentinel, .sentinel, .sentinel, .sentinel, .sentinel, .sentinel, .sentinel, .pinned], laidTests := true, laidLooks := .later }
def EntryTellsUptoCardSaid : Prop := Claim7.holds Tryz.pinned (.plain (OpenSpec.upto entryTellsSpec)) entryTellsUptoCard

/-- THE SECOND FORM's CARD OF 'tithebarnlaw1.StockMoves'. -/
def stockMovesUptoCard : Claim7 := { stood := { row := stockMovesUptoRow, standIns := [], harness := (true, "73d47aa6ebe651d0860c776338dcdcb32214e3de94c0c8c0ad5a713e9e205748"), looks := true }, kinds := [], alts := [], laidByText := true, laidKinds := [.data, .data, .data, .data, .sentinel, .sentinel, .sentinel, .sentinel, .sentinel, .sentinel, .sentinel, .sentinel, .sentinel, .pinned], laidTests := true, laidLooks := .later }
def StockMovesUptoCardSaid : Prop := Claim7.holds Tryz.pinned (.plain (OpenSpec.upto stockMovesSpec)) stockMovesUptoCard

/-- THE SECOND FORM's CARD OF 'tithebarnlaw1.StockReads'. -/
def stockReadsUptoCard : Claim7 := { stood := { row := stockReadsUptoRow, standIns := [], harness := (true, "73d47aa6ebe651d0860c776338dcdcb32214e3de94c0c8c0ad5a713e9e205748"), looks := true }, kinds := [], alts := [], laidByText := true, laidKinds := [.data, .data, .data, .data, .handle, .sentinel, .sentinel, .sentinel, .sentinel, .sentinel, .sentinel, .sentinel, .sentinel, .sentinel, .sentinel, .sentinel, .sentinel, .sentinel, .sentinel, .pinned], laidTests := true, laidLooks := .later }
def StockReadsUptoCardSaid : Prop := Claim7.holds Tryz.pinned (.plain (OpenSpec.upto stockReadsSpec)) stockReadsUptoCard
end Rows
end Go.Proofs.YtmhkcmoepopnoaaGreatDoor
