/-
  DERIVED. GIVEN WITH THE SEED: THE CARDS: each row of YtchamhjckindiaaGreatDoorRows.lean that lists a variable, with what it lists TIED to the program's text (the seventh form; the later family's looks); each row that meets fmt, with fmt's text TOLD by the authors' own Lean function (tested against real Go, not proved from fmt's source: count such statements apart). THE CARD IS WHAT COUNTS. Prove the row's statement (the work); the ties are given (YtchamhjckindiaaGreatDoorTie.lean); close each card by the builder's one call (the guide's Derived/Test/ToyasCard.lean, 'card_holds'). Laid BY PROGRAM, IN A SANDBOX (cutbox-door.mjs). By AI agents, Wed Nov 11 2026. No macro, syntax, notation, axiom, sorry.
-/
import Derived.Test.YtchamhjckindiaaGreatDoorRows
import GoSem.ClaimSeven
namespace Go.Proofs.YtchamhjckindiaaGreatDoor
namespace Rows

/-- THE TIED CARD OF 'tithebarnlaw1.GoodsTell'. -/
def goodsTellCard : Claim7 := { stood := { row := goodsTellRow, standIns := [], harness := (true, "7b4340b0bec6173f7f48cdd277de9f9c0aa83fa1f9ac3f3d39c3735de214ecd0"), looks := true }, kinds := [], alts := [], laidByText := true, laidKinds := [.data, .data, .data, .data, .handle, .sentinel, .sentinel, .sentinel, .sentinel, .sentinel, .sentinel, .sentinel, .sentinel, .sentinel, .sentinel, .sentinel, .sentinel, .sentinel, .sentinel, .pinned], laidTests := true, laidLooks := .later }
def GoodsTellCardSaid : Prop := Claim7.holds Tryz.pinned (.plain (OpenSpec.ofChange goodsTellSpec)) goodsTellCard

/-- THE TIED CARD OF 'tithebarnlaw2.CostOf'. -/
def costOfCard : Claim7 := { stood := { row := costOfRow, standIns := [], harness := (true, "7b4340b0bec6173f7f48cdd277de9f9c0aa83fa1f9ac3f3d39c3735de214ecd0"), looks := true }, kinds := [], alts := [], laidByText := true, laidKinds := [.data, .data, .data, .data, .handle, .sentinel, .sentinel, .sentinel, .sentinel, .sentinel, .sentinel, .sentinel, .sentinel, .sentinel, .sentinel, .sentinel, .sentinel, .pinned], laidTests := true, laidLooks := .later }
def CostOfCardSaid : Prop := Claim7.holds Tryz.pinned (.plain (OpenSpec.ofChange costOfSpec)) costOfCard

/-- THE TIED CARD OF 'tithebarnlaw1.StockActs'. -/
def stockActsCard : Claim7 := { stood := { row := stockActsRow, standIns := [], harness := (true, "7b4340b0bec6173f7f48cdd277de9f9c0aa83fa1f9ac3f3d39c3735de214ecd0"), looks := true }, kinds := [], alts := [], laidByText := true, laidKinds := [.data, .data, .data, .data, .handle, .sentinel, .sentinel, .sentinel, .sentinel, .sentinel, .sentinel, .sentinel, .sentinel, .sentinel, .sentinel, .sentinel, .sentinel, .pinned], laidTests := true, laidLooks := .later }
def StockActsCardSaid : Prop := Claim7.holds Tryz.pinned (.plain (OpenSpec.ofChange stockActsSpec)) stockActsCard

/-- THE TIED CARD OF 'tithebarnlaw1.LotTells'. -/
def lotTellsCard : Claim7 := { stood := { row := lotTellsRow, standIns := [], harness := (true, "7b4340b0bec6173f7f48cdd277de9f9c0aa83fa1f9ac3f3d39c3735de214ecd0"), looks := true }, kinds := [], alts := [], laidByText := true, laidKinds := [.data, .data, .data, .data, .handle, .sentinel, .sentinel, .sentinel, .sentinel, .sentinel, .sentinel, .sentinel, .sentinel, .sentinel, .sentinel, .sentinel, .sentinel, .sentinel, .sentinel, .pinned], laidTests := true, laidLooks := .later }
def LotTellsCardSaid : Prop := Claim7.holds Tryz.pinned (.plain (OpenSpec.ofChange lotTellsSpec)) lotTellsCard

/-- THE TIED CARD OF 'tithebarnlaw2.CountTwice'. -/
def countTwiceCard : Claim7 := { stood := { row := countTwiceRow, standIns := [], harness := (true, "7b4340b0bec6173f7f48cdd277de9f9c0aa83fa1f9ac3f3d39c3735de214ecd0"), looks := true }, kinds := [], alts := [], laidByText := true, laidKinds := [.data, .handle, .sentinel, .sentinel, .sentinel, .sentinel, .sentinel, .sentinel, .sentinel, .sentinel, .sentinel, .sentinel, .sentinel, .sentinel, .pinned], laidTests := true, laidLooks := .later }
def CountTwiceCardSaid : Prop := Claim7.holds Tryz.pinned (.plain (OpenSpec.ofChange countTwiceSpec)) countTwiceCard

/-- THE TIED CARD OF 'tithebarnlaw1.EntryTells'. -/
def entryTellsCard : Claim7 := { stood := { row := entryTellsRow, standIns := [], harness := (true, "7b4340b0bec6173f7f48cdd277de9f9c0aa83fa1f9ac3f3d39c3735de214ecd0"), looks := true }, kinds := [], alts := [], laidByText := true, laidKinds := [.data, .data, .data, .data, .handle, .sentinel, .sentinel, .sentinel, .sentinel, .sentinel, .sentinel, .sentinel, .sentinel, .sentinel, .sentinel, .sentinel, .sentinel, .sentinel, .sentinel, .pinned], laidTests := true, laidLooks := .later }
def EntryTellsCardSaid : Prop := Claim7.holds Tryz.pinned (.plain (OpenSpec.ofChange entryTellsSpec)) entryTellsCard

/-- THE TIED CARD OF 'tithebarnlaw1.StockMoves'. -/
def stockMovesCard : Claim7 := { stood := { row := stockMovesRow, standIns := [], harness := (true, "7b4340b0bec6173f7f48cdd277de9f9c0aa83fa1f9ac3f3d39c3735de214ecd0"), looks := true }, kinds := [], alts := [], laidByText := true, laidKinds := [.data, .data, .data, .data, .sentinel, .sentinel, .sentinel, .sentinel, .sentinel, .sentinel, .sentinel, .sentinel, .sentinel, .pinned], laidTests := true, laidLooks := .later }
def StockMovesCardSaid : Prop := Claim7.holds Tryz.pinned (.plain (OpenSpec.ofChange stockMovesSpec)) stockMovesCard

/-- THE SECOND FORM's CARD OF 'tithebarnlaw1.GoodsTell'. -/
def goodsTellUptoCard : Claim7 := { stood := { row := goodsTellUptoRow, standIns := [], harness := (true, "7b4340b0bec6173f7f48cdd277de9f9c0aa83fa1f9ac3f3d39c3735de214ecd0"), looks := true }, kinds := [], alts := [], laidByText := true, laidKinds := [.data, .data, .data, .data, .handle, .sentinel, .sentinel, .sentinel, .sentinel, .sentinel, .sentinel, .sentinel, .sentinel, .sentinel, .sentinel, .sentinel, .sentinel, .sentinel, .sentinel, .pinned], laidTests := true, laidLooks := .later }
def GoodsTellUptoCardSaid : Prop := Claim7.holds Tryz.pinned (.plain (OpenSpec.upto goodsTellSpec)) goodsTellUptoCard

/-- THE SECOND FORM's CARD OF 'tithebarnlaw2.CostOf'. -/
def costOfUptoCard : Claim7 := { stood := { row := costOfUptoRow, standIns := [], harness := (true, "7b4340b0bec6173f7f48cdd277de9f9c0aa83fa1f9ac3f3d39c3735de214ecd0"), looks := true }, kinds := [], alts := [], laidByText := true, laidKinds := [.data, .data, .data, .data, .handle, .sentinel, .sentinel, .sentinel, .sentinel, .sentinel, .sentinel, .sentinel, .sentinel, .sentinel, .sentinel, .sentinel, .sentinel, .pinned], laidTests := true, laidLooks := .later }
def CostOfUptoCardSaid : Prop := Claim7.holds Tryz.pinned (.plain (OpenSpec.upto costOfSpec)) costOfUptoCard

/-- THE SECOND FORM's CARD OF 'tithebarnlaw1.StockActs'. -/
def stockActsUptoCard : Claim7 := { stood := { row := stockActsUptoRow, standIns := [], harness := (true, "7b4340b0bec6173f7f48cdd277de9f9c0aa83fa1f9ac3f3d39c3735de214ecd0"), looks := true }, kinds := [], alts := [], laidByText := true, laidKinds := [.data, .data, .data, .data, .handle, .sentinel, .sentinel, .sentinel, .sentinel, .sentinel, .sentinel, .sentinel, .sentinel, .sentinel, .sentinel, .sentinel, .sentinel, .pinned], laidTests := true, laidLooks := .later }
def StockActsUptoCardSaid : Prop := Claim7.holds Tryz.pinned (.plain (OpenSpec.upto stockActsSpec)) stockActsUptoCard

/-- THE SECOND FORM's CARD OF 'tithebarnlaw1.LotTells'. -/
def lotTellsUptoCard : Claim7 := { stood := { row := lotTellsUptoRow, standIns := [], harness := (true, "7b4340b0bec6173f7f48cdd277de9f9c0aa83fa1f9ac3f3d39c3735de214ecd0"), looks := true }, kinds := [], alts := [], laidByText := true, laidKinds := [.data, .data, .data, .data, .handle, .sentinel, .sentinel, .sentinel, .sentinel, .sentinel, .sentinel, .sentinel, .sentinel, .sentinel, .sentinel, .sentinel, .sentinel, .sentinel, .sentinel, .pinned], laidTests := true, laidLooks := .later }
def LotTellsUptoCardSaid : Prop := Claim7.holds Tryz.pinned (.plain (OpenSpec.upto lotTellsSpec)) lotTellsUptoCard

/-- THE SECOND FORM's CARD OF 'tithebarnlaw2.CountTwice'. -/
def countTwiceUptoCard : Claim7 := { stood := { row := countTwiceUptoRow, standIns := [], harness := (true, "7b4340b0bec6173f7f48cdd277de9f9c0aa83fa1f9ac3f3d39c3735de214ecd0"), looks := true }, kinds := [], alts := [], laidByText := true, laidKinds := [.data, .handle, .sentinel, .sentinel, .sentinel, .sentinel, .sentinel, .sentinel, .sentinel, .sentinel, .sentinel, .sentinel, .sentinel, .sentinel, .pinned], laidTests := true, laidLooks := .later }
def CountTwiceUptoCardSaid : Prop := Claim7.holds Tryz.pinned (.plain (OpenSpec.upto countTwiceSpec)) countTwiceUptoCard

/-- THE SECOND FORM's CARD OF 'tithebarnlaw1.EntryTells'. -/
def entryTellsUptoCard : Claim7 := { stood := { row := entryTellsUptoRow, standIns := [], harness := (true, "7b4340b0bec6173f7f48cdd277de9f9c0aa83fa1f9ac3f3d39c3735de214ecd0"), looks := true }, kinds := [], alts := [], laidByText := true, laidKinds := [.data, .data, .data, .data, .handle, .sentinel, .sentinel, .sentinel, .sentinel, .sentinel, .sentinel, .sentinel, .sentinel, .sentinel, .sentinel, .sentinel, .sentinel, .sentinel, .sentinel, .pinned], laidTests := true, laidLooks := .later }
def EntryTellsUptoCardSaid : Prop := Claim7.holds Tryz.pinned (.plain (OpenSpec.upto entryTellsSpec)) entryTellsUptoCard

/-- THE SECOND FORM's CARD OF 'tithebarnlaw1.StockMoves'. -/
def stockMovesUptoCard : Claim7 := { stood := { row := stockMovesUptoRow, standIns := [], harness := (true, "7b4340b0bec6173f7f48cdd277de9f9c0aa83fa1f9ac3f3d39c3735de214ecd0"), looks := true }, kinds := [], alts := [], laidByText := true, laidKinds := [.data, .data, .data, .data, .sentinel, .sentinel, .sentinel, .sentinel, .sentinel, .sentinel, .sentinel, .sentinel, .sentinel, .pinned], laidTests := true, laidLooks := .later }
def StockMovesUptoCardSaid : Prop := Claim7.holds Tryz.pinned (.plain (OpenSpec.upto stockMovesSpec)) stockMovesUptoCard
end Rows
end Go.Proofs.YtchamhjckindiaaGreatDoor
