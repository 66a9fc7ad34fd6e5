/-
  DERIVED. GIVEN WITH THE SEED: THE CARDS: each row of YtphgakobfegpcaaGreatDoorRows.lean that lists a variable, with what it lists TIED to the program's text (the seventh form; the later family's looks); each row that meets fmt, with fmt's text TOLD by the authors' own Lean function (tested against real Go, not proved from fmt's source: count such statements apart). THE CARD IS WHAT COUNTS. Prove the row's statement (the work); the ties are given (YtphgakobfegpcaaGreatDoorTie.lean); close each card by the builder's one call (the guide's Derived/Test/ToyasCard.lean, 'card_holds'). Laid BY PROGRAM, IN A SANDBOX (cutbox-door.mjs). By AI agents, Wed Nov 11 2026. No macro, syntax, notation, axiom, sorry.
-/
import Derived.Test.YtphgakobfegpcaaGreatDoorRows
import GoSem.ClaimSeven
namespace Go.Proofs.YtphgakobfegpcaaGreatDoor
namespace Rows

/-- THE TIED CARD OF 'tithebarnlaw2.CostOf'. -/
def costOfCard : Claim7 := { stood := { row := costOfRow, standIns := [], harness := (true, "84fb0fd943776b4768936709a11a2625fba4ab806e523d946765e4e3bd42ae75"), looks := true }, kinds := [], alts := [], laidByText := true, laidKinds := [.data, .data, .data, .data, .handle, .sentinel, .sentinel, .sentinel, .sentinel, .sentinel, .sentinel, .sentinel, .sentinel, .sentinel, .sentinel, .sentinel, .sentinel, .pinned], laidTests := true, laidLooks := .later }
def CostOfCardSaid : Prop := Claim7.holds Tryz.pinned (.plain (OpenSpec.ofChange costOfSpec)) costOfCard

/-- THE TIED CARD OF 'tithebarnlaw2.CountClasses'. -/
def countClassesCard : Claim7 := { stood := { row := countClassesRow, standIns := [], harness := (true, "84fb0fd943776b4768936709a11a2625fba4ab806e523d946765e4e3bd42ae75"), looks := true }, kinds := [], alts := [], laidByText := true, laidKinds := [.data, .handle, .sentinel, .sentinel, .sentinel, .sentinel, .sentinel, .sentinel, .sentinel, .sentinel, .sentinel, .sentinel, .sentinel, .sentinel, .pinned], laidTests := true, laidLooks := .later }
def CountClassesCardSaid : Prop := Claim7.holds Tryz.pinned (.plain (OpenSpec.ofChange countClassesSpec)) countClassesCard

/-- THE TIED CARD OF 'tithebarnlaw2.CountDiffs'. -/
def countDiffsCard : Claim7 := { stood := { row := countDiffsRow, standIns := [], harness := (true, "84fb0fd943776b4768936709a11a2625fba4ab806e523d946765e4e3bd42ae75"), looks := true }, kinds := [], alts := [], laidByText := true, laidKinds := [.data, .handle, .sentinel, .sentinel, .sentinel, .sentinel, .sentinel, .sentinel, .sentinel, .sentinel, .sentinel, .sentinel, .sentinel, .sentinel, .pinned], laidTests := true, laidLooks := .later }
def CountDiffsCardSaid : Prop := Claim7.holds Tryz.pinned (.plain (OpenSpec.ofChange countDiffsSpec)) countDiffsCard

/-- THE TIED CARD OF 'tithebarnlaw2.BookKeeps'. -/
def bookKeepsCard : Claim7 := { stood := { row := bookKeepsRow, standIns := [], harness := (true, "84fb0fd943776b4768936709a11a2625fba4ab806e523d946765e4e3bd42ae75"), looks := true }, kinds := [], alts := [], laidByText := true, laidKinds := [.data, .data, .data, .data, .sentinel, .sentinel, .sentinel, .sentinel, .sentinel, .sentinel, .sentinel, .sentinel, .pinned], laidTests := true, laidLooks := .later }
def BookKeepsCardSaid : Prop := Claim7.holds Tryz.pinned (.plain (OpenSpec.ofChange bookKeepsSpec)) bookKeepsCard

/-- THE TIED CARD OF 'tithebarnlaw2.BookOrder'. -/
def bookOrderCard : Claim7 := { stood := { row := bookOrderRow, standIns := [], harness := (true, "84fb0fd943776b4768936709a11a2625fba4ab806e523d946765e4e3bd42ae75"), looks := true }, kinds := [], alts := [], laidByText := true, laidKinds := [.data, .data, .data, .data, .handle, .sentinel, .sentinel, .sentinel, .sentinel, .sentinel, .sentinel, .sentinel, .sentinel, .sentinel, .sentinel, .sentinel, .sentinel, .pinned], laidTests := true, laidLooks := .later }
def BookOrderCardSaid : Prop := Claim7.holds Tryz.pinned (.plain (OpenSpec.ofChange bookOrderSpec)) bookOrderCard

/-- THE TIED CARD OF 'tithebarnlaw2.BookDoes'. -/
def bookDoesCard : Claim7 := { stood := { row := bookDoesRow, standIns := [], harness := (true, "84fb0fd943776b4768936709a11a2625fba4ab806e523d946765e4e3bd42ae75"), looks := true }, kinds := [], alts := [], laidByText := true, laidKinds := [.data, .data, .data, .data, .handle, .sentinel, .sentinel, .sentinel, .sentinel, .sentinel, .sentinel, .sentinel, .sentinel, .sentinel, .sentinel, .sentinel, .sentinel, .pinned], laidTests := true, laidLooks := .later }
def BookDoesCardSaid : Prop := Claim7.holds Tryz.pinned (.plain (OpenSpec.ofChange bookDoesSpec)) bookDoesCard

/-- THE SECOND FORM's CARD OF 'tithebarnlaw2.CostOf'. -/
def costOfUptoCard : Claim7 := { stood := { row := costOfUptoRow, standIns := [], harness := (true, "84fb0fd943776b4768936709a11a2625fba4ab806e523d946765e4e3bd42ae75"), looks := true }, kinds := [], alts := [], laidByText := true, laidKinds := [.data, .data, .data, .data, .handle, .sentinel, .sentinel, .sentinel, .sentinel, .sentinel, .sentinel, .sentinel, .sentinel, .sentinel, .sentinel, .sentinel, .sentinel, .pinned], laidTests := true, laidLooks := .later }
def CostOfUptoCardSaid : Prop := Claim7.holds Tryz.pinned (.plain (OpenSpec.upto costOfSpec)) costOfUptoCard

/-- THE SECOND FORM's CARD OF 'tithebarnlaw2.CountClasses'. -/
def countClassesUptoCard : Claim7 := { stood := { row := countClassesUptoRow, standIns := [], harness := (true, "84fb0fd943776b4768936709a11a2625fba4ab806e523d946765e4e3bd42ae75"), looks := true }, kinds := [], alts := [], laidByText := true, laidKinds := [.data, .handle, .sentinel, .sentinel, .sentinel, .sentinel, .sentinel, .sentinel, .sentinel, .sentinel, .sentinel, .sentinel, .sentinel, .sentinel, .pinned], laidTests := true, laidLooks := .later }
def CountClassesUptoCardSaid : Prop := Claim7.holds Tryz.pinned (.plain (OpenSpec.upto countClassesSpec)) countClassesUptoCard

/-- THE SECOND FORM's CARD OF 'tithebarnlaw2.CountDiffs'. -/
def countDiffsUptoCard : Claim7 := { stood := { row := countDiffsUptoRow, standIns := [], harness := (true, "84fb0fd943776b4768936709a11a2625fba4ab806e523d946765e4e3bd42ae75"), looks := true }, kinds := [], alts := [], laidByText := true, laidKinds := [.data, .handle, .sentinel, .sentinel, .sentinel, .sentinel, .sentinel, .sentinel, .sentinel, .sentinel, .sentinel, .sentinel, .sentinel, .sentinel, .pinned], laidTests := true, laidLooks := .later }
def CountDiffsUptoCardSaid : Prop := Claim7.holds Tryz.pinned (.plain (OpenSpec.upto countDiffsSpec)) countDiffsUptoCard

/-- THE SECOND FORM's CARD OF 'tithebarnlaw2.BookKeeps'. -/
def bookKeepsUptoCard : Claim7 := { stood := { row := bookKeepsUptoRow, standIns := [], harness := (true, "84fb0fd943776b4768936709a11a2625fba4ab806e523d946765e4e3bd42ae75"), looks := true }, kinds := [], alts := [], laidByText := true, laidKinds := [.data, .data, .data, .data, .sentinel, .sentinel, .sentinel, .sentinel, .sentinel, .sentinel, .sentinel, .sentinel, .pinned], laidTests := true, laidLooks := .later }
def BookKeepsUptoCardSaid : Prop := Claim7.holds Tryz.pinned (.plain (OpenSpec.upto bookKeepsSpec)) bookKeepsUptoCard

/-- THE SECOND FORM's CARD OF 'tithebarnlaw2.BookOrder'. -/
def bookOrderUptoCard : Claim7 := { stood := { row := bookOrderUptoRow, standIns := [], harness := (true, "84fb0fd943776b4768936709a11a2625fba4ab806e523d946765e4e3bd42ae75"), looks := true }, kinds := [], alts := [], laidByText := true, laidKinds := [.data, .data, .data, .data, .handle, .sentinel, .sentinel, .sentinel, .sentinel, .sentinel, .sentinel, .sentinel, .sentinel, .sentinel, .sentinel, .sentinel, .sentinel, .pinned], laidTests := true, laidLooks := .later }
def BookOrderUptoCardSaid : Prop := Claim7.holds Tryz.pinned (.plain (OpenSpec.upto bookOrderSpec)) bookOrderUptoCard

/-- THE SECOND FORM's CARD OF 'tithebarnlaw2.BookDoes'. -/
def bookDoesUptoCard : Claim7 := { stood := { row := bookDoesUptoRow, standIns := [], harness := (true, "84fb0fd943776b4768936709a11a2625fba4ab806e523d946765e4e3bd42ae75"), looks := true }, kinds := [], alts := [], laidByText := true, laidKinds := [.data, .data, .data, .data, .handle, .sentinel, .sentinel, .sentinel, .sentinel, .sentinel, .sentinel, .sentinel, .sentinel, .sentinel, .sentinel, .sentinel, .sentinel, .pinned], laidTests := true, laidLooks := .later }
def BookDoesUptoCardSaid : Prop := Claim7.holds Tryz.pinned (.plain (OpenSpec.upto bookDoesSpec)) bookDoesUptoCard
end Rows
end Go.Proofs.YtphgakobfegpcaaGreatDoor
