/-
  DERIVED. GIVEN WITH THE SEED: THE CARDS: each row of YtllcddlflcpmbaaGreatDoorRows.lean that lists a variable, with what it lists TIED to the program's text (the seventh form; the later family's looks); each row that meets fmt, with fmt's text TOLD by the authors' own Lean function (tested against real Go, not proved from fmt's source: count such statements apart). THE CARD IS WHAT COUNTS. Prove the row's statement (the work); the ties are given (YtllcddlflcpmbaaGreatDoorTie.lean); close each card by the builder's one call (the guide's Derived/Test/ToyasCard.lean, 'card_holds'). Laid BY PROGRAM, IN A SANDBOX (cutbox-door.mjs). By AI agents, Wed Nov 11 2026. No macro, syntax, notation, axiom, sorry.
-/
import Derived.Test.YtllcddlflcpmbaaGreatDoorRows
import GoSem.ClaimSeven
namespace Go.Proofs.YtllcddlflcpmbaaGreatDoor
namespace Rows

/-- THE TIED CARD OF 'tithebarnlaw1.LotTells'. -/
def lotTellsCard : Claim7 := { stood := { row := lotTellsRow, standIns := [], harness := (true, "a108b8ad73c7b6a4ff487f97d889c2ce24bdcac0f8a096fff4998afa93a613a6"), looks := true }, kinds := [], alts := [], laidByText := true, laidKinds := [.data, .data, .data, .data, .handle, .sentinel, .sentinel, .sentinel, .sentinel, .sentinel, .sentinel, .sentinel, .sentinel, .sentinel, .sentinel, .sentinel, .sentinel, .sentinel, .sentinel, .pinned], laidTests := true, laidLooks := .later }
def LotTellsCardSaid : Prop := Claim7.holds Tryz.pinned (.plain (OpenSpec.ofChange lotTellsSpec)) lotTellsCard

/-- THE TIED CARD OF 'tithebarnlaw1.EntryTells'. -/
def entryTellsCard : Claim7 := { stood := { row := entryTellsRow, standIns := [], harness := (true, "a108b8ad73c7b6a4ff487f97d889c2ce24bdcac0f8a096fff4998afa93a613a6"), looks := true }, kinds := [], alts := [], laidByText := true, laidKinds := [.data, .data, .data, .data, .handle, .sentinel, .sentinel, .sentinel, .sentinel, .sentinel, .sentinel, .sentinel, .sentinel, .sentinel, .sentinel, .sentinel, .sentinel, .sentinel, .sentinel, .pinned], laidTests := true, laidLooks := .later }
def EntryTellsCardSaid : Prop := Claim7.holds Tryz.pinned (.plain (OpenSpec.ofChange entryTellsSpec)) entryTellsCard

/-- THE SECOND FORM's CARD OF 'tithebarnlaw1.LotTells'. -/
def lotTellsUptoCard : Claim7 := { stood := { row := lotTellsUptoRow, standIns := [], harness := (true, "a108b8ad73c7b6a4ff487f97d889c2ce24bdcac0f8a096fff4998afa93a613a6"), looks := true }, kinds := [], alts := [], laidByText := true, laidKinds := [.data, .data, .data, .data, .handle, .sentinel, .sentinel, .sentinel, .sentinel, .sentinel, .sentinel, .sentinel, .sentinel, .sentinel, .sentinel, .sentinel, .sentinel, .sentinel, .sentinel, .pinned], laidTests := true, laidLooks := .later }
def LotTellsUptoCardSaid : Prop := Claim7.holds Tryz.pinned (.plain (OpenSpec.upto lotTellsSpec)) lotTellsUptoCard

/-- THE SECOND FORM's CARD OF 'tithebarnlaw1.EntryTells'. -/
def entryTellsUptoCard : Claim7 := { stood := { row := entryTellsUptoRow, standIns := [], harness := (true, "a108b8ad73c7b6a4ff487f97d889c2ce24bdcac0f8a096fff4998afa93a613a6"), looks := true }, kinds := [], alts := [], laidByText := true, laidKinds := [.data, .data, .data, .data, .handle, .sentinel, .sentinel, .sentinel, .sentinel, .sentinel, .sentinel, .sentinel, .sentinel, .sentinel, .sentinel, .sentinel, .sentinel, .sentinel, .sentinel, .pinned], laidTests := true, laidLooks := .later }
def EntryTellsUptoCardSaid : Prop := Claim7.holds Tryz.pinned (.plain (OpenSpec.upto entryTellsSpec)) entryTellsUptoCard
end Rows
end Go.Proofs.YtllcddlflcpmbaaGreatDoor
