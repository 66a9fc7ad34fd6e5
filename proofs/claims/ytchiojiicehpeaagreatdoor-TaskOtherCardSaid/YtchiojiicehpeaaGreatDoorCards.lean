/-
  DERIVED. GIVEN WITH THE SEED: THE CARDS: each row of YtchiojiicehpeaaGreatDoorRows.lean that lists a variable, with what it lists TIED to the program's text (the seventh form; the later family's looks); each row that meets fmt, with fmt's text TOLD by the authors' own Lean function (tested against real Go, not proved from fmt's source: count such statements apart). THE CARD IS WHAT COUNTS. Prove the row's statement (the work); the ties are given (YtchiojiicehpeaaGreatDoorTie.lean); close each card by the builder's one call (the guide's Derived/Test/ToyasCard.lean, 'card_holds'). Laid BY PROGRAM, IN A SANDBOX (cutbox-door.mjs). By AI agents, Wed Nov 11 2026. No macro, syntax, notation, axiom, sorry.
-/
import Derived.Test.YtchiojiicehpeaaGreatDoorRows
import GoSem.ClaimSeven
namespace Go.Proofs.YtchiojiicehpeaaGreatDoor
namespace Rows

/-- THE TIED CARD OF 'tithebarnlaw3.TaskOther'. -/
def taskOtherCard : Claim7 := { stood := { row := taskOtherRow, standIns := [], harness := (true, "8fb2cc590a2ef7a6ae3129f93108ddd0714f4e83bd7c208ffde5fdacc4857a59"), looks := true }, kinds := [], alts := [], laidByText := true, laidKinds := [.data, .handle, .sentinel, .sentinel, .sentinel, .sentinel, .sentinel, .sentinel, .sentinel, .sentinel, .sentinel, .sentinel, .sentinel, .sentinel, .pinned], laidTests := true, laidLooks := .later }
def TaskOtherCardSaid : Prop := Claim7.holds Tryz.pinned (.plain (OpenSpec.ofChange taskOtherSpec)) taskOtherCard

/-- THE TIED CARD OF 'tithebarnlaw3.TaskPosts'. -/
def taskPostsCard : Claim7 := { stood := { row := taskPostsRow, standIns := [], harness := (true, "8fb2cc590a2ef7a6ae3129f93108ddd0714f4e83bd7c208ffde5fdacc4857a59"), looks := true }, kinds := [], alts := [], laidByText := true, laidKinds := [.data, .data, .data, .data, .handle, .sentinel, .sentinel, .sentinel, .sentinel, .sentinel, .sentinel, .sentinel, .sentinel, .sentinel, .sentinel, .sentinel, .sentinel, .pinned], laidTests := true, laidLooks := .later }
def TaskPostsCardSaid : Prop := Claim7.holds Tryz.pinned (.plain (OpenSpec.ofChange taskPostsSpec)) taskPostsCard

/-- THE TIED CARD OF 'tithebarnlaw3.TaskActs'. -/
def taskActsCard : Claim7 := { stood := { row := taskActsRow, standIns := [], harness := (true, "8fb2cc590a2ef7a6ae3129f93108ddd0714f4e83bd7c208ffde5fdacc4857a59"), looks := true }, kinds := [], alts := [], laidByText := true, laidKinds := [.data, .data, .data, .data, .handle, .sentinel, .sentinel, .sentinel, .sentinel, .sentinel, .sentinel, .sentinel, .sentinel, .sentinel, .sentinel, .sentinel, .sentinel, .pinned], laidTests := true, laidLooks := .later }
def TaskActsCardSaid : Prop := Claim7.holds Tryz.pinned (.plain (OpenSpec.ofChange taskActsSpec)) taskActsCard

/-- THE TIED CARD OF 'tithebarnlaw3.SnapBack'. -/
def snapBackCard : Claim7 := { stood := { row := snapBackRow, standIns := [], harness := (true, "8fb2cc590a2ef7a6ae3129f93108ddd0714f4e83bd7c208ffde5fdacc4857a59"), looks := true }, kinds := [], alts := [], laidByText := true, laidKinds := [.data, .data, .data, .data, .handle, .sentinel, .sentinel, .sentinel, .sentinel, .sentinel, .sentinel, .sentinel, .sentinel, .sentinel, .sentinel, .sentinel, .sentinel, .sentinel, .sentinel, .pinned], laidTests := true, laidLooks := .later }
def SnapBackCardSaid : Prop := Claim7.holds Tryz.pinned (.plain (OpenSpec.ofChange snapBackSpec)) snapBackCard

/-- THE TIED CARD OF 'tithebarnlaw3.SnapTells'. -/
def snapTellsCard : Claim7 := { stood := { row := snapTellsRow, standIns := [], harness := (true, "8fb2cc590a2ef7a6ae3129f93108ddd0714f4e83bd7c208ffde5fdacc4857a59"), looks := true }, kinds := [], alts := [], laidByText := true, laidKinds := [.data, .data, .data, .data, .handle, .sentinel, .sentinel, .sentinel, .sentinel, .sentinel, .sentinel, .sentinel, .sentinel, .sentinel, .sentinel, .sentinel, .sentinel, .sentinel, .sentinel, .pinned], laidTests := true, laidLooks := .later }
def SnapTellsCardSaid : Prop := Claim7.holds Tryz.pinned (.plain (OpenSpec.ofChange snapTellsSpec)) snapTellsCard

/-- THE TIED CARD OF 'tithebarnlaw3.SnapShort'. -/
def snapShortCard : Claim7 := { stood := { row := snapShortRow, standIns := [], harness := (true, "8fb2cc590a2ef7a6ae3129f93108ddd0714f4e83bd7c208ffde5fdacc4857a59"), looks := true }, kinds := [], alts := [], laidByText := true, laidKinds := [.data, .data, .data, .data, .handle, .sentinel, .sentinel, .sentinel, .sentinel, .sentinel, .sentinel, .sentinel, .sentinel, .sentinel, .sentinel, .sentinel, .sentinel, .sentinel, .sentinel, .pinned], laidTests := true, laidLooks := .later }
def SnapShortCardSaid : Prop := Claim7.holds Tryz.pinned (.plain (OpenSpec.ofChange snapShortSpec)) snapShortCard

/-- THE SECOND FORM's CARD OF 'tithebarnlaw3.TaskOther'. -/
def taskOtherUptoCard : Claim7 := { stood := { row := taskOtherUptoRow, standIns := [], harness := (true, "8fb2cc590a2ef7a6ae3129f93108ddd0714f4e83bd7c208ffde5fdacc4857a59"), looks := true }, kinds := [], alts := [], laidByText := true, laidKinds := [.data, .handle, .sentinel, .sentinel, .sentinel, .sentinel, .sentinel, .sentinel, .sentinel, .sentinel, .sentinel, .sentinel, .sentinel, .sentinel, .pinned], laidTests := true, laidLooks := .later }
def TaskOtherUptoCardSaid : Prop := Claim7.holds Tryz.pinned (.plain (OpenSpec.upto taskOtherSpec)) taskOtherUptoCard

/-- THE SECOND FORM's CARD OF 'tithebarnlaw3.TaskPosts'. -/
def taskPostsUptoCard : Claim7 := { stood := { row := taskPostsUptoRow, standIns := [], harness := (true, "8fb2cc590a2ef7a6ae3129f93108ddd0714f4e83bd7c208ffde5fdacc4857a59"), looks := true }, kinds := [], alts := [], laidByText := true, laidKinds := [.data, .data, .data, .data, .handle, .sentinel, .sentinel, .sentinel, .sentinel, .sentinel, .sentinel, .sentinel, .sentinel, .sentinel, .sentinel, .sentinel, .sentinel, .pinned], laidTests := true, laidLooks := .later }
def TaskPostsUptoCardSaid : Prop := Claim7.holds Tryz.pinned (.plain (OpenSpec.upto taskPostsSpec)) taskPostsUptoCard

/-- THE SECOND FORM's CARD OF 'tithebarnlaw3.TaskActs'. -/
def taskActsUptoCard : Claim7 := { stood := { row := taskActsUptoRow, standIns := [], harness := (true, "8fb2cc590a2ef7a6ae3129f93108ddd0714f4e83bd7c208ffde5fdacc4857a59"), looks := true }, kinds := [], alts := [], laidByText := true, laidKinds := [.data, .data, .data, .data, .handle, .sentinel, .sentinel, .sentinel, .sentinel, .sentinel, .sentinel, .sentinel, .sentinel, .sentinel, .sentinel, .sentinel, .sentinel, .pinned], laidTests := true, laidLooks := .later }
def TaskActsUptoCardSaid : Prop := Claim7.holds Tryz.pinned (.plain (OpenSpec.upto taskActsSpec)) taskActsUptoCard

/-- THE SECOND FORM's CARD OF 'tithebarnlaw3.SnapBack'. -/
def snapBackUptoCard : Claim7 := { stood := { row := snapBackUptoRow, standIns := [], harness := (true, "8fb2cc590a2ef7a6ae3129f93108ddd0714f4e83bd7c208ffde5fdacc4857a59"), looks := true }, kinds := [], alts := [], laidByText := true, laidKinds := [.data, .data, .data, .data, .handle, .sentinel, .sentinel, .sentinel, .sentinel, .sentinel, .sentinel, .sentinel, .sentinel, .sentinel, .sentinel, .sentinel, .sentinel, .sentinel, .sentinel, .pinned], laidTests := true, laidLooks := .later }
def SnapBackUptoCardSaid : Prop := Claim7.holds Tryz.pinned (.plain (OpenSpec.upto snapBackSpec)) snapBackUptoCard

/-- THE SECOND FORM's CARD OF 'tithebarnlaw3.SnapTells'. -/
def snapTellsUptoCard : Claim7 := { stood := { row := snapTellsUptoRow, standIns := [], harness := (true, "8fb2cc590a2ef7a6ae3129f93108ddd0714f4e83bd7c208ffde5fdacc4857a59"), looks := true }, kinds := [], alts := [], laidByText := true, laidKinds := [.data, .data, .data, .data, .handle, .sentinel, .sentinel, .sentinel, .sentinel, .sentinel, .sentinel, .sentinel, .sentinel, .sentinel, .sentinel, .sentinel, .sentinel, .sentinel, .sentinel, .pinned], laidTests := true, laidLooks := .later }
def SnapTellsUptoCardSaid : Prop := Claim7.holds Tryz.pinned (.plain (OpenSpec.upto snapTellsSpec)) snapTellsUptoCard

/-- THE SECOND FORM's CARD OF 'tithebarnlaw3.SnapShort'. -/
def snapShortUptoCard : Claim7 := { stood := { row := snapShortUptoRow, standIns := [], harness := (true, "8fb2cc590a2ef7a6ae3129f93108ddd0714f4e83bd7c208ffde5fdacc4857a59"), looks := true }, kinds := [], alts := [], laidByText := true, laidKinds := [.data, .data, .data, .data, .handle, .sentinel, .sentinel, .sentinel, .sentinel, .sentinel, .sentinel, .sentinel, .sentinel, .sentinel, .sentinel, .sentinel, .sentinel, .sentinel, .sentinel, .pinned], laidTests := true, laidLooks := .later }
def SnapShortUptoCardSaid : Prop := Claim7.holds Tryz.pinned (.plain (OpenSpec.upto snapShortSpec)) snapShortUptoCard
end Rows
end Go.Proofs.YtchiojiicehpeaaGreatDoor
