/-
  DERIVED. GIVEN WITH THE SEED: THE CARDS: each row of YtnblbliehfgnkaaDoorRows.lean that lists a variable, with what it lists TIED to the program's text (the seventh form; the later family's looks); each row that meets fmt, with fmt's text TOLD by the authors' own Lean function (tested against real Go, not proved from fmt's source: count such statements apart). THE CARD IS WHAT COUNTS. Prove the row's statement (the work); the ties are given (YtnblbliehfgnkaaDoorTie.lean); close each card by the builder's one call (the guide's Derived/Test/ToyasCard.lean, 'card_holds'). Laid BY PROGRAM, IN A SANDBOX (cutbox-door.mjs). By AI agents, Wed Nov 11 2026. No macro, syntax, notation, axiom, sorry.
-/
import Derived.Test.YtnblbliehfgnkaaDoorRows
import GoSem.ClaimSeven
namespace Go.Proofs.YtnblbliehfgnkaaDoor
namespace Rows

/-- THE TIED CARD OF 'tithebarnlaw1.Names'. -/
def namesCard : Claim7 := { stood := { row := namesRow, standIns := [], harness := (true, "1988da04fdbb47a9ab055f7254c2d2fbe9267631faa2fa2dd0cb39188b8b32da"), looks := true }, kinds := [], alts := [], laidByText := true, laidKinds := [.handle, .sentinel, .sentinel, .sentinel, .sentinel, .sentinel, .sentinel, .sentinel, .sentinel, .sentinel, .sentinel, .sentinel, .sentinel], laidTests := true, laidLooks := .later }
def NamesCardSaid : Prop := Claim7.holds Tryd.pinned (.plain (OpenSpec.ofChange namesSpec)) namesCard

/-- THE TIED CARD OF 'tithebarnlaw2.CostKeeps'. -/
def costKeepsCard : Claim7 := { stood := { row := costKeepsRow, standIns := [], harness := (true, "1988da04fdbb47a9ab055f7254c2d2fbe9267631faa2fa2dd0cb39188b8b32da"), looks := true }, kinds := [], alts := [], laidByText := true, laidKinds := [.data, .data, .data, .sentinel, .sentinel], laidTests := true, laidLooks := .later }
def CostKeepsCardSaid : Prop := Claim7.holds Tryd.pinned (.plain (OpenSpec.ofChange costKeepsSpec)) costKeepsCard

/-- THE TIED CARD OF 'tithebarnlaw3.RouteKeeps'. -/
def routeKeepsCard : Claim7 := { stood := { row := routeKeepsRow, standIns := [], harness := (true, "1988da04fdbb47a9ab055f7254c2d2fbe9267631faa2fa2dd0cb39188b8b32da"), looks := true }, kinds := [], alts := [], laidByText := true, laidKinds := [.data, .sentinel, .sentinel, .sentinel, .pinned], laidTests := true, laidLooks := .later }
def RouteKeepsCardSaid : Prop := Claim7.holds Tryd.pinned (.plain (OpenSpec.ofChange routeKeepsSpec)) routeKeepsCard

/-- THE TIED CARD OF 'tithebarnlaw2.CostLayers'. -/
def costLayersCard : Claim7 := { stood := { row := costLayersRow, standIns := [], harness := (true, "1988da04fdbb47a9ab055f7254c2d2fbe9267631faa2fa2dd0cb39188b8b32da"), looks := true }, kinds := [], alts := [], laidByText := true, laidKinds := [.data, .data, .data, .handle, .sentinel, .sentinel, .sentinel, .sentinel, .sentinel, .sentinel, .sentinel, .sentinel, .sentinel, .sentinel, .sentinel, .sentinel], laidTests := true, laidLooks := .later }
def CostLayersCardSaid : Prop := Claim7.holds Tryd.pinned (.plain (OpenSpec.ofChange costLayersSpec)) costLayersCard

/-- THE TIED CARD OF 'tithebarnlaw1.GoodsBack'. -/
def goodsBackCard : Claim7 := { stood := { row := goodsBackRow, standIns := [], harness := (true, "1988da04fdbb47a9ab055f7254c2d2fbe9267631faa2fa2dd0cb39188b8b32da"), looks := true }, kinds := [], alts := [], laidByText := true, laidKinds := [.data, .data, .data, .sentinel, .sentinel, .sentinel, .sentinel], laidTests := true, laidLooks := .later }
def GoodsBackCardSaid : Prop := Claim7.holds Tryd.pinned (.plain (OpenSpec.ofChange goodsBackSpec)) goodsBackCard

/-- THE TIED CARD OF 'tithebarnlaw3.TapeJoins'. -/
def tapeJoinsCard : Claim7 := { stood := { row := tapeJoinsRow, standIns := [], harness := (true, "1988da04fdbb47a9ab055f7254c2d2fbe9267631faa2fa2dd0cb39188b8b32da"), looks := true }, kinds := [], alts := [], laidByText := true, laidKinds := [.data, .data, .data, .sentinel, .sentinel, .sentinel, .sentinel, .sentinel, .sentinel], laidTests := true, laidLooks := .later }
def TapeJoinsCardSaid : Prop := Claim7.holds Tryd.pinned (.plain (OpenSpec.ofChange tapeJoinsSpec)) tapeJoinsCard

/-- THE SECOND FORM's CARD OF 'tithebarnlaw1.Names'. -/
def namesUptoCard : Claim7 := { stood := { row := namesUptoRow, standIns := [], harness := (true, "1988da04fdbb47a9ab055f7254c2d2fbe9267631faa2fa2dd0cb39188b8b32da"), looks := true }, kinds := [], alts := [], laidByText := true, laidKinds := [.handle, .sentinel, .sentinel, .sentinel, .sentinel, .sentinel, .sentinel, .sentinel, .sentinel, .sentinel, .sentinel, .sentinel, .sentinel], laidTests := true, laidLooks := .later }
def NamesUptoCardSaid : Prop := Claim7.holds Tryd.pinned (.plain (OpenSpec.upto namesSpec)) namesUptoCard

/-- THE SECOND FORM's CARD OF 'tithebarnlaw2.CostKeeps'. -/
def costKeepsUptoCard : Claim7 := { stood := { row := costKeepsUptoRow, standIns := [], harness := (true, "1988da04fdbb47a9ab055f7254c2d2fbe9267631faa2fa2dd0cb39188b8b32da"), looks := true }, kinds := [], alts := [], laidByText := true, laidKinds := [.data, .data, .data, .sentinel, .sentinel], laidTests := true, laidLooks := .later }
def CostKeepsUptoCardSaid : Prop := Claim7.holds Tryd.pinned (.plain (OpenSpec.upto costKeepsSpec)) costKeepsUptoCard

/-- THE SECOND FORM's CARD OF 'tithebarnlaw3.RouteKeeps'. -/
def routeKeepsUptoCard : Claim7 := { stood := { row := routeKeepsUptoRow, standIns := [], harness := (true, "1988da04fdbb47a9ab055f7254c2d2fbe9267631faa2fa2dd0cb39188b8b32da"), looks := true }, kinds := [], alts := [], laidByText := true, laidKinds := [.data, .sentinel, .sentinel, .sentinel, .pinned], laidTests := true, laidLooks := .later }
def RouteKeepsUptoCardSaid : Prop := Claim7.holds Tryd.pinned (.plain (OpenSpec.upto routeKeepsSpec)) routeKeepsUptoCard

/-- THE SECOND FORM's CARD OF 'tithebarnlaw2.CostLayers'. -/
def costLayersUptoCard : Claim7 := { stood := { row := costLayersUptoRow, standIns := [], harness := (true, "1988da04fdbb47a9ab055f7254c2d2fbe9267631faa2fa2dd0cb39188b8b32da"), looks := true }, kinds := [], alts := [], laidByText := true, laidKinds := [.data, .data, .data, .handle, .sentinel, .sentinel, .sentinel, .sentinel, .sentinel, .sentinel, .sentinel, .sentinel, .sentinel, .sentinel, .sentinel, .sentinel], laidTests := true, laidLooks := .later }
def CostLayersUptoCardSaid : Prop := Claim7.holds Tryd.pinned (.plain (OpenSpec.upto costLayersSpec)) costLayersUptoCard

/-- THE SECOND FORM's CARD OF 'tithebarnlaw1.GoodsBack'. -/
def goodsBackUptoCard : Claim7 := { stood := { row := goodsBackUptoRow, standIns := [], harness := (true, "1988da04fdbb47a9ab055f7254c2d2fbe9267631faa2fa2dd0cb39188b8b32da"), looks := true }, kinds := [], alts := [], laidByText := true, laidKinds := [.data, .data, .data, .sentinel, .sentinel, .sentinel, .sentinel], laidTests := true, laidLooks := .later }
def GoodsBackUptoCardSaid : Prop := Claim7.holds Tryd.pinned (.plain (OpenSpec.upto goodsBackSpec)) goodsBackUptoCard

/-- THE SECOND FORM's CARD OF 'tithebarnlaw3.TapeJoins'. -/
def tapeJoinsUptoCard : Claim7 := { stood := { row := tapeJoinsUptoRow, standIns := [], harness := (true, "1988da04fdbb47a9ab055f7254c2d2fbe9267631faa2fa2dd0cb39188b8b32da"), looks := true }, kinds := [], alts := [], laidByText := true, laidKinds := [.data, .data, .data, .sentinel, .sentinel, .sentinel, .sentinel, .sentinel, .sentinel], laidTests := true, laidLooks := .later }
def TapeJoinsUptoCardSaid : Prop := Claim7.holds Tryd.pinned (.plain (OpenSpec.upto tapeJoinsSpec)) tapeJoinsUptoCard
end Rows
end Go.Proofs.YtnblbliehfgnkaaDoor
