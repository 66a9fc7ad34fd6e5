/- What stays where little turns. -/
import Derived.Test.YthnpemlmfekkgaaGreatDoorM17
namespace Go.Proofs.YthnpemlmfekkgaaGreatDoor
open Go.RowKit Go.Sort Go.Proofs

theorem But.cellAt {b : Nat} {w w' : World} (h : But b w w') {a : Addr} {v : Value} (hc : w.cell? a = some v) (hne : a.block ≠ b) : w'.cell? a = some v := (World.cell?_of_block (h.block _ (lt_of_cell hc) hne)).trans hc
theorem But.row {b : Nat} {w w' : World} (h : But b w w') {k : Nat} {o : Obj} (hc : w.heap[k]? = some o) (hne : k ≠ b) : w'.heap[k]? = some o := (h.block _ (row_lt hc) hne).trans hc
theorem But2.row {p b : Nat} {w w' : World} (h : But2 p b w w') {k : Nat} {o : Obj} (hc : w.heap[k]? = some o) (h1 : k ≠ p) (hne : k ≠ b) : w'.heap[k]? = some o := (h.block _ (row_lt hc) h1 hne).trans hc
theorem row_below {B : Nat} {w w' : World} (h : Below B w w') {k : Nat} {o : Obj} (hc : w.heap[k]? = some o) (hk : k < B) : w'.heap[k]? = some o := (h.block _ hk).trans hc
end Go.Proofs.YthnpemlmfekkgaaGreatDoor
