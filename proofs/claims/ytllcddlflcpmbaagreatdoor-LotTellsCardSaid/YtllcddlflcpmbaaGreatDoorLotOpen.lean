/- Structs that come in as arguments by value, opened. Printed by gen/opener (frame's kin). -/
import Derived.Test.YtllcddlflcpmbaaGreatDoorLot
import Derived.Deep.Slices
import Derived.OpenShut
import Derived.SliceStrings
namespace Go.Proofs.YtllcddlflcpmbaaGreatDoor
open Go.RowKit Go.Proofs Go.ChangeShapes Go.WideShapes Go.Deep

set_option maxRecDepth 100000 in
theorem lot_of {H : Type} {enc : TypeId × Value → H} {W : World} {base : Nat} {v : Value} {d : DataW H} {p : List MemPlace} (hval : Value.okWide Tryz.prog W .any base 23 v)
    (h : DataW.Trod enc Tryz.prog W 0 (fun _ => true) true 23 v d p) : ∃ x : LotV, v = .agg (encLot x).toArray := by
  obtain ⟨cs, rfl, hsz⟩ := okWide_struct Tryz.underlying23 hval
  obtain ⟨l⟩ := cs
  have hsz : l.length = 4 := hsz.trans (by kernel_rfl)
  obtain ⟨fuel, hf⟩ := h
  obtain ⟨ys, n', _, _, _, hyl, hfs⟩ := DataW.trod_struct Tryz.underlying23 hf
  have hyl : ys.length = 4 := hyl
  match l, hsz with
  | [v0, v1, v2, v3], _ =>
    have g0 := hfs 0 _ rfl
    have g1 := hfs 1 _ rfl
    have g2 := hfs 2 _ rfl
    have g3 := hfs 3 _ rfl
    rw [List.getElem?_eq_getElem (by omega)] at g0 g1 g2 g3
    obtain ⟨s0, e0, _, _⟩ := DataW.trod_string Tryz.underlying9 g0
    obtain ⟨s1, e1, _, _⟩ := DataW.trod_string Tryz.underlying9 g1
    obtain ⟨s2, e2, _, _⟩ := DataW.trod_int Tryz.underlying3 g2
    obtain ⟨s3, e3, _, _⟩ := DataW.trod_int Tryz.underlying3 g3
    have e0 : List.take (Tryz.prog.cellsOf 9) (List.drop 0 (Value.agg #[v0, v1, v2, v3]).cells.toList) = [.string s0] := e0
    rw [show Tryz.prog.cellsOf 9 = 1 by kernel_rfl] at e0
    have e1 : List.take (Tryz.prog.cellsOf 9) (List.drop 1 (Value.agg #[v0, v1, v2, v3]).cells.toList) = [.string s1] := e1
    rw [show Tryz.prog.cellsOf 9 = 1 by kernel_rfl] at e1
    have e2 : List.take (Tryz.prog.cellsOf 3) (List.drop 2 (Value.agg #[v0, v1, v2, v3]).cells.toList) = [.int .i64 s2] := e2
    rw [show Tryz.prog.cellsOf 3 = 1 by kernel_rfl] at e2
    have e3 : List.take (Tryz.prog.cellsOf 3) (List.drop 3 (Value.agg #[v0, v1, v2, v3]).cells.toList) = [.int .i64 s3] := e3
    rw [show Tryz.prog.cellsOf 3 = 1 by kernel_rfl] at e3
    simp only [Value.cells] at e0 e1 e2 e3
    obtain rfl : v0 = .string s0 := (List.cons.inj e0).1
    obtain rfl : v1 = .string s1 := (List.cons.inj e1).1
    obtain rfl : v2 = .int .i64 s2 := (List.cons.inj e2).1
    obtain rfl : v3 = .int .i64 s3 := (List.cons.inj e3).1
    exact ⟨(s0.data.toList, s1.data.toList, s2, s3), rfl⟩
end Go.Proofs.YtllcddlflcpmbaaGreatDoor
