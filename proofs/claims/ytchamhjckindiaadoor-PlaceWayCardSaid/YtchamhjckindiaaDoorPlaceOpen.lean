/- Structs that come in as arguments by value, opened. Printed by gen/opener (frame's kin). -/
import Derived.Test.YtchamhjckindiaaDoorPlace
import Derived.Deep.Slices
import Derived.OpenShut
import Derived.SliceStrings
namespace Go.Proofs.YtchamhjckindiaaDoor
open Go.RowKit Go.Proofs Go.ChangeShapes Go.WideShapes Go.Deep

set_option maxRecDepth 100000 in
theorem place_of {H : Type} {enc : TypeId × Value → H} {W : World} {base : Nat} {v : Value} {d : DataW H} {p : List MemPlace} (hval : Value.okWide Tryd.prog W .any base 31 v)
    (h : DataW.Trod enc Tryd.prog W 0 (fun _ => true) true 31 v d p) : ∃ x : PlaceV, v = .agg (encPlace x).toArray := by
  obtain ⟨cs, rfl, hsz⟩ := okWide_struct Tryd.underlying31 hval
  obtain ⟨l⟩ := cs
  have hsz : l.length = 3 := hsz.trans (by kernel_rfl)
  obtain ⟨fuel, hf⟩ := h
  obtain ⟨ys, n', _, _, _, hyl, hfs⟩ := DataW.trod_struct Tryd.underlying31 hf
  have hyl : ys.length = 3 := hyl
  match l, hsz with
  | [v0, v1, v2], _ =>
    have g0 := hfs 0 _ rfl
    have g1 := hfs 1 _ rfl
    have g2 := hfs 2 _ rfl
    rw [List.getElem?_eq_getElem (by omega)] at g0 g1 g2
    obtain ⟨s0, e0, _, _⟩ := DataW.trod_string Tryd.underlying9 g0
    obtain ⟨s1, e1, _, _⟩ := DataW.trod_int Tryd.underlying3 g1
    obtain ⟨s2, e2, _, _⟩ := DataW.trod_int Tryd.underlying3 g2
    have e0 : List.take (Tryd.prog.cellsOf 9) (List.drop 0 (Value.agg #[v0, v1, v2]).cells.toList) = [.string s0] := e0
    rw [show Tryd.prog.cellsOf 9 = 1 by kernel_rfl] at e0
    have e1 : List.take (Tryd.prog.cellsOf 3) (List.drop 1 (Value.agg #[v0, v1, v2]).cells.toList) = [.int .i64 s1] := e1
    rw [show Tryd.prog.cellsOf 3 = 1 by kernel_rfl] at e1
    have e2 : List.take (Tryd.prog.cellsOf 3) (List.drop 2 (Value.agg #[v0, v1, v2]).cells.toList) = [.int .i64 s2] := e2
    rw [show Tryd.prog.cellsOf 3 = 1 by kernel_rfl] at e2
    simp only [Value.cells] at e0 e1 e2
    obtain rfl : v0 = .string s0 := (List.cons.inj e0).1
    obtain rfl : v1 = .int .i64 s1 := (List.cons.inj e1).1
    obtain rfl : v2 = .int .i64 s2 := (List.cons.inj e2).1
    exact ⟨(s0.data.toList, s1, s2), rfl⟩
end Go.Proofs.YtchamhjckindiaaDoor
