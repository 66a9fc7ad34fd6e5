/- A slice of picks that comes in as an argument, opened. Printed by gen/opener.py. -/
import Derived.Test.YtcmjdaalhokmdaaDoorPick
import Derived.Deep.Slices
import Derived.OpenShut
import Derived.SliceStrings
namespace Go.Proofs.YtcmjdaalhokmdaaDoor
open Go.RowKit Go.Sort Go.Proofs Go.ChangeShapes Go.WideShapes Go.Deep

set_option maxRecDepth 100000 in
set_option maxHeartbeats 1600000 in
theorem picks_of {H : Type} {enc : TypeId × Value → H} {W : World} {base : Nat} {v : Value} {d : DataW H} {p : List MemPlace} (hval : Value.okWide Tryd.prog W .any base 22 v)
    (h : DataW.Trod enc Tryd.prog W 0 (fun _ => true) true 22 v d p) : ∃ A cap xs, v = .slice A (List.length xs) cap ∧ RowAt encPick 5 W A xs := by
  obtain ⟨A, len, cap, rfl⟩ := okWide_slice Tryd.underlying22 hval
  obtain ⟨fuel, hf⟩ := h
  rcases open_slice Tryd.underlying22 hf with ⟨hcs, _⟩ | ⟨a, len', cap', m, n, D, Pl, hcs, _, hl, _, hm, _, hall⟩
  · simp [Value.cells] at hcs
    obtain ⟨rfl, rfl, rfl⟩ := hcs
    exact ⟨none, 0, [], rfl, .inl rfl⟩
  · simp [Value.cells] at hcs
    obtain ⟨rfl, rfl, rfl⟩ := hcs
    simp only [if_true] at hm
    have each : ∀ i, i < len → ∃ q : PickV, ∀ c u, (encPick q)[c]? = some u → W.cell? ((a.add (i * 5)).add c) = some u := by
      intro i hi
      obtain ⟨cs, k1, g⟩ := hall i (by omega)
      rw [show Tryd.prog.cellsOf 33 = 5 by kernel_rfl] at k1
      obtain ⟨_, hlen, hcell⟩ := World.cells?_some k1
      obtain ⟨yg, ng, _, _, _, hlg, hg⟩ := DataW.trod_struct Tryd.underlying33 g
      have hlg : yg.length = 3 := hlg
      have g_0 := hg 0 _ rfl
      have g_1 := hg 1 _ rfl
      have g_2 := hg 2 _ rfl
      rw [List.getElem?_eq_getElem (by omega)] at g_0 g_1 g_2
      obtain ⟨yg_0, ng_0, _, _, _, hlg_0, hg_0⟩ := DataW.trod_struct Tryd.underlying31 g_0
      have hlg_0 : yg_0.length = 3 := hlg_0
      have g_0_0 := hg_0 0 _ rfl
      have g_0_1 := hg_0 1 _ rfl
      have g_0_2 := hg_0 2 _ rfl
      rw [List.getElem?_eq_getElem (by omega)] at g_0_0 g_0_1 g_0_2
      obtain ⟨s0, e0, _, _⟩ := DataW.trod_string Tryd.underlying9 g_0_0
      obtain ⟨n1, e1, _, _⟩ := DataW.trod_int Tryd.underlying3 g_0_1
      obtain ⟨n2, e2, _, _⟩ := DataW.trod_int Tryd.underlying3 g_0_2
      obtain ⟨s3, e3, _, _⟩ := DataW.trod_string Tryd.underlying9 g_1
      obtain ⟨n4, e4, _, _⟩ := DataW.trod_int Tryd.underlying3 g_2
      match cs, hlen with
      | [v0, v1, v2, v3, v4], _ =>
        have e0 : List.take (Tryd.prog.cellsOf 9) (List.drop 0 (List.take (Tryd.prog.cellsOf 31) (List.drop 0 ([v0, v1, v2, v3, v4])))) = [.string s0] := e0
        rw [show Tryd.prog.cellsOf 31 = 3 by kernel_rfl, show Tryd.prog.cellsOf 9 = 1 by kernel_rfl] at e0
        have e1 : List.take (Tryd.prog.cellsOf 3) (List.drop 1 (List.take (Tryd.prog.cellsOf 31) (List.drop 0 ([v0, v1, v2, v3, v4])))) = [.int .i64 n1] := e1
        rw [show Tryd.prog.cellsOf 31 = 3 by kernel_rfl, show Tryd.prog.cellsOf 3 = 1 by kernel_rfl] at e1
        have e2 : List.take (Tryd.prog.cellsOf 3) (List.drop 2 (List.take (Tryd.prog.cellsOf 31) (List.drop 0 ([v0, v1, v2, v3, v4])))) = [.int .i64 n2] := e2
        rw [show Tryd.prog.cellsOf 31 = 3 by kernel_rfl, show Tryd.prog.cellsOf 3 = 1 by kernel_rfl] at e2
        have e3 : List.take (Tryd.prog.cellsOf 9) (List.drop 3 ([v0, v1, v2, v3, v4])) = [.string s3] := e3
        rw [show Tryd.prog.cellsOf 9 = 1 by kernel_rfl] at e3
        have e4 : List.take (Tryd.prog.cellsOf 3) (List.drop 4 ([v0, v1, v2, v3, v4])) = [.int .i64 n4] := e4
        rw [show Tryd.prog.cellsOf 3 = 1 by kernel_rfl] at e4
        obtain rfl : v0 = .string s0 := by simpa [Value.cells] using e0
        obtain rfl : v1 = .int .i64 n1 := by simpa [Value.cells] using e1
        obtain rfl : v2 = .int .i64 n2 := by simpa [Value.cells] using e2
        obtain rfl : v3 = .string s3 := by simpa [Value.cells] using e3
        obtain rfl : v4 = .int .i64 n4 := by simpa [Value.cells] using e4
        refine ⟨((s0.data.toList, n1, n2), s3.data.toList, n4), fun c u hc => ?_⟩
        have hlt : c < 5 := (List.getElem?_eq_some_iff.1 hc).1
        rw [hcell c hlt, ← hc]
        rfl
    obtain ⟨q, hq⟩ := choose_lt each
    have hxs : ((List.range len).map q).length = len := by simp
    refine ⟨some a, cap, (List.range len).map q, by rw [hxs], ?_⟩
    rcases Nat.eq_zero_or_pos len with h0 | h0
    · subst h0; exact .inl (by simp)
    · obtain ⟨ab, ao, spot⟩ := a
      have hspot : spot = none := by simpa [Addr.add] using World.cell?_spot (hq 0 h0 0 _ rfl)
      subst hspot
      refine .inr ⟨ab, ao, rfl, ?_, fun i hi c u hc => ?_⟩
      · have := hq 0 h0 0 _ rfl
        rw [Addr.add_lit, Addr.add_lit] at this
        exact lt_of_cell this
      · rw [hxs] at hi
        have := hq i hi c u (by simpa using hc)
        rw [Addr.add_lit, Addr.add_lit] at this
        exact this
end Go.Proofs.YtcmjdaalhokmdaaDoor
