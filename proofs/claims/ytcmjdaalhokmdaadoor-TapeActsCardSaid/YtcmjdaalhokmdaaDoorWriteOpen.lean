/- A slice of acts on a tape that comes in as an argument, opened. Printed by gen/opener.py. -/
import Derived.Test.YtcmjdaalhokmdaaDoorWriteV
import Derived.Deep.Slices
import Derived.OpenShut
import Derived.SliceStrings
namespace Go.Proofs.YtcmjdaalhokmdaaDoor
open Go.RowKit Go.Sort Go.Proofs Go.ChangeShapes Go.WideShapes Go.Deep

theorem wf_of {n : Int} (h : (Lit.int IntKind.i64 n).wf = true) : -9223372036854775808 ≤ n ∧ n ≤ 9223372036854775807 := by
  have h : IntKind.i64.min ≤ n ∧ n ≤ IntKind.i64.max := by simpa [Lit.wf] using h
  exact h

set_option maxRecDepth 100000 in
set_option maxHeartbeats 1600000 in
theorem writes_of {H : Type} {enc : TypeId × Value → H} {W : World} {base : Nat} {v : Value} {d : DataW H} {p : List MemPlace} (hval : Value.okWide Tryd.prog W .any base 36 v)
    (h : DataW.Trod enc Tryd.prog W 0 (fun _ => true) true 36 v d p) : ∃ A cap xs, v = .slice A (List.length xs) cap ∧ RowAt encWr 3 W A xs ∧ ∀ x ∈ xs, -9223372036854775808 ≤ x.2.2 ∧ x.2.2 ≤ 9223372036854775807 := by
  obtain ⟨A, len, cap, rfl⟩ := okWide_slice Tryd.underlying36 hval
  obtain ⟨fuel, hf⟩ := h
  rcases open_slice Tryd.underlying36 hf with ⟨hcs, _⟩ | ⟨a, len', cap', m, n, D, Pl, hcs, _, hl, _, hm, _, hall⟩
  · simp [Value.cells] at hcs
    obtain ⟨rfl, rfl, rfl⟩ := hcs
    exact ⟨none, 0, [], rfl, .inl rfl, by simp⟩
  · simp [Value.cells] at hcs
    obtain ⟨rfl, rfl, rfl⟩ := hcs
    simp only [if_true] at hm
    have each : ∀ i, i < len → ∃ q : WrV, (∀ c u, (encWr q)[c]? = some u → W.cell? ((a.add (i * 3)).add c) = some u) ∧ -9223372036854775808 ≤ q.2.2 ∧ q.2.2 ≤ 9223372036854775807 := by
      intro i hi
      obtain ⟨cs, k1, g⟩ := hall i (by omega)
      rw [show Tryd.prog.cellsOf 44 = 3 by kernel_rfl] at k1
      obtain ⟨_, hlen, hcell⟩ := World.cells?_some k1
      obtain ⟨yg, ng, _, _, _, hlg, hg⟩ := DataW.trod_struct Tryd.underlying44 g
      have hlg : yg.length = 3 := hlg
      have g_0 := hg 0 _ rfl
      have g_1 := hg 1 _ rfl
      have g_2 := hg 2 _ rfl
      rw [List.getElem?_eq_getElem (by omega)] at g_0 g_1 g_2
      obtain ⟨s0, e0, _, wf0⟩ := DataW.trod_string Tryd.underlying9 g_0
      obtain ⟨s1, e1, _, wf1⟩ := DataW.trod_string Tryd.underlying9 g_1
      obtain ⟨n2, e2, _, wf2⟩ := DataW.trod_int Tryd.underlying3 g_2
      match cs, hlen with
      | [v0, v1, v2], _ =>
        have e0 : List.take (Tryd.prog.cellsOf 9) (List.drop 0 ([v0, v1, v2])) = [.string s0] := e0
        rw [show Tryd.prog.cellsOf 9 = 1 by kernel_rfl] at e0
        have e1 : List.take (Tryd.prog.cellsOf 9) (List.drop 1 ([v0, v1, v2])) = [.string s1] := e1
        rw [show Tryd.prog.cellsOf 9 = 1 by kernel_rfl] at e1
        have e2 : List.take (Tryd.prog.cellsOf 3) (List.drop 2 ([v0, v1, v2])) = [.int .i64 n2] := e2
        rw [show Tryd.prog.cellsOf 3 = 1 by kernel_rfl] at e2
        obtain rfl : v0 = .string s0 := by simpa [Value.cells] using e0
        obtain rfl : v1 = .string s1 := by simpa [Value.cells] using e1
        obtain rfl : v2 = .int .i64 n2 := by simpa [Value.cells] using e2
        refine ⟨(s0.data.toList, s1.data.toList, n2), fun c u hc => ?_, (wf_of wf2).1, (wf_of wf2).2⟩
        have hlt : c < 3 := (List.getElem?_eq_some_iff.1 hc).1
        rw [hcell c hlt, ← hc]
        rfl
    obtain ⟨q, hq⟩ := choose_lt each
    have hxs : ((List.range len).map q).length = len := by simp
    refine ⟨some a, cap, (List.range len).map q, by rw [hxs], ?_, fun x hx => by obtain ⟨i, hi, rfl⟩ := List.mem_map.1 hx; exact (hq i (List.mem_range.1 hi)).2⟩
    rcases Nat.eq_zero_or_pos len with h0 | h0
    · subst h0; exact .inl (by simp)
    · obtain ⟨ab, ao, spot⟩ := a
      have hspot : spot = none := by simpa [Addr.add] using World.cell?_spot ((hq 0 h0).1 0 _ rfl)
      subst hspot
      refine .inr ⟨ab, ao, rfl, ?_, fun i hi c u hc => ?_⟩
      · have := (hq 0 h0).1 0 _ rfl
        rw [Addr.add_lit, Addr.add_lit] at this
        exact lt_of_cell this
      · rw [hxs] at hi
        have := (hq i hi).1 c u (by simpa using hc)
        rw [Addr.add_lit, Addr.add_lit] at this
        exact this
end Go.Proofs.YtcmjdaalhokmdaaDoor
