/- A slice of strings that comes in as an argument, opened. -/
import Derived.Test.YtcfkpkkakdmcpaaDoorStrs
import Derived.SliceStrings
import Derived.Deep.SlicePairs
import Derived.OpenShut
namespace Go.Proofs.YtcfkpkkakdmcpaaDoor
open Go.RowKit Go.ChangeShapes Go.WideShapes Go.Deep

set_option maxRecDepth 100000 in
theorem strs_of {H : Type} {enc : TypeId × Value → H} {W : World} {base : Nat} {v : Value} {d : DataW H} {p : List MemPlace} (hval : Value.okWide Tryd.prog W .any base 36 v)
    (h : DataW.Trod enc Tryd.prog W 0 (fun _ => true) true 36 v d p) : ∃ A cap xs, v = .slice A (List.length xs) cap ∧ StrsAt W A xs := by
  obtain ⟨A, len, cap, rfl⟩ := okWide_slice Tryd.underlying36 hval
  obtain ⟨fuel, hf⟩ := h
  rcases open_strings Tryd.underlying36 Tryd.underlying9 (by kernel_rfl) hf with ⟨hcs, _⟩ | ⟨a, len', cap', ss, hcs, _, hl, _, hm, _, hall, _⟩
  · simp [Value.cells] at hcs
    obtain ⟨rfl, rfl, rfl⟩ := hcs
    exact ⟨none, 0, [], rfl, .inl rfl⟩
  · simp [Value.cells] at hcs
    obtain ⟨rfl, rfl, rfl⟩ := hcs
    simp only [if_true] at hm
    have hlen : ((ss.take len).map fun s => s.data.toList).length = len := by simp; omega
    refine ⟨some a, cap, (ss.take len).map fun s => s.data.toList, by rw [hlen], ?_⟩
    rcases Nat.eq_zero_or_pos len with h0 | h0
    · subst h0; exact .inl (by simp)
    · obtain ⟨ab, ao, spot⟩ := a
      have hspot : spot = none := by simpa [Addr.add] using World.cell?_spot (hall 0 (by omega))
      subst hspot
      refine .inr ⟨ab, ao, rfl, ?_, fun i hi => ?_⟩
      · have := hall 0 (by omega)
        rw [Addr.add_lit] at this
        exact lt_of_cell this
      · rw [hlen] at hi
        have := hall i (by omega)
        rw [Addr.add_lit] at this
        rw [this]
        simp [List.getD, List.getElem?_eq_getElem (show i < ss.length by omega)]
end Go.Proofs.YtcfkpkkakdmcpaaDoor
