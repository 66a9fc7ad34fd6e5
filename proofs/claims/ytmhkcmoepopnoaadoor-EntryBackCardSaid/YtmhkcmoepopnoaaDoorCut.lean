/- Plain facts: a text cut at one byte; pieces are read as they were written. No program in sight but what goods.Text and goods.Read compute. -/
import Derived.Test.YtmhkcmoepopnoaaDoorItoa
import Derived.Lib.IndexLaws
namespace Go.Proofs.YtmhkcmoepopnoaaDoor

theorem occ_one (l : List UInt8) (c : UInt8) (i : Nat) : Lib.occAt l [c] i = true ↔ l[i]? = some c := by
  unfold Lib.occAt
  rw [← List.head?_drop]
  cases l.drop i with
  | nil => simp
  | cons x r =>
    simp [List.isPrefixOf]
    exact ⟨fun h => h.symm, fun h => h.symm⟩

theorem cut_none (l : List UInt8) (c : UInt8) (h : c ∉ l) : Lib.cut l [c] = (l, [], false) := by
  unfold Lib.cut
  have hi : Lib.index l [c] = -1 := Lib.index_none (fun j _ => by
    rw [← Bool.not_eq_true, occ_one]
    intro hj
    exact h (List.mem_of_getElem? hj))
  rw [hi, if_neg (by omega)]

theorem cut_at (a b : List UInt8) (c : UInt8) (h : c ∉ a) : Lib.cut (a ++ c :: b) [c] = (a, b, true) := by
  unfold Lib.cut
  have hi : Lib.index (a ++ c :: b) [c] = (a.length : Nat) := Lib.index_first (by simp) ((occ_one _ _ _).2 (by simp)) (fun j hj => by
    rw [← Bool.not_eq_true, occ_one]
    intro hh
    rw [List.getElem?_append_left hj] at hh
    exact h (List.mem_of_getElem? hh))
  rw [hi, if_pos (by omega)]
  simp

theorem cut_cases (l : List UInt8) (c : UInt8) : (c ∉ l ∧ Lib.cut l [c] = (l, [], false)) ∨ ∃ a b, l = a ++ c :: b ∧ c ∉ a ∧ Lib.cut l [c] = (a, b, true) := by
  by_cases h : c ∈ l
  · refine Or.inr ?_
    obtain ⟨a, b, hl, ha⟩ := List.eq_append_cons_of_mem h
    exact ⟨a, b, hl, ha, hl ▸ cut_at a b c ha⟩
  · exact Or.inl ⟨h, cut_none l c h⟩
end Go.Proofs.YtmhkcmoepopnoaaDoor
