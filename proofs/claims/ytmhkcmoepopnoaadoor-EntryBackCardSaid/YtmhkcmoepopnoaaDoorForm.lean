/- entry.formOf, walked. -/
import Derived.Test.YtmhkcmoepopnoaaDoorEntry
import Derived.Test.YtmhkcmoepopnoaaDoorResC
namespace Go.Proofs.YtmhkcmoepopnoaaDoor
open Go.RowKit Go.Sort Go.Proofs

theorem kind_cases (k : List UInt8) : k = kIn ∨ k = kMore ∨ k = kOut ∨ k = kLess ∨ k = kMove ∨ k = kHold ∨ k = kFree ∨
    ((k == [105, 110]) = false ∧ (k == [109, 111, 114, 101]) = false ∧ (k == [111, 117, 116]) = false ∧ (k == [108, 101, 115, 115]) = false ∧ (k == [109, 111, 118, 101]) = false ∧ (k == [104, 111, 108, 100]) = false ∧ (k == [102, 114, 101, 101]) = false ∧ hasF k = false ∧ hasT k = false ∧ isP k = false) := by
  by_cases h1 : k = kIn
  · exact .inl h1
  by_cases h2 : k = kMore
  · exact .inr (.inl h2)
  by_cases h3 : k = kOut
  · exact .inr (.inr (.inl h3))
  by_cases h4 : k = kLess
  · exact .inr (.inr (.inr (.inl h4)))
  by_cases h5 : k = kMove
  · exact .inr (.inr (.inr (.inr (.inl h5))))
  by_cases h6 : k = kHold
  · exact .inr (.inr (.inr (.inr (.inr (.inl h6)))))
  by_cases h7 : k = kFree
  · exact .inr (.inr (.inr (.inr (.inr (.inr (.inl h7))))))
  refine .inr (.inr (.inr (.inr (.inr (.inr (.inr ⟨?_, ?_, ?_, ?_, ?_, ?_, ?_, ?_, ?_, ?_⟩))))))
  · exact beq_eq_false_iff_ne.2 h1
  · exact beq_eq_false_iff_ne.2 h2
  · exact beq_eq_false_iff_ne.2 h3
  · exact beq_eq_false_iff_ne.2 h4
  · exact beq_eq_false_iff_ne.2 h5
  · exact beq_eq_false_iff_ne.2 h6
  · exact beq_eq_false_iff_ne.2 h7
  · unfold hasF; simp [h3, h4, h5]
  · unfold hasT; simp [h1, h2, h5]
  · unfold isP; simp [h1, h2, h3, h4, h5, h6, h7]

set_option maxHeartbeats 1600000 in
theorem formOf_any (k : List UInt8) (w : World) : Calls Tryd.prog 9 #[.string ⟨k.toArray⟩] w fun e w' => e = .returned (.agg #[.bool (hasF k), .bool (hasT k), .bool (isP k)]) ∧ Below w.heap.size w w' := by
  rcases kind_cases k with rfl | rfl | rfl | rfl | rfl | rfl | rfl | ⟨h1, h2, h3, h4, h5, h6, h7, e1, e2, e3⟩
  case' inr.inr.inr.inr.inr.inr.inr =>
    rw [e1, e2, e3]
    clear e1 e2 e3
  all_goals
    go_enter Tryd.func9, Tryd.ntmps9
    go_wp2
    (try simp only [Exit.inBlock, Exit.then])
    refine bodyPost_ret (results_cell_row rfl _ _ w.heap.size 40 _ (0, 0) _ rfl (heap_alloc_new _ _) Tryd.underlying40 rfl (by kernel_rfl)) rfl ?_
    exact ⟨rfl, below_one _ _⟩
end Go.Proofs.YtmhkcmoepopnoaaDoor
