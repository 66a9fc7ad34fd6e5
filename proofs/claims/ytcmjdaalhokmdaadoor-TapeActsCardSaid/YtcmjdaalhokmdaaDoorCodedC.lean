/- coded, of tithebarnlaw3. -/
import Derived.Test.YtcmjdaalhokmdaaDoorCoded
namespace Go.Proofs.YtcmjdaalhokmdaaDoor
open Go.RowKit

set_option maxHeartbeats 400000 in
theorem coded3 (E : Nat → Addr) (j : Nat) (h2 : j ≤ 12) (n : Int) (w : World) (hG : ErrG E w) :
    Calls Tryd.prog 12 #[errOf E j, .int .i64 n] w fun e w' => e = .returned (.bool ((j : Int) == n)) ∧ Below w.heap.size w w' := by
  by_cases h0 : j = 0
  · subst h0
    rw [errOf_zero]
    have HC := Lib.hid (code_nil w)
    go_enter Tryd.func12, Tryd.ntmps12
    go_wp2_with fail
    refine HC.out.mono ?_
    rintro e w1 ⟨rfl, rfl⟩
    go_wp2_with fail
    all_goals go_ret
    all_goals exact ⟨by simp; assumption, Below.refl _ _⟩
  · rw [errOf_pos _ _ h0]
    have HC := Lib.hid (code_sent E j (by omega) h2 w hG)
    go_enter Tryd.func12, Tryd.ntmps12
    go_wp2_with fail
    refine HC.out.mono ?_
    rintro e w1 ⟨rfl, hb⟩
    go_wp2_with fail
    all_goals go_ret
    all_goals exact ⟨by simp; assumption, hb⟩
theorem coded3_is (E : Nat → Addr) (j : Nat) (h1 : 1 ≤ j) (h2 : j ≤ 12) (n : Int) (hn : n = j) (w : World) (hG : ErrG E w) :
    Calls Tryd.prog 12 #[.iface 211 (.pointer (some (E j))), .int .i64 n] w fun e w' => e = .returned (.bool true) ∧ Below w.heap.size w w' := by
  have h := coded3 E j h2 n w hG
  rw [errOf_pos _ _ (by omega), hn, beq_self_eq_true] at h
  rw [hn]
  exact h

end Go.Proofs.YtcmjdaalhokmdaaDoor
