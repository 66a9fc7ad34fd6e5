/- plain.Code at each make of error; coded. -/
import Derived.Test.YtllcddlflcpmbaaGreatDoorCode
namespace Go.Proofs.YtllcddlflcpmbaaGreatDoor
open Go.RowKit

/-- Sentinel number j: errors.Is answers of it just for itself. -/
theorem isK_sent (E : Nat → Addr) (j : Nat) (h1 : 1 ≤ j) (h2 : j ≤ 12) (w : World) (hG : ErrG E w) : IsK E (.iface 183 (.pointer (some (E j)))) j w := by
  intro k W k1 k2 hb
  have hW := hG.below hb
  by_cases h : k = j
  · subst h
    rw [show decide (k = k) = true by simp]
    exact is_same (E k) W
  · rw [show decide (k = j) = false by simpa using h]
    obtain ⟨ca, ta, ra⟩ := hW.row j h1 h2
    obtain ⟨cb, tb, rb⟩ := hW.row k k1 k2
    exact is_other (E j) (E k) ca cb ta tb W (fun e => h (hG.inj j k h1 h2 k1 k2 e).symm) ra rb

/-- Another error of errors.New's make. -/
theorem isK_other (E : Nat → Addr) (a : Addr) (w : World) (hG : ErrG E w) (ca : Array Value) (ta : TypeId) (ha : w.heap[a.block]? = some (.cells ca ta (0, 0))) (hne : ∀ k, 1 ≤ k → k ≤ 12 → a ≠ E k) :
    IsK E (.iface 183 (.pointer (some a))) 0 w := by
  intro k W k1 k2 hb
  have hW := hG.below hb
  rw [show decide (k = 0) = false by simp; omega]
  obtain ⟨cb, tb, rb⟩ := hW.row k k1 k2
  exact is_other a (E k) ca cb ta tb W (hne k k1 k2) ((hb.block _ (lt_of_row ha)).trans ha) rb

/-- A fault that wraps sentinel number j. -/
theorem isK_fault (E : Nat → Addr) (pb po : Nat) (j : Nat) (h1 : 1 ≤ j) (h2 : j ≤ 12) (w : World) (hG : ErrG E w) (hc : w.cell? ⟨pb, po + 1, none⟩ = some (.iface 183 (.pointer (some (E j))))) :
    IsK E (.iface 80 (.pointer (some ⟨pb, po, none⟩))) j w := by
  intro k W k1 k2 hb
  have hW := hG.below hb
  have hc' : W.cell? ⟨pb, po + 1, none⟩ = some (.iface 183 (.pointer (some (E j)))) := (hb.cell (lt_of_cell hc)).trans hc
  by_cases h : k = j
  · subst h
    rw [show decide (k = k) = true by simp]
    exact is_fault_same pb po (E k) W hc'
  · rw [show decide (k = j) = false by simpa using h]
    obtain ⟨ca, ta, ra⟩ := hW.row j h1 h2
    obtain ⟨cb, tb, rb⟩ := hW.row k k1 k2
    exact is_fault_other pb po (E k) (E j) ca cb ta tb W hc' (fun e => h (hG.inj j k h1 h2 k1 k2 e).symm) ra rb

theorem as_miss_of (E : Nat → Addr) (a : Addr) (w : World) (hG : ErrG E w) : ∀ (t : Addr) (old : Value) (W : World), Below w.heap.size w W → W.cell? t = some old → Calls Tryz.prog 51 #[.iface 183 (.pointer (some a)), .iface 82 (.pointer (some t))] W fun ev w' => ev = .returned (.bool false) ∧ Below W.heap.size W w' :=
  fun t old W hb ht => as_miss a t old W (hG.below hb).ty ht

theorem code_sent (E : Nat → Addr) (j : Nat) (h1 : 1 ≤ j) (h2 : j ≤ 12) (w : World) (hG : ErrG E w) :
    Calls Tryz.prog 28 #[.iface 183 (.pointer (some (E j)))] w fun e w' => e = .returned (.tuple #[.int .i64 j, .int .i64 (-1)]) ∧ Below w.heap.size w w' := by
  have h := code_miss E _ _ j w hG h2 (isK_sent E j h1 h2 w hG) (as_miss_of E _ w hG)
  rw [show codeOf j = (j : Int) by unfold codeOf; rw [if_neg (by omega)]] at h
  exact h

theorem code_other (E : Nat → Addr) (a : Addr) (w : World) (hG : ErrG E w) (ca : Array Value) (ta : TypeId) (ha : w.heap[a.block]? = some (.cells ca ta (0, 0))) (hne : ∀ k, 1 ≤ k → k ≤ 12 → a ≠ E k) :
    Calls Tryz.prog 28 #[.iface 183 (.pointer (some a))] w fun e w' => e = .returned (.tuple #[.int .i64 (-1), .int .i64 (-1)]) ∧ Below w.heap.size w w' :=
  code_miss E _ _ 0 w hG (by omega) (isK_other E a w hG ca ta ha hne) (as_miss_of E _ w hG)

theorem code_fault (E : Nat → Addr) (pb po : Nat) (n : Int) (j : Nat) (h1 : 1 ≤ j) (h2 : j ≤ 12) (w : World) (hG : ErrG E w) (h0 : w.cell? ⟨pb, po, none⟩ = some (.int .i64 n)) (hc : w.cell? ⟨pb, po + 1, none⟩ = some (.iface 183 (.pointer (some (E j))))) :
    Calls Tryz.prog 28 #[.iface 80 (.pointer (some ⟨pb, po, none⟩))] w fun e w' => e = .returned (.tuple #[.int .i64 j, .int .i64 n]) ∧ Below w.heap.size w w' := by
  have h := code_hit E ⟨pb, po, none⟩ n j w hG h2 h0 (isK_fault E pb po j h1 h2 w hG hc)
  rw [show codeOf j = (j : Int) by unfold codeOf; rw [if_neg (by omega)]] at h
  exact h

set_option maxHeartbeats 400000 in
theorem coded1 (E : Nat → Addr) (j : Nat) (h2 : j ≤ 12) (n : Int) (w : World) (hG : ErrG E w) :
    Calls Tryz.prog 9 #[errOf E j, .int .i64 n] w fun e w' => e = .returned (.bool ((j : Int) == n)) ∧ Below w.heap.size w w' := by
  by_cases h0 : j = 0
  · subst h0
    rw [errOf_zero]
    have HC := Lib.hid (code_nil w)
    go_enter Tryz.func9, Tryz.ntmps9
    go_wp2_with fail
    refine HC.out.mono ?_
    rintro e w1 ⟨rfl, rfl⟩
    go_wp2_with fail
    all_goals go_ret
    all_goals exact ⟨by simp; assumption, Below.refl _ _⟩
  · rw [errOf_pos _ _ h0]
    have HC := Lib.hid (code_sent E j (by omega) h2 w hG)
    go_enter Tryz.func9, Tryz.ntmps9
    go_wp2_with fail
    refine HC.out.mono ?_
    rintro e w1 ⟨rfl, hb⟩
    go_wp2_with fail
    all_goals go_ret
    all_goals exact ⟨by simp; assumption, hb⟩
theorem coded1_is (E : Nat → Addr) (j : Nat) (h1 : 1 ≤ j) (h2 : j ≤ 12) (n : Int) (hn : n = j) (w : World) (hG : ErrG E w) :
    Calls Tryz.prog 9 #[.iface 183 (.pointer (some (E j))), .int .i64 n] w fun e w' => e = .returned (.bool true) ∧ Below w.heap.size w w' := by
  have h := coded1 E j h2 n w hG
  rw [errOf_pos _ _ (by omega), hn, beq_self_eq_true] at h
  rw [hn]
  exact h
end Go.Proofs.YtllcddlflcpmbaaGreatDoor
