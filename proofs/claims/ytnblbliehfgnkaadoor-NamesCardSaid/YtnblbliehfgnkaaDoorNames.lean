/- The walk of the statement Names: the numbers of package api, and of its errors, are those of the document. A closed sentence: no conditions. -/
import Derived.Test.YtnblbliehfgnkaaDoorCoded
namespace Go.Proofs.YtnblbliehfgnkaaDoor
open Go.RowKit

set_option maxHeartbeats 400000 in
theorem sameInts_yes (b c n : Nat) (w : World) (hn : n ≤ 1000) (hc : ∀ k, k < n → ∃ x : Int, w.cell? ⟨b, k, none⟩ = some (.int .i64 x) ∧ w.cell? ⟨c, k, none⟩ = some (.int .i64 x)) :
    Calls Tryd.prog 9 #[.slice (some ⟨b, 0, none⟩) n n, .slice (some ⟨c, 0, none⟩) n n] w fun e w' => e = .returned (.bool true) ∧ Below w.heap.size w w' := by
  have HC := Lib.hid hc
  clear hc
  go_enter Tryd.func9, Tryd.ntmps9
  go_wp2
  go_loopw [5] (fun i wr => ∃ k : Nat, k ≤ n ∧ i = .int .i64 k ∧ ∃ m, wr = w.drewN m) (fun i _ => n - (intOf i).toNat)
  case atStart => exact ⟨0, by omega, rfl, 0, rfl⟩
  case round =>
    obtain ⟨k, hk, rfl, m, rfl⟩ := hrel
    by_cases hlt : k < n
    · obtain ⟨x, hb, hcc⟩ := HC.out k hlt
      have i1 : (k : Int) < (n : Int) := by omega
      have i0 : (0 : Int) ≤ (k : Int) := by omega
      go_wp2_with fail
      go_quiet (fail)
      go_wp2_with fail
      go_roundw
      case rel => exact ⟨k + 1, by omega, by go_num, _, rfl⟩
      case measure => simp [intOf]; omega
    · go_wp2_with fail
      go_ret
      exact ⟨rfl, below_drewN (Below.refl _ _) _⟩

set_option maxHeartbeats 400000 in
theorem new_any (s : ByteArray) (w : World) : Calls Tryd.prog 12 #[.string s] w fun e w' => e = .returned (.iface 79 (.pointer (some ⟨w.heap.size, 0, none⟩))) ∧ w' = w.alloc (.cells #[.string s] 81) := by
  go_enter Tryd.func12, Tryd.ntmps12
  go_wp2
  go_ret
  exact ⟨rfl, rfl⟩

set_option maxHeartbeats 1000000 in
theorem names_walk (E : Nat → Addr) (w : World) (hG : ErrG E w) :
    Calls Tryd.prog 3 #[] w fun e w' => e = .returned (.bool true) ∧ Below w.heap.size w w' := by
  go_enter Tryd.func3, Tryd.ntmps3
  go_wp2_with fail
  refine (sameInts_yes w.heap.size (w.heap.size + 1) 15 _ (by omega) ?_).mono ?_
  · intro k hk
    rcases (show k = 0 ∨ k = 1 ∨ k = 2 ∨ k = 3 ∨ k = 4 ∨ k = 5 ∨ k = 6 ∨ k = 7 ∨ k = 8 ∨ k = 9 ∨ k = 10 ∨ k = 11 ∨ k = 12 ∨ k = 13 ∨ k = 14 by omega) with rfl | rfl | rfl | rfl | rfl | rfl | rfl | rfl | rfl | rfl | rfl | rfl | rfl | rfl | rfl <;> exact ⟨_, by rw [World.cell?_alloc_lt _ _ _ (by simp)]; simp; rfl, by rw [World.cell?_alloc_at _ _ _ _ (by simp)]; rfl⟩
  rintro e w1 ⟨rfl, hb1⟩
  have hb : Below w.heap.size w w1 := (((Below.refl w.heap.size w).alloc (Nat.le_refl _) _).alloc (by simp) _).trans (hb1.mono (by simp; omega))
  clear hb1
  have hG1 := hG.below hb
  have c1 := hG1.at_ 1 (by omega) (by omega)
  have c2 := hG1.at_ 2 (by omega) (by omega)
  have c3 := hG1.at_ 3 (by omega) (by omega)
  have c4 := hG1.at_ 4 (by omega) (by omega)
  have c5 := hG1.at_ 5 (by omega) (by omega)
  have c6 := hG1.at_ 6 (by omega) (by omega)
  have c7 := hG1.at_ 7 (by omega) (by omega)
  have c8 := hG1.at_ 8 (by omega) (by omega)
  have c9 := hG1.at_ 9 (by omega) (by omega)
  have c10 := hG1.at_ 10 (by omega) (by omega)
  have c11 := hG1.at_ 11 (by omega) (by omega)
  have c12 := hG1.at_ 12 (by omega) (by omega)
  simp only [gErr, ErrAt] at c1 c2 c3 c4 c5 c6 c7 c8 c9 c10 c11 c12
  go_wp2_with fail
  clear c1 c2 c3 c4 c5 c6 c7 c8 c9 c10 c11 c12 hG1
  have hc := cells12 E w1
  have hb2 : Below w.heap.size w (w1.alloc (.cells #[.iface 79 (.pointer (some (E 1))), .iface 79 (.pointer (some (E 2))), .iface 79 (.pointer (some (E 3))), .iface 79 (.pointer (some (E 4))), .iface 79 (.pointer (some (E 5))), .iface 79 (.pointer (some (E 6))), .iface 79 (.pointer (some (E 7))), .iface 79 (.pointer (some (E 8))), .iface 79 (.pointer (some (E 9))), .iface 79 (.pointer (some (E 10))), .iface 79 (.pointer (some (E 11))), .iface 79 (.pointer (some (E 12)))] 25)) := hb.alloc hb.size _
  have hg : w1.heap.size < (w1.alloc (.cells #[.iface 79 (.pointer (some (E 1))), .iface 79 (.pointer (some (E 2))), .iface 79 (.pointer (some (E 3))), .iface 79 (.pointer (some (E 4))), .iface 79 (.pointer (some (E 5))), .iface 79 (.pointer (some (E 6))), .iface 79 (.pointer (some (E 7))), .iface 79 (.pointer (some (E 8))), .iface 79 (.pointer (some (E 9))), .iface 79 (.pointer (some (E 10))), .iface 79 (.pointer (some (E 11))), .iface 79 (.pointer (some (E 12)))] 25)).heap.size := by simp
  generalize w1.alloc (.cells #[.iface 79 (.pointer (some (E 1))), .iface 79 (.pointer (some (E 2))), .iface 79 (.pointer (some (E 3))), .iface 79 (.pointer (some (E 4))), .iface 79 (.pointer (some (E 5))), .iface 79 (.pointer (some (E 6))), .iface 79 (.pointer (some (E 7))), .iface 79 (.pointer (some (E 8))), .iface 79 (.pointer (some (E 9))), .iface 79 (.pointer (some (E 10))), .iface 79 (.pointer (some (E 11))), .iface 79 (.pointer (some (E 12)))] 25) = w2 at hc hb2 hg ⊢
  generalize w1.heap.size = g at hc hg ⊢
  have HC := Lib.hid hc
  clear hc hb
  go_loopw [4] (fun i wr => ∃ k : Nat, k ≤ 12 ∧ i = .int .i64 k ∧ Below w2.heap.size w2 wr) (fun i _ => 12 - (intOf i).toNat)
  case atStart => exact ⟨0, by omega, rfl, Below.refl _ _⟩
  case round =>
    obtain ⟨k, hk, rfl, hr⟩ := hrel
    have hr0 : Below w.heap.size w wr := hb2.trans (hr.mono hb2.size)
    by_cases hlt : k < 12
    · have hcell : wr.cell? ⟨g, k, none⟩ = some (.iface 79 (.pointer (some (E (k + 1))))) := (hr.cell hg).trans (HC.out k hlt)
      have i1 : (k : Int) < 12 := by omega
      have i0 : (0 : Int) ≤ (k : Int) := by omega
      have hF : Below wr.heap.size wr (wr.alloc (.cells #[.int .i64 7, .iface 79 (.pointer (some (E (k + 1))))] 31)) := (Below.refl _ _).alloc (Nat.le_refl _) _
      have hGr := hG.below hr0
      have hq : (((k + 1 : Nat) : Int) != (k : Int) + 1) = false := by simp
      go_wp2_with fail
      refine (code_fault E wr.heap.size 0 7 (k + 1) (by omega) (by omega) _ (hGr.below hF) (by simp) (by simp)).mono ?_
      rintro e w3 ⟨rfl, hb3⟩
      have hr3 : Below wr.heap.size wr w3 := hF.trans (hb3.mono hF.size)
      have hcell3 : w3.cell? ⟨g, k, none⟩ = some (.iface 79 (.pointer (some (E (k + 1))))) := (hr3.cell (lt_of_cell hcell)).trans hcell
      clear hb3
      go_wp2_with fail
      refine (coded1_is E (k + 1) (by omega) (by omega) _ (by omega) _ (hGr.below hr3)).mono ?_
      rintro e w4 ⟨rfl, hb4⟩
      go_wp2_with fail
      go_roundw
      case rel => exact ⟨k + 1, by omega, by go_num, hr.trans ((hr3.trans (hb4.mono hr3.size)).mono hr.size)⟩
      case measure => simp [intOf]; omega
    · have hk12 : 12 ≤ k := by omega
      have hne : ∀ k, 1 ≤ k → k ≤ 12 → (⟨wr.heap.size, 0, none⟩ : Addr) ≠ E k := by
        intro j j1 j2 he
        obtain ⟨cs, t, hrow⟩ := hG.row j j1 j2
        have := lt_of_row hrow
        have h2 := hr0.size
        rw [← he] at this
        simp at this
        omega
      have HN := Lib.hid hne
      clear hne
      go_wp2_with fail
      refine (new_any _ _).mono ?_
      rintro e w3 ⟨rfl, rfl⟩
      go_wp2_with fail
      refine (code_other E ⟨wr.heap.size, 0, none⟩ _ (hG.below (hr0.alloc hr0.size _)) _ _ (heap_alloc_new _ _) HN.out).mono ?_
      rintro e w4 ⟨rfl, hb4⟩
      have hr4 : Below w.heap.size w w4 := (hr0.alloc hr0.size _).trans (hb4.mono (hr0.alloc hr0.size _).size)
      go_wp2_with fail
      have hz := coded1 E 0 (by omega) 0 w4 (hG.below hr4)
      rw [errOf_zero] at hz
      refine hz.mono ?_
      rintro e w5 ⟨rfl, hb5⟩
      go_wp2_with fail
      go_ret
      exact ⟨rfl, hr4.trans (hb5.mono hr4.size)⟩
end Go.Proofs.YtnblbliehfgnkaaDoor
