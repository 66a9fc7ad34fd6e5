/- The document's layers: how many pieces, what they cost. -/
import Derived.Test.YtnblbliehfgnkaaDoorLayers
import Derived.Test.YtnblbliehfgnkaaDoorFlow
namespace Go.Proofs.YtnblbliehfgnkaaDoor
open Go.RowKit

set_option maxHeartbeats 400000 in
theorem rhas_any (p g : Nat) (ls : Ls) (w : World) (hL : LayR w p g ls) (hk : OkL ls) (hlen : ls.length ≤ 1000000) :
    Calls Tryd.prog 27 #[.pointer (some ⟨p, 0, none⟩)] w fun e w' => e = .returned (.int .i64 (hasL ls : Nat)) ∧ Below w.heap.size w w' := by
  obtain ⟨A, cap, hA, hc1, hc2, hcell⟩ := hL.reads
  have hh := hk.has
  clear hL hk
  have HC := Lib.hid hcell
  clear hcell
  go_enter Tryd.func27, Tryd.ntmps27
  go_wp2
  go_loopw [3, 4] (fun n i wr => ∃ k : Nat, k ≤ ls.length ∧ i = .int .i64 k ∧ n = .int .i64 (hasL (ls.take k) : Nat) ∧ wr = w) (fun _ i _ => ls.length - (intOf i).toNat)
  case atStart => exact ⟨0, by omega, rfl, rfl, rfl⟩
  case round =>
    obtain ⟨k, hk, rfl, rfl, rfl⟩ := hrel
    have hle := hasL_le ls k
    by_cases hkl : k < ls.length
    · obtain ⟨off, rfl, hcells⟩ := HC.out (by omega)
      obtain ⟨c1, c2⟩ := hcells k hkl
      have hts := hasL_take ls k hkl
      have hle1 := hasL_le ls (k + 1)
      have hsum : hasL (ls.take k) + ls[k].1 ≤ 1099511627776 := by omega
      have HT := Lib.hid hts
      clear hcells hts
      go_wp2
      exact ⟨⟨k + 1, by omega, by simp, by rw [HT.out]; simp, trivial⟩, by simp [intOf]; omega⟩
    · have hkn : ls.length ≤ k := by omega
      have HT := Lib.hid (show ls.take k = ls from List.take_of_length_le hkn)
      go_wp2
      go_ret
      refine ⟨?_, Below.refl _ _⟩
      show Ending.returned (.int .i64 (hasL (ls.take k) : Nat)) = _
      rw [HT.out]

set_option maxHeartbeats 400000 in
theorem rworth_any (p g : Nat) (ls : Ls) (w : World) (hL : LayR w p g ls) (hk : OkL ls) (hlen : ls.length ≤ 1000000) :
    Calls Tryd.prog 28 #[.pointer (some ⟨p, 0, none⟩)] w fun e w' => e = .returned (.int .i64 (worthL ls : Nat)) ∧ Below w.heap.size w w' := by
  obtain ⟨A, cap, hA, hc1, hc2, hcell⟩ := hL.reads
  have hh := hk.worth
  clear hL hk
  have HC := Lib.hid hcell
  clear hcell
  go_enter Tryd.func28, Tryd.ntmps28
  go_wp2
  go_loopw [3, 4] (fun n i wr => ∃ k : Nat, k ≤ ls.length ∧ i = .int .i64 k ∧ n = .int .i64 (worthL (ls.take k) : Nat) ∧ ∃ m, wr = w.drewN m) (fun _ i _ => ls.length - (intOf i).toNat)
  case atStart => exact ⟨0, by omega, rfl, rfl, 0, rfl⟩
  case round =>
    obtain ⟨k, hk, rfl, rfl, m, rfl⟩ := hrel
    have hle := worthL_le ls k
    by_cases hkl : k < ls.length
    · obtain ⟨off, rfl, hcells⟩ := HC.out (by omega)
      obtain ⟨c1, c2⟩ := hcells k hkl
      have hts := worthL_take ls k hkl
      have hle1 := worthL_le ls (k + 1)
      have hsum : worthL (ls.take k) + ls[k].1 * ls[k].2 ≤ 1152921504606846976 := by omega
      have p0 : (0 : Int) ≤ (ls[k].1 : Int) * (ls[k].2 : Int) := Int.mul_nonneg (by omega) (by omega)
      have p2 : ((ls[k].1 * ls[k].2 : Nat) : Int) = (ls[k].1 : Int) * (ls[k].2 : Int) := by simp
      have p1 : (worthL (ls.take k) : Int) + (ls[k].1 : Int) * (ls[k].2 : Int) ≤ 1152921504606846976 := by omega
      clear p2 hsum
      have HT := Lib.hid hts
      clear hcells hts
      go_wp2_with fail
      go_quiet (fail)
      go_wp2
      exact ⟨⟨k + 1, by omega, by simp, by rw [HT.out]; simp, _, rfl⟩, by simp [intOf]; omega⟩
    · have hkn : ls.length ≤ k := by omega
      have HT := Lib.hid (show ls.take k = ls from List.take_of_length_le hkn)
      go_wp2
      go_ret
      refine ⟨?_, below_drewN (Below.refl _ _) _⟩
      show Ending.returned (.int .i64 (worthL (ls.take k) : Nat)) = _
      rw [HT.out]
end Go.Proofs.YtnblbliehfgnkaaDoor
