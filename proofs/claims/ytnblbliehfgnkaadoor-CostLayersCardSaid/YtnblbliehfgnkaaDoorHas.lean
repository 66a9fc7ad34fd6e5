/- Layers: how many pieces, what they cost. -/
import Derived.Test.YtnblbliehfgnkaaDoorLayers
namespace Go.Proofs.YtnblbliehfgnkaaDoor
open Go.RowKit

set_option maxHeartbeats 400000 in
theorem has_any (p g : Nat) (ls : Ls) (w : World) (hL : Lay w p g ls) (hk : OkL ls) (hlen : ls.length ≤ 1000000) :
    Calls Tryd.prog 26 #[.pointer (some ⟨p, 0, none⟩)] w fun e w' => e = .returned (.int .i64 (hasL ls : Nat)) ∧ Below w.heap.size w w' := by
  obtain ⟨A, cap, hA, hc1, hc2, hcell⟩ := hL.reads
  have hh := hk.has
  have hlt := hL.lt
  clear hL hk
  have HC := Lib.hid hcell
  clear hcell
  go_enter Tryd.func26, Tryd.ntmps26
  go_wp2
  go_loopw [3, 11] (fun n i wr => ∃ k : Nat, k ≤ ls.length ∧ i = .int .i64 k ∧ n = .int .i64 (hasL (ls.take k) : Nat) ∧ Below w.heap.size w wr) (fun _ i _ => ls.length - (intOf i).toNat)
  case atStart => exact ⟨0, by omega, rfl, rfl, Below.refl _ _⟩
  case round =>
    obtain ⟨k, hk, rfl, rfl, hb⟩ := hrel
    have hle := hasL_le ls k
    by_cases hkl : k < ls.length
    · obtain ⟨off, rfl, hcells⟩ := HC.out (by omega)
      obtain ⟨c1, c2⟩ := hcells k hkl
      have d1 : wr.cell? ⟨g, off + k * 2, none⟩ = some (.int .i64 (ls[k].1 : Nat)) := (hb.cell hlt.2).trans c1
      have d2 : wr.cell? ⟨g, off + k * 2 + 1, none⟩ = some (.int .i64 (ls[k].2 : Nat)) := (hb.cell hlt.2).trans c2
      have hts := hasL_take ls k hkl
      have hle1 := hasL_le ls (k + 1)
      have hsum : hasL (ls.take k) + ls[k].1 ≤ 1099511627776 := by omega
      have HT := Lib.hid hts
      clear c1 c2 hcells hA hts
      go_wp2
      go_roundw
      case rel => exact ⟨k + 1, by omega, by go_num, by rw [HT.out]; go_num, hb.alloc hb.size _⟩
      case measure => simp [intOf]; omega
    · have hkn : ls.length ≤ k := by omega
      have HT := Lib.hid (show ls.take k = ls from List.take_of_length_le hkn)
      clear hA
      go_wp2
      go_ret
      refine ⟨?_, hb⟩
      show Ending.returned (.int .i64 (hasL (ls.take k) : Nat)) = _
      rw [HT.out]

set_option maxHeartbeats 400000 in
theorem worth_any (p g : Nat) (ls : Ls) (w : World) (hL : Lay w p g ls) (hk : OkL ls) (hlen : ls.length ≤ 1000000) :
    Calls Tryd.prog 17 #[.pointer (some ⟨p, 0, none⟩)] w fun e w' => e = .returned (.int .i64 (worthL ls : Nat)) ∧ Below w.heap.size w w' := by
  obtain ⟨A, cap, hA, hc1, hc2, hcell⟩ := hL.reads
  have hh := hk.worth
  have hlt := hL.lt
  clear hL hk
  have HC := Lib.hid hcell
  clear hcell
  go_enter Tryd.func17, Tryd.ntmps17
  go_wp2
  go_loopw [3, 11] (fun n i wr => ∃ k : Nat, k ≤ ls.length ∧ i = .int .i64 k ∧ n = .int .i64 (worthL (ls.take k) : Nat) ∧ Below w.heap.size w wr) (fun _ i _ => ls.length - (intOf i).toNat)
  case atStart => exact ⟨0, by omega, rfl, rfl, Below.refl _ _⟩
  case round =>
    obtain ⟨k, hk, rfl, rfl, hb⟩ := hrel
    have hle := worthL_le ls k
    by_cases hkl : k < ls.length
    · obtain ⟨off, rfl, hcells⟩ := HC.out (by omega)
      obtain ⟨c1, c2⟩ := hcells k hkl
      have d1 : wr.cell? ⟨g, off + k * 2, none⟩ = some (.int .i64 (ls[k].1 : Nat)) := (hb.cell hlt.2).trans c1
      have d2 : wr.cell? ⟨g, off + k * 2 + 1, none⟩ = some (.int .i64 (ls[k].2 : Nat)) := (hb.cell hlt.2).trans c2
      have hts := worthL_take ls k hkl
      have hle1 := worthL_le ls (k + 1)
      have hsum : worthL (ls.take k) + ls[k].1 * ls[k].2 ≤ 1152921504606846976 := by omega
      have p0 : (0 : Int) ≤ (ls[k].1 : Int) * (ls[k].2 : Int) := Int.mul_nonneg (by omega) (by omega)
      have p2 : ((ls[k].1 * ls[k].2 : Nat) : Int) = (ls[k].1 : Int) * (ls[k].2 : Int) := by simp
      have p1 : (worthL (ls.take k) : Int) + (ls[k].1 : Int) * (ls[k].2 : Int) ≤ 1152921504606846976 := by omega
      clear p2 hsum
      have HT := Lib.hid hts
      clear c1 c2 hcells hA hts
      go_wp2
      go_roundw
      case rel => exact ⟨k + 1, by omega, by go_num, by rw [HT.out]; simp, hb.alloc hb.size _⟩
      case measure => simp [intOf]; omega
    · have hkn : ls.length ≤ k := by omega
      have HT := Lib.hid (show ls.take k = ls from List.take_of_length_le hkn)
      clear hA
      go_wp2
      go_ret
      refine ⟨?_, hb⟩
      show Ending.returned (.int .i64 (worthL (ls.take k) : Nat)) = _
      rw [HT.out]

end Go.Proofs.YtnblbliehfgnkaaDoor
