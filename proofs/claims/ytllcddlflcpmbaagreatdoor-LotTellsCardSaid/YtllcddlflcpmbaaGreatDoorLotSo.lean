/- Lots: Sooner. -/
import Derived.Test.YtllcddlflcpmbaaGreatDoorLot
namespace Go.Proofs.YtllcddlflcpmbaaGreatDoor
open Go.RowKit Go.Sort Go.Proofs

set_option maxHeartbeats 400000 in
theorem sooner_any (x y : LotV) (W : World) : Calls Tryz.prog 15 #[.agg (encLot x).toArray, .agg (encLot y).toArray] W fun e w' => e = .returned (.bool (ltOf cfLot x y)) ∧ Below W.heap.size W w' := by
  have hc := fun W' => cmpLot_any x y W'
  have HL := Lib.hid (show ltOf cfLot x y = decide (cfLot x y < 0) from rfl)
  obtain ⟨a1, a2, a3, a4⟩ := x
  obtain ⟨b1, b2, b3, b4⟩ := y
  simp only [encLot] at hc ⊢
  have HC := Lib.hid hc
  clear hc
  generalize cfLot (a1, a2, a3, a4) (b1, b2, b3, b4) = c at HC HL
  go_enter Tryz.func15, Tryz.ntmps15
  go_wp2_with fail
  refine (HC.out _).mono ?_
  rintro e w1 ⟨rfl, q, os, hw⟩
  have hb := below_grown ((W.alloc (.cells #[.string ⟨a1.toArray⟩, .string ⟨a2.toArray⟩, .int .i64 a3, .int .i64 a4] 23)).alloc (.cells #[.string ⟨b1.toArray⟩, .string ⟨b2.toArray⟩, .int .i64 b3, .int .i64 b4] 23)) q os
  have B1 : Hid (Below W.heap.size W w1) := by
    rw [hw]
    exact (((Below.refl W.heap.size W).alloc (Nat.le_refl _) _).alloc (by simp) _).trans (hb.mono (by simp; omega))
  clear hw HC hb
  go_wp2
  go_ret
  exact ⟨by rw [HL.out]; rfl, B1.out⟩
end Go.Proofs.YtllcddlflcpmbaaGreatDoor
