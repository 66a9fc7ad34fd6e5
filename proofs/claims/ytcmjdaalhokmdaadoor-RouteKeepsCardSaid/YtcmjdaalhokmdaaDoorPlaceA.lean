/- Places: Ahead. -/
import Derived.Test.YtcmjdaalhokmdaaDoorPlaceC
namespace Go.Proofs.YtcmjdaalhokmdaaDoor
open Go.RowKit Go.Sort Go.Proofs

set_option maxHeartbeats 400000 in
theorem ahead_any (x y : PlaceV) (hx : InP x) (hy : InP y) (W : World) : Calls Tryd.prog 9 #[.agg (encPlace x).toArray, .agg (encPlace y).toArray] W fun e w' => e = .returned (.bool (ltOf cfPlace x y)) ∧ Below W.heap.size W w' := by
  have hc := fun W' => cmpPlace_any x y hx hy W'
  have HL := Lib.hid (show ltOf cfPlace x y = decide (cfPlace x y < 0) from rfl)
  obtain ⟨a1, a2, a3⟩ := x
  obtain ⟨b1, b2, b3⟩ := y
  simp only [encPlace] at hc ⊢
  have HC := Lib.hid hc
  clear hc hx hy
  generalize cfPlace (a1, a2, a3) (b1, b2, b3) = c at HC HL
  go_enter Tryd.func9, Tryd.ntmps9
  go_wp2_with fail
  refine (HC.out _).mono ?_
  rintro e w1 ⟨rfl, q, os, hw⟩
  have hb := below_grown ((W.alloc (.cells #[.string ⟨a1.toArray⟩, .int .i64 a2, .int .i64 a3] 31)).alloc (.cells #[.string ⟨b1.toArray⟩, .int .i64 b2, .int .i64 b3] 31)) q os
  have B1 : Hid (Below W.heap.size W w1) := by
    rw [hw]
    exact (((Below.refl W.heap.size W).alloc (Nat.le_refl _) _).alloc (by simp) _).trans (hb.mono (by simp; omega))
  clear hw HC hb
  go_wp2
  go_ret
  exact ⟨by rw [HL.out]; rfl, B1.out⟩
end Go.Proofs.YtcmjdaalhokmdaaDoor
