/- The closed fact on tapes. -/
import Derived.Test.YtcmjdaalhokmdaaDoorTapes
namespace Go.Proofs.YtcmjdaalhokmdaaDoor
open Go.RowKit

theorem recL_ab : recL [97, 32, 98] = [51, 58, 97, 32, 98, 10, 46] := by
  unfold recL
  rw [show ([97, 32, 98] : List UInt8).length = 3 from rfl, Lib.decDigits_one (by omega)]
  rfl
theorem appD_ab : appD ⟨[], false, -1⟩ [97, 32, 98] = (0, ⟨[51, 58, 97, 32, 98, 10, 46], false, -1⟩) := by
  unfold appD
  rw [recL_ab]
  rfl
theorem read_ab : ReadIs [51, 58, 97, 32, 98, 10, 46] [[97, 32, 98]] 7 := by
  have h := read_recs (l := [[97, 32, 98]]) (by simp)
  simp only [recsL, recL_ab, List.append_nil] at h
  exact h

theorem WrEnds.err0 {E : Nat → Addr} {p g : Nat} {w : World} {d : Dk} {e : Ending} {w' : World} (h : WrEnds E p g w (0, d) e w') : e = .returned .nilIface ∧ ∃ g', DiskAt w' p g' d ∧ OnlyD p g w w' ∧ (g' = g ∨ w.heap.size ≤ g') := h

set_option maxHeartbeats 800000 in
theorem taped_any (E : Nat → Addr) (w : World) (hG : TapeG E w) : Calls Tryd.prog 10 #[] w fun e w' => e = .returned (.bool true) ∧ Below w.heap.size w w' := by
  go_enter Tryd.func10, Tryd.ntmps10
  go_wp2_with fail
  refine (newDisk_any [] (by simp) w).mono ?_
  rintro e w1 ⟨p, g, rfl, hD1, hp, hg, b1⟩
  have hoff := lt_of_cell hG.off
  have h2 := append_any p g E _ [97, 32, 98] w1 (hG.below b1) (by simp at hoff; omega) (by simp at hoff; omega) hD1 (by simp) (by simp) (by simp)
  rw [appD_ab] at h2
  have H2 := Lib.hid h2
  clear h2 hD1
  go_wp2_with fail
  refine H2.out.mono ?_
  intro e w2 h3
  obtain ⟨rfl, g2, hD2, ho2, hg2⟩ := h3.err0
  have b2 := ho2.below b1 hp hg b1.size
  have hg2' : w.heap.size ≤ g2 := by have := b1.size; omega
  have HR := Lib.hid (recover_any p g2 E _ w w2 hG b2 hp hg2' hD2 (by simp))
  clear hD2 h3
  go_wp2_with fail
  refine HR.out.mono ?_
  rintro e w3 ⟨l, n, A, cap, hr, hn, hl, rfl, hS, hA, hD3, ho3⟩
  have b3 := ho3.below b2 hp hg2' b2.size
  obtain ⟨rfl, rfl⟩ := hr.unique read_ab
  have HS := Lib.hid hS
  have HD3 := Lib.hid hD3
  clear hr hn hl hS hD3
  go_wp2_with fail
  have b4 : Below w3.heap.size w3 (w3.alloc (.cells #[.string ⟨#[97, 32, 98]⟩] 9)) := (Below.refl _ _).alloc (Nat.le_refl _) _
  have hn4 : StrsAt (w3.alloc (.cells #[.string ⟨#[97, 32, 98]⟩] 9)) (some ⟨w3.heap.size, 0, none⟩) [[97, 32, 98]] := .inr ⟨w3.heap.size, 0, rfl, by simp, fun i hi => by
    obtain rfl : i = 0 := by simp at hi; omega
    rw [cellB (heap_alloc_new _ _)]; rfl⟩
  have hs := sameTexts_any A (some ⟨w3.heap.size, 0, none⟩) cap 1 [[97, 32, 98]] [[97, 32, 98]] _ (HS.out.below b4) hn4 (by simp)
  rw [decide_eq_true rfl] at hs
  refine hs.mono ?_
  rintro e w4 ⟨rfl, b5⟩
  have hz : (w3.alloc (.cells #[.string ⟨#[97, 32, 98]⟩] 9)).heap.size = w3.heap.size + 1 := by simp
  have b6 := b4.trans (b5.mono (by omega))
  have hD4 := HD3.out.below b6
  have b7 := b3.trans (b6.mono b3.size)
  clear hs hn4 b4 b5 b6 hz
  go_wp2_with fail
  refine (bytes_any p g2 _ w4 hD4).mono ?_
  rintro e w5 ⟨rfl, rfl⟩
  go_wp2
  go_ret
  exact ⟨rfl, b7⟩
end Go.Proofs.YtcmjdaalhokmdaaDoor
