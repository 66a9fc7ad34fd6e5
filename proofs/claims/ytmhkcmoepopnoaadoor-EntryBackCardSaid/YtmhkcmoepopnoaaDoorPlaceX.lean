/- Places: Text. -/
import Derived.Test.YtmhkcmoepopnoaaDoorPlace
import Derived.Test.YtmhkcmoepopnoaaDoorItoa
import Derived.Lib.ItoaLen
namespace Go.Proofs.YtmhkcmoepopnoaaDoor
open Go.RowKit Go.Sort Go.Proofs

/-- A place's text. -/
def placeText (x : PlaceV) : List UInt8 := if placeE x = 0 then x.1 ++ [45] ++ Lib.itoa x.2.1 ++ [45] ++ Lib.itoa x.2.2 else []
set_option maxHeartbeats 800000 in
theorem textPlace_any (E : Nat → Addr) (x : PlaceV) (w : World) (hG : PlaceG E w) :
    Calls Tryd.prog 20 #[.agg (encPlace x).toArray] w fun e w' => e = .returned (.string ⟨(placeText x).toArray⟩) ∧ Below w.heap.size w w' := by
  have HCK := Lib.hid (fun W h => checkPlace_any E x W h)
  by_cases hE : placeE x = 0
  · have hx := placeE_zero.1 hE
    have l1 := (nameB_len hx.1).2
    have HTX := Lib.hid (show placeText x = x.1 ++ [45] ++ Lib.itoa x.2.1 ++ [45] ++ Lib.itoa x.2.2 by unfold placeText; rw [if_pos hE])
    have HCK' := Lib.hid (show ∀ W, PlaceG E W → Calls Tryd.prog 31 #[.agg (encPlace x).toArray] W fun e w' => e = .returned .nilIface ∧ Below W.heap.size W w' from fun W h => by have := HCK.out W h; rw [hE] at this; exact this)
    obtain ⟨a1, a2, a3⟩ := x
    simp only [encPlace] at HCK' HTX ⊢
    simp only at hx l1
    obtain ⟨-, x1, x2, x3, x4⟩ := hx
    have HG := Lib.hid hG
    clear hG HCK hE
    have n2 := Lib.itoa_length_le a2 (by omega) (by omega)
    have n3 := Lib.itoa_length_le a3 (by omega) (by omega)
    have s1 : (⟨a1.toArray⟩ : ByteArray).size = a1.length := by simp [ByteArray.size]
    go_enter Tryd.func20, Tryd.ntmps20
    go_wp2_with fail
    have b0 : Below w.heap.size w (w.alloc (.cells #[.string ⟨a1.toArray⟩, .int .i64 a2, .int .i64 a3] 27)) := (Below.refl _ _).alloc (Nat.le_refl _) _
    refine (HCK'.out _ (HG.out.below b0)).mono ?_
    rintro e w1 ⟨rfl, bb1⟩
    have lw := heap_two bb1
    obtain ⟨hc, hf⟩ := bcell bb1
    have b1 := b0.trans (bb1.mono (by simp))
    have c0 : w1.cell? ⟨w.heap.size, 0, none⟩ = some (.string ⟨a1.toArray⟩) := by rw [hc _ _ (by simp)]; go_simp
    have c1 : w1.cell? ⟨w.heap.size, 1, none⟩ = some (.int .i64 a2) := by rw [hc _ _ (by simp)]; go_simp
    have c2 : w1.cell? ⟨w.heap.size, 2, none⟩ = some (.int .i64 a3) := by rw [hc _ _ (by simp)]; go_simp
    clear hc hf b0 bb1 HCK'
    go_wp2_with fail
    have hd : Below w.heap.size w w1.drew := b1.drew
    have HT := Lib.hid (show ∀ W, Below w.heap.size w W → TabG W from fun W h => (HG.out.below h).tab)
    have v1 : ¬ 9223372036854775807 < a1.length + 1 := by omega
    have v2 : ¬ 9223372036854775807 < a1.length + 1 + (Lib.itoa a2).length := by omega
    have v3 : ¬ 9223372036854775807 < a1.length + 1 + (Lib.itoa a2).length + 1 := by omega
    have v4 : ¬ 9223372036854775807 < a1.length + 1 + (Lib.itoa a2).length + 1 + (Lib.itoa a3).length := by omega
    go_region_held3 (fun w' => w'.cell? ⟨w.heap.size, 0, none⟩ = some (.string ⟨a1.toArray⟩) ∧ w'.cell? ⟨w.heap.size, 1, none⟩ = some (.int .i64 a2) ∧ w'.cell? ⟨w.heap.size, 2, none⟩ = some (.int .i64 a3) ∧ Below w.heap.size w w')
      (first | exact ⟨c0, c1, c2, hd⟩ | exact ⟨(q4.cell lw).trans c0, (q4.cell lw).trans c1, (q4.cell lw).trans c2, b4⟩ | exact ⟨(q3.cell lw).trans c0, (q3.cell lw).trans c1, (q3.cell lw).trans c2, b3⟩ | go_keep)
      (first
        | (go_at_call_of 18 (Value.int .i64 a2); refine (itoa_any a2 (by omega) (by omega) _ (HT.out _ hd)).mono ?_; rintro e w3 ⟨rfl, bb3⟩; have q3 : Below w1.heap.size w1 w3 := (Below.refl w1.heap.size w1).drew.trans bb3; have b3 := b1.trans (q3.mono b1.size))
        | (go_at_call_of 18 (Value.int .i64 a3); refine (itoa_any a3 (by omega) (by omega) _ (HT.out _ b3)).mono ?_; rintro e w4 ⟨rfl, bb4⟩; have q4 := q3.trans (bb4.mono q3.size); have b4 := b1.trans (q4.mono b1.size)))
    all_goals
      have B4 := Lib.hid b4
      clear b4 q4 q3 b3 bb3 bb4 hd b1 c0 c1 c2
      go_wp2_with fail
      go_ret
      refine ⟨?_, B4.out⟩
      rw [HTX.out]
      show Ending.returned (.string ((⟨a1.toArray⟩ : ByteArray) ++ (⟨#[45]⟩ : ByteArray) ++ (⟨(Lib.itoa a2).toArray⟩ : ByteArray) ++ (⟨#[45]⟩ : ByteArray) ++ (⟨(Lib.itoa a3).toArray⟩ : ByteArray))) = _
      rw [show (⟨#[45]⟩ : ByteArray) = ⟨[45].toArray⟩ from rfl, mk_app, mk_app, mk_app, mk_app]
  · have HTX := Lib.hid (show placeText x = [] by unfold placeText; rw [if_neg hE])
    have HCK' := Lib.hid (show ∀ W, PlaceG E W → Calls Tryd.prog 31 #[.agg (encPlace x).toArray] W fun e w' => e = .returned (.iface 129 (.pointer (some (E (placeE x))))) ∧ Below W.heap.size W w' from fun W h => by have := HCK.out W h; rw [errOf_pos _ _ hE] at this; exact this)
    generalize placeE x = k at HCK'
    obtain ⟨a1, a2, a3⟩ := x
    simp only [encPlace] at HCK' ⊢
    have HG := Lib.hid hG
    clear hG HCK hE
    go_enter Tryd.func20, Tryd.ntmps20
    go_wp2_with fail
    have b0 : Below w.heap.size w (w.alloc (.cells #[.string ⟨a1.toArray⟩, .int .i64 a2, .int .i64 a3] 27)) := (Below.refl _ _).alloc (Nat.le_refl _) _
    refine (HCK'.out _ (HG.out.below b0)).mono ?_
    rintro e w1 ⟨rfl, bb1⟩
    have b1 := b0.trans (bb1.mono (by simp))
    clear b0 bb1
    go_wp2_with fail
    go_ret
    rw [HTX.out]
    exact ⟨rfl, b1⟩
end Go.Proofs.YtmhkcmoepopnoaaDoor
