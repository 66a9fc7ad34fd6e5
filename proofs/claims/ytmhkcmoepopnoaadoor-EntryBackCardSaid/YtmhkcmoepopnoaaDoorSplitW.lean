/- strings.Split at one byte, walked. -/
import Derived.Test.YtmhkcmoepopnoaaDoorSplit
import Derived.Test.YtmhkcmoepopnoaaDoorStrs
import Derived.Test.YtmhkcmoepopnoaaDoorShelf
import Derived.Deep.AppendLies
namespace Go.Proofs.YtmhkcmoepopnoaaDoor
open Go.RowKit

/-- What a call that hands back texts leaves. -/
def TextsEnds (xs : List (List UInt8)) (w : World) (e : Ending) (w' : World) : Prop :=
  ∃ A cap, e = .returned (.slice A xs.length cap) ∧ StrsAt w' A xs ∧ (∀ a, A = some a → w.heap.size ≤ a.block) ∧ Below w.heap.size w w'

theorem split_any (s : ByteArray) (c : UInt8) (w : World) (hs : s.size ≤ 1000000000) (hM : MaxG w) :
    Calls Tryd.prog 13 #[.string s, .string ⟨#[c]⟩] w (TextsEnds (splitL c (bts s)) w) := by
  obtain ⟨m, hm⟩ := hM
  refine (Tryd.strings_Split s ⟨#[c]⟩ m w (by omega) hm (by show 1 ≤ (#[c] : Array UInt8).size; simp)).mono ?_
  rintro e w' ⟨rfl, rfl⟩
  have hsp := splitB_is s c
  have hl : Lib.countB s ⟨#[c]⟩ + 1 = (splitL c (bts s)).length := by
    rw [← hsp, List.length_map, Lib.splitB_all ⟨#[c]⟩ (by show 1 ≤ (#[c] : Array UInt8).size; simp) 0 _ s rfl]
  refine ⟨some ⟨w.heap.size, 0, none⟩, Lib.countB s ⟨#[c]⟩ + 1, by rw [hl], .inr ⟨w.heap.size, 0, rfl, by simp, fun i hi => ?_⟩, fun a ha => by cases ha; exact Nat.le_refl _, (Below.refl _ _).alloc (Nat.le_refl _) _⟩
  rw [cell_of_row _ _ _ _ _ _ (heap_alloc_new _ _), Nat.zero_add]
  have h2 : i < (Lib.splitB ⟨#[c]⟩ 0 (Lib.countB s ⟨#[c]⟩) s).length := by rw [← hsp, List.length_map] at hi; exact hi
  simp only [List.getElem?_toArray, List.getElem?_map, List.getElem?_eq_getElem h2, Option.map_some]
  have h3 : (splitL c (bts s))[i] = ((Lib.splitB ⟨#[c]⟩ 0 (Lib.countB s ⟨#[c]⟩) s)[i]).data.toList := by
    simp only [← hsp, List.getElem_map]
  rw [h3]
end Go.Proofs.YtmhkcmoepopnoaaDoor
