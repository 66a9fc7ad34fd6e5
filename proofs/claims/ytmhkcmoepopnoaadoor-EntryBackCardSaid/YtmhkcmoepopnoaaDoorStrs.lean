/- Slices of strings, as a walk reads them; the same texts? -/
import Derived.Test.YtmhkcmoepopnoaaDoorBase
import Derived.Laws.AppendOwn
namespace Go.Proofs.YtmhkcmoepopnoaaDoor
open Go.RowKit

/-- The slice at A reads as the texts xs. -/
def StrsAt (w : World) (A : Option Addr) (xs : List (List UInt8)) : Prop :=
  xs = [] ∨ ∃ b o, A = some ⟨b, o, none⟩ ∧ b < w.heap.size ∧ ∀ i (h : i < xs.length), w.cell? ⟨b, o + i, none⟩ = some (.string ⟨xs[i].toArray⟩)
theorem StrsAt.below {w w' : World} {A : Option Addr} {xs : List (List UInt8)} (h : StrsAt w A xs) (hb : Below w.heap.size w w') : StrsAt w' A xs := by
  rcases h with h | ⟨b, o, h1, h2, h3⟩
  · exact .inl h
  · exact .inr ⟨b, o, h1, Nat.lt_of_lt_of_le h2 hb.size, fun i hi => (hb.cell h2).trans (h3 i hi)⟩
def strVals (xs : List (List UInt8)) : List Value := xs.map fun x => .string ⟨x.toArray⟩
theorem strVals_length (xs : List (List UInt8)) : (strVals xs).length = xs.length := by simp [strVals]
theorem StrsAt.of_own {w : World} {B : Nat} {v : Value} {xs : List (List UInt8)} (h : w.ownsRow B 9 1 v xs.length (strVals xs)) : ∃ A cap, v = .slice A xs.length cap ∧ StrsAt w A xs ∧ ∀ a, A = some a → B ≤ a.block := by
  rcases h.2 with ⟨rfl, h0⟩ | ⟨g, cap, cur, rfl, hB, hg, _, _, _, ht⟩
  · obtain rfl := List.eq_nil_of_length_eq_zero h0
    exact ⟨_, _, rfl, .inl rfl, fun a ha => by cases ha⟩
  · refine ⟨_, _, rfl, .inr ⟨g, 0, rfl, ?_, fun i hi => ?_⟩, fun a ha => by cases ha; exact hB⟩
    · rcases Nat.lt_or_ge g w.heap.size with hl | hl
      · exact hl
      · rw [Array.getElem?_eq_none hl] at hg; cases hg
    · rw [cell_of_row w g _ cur _ _ hg, Nat.zero_add, ← Array.getElem?_toList, ← List.getElem?_take_of_lt (l := cur.toList) (show i < xs.length * 1 by omega), ht]
      simp [strVals, List.getElem?_eq_getElem hi]

theorem stringInfo1 : (Tryd.prog.info? 9).map (fun i => (i.zero, i.size, i.bytes)) = some (some (.string ⟨#[]⟩), 1, 16) := by kernel_rfl

/-- Two lists are alike up to k. -/
theorem alike_step {xs ys : List (List UInt8)} (k : Nat) (h1 : k < xs.length) (h2 : k < ys.length) (h : xs.take k = ys.take k) (he : xs[k] = ys[k]) : xs.take (k + 1) = ys.take (k + 1) := by
  rw [List.take_succ_eq_append_getElem h1, List.take_succ_eq_append_getElem h2, h, he]

end Go.Proofs.YtmhkcmoepopnoaaDoor
