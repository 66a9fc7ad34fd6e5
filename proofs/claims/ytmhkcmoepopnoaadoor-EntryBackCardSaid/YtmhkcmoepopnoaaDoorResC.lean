/- A result that lies in memory, beside one that doesn't; a struct stored cell by cell. -/
import Derived.Test.YtmhkcmoepopnoaaDoorWith
import Derived.Laws.ResultCell
import Derived.Laws.Rows
namespace Go.Proofs.YtmhkcmoepopnoaaDoor
open Go.RowKit

theorem results_cell_row2 {P : Program} {fn : Func} {p u : Tmp} {ty : TypeId} (h : fn.results = #[.cell p ty, .tmp u]) (tmps : Array Value) (w : World) (g : Nat) (t : TypeId) (cs : Array Value) (fr : Nat × Nat) (d : TypeDesc)
    (hp : tmps.getD p undef = .pointer (some ⟨g, 0, none⟩)) (hg : w.heap[g]? = some (.cells cs t fr))
    (hu : P.underlying ty = some d) (hd : (match d with | .struct _ | .array _ _ => true | _ => false) = true) (hi : (P.info? ty).map (·.size) = some cs.size) :
    (results fn tmps).run P w = .ok (.tuple #[.agg cs, tmps.getD u undef]) w := by
  have hp' : tmps[p]?.getD undef = .pointer (some ⟨g, 0, none⟩) := by simpa using hp
  rw [results_cell_tmp h]
  simp [hp', asAddr, run_loadVar_row w g t ty cs fr d hg hu hd hi, Result.andThen]

theorem row_lt {w : World} {b : Nat} {o : Obj} (h : w.heap[b]? = some o) : b < w.heap.size := by
  rcases Nat.lt_or_ge b w.heap.size with hl | hl
  · exact hl
  · rw [Array.getElem?_eq_none hl] at h; cases h
/-- Cells stored one behind the other. -/
def puts (w : World) (g i : Nat) : List Value → World
  | [] => w
  | v :: r => puts (w.setCell ⟨g, i, none⟩ v) g (i + 1) r
theorem puts_rowAt {g : Nat} {t : TypeId} (vs : List Value) : ∀ (w : World) (pre rest : List Value), rest.length = vs.length → w.heap[g]? = some (.cells (pre ++ rest).toArray t (0, 0)) → (puts w g pre.length vs).heap[g]? = some (.cells (pre ++ vs).toArray t (0, 0)) := by
  induction vs with
  | nil => intro w pre rest hl h; rw [List.eq_nil_of_length_eq_zero hl] at h; exact h
  | cons v r ih =>
    intro w pre rest hl h
    match rest, hl with
    | x :: q, hl =>
      have h2 := heap_setCell_same w g pre.length _ _ v h
      have e : (pre ++ x :: q).toArray.setIfInBounds pre.length v = (pre ++ v :: q).toArray := by
        apply Array.ext'
        simp [List.set_append_right]
      rw [e] at h2
      have h3 := ih (w.setCell ⟨g, pre.length, none⟩ v) (pre ++ [v]) q (by simpa using hl) (by simpa using h2)
      rw [List.length_append, List.length_singleton] at h3
      simpa [puts] using h3
theorem puts_row {w : World} {g : Nat} {t : TypeId} {cs : Array Value} (vs : List Value) (h : w.heap[g]? = some (.cells cs t (0, 0))) (hl : cs.size = vs.length) : (puts w g 0 vs).heap[g]? = some (.cells vs.toArray t (0, 0)) := by
  have := puts_rowAt (g := g) (t := t) vs w [] cs.toList (by simpa using hl) (by simpa using h)
  simpa using this
theorem puts_below {B : Nat} {w0 : World} {g : Nat} (hg : B ≤ g) (vs : List Value) : ∀ (w : World) (i : Nat), Below B w0 w → Below B w0 (puts w g i vs) := by
  induction vs with
  | nil => intro w i h; exact h
  | cons v r ih => intro w i h; exact ih _ _ (h.setCell (p := ⟨g, i, none⟩) hg v)
end Go.Proofs.YtmhkcmoepopnoaaDoor
