/- A tape's disk: in memory, and what its calls make of it, plainly. -/
import Derived.Test.YtcmjdaalhokmdaaDoorRec
import Derived.Test.YtcmjdaalhokmdaaDoorRowB
namespace Go.Proofs.YtcmjdaalhokmdaaDoor
open Go.RowKit

/-- A disk: its bytes, is power off, the bytes until power fails. -/
structure Dk where
  bs : List UInt8
  off : Bool
  cut : Int

/-- Only the blocks p and g, and what is new, may have turned. -/
structure OnlyD (p g : Nat) (w w' : World) : Prop where
  os : w'.os = w.os
  tape : w'.tape = w.tape
  output : w'.output = w.output
  size : w.heap.size ≤ w'.heap.size
  block : ∀ k, k < w.heap.size → k ≠ p → k ≠ g → w'.heap[k]? = w.heap[k]?
theorem OnlyD.of_below {p g : Nat} {w w' : World} (h : Below w.heap.size w w') : OnlyD p g w w' := ⟨h.os, h.tape, h.output, h.size, fun k hk _ _ => h.block k hk⟩
theorem OnlyD.below {B p g : Nat} {a w w' : World} (h : Below B a w) (ho : OnlyD p g w w') (hp : B ≤ p) (hg : B ≤ g) (hB : B ≤ w.heap.size) : Below B a w' :=
  h.trans ⟨ho.os, ho.tape, ho.output, ho.size, fun k hk => ho.block k (by omega) (by omega) (by omega)⟩
theorem OnlyD.trans {p g g' : Nat} {a b c : World} (h : OnlyD p g a b) (k : OnlyD p g' b c) (hg : g' = g ∨ a.heap.size ≤ g') : OnlyD p g a c :=
  ⟨k.os.trans h.os, k.tape.trans h.tape, k.output.trans h.output, Nat.le_trans h.size k.size, fun i hi h1 h2 => by
    rw [k.block i (Nat.lt_of_lt_of_le hi h.size) h1 (by omega)]; exact h.block i hi h1 h2⟩

/-- Block p holds the disk d, whose bytes lie in block g. -/
def DiskAt (w : World) (p g : Nat) (d : Dk) : Prop :=
  g ≠ p ∧ ∃ cap, w.heap[p]? = some (.cells #[.slice (some ⟨g, 0, none⟩) d.bs.length cap, .bool d.off, .int .i64 d.cut] 80 (0, 0)) ∧ RowB w g cap d.bs
theorem heap_lt {w : World} {b : Nat} {o : Obj} (h : w.heap[b]? = some o) : b < w.heap.size := by
  rcases Nat.lt_or_ge b w.heap.size with hl | hl
  · exact hl
  · rw [Array.getElem?_eq_none hl] at h; cases h
theorem DiskAt.lt {w : World} {p g : Nat} {d : Dk} (h : DiskAt w p g d) : p < w.heap.size ∧ g < w.heap.size := by
  obtain ⟨_, cap, h1, h2⟩ := h
  exact ⟨heap_lt h1, h2.lt⟩
theorem DiskAt.keep {w w' : World} {p g : Nat} {d : Dk} (h : DiskAt w p g d) (hp : w'.heap[p]? = w.heap[p]?) (hg : w'.heap[g]? = w.heap[g]?) : DiskAt w' p g d := by
  obtain ⟨h0, cap, h1, h2⟩ := h
  exact ⟨h0, cap, hp.trans h1, h2.keep hg⟩
theorem DiskAt.below {w w' : World} {p g : Nat} {d : Dk} (h : DiskAt w p g d) (hb : Below w.heap.size w w') : DiskAt w' p g d :=
  h.keep (hb.block _ h.lt.1) (hb.block _ h.lt.2)
theorem cellB {w : World} {b : Nat} {cs : Array Value} {t : TypeId} {f : Nat × Nat} (h : w.heap[b]? = some (.cells cs t f)) (i : Nat) : w.cell? ⟨b, i, none⟩ = cs[i]? := cell_of_row w b i cs t f h
theorem freeB {w : World} {b : Nat} {cs : Array Value} {t : TypeId} (h : w.heap[b]? = some (.cells cs t (0, 0))) (i : Nat) : w.frozen? ⟨b, i, none⟩ = false := by simp [World.frozen?, h]

/-- Bytes written on a disk: an error's number, and what it is then. -/
def wrD (d : Dk) (r : List UInt8) : Nat × Dk :=
  if d.off then (12, d) else if 0 ≤ d.cut ∧ d.cut < r.length then (12, { d with bs := d.bs ++ r.take d.cut.toNat, off := true })
  else (0, { d with bs := d.bs ++ r, cut := if 0 ≤ d.cut then d.cut - r.length else d.cut })
/-- A record appended. -/
def appD (d : Dk) (s : List UInt8) : Nat × Dk :=
  if 20000 < s.length then (2, d) else if 1048576 < d.bs.length + (recL s).length then (8, d) else wrD d (recL s)
end Go.Proofs.YtcmjdaalhokmdaaDoor
