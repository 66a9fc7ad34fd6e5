/- Layers in memory: a block that holds a slice; what a call may turn. And what cost's functions compute, plainly. -/
import Derived.Test.YtnblbliehfgnkaaDoorItoa
import Derived.ArgAppend
namespace Go.Proofs.YtnblbliehfgnkaaDoor
open Go.RowKit

/-- Only the blocks p and g, and what is new, may have turned. -/
structure Only (p g : Nat) (w w' : World) : Prop where
  os : w'.os = w.os
  tape : w'.tape = w.tape
  output : w'.output = w.output
  size : w.heap.size ≤ w'.heap.size
  block : ∀ k, k < w.heap.size → k ≠ p → k ≠ g → w'.heap[k]? = w.heap[k]?
theorem Only.refl (p g : Nat) (w : World) : Only p g w w := ⟨rfl, rfl, rfl, Nat.le_refl _, fun _ _ _ _ => rfl⟩
theorem Only.of_below {p g : Nat} {w w' : World} (h : Below w.heap.size w w') : Only p g w w' := ⟨h.os, h.tape, h.output, h.size, fun k hk _ _ => h.block k hk⟩
theorem Only.below {B p g : Nat} {a w w' : World} (h : Below B a w) (ho : Only p g w w') (hp : B ≤ p) (hg : B ≤ g) (hB : B ≤ w.heap.size) : Below B a w' :=
  h.trans ⟨ho.os, ho.tape, ho.output, ho.size, fun k hk => ho.block k (by omega) (by omega) (by omega)⟩
theorem Only.trans {p g g' : Nat} {a b c : World} (h : Only p g a b) (k : Only p g' b c) (hg : g' = g ∨ a.heap.size ≤ g') : Only p g a c :=
  ⟨k.os.trans h.os, k.tape.trans h.tape, k.output.trans h.output, Nat.le_trans h.size k.size, fun i hi h1 h2 => by
    rw [k.block i (Nat.lt_of_lt_of_le hi h.size) h1 (by omega)]; exact h.block i hi h1 h2⟩

/-- Layers: pieces, and what each cost. -/
abbrev Ls := List (Nat × Nat)

/-- Block p holds a slice of the layers ls, whose row is block g (g = p: there is none). -/
def LayT (tp te : TypeId) (w : World) (p g : Nat) (ls : Ls) : Prop :=
  (ls = [] ∧ g = p ∧ w.heap[p]? = some (.cells #[.slice none 0 0] tp (0, 0))) ∨
  (g ≠ p ∧ ∃ (off cap : Nat) (cur : Array Value), w.heap[p]? = some (.cells #[.slice (some ⟨g, off, none⟩) ls.length cap] tp (0, 0)) ∧ w.heap[g]? = some (.cells cur te (0, 0)) ∧
    ls.length ≤ cap ∧ off + cap * 2 ≤ cur.size ∧ ∀ i (h : i < ls.length), cur[off + i * 2]? = some (.int .i64 (ls[i].1 : Nat)) ∧ cur[off + i * 2 + 1]? = some (.int .i64 (ls[i].2 : Nat)))

theorem lt_of_heap {w : World} {b : Nat} {o : Obj} (h : w.heap[b]? = some o) : b < w.heap.size := by
  rcases Nat.lt_or_ge b w.heap.size with hl | hl
  · exact hl
  · rw [Array.getElem?_eq_none hl] at h; cases h

theorem LayT.lt {tp te : TypeId} {w : World} {p g : Nat} {ls : Ls} (h : LayT tp te w p g ls) : p < w.heap.size ∧ g < w.heap.size := by
  rcases h with ⟨_, rfl, h⟩ | ⟨_, _, _, _, h1, h2, _⟩
  · exact ⟨lt_of_heap h, lt_of_heap h⟩
  · exact ⟨lt_of_heap h1, lt_of_heap h2⟩

theorem LayT.keep {tp te : TypeId} {w w' : World} {p g : Nat} {ls : Ls} (h : LayT tp te w p g ls) (hp : w'.heap[p]? = w.heap[p]?) (hg : w'.heap[g]? = w.heap[g]?) : LayT tp te w' p g ls := by
  rcases h with ⟨h0, rfl, h⟩ | ⟨hne, off, cap, cur, h1, h2, r⟩
  · exact .inl ⟨h0, rfl, hp.trans h⟩
  · exact .inr ⟨hne, off, cap, cur, hp.trans h1, hg.trans h2, r⟩
theorem LayT.below {tp te : TypeId} {w w' : World} {p g : Nat} {ls : Ls} (h : LayT tp te w p g ls) (hb : Below w.heap.size w w') : LayT tp te w' p g ls :=
  h.keep (hb.block _ h.lt.1) (hb.block _ h.lt.2)
theorem LayT.only {tp te : TypeId} {w w' : World} {p g p' g' : Nat} {ls : Ls} (h : LayT tp te w p g ls) (ho : Only p' g' w w') (h1 : p ≠ p') (h2 : p ≠ g') (h3 : g ≠ p') (h4 : g ≠ g') : LayT tp te w' p g ls :=
  h.keep (ho.block _ h.lt.1 h1 h2) (ho.block _ h.lt.2 h3 h4)

theorem cell_of_block {w : World} {b : Nat} {cs : Array Value} {t : TypeId} {f : Nat × Nat} (h : w.heap[b]? = some (.cells cs t f)) (i : Nat) : w.cell? ⟨b, i, none⟩ = cs[i]? := cell_of_row w b i cs t f h
theorem free_of_block {w : World} {b : Nat} {cs : Array Value} {t : TypeId} (h : w.heap[b]? = some (.cells cs t (0, 0))) (i : Nat) : w.frozen? ⟨b, i, none⟩ = false := by simp [World.frozen?, h]

/-- The slice in block p, as a walk reads it; the cells of its elements. -/
theorem LayT.reads {tp te : TypeId} {w : World} {p g : Nat} {ls : Ls} (h : LayT tp te w p g ls) : ∃ A cap, w.cell? ⟨p, 0, none⟩ = some (.slice A ls.length cap) ∧ ls.length ≤ cap ∧ cap ≤ maxLen + ls.length + cap ∧
    (0 < ls.length → ∃ off, A = some ⟨g, off, none⟩ ∧ ∀ i (hi : i < ls.length), w.cell? ⟨g, off + i * 2, none⟩ = some (.int .i64 (ls[i].1 : Nat)) ∧ w.cell? ⟨g, off + i * 2 + 1, none⟩ = some (.int .i64 (ls[i].2 : Nat))) := by
  rcases h with ⟨rfl, rfl, h⟩ | ⟨hne, off, cap, cur, h1, h2, h3, h4, h5⟩
  · exact ⟨none, 0, by rw [cell_of_block h]; rfl, by simp, by omega, fun h0 => by simp at h0⟩
  · refine ⟨_, cap, by rw [cell_of_block h1]; rfl, h3, by omega, fun _ => ⟨off, rfl, fun i hi => ?_⟩⟩
    rw [cell_of_block h2, cell_of_block h2]
    exact h5 i hi

/-- The program's layers; the document's. -/
abbrev Lay (w : World) (p g : Nat) (ls : Ls) : Prop := LayT 84 86 w p g ls
abbrev LayR (w : World) (p g : Nat) (ls : Ls) : Prop := LayT 60 92 w p g ls

/-- Behind an append with room, and the slice's store. -/
theorem LayT.room {tp te : TypeId} {w w1 : World} {p g off cap : Nat} {ls : Ls} {cur : Array Value} (n c : Nat) (hb : Below w.heap.size w w1) (hne : g ≠ p)
    (hA : w.heap[p]? = some (.cells #[.slice (some ⟨g, off, none⟩) ls.length cap] tp (0, 0))) (hG : w.heap[g]? = some (.cells cur te (0, 0)))
    (hcap : ls.length + 1 ≤ cap) (hoff : off + cap * 2 ≤ cur.size) (hcells : ∀ i (h : i < ls.length), cur[off + i * 2]? = some (.int .i64 (ls[i].1 : Nat)) ∧ cur[off + i * 2 + 1]? = some (.int .i64 (ls[i].2 : Nat))) :
    LayT tp te (((w1.setCells g (off + ls.length * 2) [.int .i64 (n : Nat), .int .i64 (c : Nat)])).setCell ⟨p, 0, none⟩ (.slice (some ⟨g, off, none⟩) (ls.length + 1) cap)) p g (ls ++ [(n, c)]) ∧
    Only p g w (((w1.setCells g (off + ls.length * 2) [.int .i64 (n : Nat), .int .i64 (c : Nat)])).setCell ⟨p, 0, none⟩ (.slice (some ⟨g, off, none⟩) (ls.length + 1) cap)) := by
  have hpl := lt_of_heap hA
  have hgl := lt_of_heap hG
  have bA := (hb.block p hpl).trans hA
  have bG := (hb.block g hgl).trans hG
  simp only [World.setCells]
  have g1 := heap_setCell_same w1 g (off + ls.length * 2) cur te (.int .i64 (n : Nat)) bG
  have g2 := heap_setCell_same _ g (off + ls.length * 2 + 1) _ te (.int .i64 (c : Nat)) g1
  have p2 : ((w1.setCell ⟨g, off + ls.length * 2, none⟩ (.int .i64 (n : Nat))).setCell ⟨g, off + ls.length * 2 + 1, none⟩ (.int .i64 (c : Nat))).heap[p]? = _ :=
    (heap_setCell_other _ _ _ _ (Ne.symm hne)).trans ((heap_setCell_other _ _ _ _ (Ne.symm hne)).trans bA)
  have p3 := heap_setCell_same _ p 0 _ tp (.slice (some ⟨g, off, none⟩) (ls.length + 1) cap) p2
  have g3 := (heap_setCell_other _ ⟨p, 0, none⟩ g (.slice (some ⟨g, off, none⟩) (ls.length + 1) cap) hne).trans g2
  refine ⟨.inr ⟨hne, off, cap, _, by simpa using p3, g3, by simp; omega, by simp; omega, fun i hi => ?_⟩, ⟨hb.os, hb.tape, hb.output, by simpa using hb.size, fun k hk k1 k2 => ?_⟩⟩
  · simp only [List.length_append, List.length_singleton] at hi
    by_cases hl : i < ls.length
    · have := hcells i hl
      rw [List.getElem_append_left hl, Array.getElem?_setIfInBounds_ne (by omega), Array.getElem?_setIfInBounds_ne (by omega), Array.getElem?_setIfInBounds_ne (by omega), Array.getElem?_setIfInBounds_ne (by omega)]
      exact this
    · obtain rfl : i = ls.length := by omega
      rw [Array.getElem?_setIfInBounds_ne (by omega), Array.getElem?_setIfInBounds_self_of_lt (by omega), Array.getElem?_setIfInBounds_self_of_lt (by simp; omega)]
      simp
  · rw [heap_setCell_other _ _ _ _ k1, heap_setCell_other _ _ _ _ k2, heap_setCell_other _ _ _ _ k2]
    exact hb.block k hk

/-- Behind an append that made a new row, and the slice's store. -/
theorem LayT.grown {tp te : TypeId} {w w1 : World} {p g gg cap : Nat} {ls : Ls} {cur : Array Value} {v : Value} (n c : Nat) (hb : Below w.heap.size w w1)
    (hA : w.heap[p]? = some (.cells #[v] tp (0, 0))) (hnew : w.heap.size ≤ gg) (hG : w1.heap[gg]? = some (.cells cur te (0, 0)))
    (hcap : ls.length + 1 ≤ cap) (hsize : cur.size = cap * 2) (xs : List Value) (hx : cur.toList.take ((ls.length + 1) * 2) = xs ++ [.int .i64 (n : Nat), .int .i64 (c : Nat)]) (hxl : xs.length = ls.length * 2)
    (hcells : ∀ i (h : i < ls.length), xs[i * 2]? = some (.int .i64 (ls[i].1 : Nat)) ∧ xs[i * 2 + 1]? = some (.int .i64 (ls[i].2 : Nat))) :
    LayT tp te (w1.setCell ⟨p, 0, none⟩ (.slice (some ⟨gg, 0, none⟩) (ls.length + 1) cap)) p gg (ls ++ [(n, c)]) ∧
    Only p g w (w1.setCell ⟨p, 0, none⟩ (.slice (some ⟨gg, 0, none⟩) (ls.length + 1) cap)) := by
  have hpl := lt_of_heap hA
  have bA := (hb.block p hpl).trans hA
  have hne : gg ≠ p := by omega
  have p3 := heap_setCell_same _ p 0 _ tp (.slice (some ⟨gg, 0, none⟩) (ls.length + 1) cap) bA
  have g3 := (heap_setCell_other _ ⟨p, 0, none⟩ gg (.slice (some ⟨gg, 0, none⟩) (ls.length + 1) cap) hne).trans hG
  have hget : ∀ j, j < (ls.length + 1) * 2 → cur[j]? = (xs ++ [.int .i64 (n : Nat), .int .i64 (c : Nat)])[j]? := by
    intro j hj
    rw [← hx, List.getElem?_take_of_lt hj, Array.getElem?_toList]
  refine ⟨.inr ⟨hne, 0, cap, _, by simpa using p3, g3, by simp; omega, by omega, fun i hi => ?_⟩, ⟨hb.os, hb.tape, hb.output, by simpa using hb.size, fun k hk k1 _ => ?_⟩⟩
  · simp only [List.length_append, List.length_singleton] at hi
    rw [hget _ (by omega), hget _ (by omega)]
    by_cases hl : i < ls.length
    · have := hcells i hl
      rw [List.getElem_append_left hl, List.getElem?_append_left (by omega), List.getElem?_append_left (by omega), Nat.zero_add]
      exact this
    · obtain rfl : i = ls.length := by omega
      rw [List.getElem?_append_right (by omega), List.getElem?_append_right (by omega), hxl]
      simp
  · rw [heap_setCell_other _ _ _ _ k1]
    exact hb.block k hk

/-- How many pieces; what they cost. -/
def hasL : Ls → Nat
  | [] => 0
  | x :: r => x.1 + hasL r
def worthL : Ls → Nat
  | [] => 0
  | x :: r => x.1 * x.2 + worthL r
theorem hasL_append (a b : Ls) : hasL (a ++ b) = hasL a + hasL b := by
  induction a with
  | nil => simp [hasL]
  | cons x r ih => simp [hasL, ih]; omega
theorem worthL_append (a b : Ls) : worthL (a ++ b) = worthL a + worthL b := by
  induction a with
  | nil => simp [worthL]
  | cons x r ih => simp [worthL, ih]; omega
theorem hasL_take (l : Ls) (k : Nat) (h : k < l.length) : hasL (l.take (k + 1)) = hasL (l.take k) + l[k].1 := by
  rw [List.take_succ_eq_append_getElem h, hasL_append]; simp [hasL]
theorem worthL_take (l : Ls) (k : Nat) (h : k < l.length) : worthL (l.take (k + 1)) = worthL (l.take k) + l[k].1 * l[k].2 := by
  rw [List.take_succ_eq_append_getElem h, worthL_append]; simp [worthL]
theorem hasL_le (l : Ls) (k : Nat) : hasL (l.take k) ≤ hasL l := by
  have := hasL_append (l.take k) (l.drop k)
  rw [List.take_append_drop] at this; omega
theorem worthL_le (l : Ls) (k : Nat) : worthL (l.take k) ≤ worthL l := by
  have := worthL_append (l.take k) (l.drop k)
  rw [List.take_append_drop] at this; omega

/-- Layers as they can be: not too many pieces, none too dear, none empty. -/
structure OkL (l : Ls) : Prop where
  has : hasL l ≤ 1099511627776
  cost : ∀ x ∈ l, x.2 ≤ 1048576
  pos : ∀ x ∈ l, 1 ≤ x.1
theorem worth_has (l : Ls) (h : ∀ x ∈ l, x.2 ≤ 1048576) : worthL l ≤ hasL l * 1048576 := by
  induction l with
  | nil => simp [worthL]
  | cons x r ih =>
    have h1 := ih (fun y hy => h y (List.mem_cons_of_mem _ hy))
    have h2 : x.1 * x.2 ≤ x.1 * 1048576 := Nat.mul_le_mul_left _ (h x List.mem_cons_self)
    simp only [worthL, hasL, Nat.add_mul]; omega
theorem OkL.worth {l : Ls} (h : OkL l) : worthL l ≤ 1152921504606846976 := by
  have h1 := worth_has l h.cost
  have h2 := h.has
  omega
end Go.Proofs.YtnblbliehfgnkaaDoor
