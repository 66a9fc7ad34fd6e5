/- Layers in memory: a block that holds a slice; what a call may turn. And what cost's functions compute, plainly. Layers: how many pieces, what they cost. Layers, plainly: what comes, what goes. -/
import Derived.ArgAppend
import Derived.Test.YtphgakobfegpcaaGreatDoorM08
namespace Go.Proofs.YtphgakobfegpcaaGreatDoor
open Go.RowKit

/-- Only the blocks p and g, and what is new, may have turned. -/
structure Only (p g : Nat) (w w' : World) : Prop where
  os : w'.os = w.os
  tape : w'.tape = w.tape
  output : w'.output = w.output
  size : w.heap.size ≤ w'.heap.size
  block : ∀ k, k < w.heap.size → k ≠ p → k ≠ g → w'.heap[k]? = w.heap[k]?
theorem Only.refl (p g : Nat) (w : World) : Only p g w w := ⟨rfl, rfl, rfl, Nat.le_refl _, fun _ _ _ _ => rfl⟩
theorem Only.of_below {p g : Nat} {w w' : World} (h : Below w.heap.size w w') : Only p g w w' := ⟨h.os, h.tape, h.output, h.size, fun k hk _ _ => h.block k hk⟩
theorem Only.below {B p g : Nat} {a w w' : World} (h : Below B a w) (ho : Only p g w w') (hp : B ≤ p) (hg : B ≤ g) (hB : B ≤ w.heap.size) : Below B a w' :=
  h.trans ⟨ho.os, ho.tape, ho.output, ho.size, fun k hk => ho.block k (by omega) (by omega) (by omega)⟩
theorem Only.trans {p g g' : Nat} {a b c : World} (h : Only p g a b) (k : Only p g' b c) (hg : g' = g ∨ a.heap.size ≤ g') : Only p g a c :=
  ⟨k.os.trans h.os, k.tape.trans h.tape, k.output.trans h.output, Nat.le_trans h.size k.size, fun i hi h1 h2 => by
    rw [k.block i (Nat.lt_of_lt_of_le hi h.size) h1 (by omega)]; exact h.block i hi h1 h2⟩

/-- Layers: pieces, and what each cost. -/
abbrev Ls := List (Nat × Nat)

/-- Block p holds a slice of the layers ls, whose row is block g (g = p: there is none). -/
def LayT (tp te : TypeId) (w : World) (p g : Nat) (ls : Ls) : Prop :=
  (ls = [] ∧ g = p ∧ w.heap[p]? = some (.cells #[.slice none 0 0] tp (0, 0))) ∨
  (g ≠ p ∧ ∃ (off cap : Nat) (cur : Array Value), w.heap[p]? = some (.cells #[.slice (some ⟨g, off, none⟩) ls.length cap] tp (0, 0)) ∧ w.heap[g]? = some (.cells cur te (0, 0)) ∧
    ls.length ≤ cap ∧ off + cap * 2 ≤ cur.size ∧ ∀ i (h : i < ls.length), cur[off + i * 2]? = some (.int .i64 (ls[i].1 : Nat)) ∧ cur[off + i * 2 + 1]? = some (.int .i64 (ls[i].2 : Nat)))

theorem lt_of_heap {w : World} {b : Nat} {o : Obj} (h : w.heap[b]? = some o) : b < w.heap.size := by
  rcases Nat.lt_or_ge b w.heap.size with hl | hl
  · exact hl
  · rw [Array.getElem?_eq_none hl] at h; cases h

theorem LayT.lt {tp te : TypeId} {w : World} {p g : Nat} {ls : Ls} (h : LayT tp te w p g ls) : p < w.heap.size ∧ g < w.heap.size := by
  rcases h with ⟨_, rfl, h⟩ | ⟨_, _, _, _, h1, h2, _⟩
  · exact ⟨lt_of_heap h, lt_of_heap h⟩
  · exact ⟨lt_of_heap h1, lt_of_heap h2⟩

theorem LayT.keep {tp te : TypeId} {w w' : World} {p g : Nat} {ls : Ls} (h : LayT tp te w p g ls) (hp : w'.heap[p]? = w.heap[p]?) (hg : w'.heap[g]? = w.heap[g]?) : LayT tp te w' p g ls := by
  rcases h with ⟨h0, rfl, h⟩ | ⟨hne, off, cap, cur, h1, h2, r⟩
  · exact .inl ⟨h0, rfl, hp.trans h⟩
  · exact .inr ⟨hne, off, cap, cur, hp.trans h1, hg.trans h2, r⟩
theorem LayT.below {tp te : TypeId} {w w' : World} {p g : Nat} {ls : Ls} (h : LayT tp te w p g ls) (hb : Below w.heap.size w w') : LayT tp te w' p g ls :=
  h.keep (hb.block _ h.lt.1) (hb.block _ h.lt.2)
theorem LayT.only {tp te : TypeId} {w w' : World} {p g p' g' : Nat} {ls : Ls} (h : LayT tp te w p g ls) (ho : Only p' g' w w') (h1 : p ≠ p') (h2 : p ≠ g') (h3 : g ≠ p') (h4 : g ≠ g') : LayT tp te w' p g ls :=
  h.keep (ho.block _ h.lt.1 h1 h2) (ho.block _ h.lt.2 h3 h4)

theorem cell_of_block {w : World} {b : Nat} {cs : Array Value} {t : TypeId} {f : Nat × Nat} (h : w.heap[b]? = some (.cells cs t f)) (i : Nat) : w.cell? ⟨b, i, none⟩ = cs[i]? := cell_of_row w b i cs t f h
theorem free_of_block {w : World} {b : Nat} {cs : Array Value} {t : TypeId} (h : w.heap[b]? = some (.cells cs t (0, 0))) (i : Nat) : w.frozen? ⟨b, i, none⟩ = false := by simp [World.frozen?, h]

/-- The slice in block p, as a walk reads it; the cells of its elements. -/
theorem LayT.reads {tp te : TypeId} {w : World} {p g : Nat} {ls : Ls} (h : LayT tp te w p g ls) : ∃ A cap, w.cell? ⟨p, 0, none⟩ = some (.slice A ls.length cap) ∧ ls.length ≤ cap ∧ cap ≤ maxLen + ls.length + cap ∧
    (0 < ls.length → ∃ off, A = some ⟨g, off, none⟩ ∧ ∀ i (hi : i < ls.length), w.cell? ⟨g, off + i * 2, none⟩ = some (.int .i64 (ls[i].1 : Nat)) ∧ w.cell? ⟨g, off + i * 2 + 1, none⟩ = some (.int .i64 (ls[i].2 : Nat))) := by
  rcases h with ⟨rfl, rfl, h⟩ | ⟨hne, off, cap, cur, h1, h2, h3, h4, h5⟩
  · exact ⟨none, 0, by rw [cell_of_block h]; rfl, by simp, by omega, fun h0 => by simp at h0⟩
  · refine ⟨_, cap, by rw [cell_of_block h1]; rfl, h3, by omega, fun _ => ⟨off, rfl, fun i hi => ?_⟩⟩
    rw [cell_of_block h2, cell_of_block h2]
    exact h5 i hi

/-- The program's layers; the document's. -/
abbrev Lay (w : World) (p g : Nat) (ls : Ls) : Prop := LayT 120 122 w p g ls
abbrev LayR (w : World) (p g : Nat) (ls : Ls) : Prop := LayT 109 126 w p g ls

/-- Behind an append with room, and the slice's store. -/
theorem LayT.room {tp te : TypeId} {w w1 : World} {p g off cap : Nat} {ls : Ls} {cur : Array Value} (n c : Nat) (hb : Below w.heap.size w w1) (hne : g ≠ p)
    (hA : w.heap[p]? = some (.cells #[.slice (some ⟨g, off, none⟩) ls.length cap] tp (0, 0))) (hG : w.heap[g]? = some (.cells cur te (0, 0)))
    (hcap : ls.length + 1 ≤ cap) (hoff : off + cap * 2 ≤ cur.size) (hcells : ∀ i (h : i < ls.length), cur[off + i * 2]? = some (.int .i64 (ls[i].1 : Nat)) ∧ cur[off + i * 2 + 1]? = some (.int .i64 (ls[i].2 : Nat))) :
    LayT tp te (((w1.setCells g (off + ls.length * 2) [.int .i64 (n : Nat), .int .i64 (c : Nat)])).setCell ⟨p, 0, none⟩ (.slice (some ⟨g, off, none⟩) (ls.length + 1) cap)) p g (ls ++ [(n, c)]) ∧
    Only p g w (((w1.setCells g (off + ls.length * 2) [.int .i64 (n : Nat), .int .i64 (c : Nat)])).setCell ⟨p, 0, none⟩ (.slice (some ⟨g, off, none⟩) (ls.length + 1) cap)) := by
  have hpl := lt_of_heap hA
  have hgl := lt_of_heap hG
  have bA := (hb.block p hpl).trans hA
  have bG := (hb.block g hgl).trans hG
  simp only [World.setCells]
  have g1 := heap_setCell_same w1 g (off + ls.length * 2) cur te (.int .i64 (n : Nat)) bG
  have g2 := heap_setCell_same _ g (off + ls.length * 2 + 1) _ te (.int .i64 (c : Nat)) g1
  have p2 : ((w1.setCell ⟨g, off + ls.length * 2, none⟩ (.int .i64 (n : Nat))).setCell ⟨g, off + ls.length * 2 + 1, none⟩ (.int .i64 (c : Nat))).heap[p]? = _ :=
    (heap_setCell_other _ _ _ _ (Ne.symm hne)).trans ((heap_setCell_other _ _ _ _ (Ne.symm hne)).trans bA)
  have p3 := heap_setCell_same _ p 0 _ tp (.slice (some ⟨g, off, none⟩) (ls.length + 1) cap) p2
  have g3 := (heap_setCell_other _ ⟨p, 0, none⟩ g (.slice (some ⟨g, off, none⟩) (ls.length + 1) cap) hne).trans g2
  refine ⟨.inr ⟨hne, off, cap, _, by simpa using p3, g3, by simp; omega, by simp; omega, fun i hi => ?_⟩, ⟨hb.os, hb.tape, hb.output, by simpa using hb.size, fun k hk k1 k2 => ?_⟩⟩
  · simp only [List.length_append, List.length_singleton] at hi
    by_cases hl : i < ls.length
    · have := hcells i hl
      rw [List.getElem_append_left hl, Array.getElem?_setIfInBounds_ne (by omega), Array.getElem?_setIfInBounds_ne (by omega), Array.getElem?_setIfInBounds_ne (by omega), Array.getElem?_setIfInBounds_ne (by omega)]
      exact this
    · obtain rfl : i = ls.length := by omega
      rw [Array.getElem?_setIfInBounds_ne (by omega), Array.getElem?_setIfInBounds_self_of_lt (by omega), Array.getElem?_setIfInBounds_self_of_lt (by simp; omega)]
      simp
  · rw [heap_setCell_other _ _ _ _ k1, heap_setCell_other _ _ _ _ k2, heap_setCell_other _ _ _ _ k2]
    exact hb.block k hk

/-- Behind an append that made a new row, and the slice's store. -/
theorem LayT.grown {tp te : TypeId} {w w1 : World} {p g gg cap : Nat} {ls : Ls} {cur : Array Value} {v : Value} (n c : Nat) (hb : Below w.heap.size w w1)
    (hA : w.heap[p]? = some (.cells #[v] tp (0, 0))) (hnew : w.heap.size ≤ gg) (hG : w1.heap[gg]? = some (.cells cur te (0, 0)))
    (hcap : ls.length + 1 ≤ cap) (hsize : cur.size = cap * 2) (xs : List Value) (hx : cur.toList.take ((ls.length + 1) * 2) = xs ++ [.int .i64 (n : Nat), .int .i64 (c : Nat)]) (hxl : xs.length = ls.length * 2)
    (hcells : ∀ i (h : i < ls.length), xs[i * 2]? = some (.int .i64 (ls[i].1 : Nat)) ∧ xs[i * 2 + 1]? = some (.int .i64 (ls[i].2 : Nat))) :
    LayT tp te (w1.setCell ⟨p, 0, none⟩ (.slice (some ⟨gg, 0, none⟩) (ls.length + 1) cap)) p gg (ls ++ [(n, c)]) ∧
    Only p g w (w1.setCell ⟨p, 0, none⟩ (.slice (some ⟨gg, 0, none⟩) (ls.length + 1) cap)) := by
  have hpl := lt_of_heap hA
  have bA := (hb.block p hpl).trans hA
  have hne : gg ≠ p := by omega
  have p3 := heap_setCell_same _ p 0 _ tp (.slice (some ⟨gg, 0, none⟩) (ls.length + 1) cap) bA
  have g3 := (heap_setCell_other _ ⟨p, 0, none⟩ gg (.slice (some ⟨gg, 0, none⟩) (ls.length + 1) cap) hne).trans hG
  have hget : ∀ j, j < (ls.length + 1) * 2 → cur[j]? = (xs ++ [.int .i64 (n : Nat), .int .i64 (c : Nat)])[j]? := by
    intro j hj
    rw [← hx, List.getElem?_take_of_lt hj, Array.getElem?_toList]
  refine ⟨.inr ⟨hne, 0, cap, _, by simpa using p3, g3, by simp; omega, by omega, fun i hi => ?_⟩, ⟨hb.os, hb.tape, hb.output, by simpa using hb.size, fun k hk k1 _ => ?_⟩⟩
  · simp only [List.length_append, List.length_singleton] at hi
    rw [hget _ (by omega), hget _ (by omega)]
    by_cases hl : i < ls.length
    · have := hcells i hl
      rw [List.getElem_append_left hl, List.getElem?_append_left (by omega), List.getElem?_append_left (by omega), Nat.zero_add]
      exact this
    · obtain rfl : i = ls.length := by omega
      rw [List.getElem?_append_right (by omega), List.getElem?_append_right (by omega), hxl]
      simp
  · rw [heap_setCell_other _ _ _ _ k1]
    exact hb.block k hk

/-- How many pieces; what they cost. -/
def hasL : Ls → Nat
  | [] => 0
  | x :: r => x.1 + hasL r
def worthL : Ls → Nat
  | [] => 0
  | x :: r => x.1 * x.2 + worthL r
theorem hasL_append (a b : Ls) : hasL (a ++ b) = hasL a + hasL b := by
  induction a with
  | nil => simp [hasL]
  | cons x r ih => simp [hasL, ih]; omega
theorem worthL_append (a b : Ls) : worthL (a ++ b) = worthL a + worthL b := by
  induction a with
  | nil => simp [worthL]
  | cons x r ih => simp [worthL, ih]; omega
theorem hasL_take (l : Ls) (k : Nat) (h : k < l.length) : hasL (l.take (k + 1)) = hasL (l.take k) + l[k].1 := by
  rw [List.take_succ_eq_append_getElem h, hasL_append]; simp [hasL]
theorem worthL_take (l : Ls) (k : Nat) (h : k < l.length) : worthL (l.take (k + 1)) = worthL (l.take k) + l[k].1 * l[k].2 := by
  rw [List.take_succ_eq_append_getElem h, worthL_append]; simp [worthL]
theorem hasL_le (l : Ls) (k : Nat) : hasL (l.take k) ≤ hasL l := by
  have := hasL_append (l.take k) (l.drop k)
  rw [List.take_append_drop] at this; omega
theorem worthL_le (l : Ls) (k : Nat) : worthL (l.take k) ≤ worthL l := by
  have := worthL_append (l.take k) (l.drop k)
  rw [List.take_append_drop] at this; omega

/-- Layers as they can be: not too many pieces, none too dear, none empty. -/
structure OkL (l : Ls) : Prop where
  has : hasL l ≤ 1099511627776
  cost : ∀ x ∈ l, x.2 ≤ 1048576
  pos : ∀ x ∈ l, 1 ≤ x.1
theorem worth_has (l : Ls) (h : ∀ x ∈ l, x.2 ≤ 1048576) : worthL l ≤ hasL l * 1048576 := by
  induction l with
  | nil => simp [worthL]
  | cons x r ih =>
    have h1 := ih (fun y hy => h y (List.mem_cons_of_mem _ hy))
    have h2 : x.1 * x.2 ≤ x.1 * 1048576 := Nat.mul_le_mul_left _ (h x List.mem_cons_self)
    simp only [worthL, hasL, Nat.add_mul]; omega
theorem OkL.worth {l : Ls} (h : OkL l) : worthL l ≤ 1152921504606846976 := by
  have h1 := worth_has l h.cost
  have h2 := h.has
  omega
end Go.Proofs.YtphgakobfegpcaaGreatDoor
namespace Go.Proofs.YtphgakobfegpcaaGreatDoor
open Go.RowKit

set_option maxHeartbeats 400000 in
theorem has_any (p g : Nat) (ls : Ls) (w : World) (hL : Lay w p g ls) (hk : OkL ls) (hlen : ls.length ≤ 1000000) :
    Calls Tryz.prog 100 #[.pointer (some ⟨p, 0, none⟩)] w fun e w' => e = .returned (.int .i64 (hasL ls : Nat)) ∧ Below w.heap.size w w' := by
  obtain ⟨A, cap, hA, hc1, hc2, hcell⟩ := hL.reads
  have hh := hk.has
  have hlt := hL.lt
  clear hL hk
  have HC := Lib.hid hcell
  clear hcell
  go_enter Tryz.func100, Tryz.ntmps100
  go_wp2
  go_loopw [3, 11] (fun n i wr => ∃ k : Nat, k ≤ ls.length ∧ i = .int .i64 k ∧ n = .int .i64 (hasL (ls.take k) : Nat) ∧ Below w.heap.size w wr) (fun _ i _ => ls.length - (intOf i).toNat)
  case atStart => exact ⟨0, by omega, rfl, rfl, Below.refl _ _⟩
  case round =>
    obtain ⟨k, hk, rfl, rfl, hb⟩ := hrel
    have hle := hasL_le ls k
    by_cases hkl : k < ls.length
    · obtain ⟨off, rfl, hcells⟩ := HC.out (by omega)
      obtain ⟨c1, c2⟩ := hcells k hkl
      have d1 : wr.cell? ⟨g, off + k * 2, none⟩ = some (.int .i64 (ls[k].1 : Nat)) := (hb.cell hlt.2).trans c1
      have d2 : wr.cell? ⟨g, off + k * 2 + 1, none⟩ = some (.int .i64 (ls[k].2 : Nat)) := (hb.cell hlt.2).trans c2
      have hts := hasL_take ls k hkl
      have hle1 := hasL_le ls (k + 1)
      have hsum : hasL (ls.take k) + ls[k].1 ≤ 1099511627776 := by omega
      have HT := Lib.hid hts
      clear c1 c2 hcells hA hts
      go_wp2
      go_roundw
      case rel => exact ⟨k + 1, by omega, by go_num, by rw [HT.out]; go_num, hb.alloc hb.size _⟩
      case measure => simp [intOf]; omega
    · have hkn : ls.length ≤ k := by omega
      have HT := Lib.hid (show ls.take k = ls from List.take_of_length_le hkn)
      clear hA
      go_wp2
      go_ret
      refine ⟨?_, hb⟩
      show Ending.returned (.int .i64 (hasL (ls.take k) : Nat)) = _
      rw [HT.out]

end Go.Proofs.YtphgakobfegpcaaGreatDoor
namespace Go.Proofs.YtphgakobfegpcaaGreatDoor
--BEGIN
/-- Pieces come: upon the last layer, if it cost the same. -/
def inL (ls : Ls) (n c : Nat) : Ls :=
  match ls[ls.length - 1]? with
  | some x => if x.2 = c then ls.set (ls.length - 1) (x.1 + n, x.2) else ls ++ [(n, c)]
  | none => [(n, c)]
/-- The number of In's error. -/
def inE (ls : Ls) (n c : Int) : Nat := if n < 1 ∨ 1099511627776 < n ∨ c < 0 ∨ 1048576 < c ∨ 1099511627776 - (hasL ls : Int) < n then 2 else 0
/-- The eldest go: what they cost, what is left. -/
def outL : Ls → Nat → Nat × Ls
  | [], _ => (0, [])
  | x :: r, n => if n < x.1 then (n * x.2, (x.1 - n, x.2) :: r) else (x.1 * x.2 + (outL r (n - x.1)).1, (outL r (n - x.1)).2)
/-- The number of Out's error. -/
def outE (ls : Ls) (n : Int) : Nat := if n < 1 ∨ 1099511627776 < n then 2 else if (hasL ls : Int) < n then 9 else 0

theorem hasL_set (l : Ls) (k : Nat) (h : k < l.length) (y : Nat × Nat) : hasL (l.set k y) + l[k].1 = hasL l + y.1 := by
  induction l generalizing k with
  | nil => simp at h
  | cons x r ih =>
    cases k with
    | zero => simp [hasL]; omega
    | succ k =>
      have h1 := ih k (by simpa using h)
      simp only [List.set_cons_succ, hasL, List.getElem_cons_succ] at h1 ⊢
      omega
theorem worthL_set (l : Ls) (k : Nat) (h : k < l.length) (y : Nat × Nat) : worthL (l.set k y) + l[k].1 * l[k].2 = worthL l + y.1 * y.2 := by
  induction l generalizing k with
  | nil => simp at h
  | cons x r ih =>
    cases k with
    | zero => simp [worthL]; omega
    | succ k =>
      have h1 := ih k (by simpa using h)
      simp only [List.set_cons_succ, worthL, List.getElem_cons_succ] at h1 ⊢
      omega

/-- The three ways of what comes. -/
theorem inL_none (n c : Nat) : inL [] n c = [(n, c)] := rfl
theorem inL_same (ls : Ls) (n c : Nat) (h : ls.length - 1 < ls.length) (he : ls[ls.length - 1].2 = c) : inL ls n c = ls.set (ls.length - 1) (ls[ls.length - 1].1 + n, ls[ls.length - 1].2) := by
  unfold inL; rw [List.getElem?_eq_getElem h]; exact if_pos he
theorem inL_other (ls : Ls) (n c : Nat) (h : ls.length - 1 < ls.length) (he : ls[ls.length - 1].2 ≠ c) : inL ls n c = ls ++ [(n, c)] := by
  unfold inL; rw [List.getElem?_eq_getElem h]; exact if_neg he
theorem inL_has (ls : Ls) (n c : Nat) : hasL (inL ls n c) = hasL ls + n := by
  rcases Nat.eq_zero_or_pos ls.length with h0 | h0
  · obtain rfl := List.eq_nil_of_length_eq_zero h0; simp [inL_none, hasL]
  · have h : ls.length - 1 < ls.length := by omega
    by_cases he : ls[ls.length - 1].2 = c
    · rw [inL_same ls n c h he]
      have := hasL_set ls (ls.length - 1) h (ls[ls.length - 1].1 + n, ls[ls.length - 1].2)
      simp only at this; omega
    · rw [inL_other ls n c h he, hasL_append]; simp [hasL]
theorem inL_worth (ls : Ls) (n c : Nat) : worthL (inL ls n c) = worthL ls + n * c := by
  rcases Nat.eq_zero_or_pos ls.length with h0 | h0
  · obtain rfl := List.eq_nil_of_length_eq_zero h0; simp [inL_none, worthL]
  · have h : ls.length - 1 < ls.length := by omega
    by_cases he : ls[ls.length - 1].2 = c
    · rw [inL_same ls n c h he]
      have := worthL_set ls (ls.length - 1) h (ls[ls.length - 1].1 + n, ls[ls.length - 1].2)
      simp only [Nat.add_mul] at this; rw [he] at this ⊢; omega
    · rw [inL_other ls n c h he, worthL_append]; simp [worthL]
theorem inL_length (ls : Ls) (n c : Nat) : (inL ls n c).length ≤ ls.length + 1 := by
  rcases Nat.eq_zero_or_pos ls.length with h0 | h0
  · obtain rfl := List.eq_nil_of_length_eq_zero h0; simp [inL_none]
  · have h : ls.length - 1 < ls.length := by omega
    by_cases he : ls[ls.length - 1].2 = c
    · rw [inL_same ls n c h he]; simp
    · rw [inL_other ls n c h he]; simp
theorem inL_ok (ls : Ls) (n c : Nat) (hk : OkL ls) (h1 : 1 ≤ n) (h2 : hasL ls + n ≤ 1099511627776) (h3 : c ≤ 1048576) : OkL (inL ls n c) := by
  have hm : ∀ x ∈ inL ls n c, x.2 ≤ 1048576 ∧ 1 ≤ x.1 := by
    intro x hx
    rcases Nat.eq_zero_or_pos ls.length with h0 | h0
    · obtain rfl := List.eq_nil_of_length_eq_zero h0
      simp [inL_none] at hx; subst hx; exact ⟨h3, h1⟩
    · have h : ls.length - 1 < ls.length := by omega
      by_cases he : ls[ls.length - 1].2 = c
      · rw [inL_same ls n c h he] at hx
        rcases List.mem_or_eq_of_mem_set hx with hx | rfl
        · exact ⟨hk.cost _ hx, hk.pos _ hx⟩
        · exact ⟨by simp only; omega, by simp only; omega⟩
      · rw [inL_other ls n c h he] at hx
        rcases List.mem_append.1 hx with hx | hx
        · exact ⟨hk.cost _ hx, hk.pos _ hx⟩
        · simp at hx; subst hx; exact ⟨h3, h1⟩
  exact ⟨by rw [inL_has]; exact h2, fun x hx => (hm x hx).1, fun x hx => (hm x hx).2⟩

theorem outL_worth (ls : Ls) (n : Nat) : (outL ls n).1 + worthL (outL ls n).2 = worthL ls := by
  induction ls generalizing n with
  | nil => rfl
  | cons x r ih =>
    unfold outL
    split
    · next h =>
      have e : n * x.2 + (x.1 - n) * x.2 = x.1 * x.2 := by rw [← Nat.add_mul]; congr 1; omega
      simp only [worthL]; omega
    · have := ih (n - x.1)
      simp only [worthL]; omega
theorem outL_has (ls : Ls) (n : Nat) (h : n ≤ hasL ls) : hasL (outL ls n).2 + n = hasL ls := by
  induction ls generalizing n with
  | nil => simp [hasL] at h; subst h; rfl
  | cons x r ih =>
    unfold outL
    simp only [hasL] at h
    split
    · simp only [hasL]; omega
    · have := ih (n - x.1) (by omega)
      simp only [hasL]; omega
theorem outL_length (ls : Ls) (n : Nat) : (outL ls n).2.length ≤ ls.length := by
  induction ls generalizing n with
  | nil => simp [outL]
  | cons x r ih =>
    unfold outL
    split
    · simp
    · have := ih (n - x.1)
      simp only [List.length_cons]; omega
theorem outL_mem (ls : Ls) (n : Nat) (h : ∀ x ∈ ls, x.2 ≤ 1048576 ∧ 1 ≤ x.1) : ∀ x ∈ (outL ls n).2, x.2 ≤ 1048576 ∧ 1 ≤ x.1 := by
  induction ls generalizing n with
  | nil => simp [outL]
  | cons y r ih =>
    unfold outL
    split
    · intro x hx
      rcases List.mem_cons.1 hx with rfl | hx
      · exact ⟨(h y (by simp)).1, by simp only; omega⟩
      · exact h x (List.mem_cons_of_mem _ hx)
    · exact ih _ (fun x hx => h x (List.mem_cons_of_mem _ hx))
theorem outL_ok (ls : Ls) (n : Nat) (hk : OkL ls) (h : n ≤ hasL ls) : OkL (outL ls n).2 := by
  have h1 := outL_has ls n h
  have h2 := hk.has
  have h3 := outL_mem ls n (fun x hx => ⟨hk.cost x hx, hk.pos x hx⟩)
  exact ⟨by omega, fun x hx => (h3 x hx).1, fun x hx => (h3 x hx).2⟩
theorem outL_zero (ls : Ls) (hk : ∀ x ∈ ls, 1 ≤ x.1) : outL ls 0 = (0, ls) := by
  cases ls with
  | nil => rfl
  | cons x r =>
    have := hk x (by simp)
    unfold outL
    rw [if_pos (by omega)]; simp
theorem outL_add (ls : Ls) (a b : Nat) : outL ls (a + b) = ((outL ls a).1 + (outL (outL ls a).2 b).1, (outL (outL ls a).2 b).2) := by
  induction ls generalizing a with
  | nil => rfl
  | cons x r ih =>
    by_cases h1 : a < x.1
    · have ea : outL (x :: r) a = (a * x.2, (x.1 - a, x.2) :: r) := by rw [outL, if_pos h1]
      rw [ea]
      by_cases h2 : a + b < x.1
      · rw [outL, if_pos h2]
        simp only
        rw [outL, if_pos (by simp only; omega)]
        simp only [Nat.add_mul, Nat.sub_sub]
      · rw [outL, if_neg h2]
        simp only
        rw [outL, if_neg (by simp only; omega)]
        have e : a * x.2 + (x.1 - a) * x.2 = x.1 * x.2 := by rw [← Nat.add_mul]; congr 1; omega
        have e2 : a + b - x.1 = b - (x.1 - a) := by omega
        simp only [e2]
        ext1 <;> simp only
        omega
    · have ea : outL (x :: r) a = (x.1 * x.2 + (outL r (a - x.1)).1, (outL r (a - x.1)).2) := by rw [outL, if_neg h1]
      rw [ea, outL, if_neg (by omega), show a + b - x.1 = (a - x.1) + b by omega, ih (a - x.1)]
      simp only [Nat.add_assoc]
theorem outL_full (x : Nat × Nat) (r : Ls) (n : Nat) (h : x.1 ≤ n) : outL (x :: r) n = (x.1 * x.2 + (outL r (n - x.1)).1, (outL r (n - x.1)).2) := by rw [outL, if_neg (by omega)]
theorem outL_part (x : Nat × Nat) (r : Ls) (n : Nat) (h : n < x.1) : outL (x :: r) n = (n * x.2, (x.1 - n, x.2) :: r) := by rw [outL, if_pos h]
--END
end Go.Proofs.YtphgakobfegpcaaGreatDoor
