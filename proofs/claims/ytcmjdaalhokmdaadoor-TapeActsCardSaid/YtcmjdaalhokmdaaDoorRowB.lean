/- Rows of bytes that a call made, with a conversion's mark or without; a string appended to one. -/
import Derived.Test.YtcmjdaalhokmdaaDoorBase
import Derived.Lib.AppendStr
import Derived.Lib.ConvBytes
import Derived.Laws.IdiomStrings
namespace Go.Proofs.YtcmjdaalhokmdaaDoor
open Go.RowKit

/-- Block g holds, from its head, the bytes bs, in room for cap. -/
def RowB (w : World) (g cap : Nat) (bs : List UInt8) : Prop :=
  ∃ cur fz, w.heap[g]? = some (.cells cur 5 fz) ∧ (∀ j, j < cur.size → ¬ (fz.1 ≤ j ∧ j < fz.2)) ∧ bs.length ≤ cap ∧ cap ≤ cur.size ∧ cap ≤ maxLen ∧ cur.toList.take bs.length = bs.map fun b => Value.int .u8 b.toNat
theorem RowB.lt {w : World} {g cap : Nat} {bs : List UInt8} (h : RowB w g cap bs) : g < w.heap.size := by
  obtain ⟨cur, fz, h, _⟩ := h
  rcases Nat.lt_or_ge g w.heap.size with hl | hl
  · exact hl
  · rw [Array.getElem?_eq_none hl] at h; cases h
theorem RowB.keep {w w' : World} {g cap : Nat} {bs : List UInt8} (h : RowB w g cap bs) (hg : w'.heap[g]? = w.heap[g]?) : RowB w' g cap bs := by
  obtain ⟨cur, fz, h, r⟩ := h
  exact ⟨cur, fz, hg.trans h, r⟩
theorem RowB.below {w w' : World} {g cap : Nat} {bs : List UInt8} (h : RowB w g cap bs) (hb : Below w.heap.size w w') : RowB w' g cap bs := h.keep (hb.block _ h.lt)
theorem RowB.cell {w : World} {g cap : Nat} {bs : List UInt8} (h : RowB w g cap bs) (j : Nat) (hj : j < bs.length) : w.cell? ((⟨g, 0, none⟩ : Addr).add j) = some (.int .u8 (bs[j].toNat : Int)) := by
  obtain ⟨cur, fz, hg, _, _, _, _, ht⟩ := h
  have e : cur.toList[j]? = some (.int .u8 (bs[j].toNat : Int)) := by
    rw [← List.getElem?_take_of_lt (l := cur.toList) (show j < bs.length from hj), ht]
    simp [List.getElem?_eq_getElem hj]
  have hplain : (⟨g, 0, none⟩ : Addr).add j = ⟨g, j, none⟩ := by unfold Addr.add; split <;> simp_all
  rw [hplain]
  simp only [World.cell?, hg]
  simpa using e
/-- A row cut at its end. -/
theorem RowB.cut {w : World} {g cap : Nat} {bs : List UInt8} (h : RowB w g cap bs) (n : Nat) (hn : n ≤ bs.length) : RowB w g n (bs.take n) := by
  obtain ⟨cur, fz, hg, hz, h1, h2, h3, ht⟩ := h
  refine ⟨cur, fz, hg, hz, by rw [List.length_take]; omega, by omega, by omega, ?_⟩
  have : (bs.take n).length = n := by rw [List.length_take]; omega
  rw [this, List.map_take, ← ht, List.take_take, Nat.min_eq_left hn]

theorem storeB (P : Program) (g o : Nat) (t : TypeId) (fz : Nat × Nat) : ∀ (vs : List Value) (i : Nat) (cur : Array Value) (w : World), w.heap[g]? = some (.cells cur t fz) → (∀ j, j < cur.size → ¬ (fz.1 ≤ j ∧ j < fz.2)) → o + i + vs.length ≤ cur.size → (∀ v ∈ vs, v.oneCell' = true) →
    (storeCells ⟨g, o, none⟩ vs i).run P w = .ok () (w.setRow g (cur.toList.take (o + i) ++ vs ++ cur.toList.drop (o + i + vs.length)).toArray)
  | [], i, cur, w, hg, _, _, _ => by
    simp only [storeCells, List.append_nil, List.length_nil, Nat.add_zero, List.take_append_drop, Array.toArray_toList]
    rw [setRow_self w g cur t fz hg]
    rfl
  | v :: rest, i, cur, w, hg, hfz, hl, h1 => by
    have hi : o + i < cur.size := by simp at hl; omega
    have hadd : (⟨g, o, none⟩ : Addr).add i = ⟨g, o + i, none⟩ := by unfold Addr.add; split <;> simp_all
    have hcell : w.cell? ⟨g, o + i, none⟩ = some cur[o + i] := by simp [World.cell?, hg, hi]
    have hfro : w.frozen? ⟨g, o + i, none⟩ = false := by
      have := hfz (o + i) hi
      simp only [World.frozen?, hg]
      simpa using this
    have hst : (store ((⟨g, o, none⟩ : Addr).add i) v).run P w = .ok () (w.setRow g (cur.setIfInBounds (o + i) v)) := by
      rw [hadd, run_store P w _ v _ (h1 v (by simp)), hcell]
      simp [hfro, setCell_eq_setRow w g (o + i) cur t fz v hg]
    have ih := storeB P g o t fz rest (i + 1) (cur.setIfInBounds (o + i) v) (w.setRow g (cur.setIfInBounds (o + i) v)) (setRow_heap w g cur _ t _ hg) (by simpa using hfz) (by simp at hl ⊢; omega) (fun x hx => h1 x (by simp [hx]))
    simp only [storeCells, Sem.run_bind, hst, Result.andThen_ok, ih, setRow_setRow]
    congr 3
    have e := list_seg_step cur.toList (o + i) v rest (by simp at hl ⊢; omega)
    simpa [Array.toList_setIfInBounds, Nat.add_assoc] using e

theorem u8Info : (Tryd.prog.info? 5).map (fun i => (i.zero, i.size, i.bytes)) = some (some (.int .u8 0), 1, 1) := by kernel_rfl

theorem cells_eq (s : List UInt8) : Lib.strCells ⟨s.toArray⟩ = s.map fun b => Value.int .u8 b.toNat := by simp [Lib.strCells]

/-- A string appended to a row of bytes. -/
theorem run_append_rowB (u ty : TypeId) (hu : Tryd.prog.underlying u = some .string) (w : World) (g cap : Nat) (bs s : List UInt8) (h : RowB w g cap bs) (hlen : bs.length + s.length ≤ 1000000000) :
    ∃ g' cap' w', (Builtin.append_ #[78, u] ty #[.slice (some ⟨g, 0, none⟩) bs.length cap, .string ⟨s.toArray⟩]).run Tryd.prog w = .ok (.slice (some ⟨g', 0, none⟩) (bs.length + s.length) cap') w' ∧
      RowB w' g' cap' (bs ++ s) ∧ (g' = g ∨ w.heap.size ≤ g') ∧ w'.os = w.os ∧ w'.tape = w.tape ∧ w'.output = w.output ∧ w.heap.size ≤ w'.heap.size ∧ (∀ k, k < w.heap.size → k ≠ g → w'.heap[k]? = w.heap[k]?) := by
  obtain ⟨i, hi, hz, hs1, hb1⟩ := info_parts u8Info
  obtain ⟨cur, fz, hg, hfz, h1, h2, h3, ht⟩ := h
  have ht1 := Tryd.underlying78
  have hsz : (⟨s.toArray⟩ : ByteArray).size = s.length := by simp [ByteArray.size]
  have hcl : (Lib.strCells ⟨s.toArray⟩).length = s.length := by rw [cells_eq]; simp
  by_cases hroom : bs.length + s.length ≤ cap
  · have hf := Lib.run_firstCells_string (P := Tryd.prog) w 1 ⟨s.toArray⟩
    have hst := storeB Tryd.prog g bs.length 5 fz (Lib.strCells ⟨s.toArray⟩) 0 cur w hg hfz (by rw [hcl]; omega) (Lib.strCells_oneCell _)
    simp only [Nat.add_zero, hcl] at hst
    rw [hsz] at hf
    refine ⟨g, cap, w.setRow g (cur.toList.take bs.length ++ Lib.strCells ⟨s.toArray⟩ ++ cur.toList.drop (bs.length + s.length)).toArray, ?_, ⟨_, fz, setRow_heap w g cur _ _ _ hg, ?_, by simpa using hroom, ?_, h3, ?_⟩, .inl rfl, rfl, rfl, rfl, by simp, fun k _ hk => setRow_other w g k _ hk⟩
    · simp [Builtin.append_, run_underlying ht1, run_underlying hu, sizeOf, typeInfo, hi, hs1, Builtin.lenOf, hsz, hroom, hf, Addr.add_lit, hst]
    · intro j hj
      apply hfz
      simp only [List.size_toArray, List.length_append, List.length_take, List.length_drop, Array.length_toList, hcl] at hj
      omega
    · simp only [List.size_toArray, List.length_append, List.length_take, List.length_drop, Array.length_toList, hcl]
      omega
    · have e : (bs ++ s).length = (cur.toList.take bs.length ++ Lib.strCells ⟨s.toArray⟩).length := by
        simp only [List.length_append, List.length_take, Array.length_toList, hcl]; omega
      show List.take _ (cur.toList.take bs.length ++ Lib.strCells ⟨s.toArray⟩ ++ cur.toList.drop (bs.length + s.length)) = _
      rw [e, List.take_left, ht, cells_eq, List.map_append]
  · have holds : ∀ j u, (bs.map fun b => Value.int .u8 b.toNat)[j]? = some u → w.cell? ((⟨g, 0, none⟩ : Addr).add j) = some u := by
      intro j u hj
      have hjl : j < bs.length := by simpa using (List.getElem?_eq_some_iff.1 hj).1
      rw [RowB.cell ⟨cur, fz, hg, hfz, h1, h2, h3, ht⟩ j hjl]
      simp [List.getElem?_eq_getElem hjl] at hj
      rw [← hj]
    have hr := Lib.run_append_grow_string (P := Tryd.prog) w 78 u ty 5 i (.int .u8 0) ht1 hu hi hz ⟨g, 0, none⟩ bs.length cap (bs.map fun b => Value.int .u8 b.toNat) (by rw [hs1]; simp) holds ⟨s.toArray⟩ (by rw [hsz]; omega) (by rw [hsz]; omega) (by rw [hb1, hsz]; exact growslice_fits (by omega) (by omega))
    rw [hsz] at hr
    have hge := grownCap_ge w (bs.length + s.length) cap 5
    have hcm := grownCap_le_maxLen w (bs.length + s.length) cap 5 (by unfold maxLen; omega)
    refine ⟨w.heap.size, grownCap w (bs.length + s.length) cap 5, _, hr, ⟨_, (0, 0), heap_alloc_new w.drew _, fun j _ => by simp, by simpa using hge, ?_, hcm, ?_⟩, .inr (Nat.le_refl _), rfl, rfl, rfl, by simp, fun k hk _ => heap_alloc_old w.drew _ hk⟩
    · have hz1 : (Value.int IntKind.u8 0).cells.size = 1 := rfl
      simp only [Array.size_append, List.size_toArray, size_zeroCells, hz1, hcl, List.length_map]
      omega
    · simp only [Array.toList_append, List.append_assoc]
      rw [← List.append_assoc, cells_eq, ← List.map_append]
      have e : (bs ++ s).length = ((bs ++ s).map fun b => Value.int .u8 b.toNat).length := by simp
      rw [e]
      exact List.take_left

/-- The same at the operation, for the walk. -/
theorem wpList_append_rowB {ops : Array Oper} {rest : List Oper} {o : Oper} {a : Act} {Q : Exit → Act → World → Prop} (w : World) (hgd : o.guard = none) (sl x : Operand) (u : TypeId)
    (ho : o.op = .call { callee := .builtin .append, args := #[sl, x], argTypes := #[78, u] }) (hu : Tryd.prog.underlying u = some .string)
    (g cap : Nat) (bs s : List UInt8) (hs : a.eval sl = .slice (some ⟨g, 0, none⟩) bs.length cap) (h : RowB w g cap bs) (hx : a.eval x = .string ⟨s.toArray⟩) (hlen : bs.length + s.length ≤ 1000000000)
    (hK : ∀ g' cap' w', RowB w' g' cap' (bs ++ s) → (g' = g ∨ w.heap.size ≤ g') → w'.os = w.os → w'.tape = w.tape → w'.output = w.output → w.heap.size ≤ w'.heap.size → (∀ k, k < w.heap.size → k ≠ g → w'.heap[k]? = w.heap[k]?) →
      wpList Tryd.prog ops Q rest (a.put o.dst (.slice (some ⟨g', 0, none⟩) (bs.length + s.length) cap')) w') : wpList Tryd.prog ops Q (o :: rest) a w := by
  refine wpList_plain hgd fun K hK' => ?_
  obtain ⟨g', cap', w', hr, r1, r2, r3, r4, r5, r6, r7⟩ := run_append_rowB u o.type hu w g cap bs s h hlen
  unfold Oper.wp execOp
  simp only [ho, resolve, invoke, builtin, Sem.run_bind, Sem.run_pure, Result.andThen_ok, List.map_toArray, List.map_cons, List.map_nil, hs, hx, hr]
  exact hK' _ _ (hK g' cap' w' r1 r2 r3 r4 r5 r6 r7)
/-- And at a step of a region that draws. -/
theorem step_append_rowB {ops : Array Oper} {o : Oper} {a : Act} {K : Act → World → Prop} {Q : Exit → Act → World → Prop} {E : Prop} (w : World) (hgd : o.guard = none) (sl x : Operand) (u : TypeId)
    (ho : o.op = .call { callee := .builtin .append, args := #[sl, x], argTypes := #[78, u] }) (hu : Tryd.prog.underlying u = some .string)
    (g cap : Nat) (bs s : List UInt8) (hs : a.eval sl = .slice (some ⟨g, 0, none⟩) bs.length cap) (h : RowB w g cap bs) (hx : a.eval x = .string ⟨s.toArray⟩) (hlen : bs.length + s.length ≤ 1000000000)
    (hK : ∀ g' cap' w', RowB w' g' cap' (bs ++ s) → (g' = g ∨ w.heap.size ≤ g') → w'.os = w.os → w'.tape = w.tape → w'.output = w.output → w.heap.size ≤ w'.heap.size → (∀ k, k < w.heap.size → k ≠ g → w'.heap[k]? = w.heap[k]?) →
      K (a.put o.dst (.slice (some ⟨g', 0, none⟩) (bs.length + s.length) cap')) w') : if Region.wanted o (yielded ops a.tmps) = true then Oper.wp Tryd.prog o a w K Q else E := by
  have hw : Region.wanted o (yielded ops a.tmps) = true := by simp [Region.wanted, hgd]
  rw [if_pos hw]
  obtain ⟨g', cap', w', hr, r1, r2, r3, r4, r5, r6, r7⟩ := run_append_rowB u o.type hu w g cap bs s h hlen
  unfold Oper.wp execOp
  simp only [ho, resolve, invoke, builtin, Sem.run_bind, Sem.run_pure, Result.andThen_ok, List.map_toArray, List.map_cons, List.map_nil, hs, hx, hr]
  exact hK g' cap' w' r1 r2 r3 r4 r5 r6 r7

/-- The bytes of a row as a string. -/
theorem run_string_rowB (src dst : TypeId) (hs : Tryd.prog.underlying src = some (.slice 5)) (hd : Tryd.prog.underlying dst = some .string) (w : World) (g cap cap' : Nat) (bs : List UInt8) (h : RowB w g cap bs) :
    (convert src dst (.slice (some ⟨g, 0, none⟩) bs.length cap')).run Tryd.prog w = .ok (.string ⟨bs.toArray⟩) w :=
  run_convert_bytes_back w src dst 5 ⟨g, 0, none⟩ cap' bs hs Tryd.underlying5 hd h.cell

/-- A string's bytes in a row of their own. -/
theorem rowB_of_string (w : World) (s : List UInt8) (hlen : s.length ≤ 1000000000) : RowB (Lib.bytesWorld w 5 ⟨s.toArray⟩) w.heap.size (grownCap w s.length 0 5) s := by
  have hge := grownCap_ge w s.length 0 5
  have hcm := grownCap_le_maxLen w s.length 0 5 (by unfold maxLen; omega)
  refine ⟨_, _, Lib.bytesWorld_at_new w 5 ⟨s.toArray⟩, fun j hj => by simp only; omega, hge, ?_, hcm, ?_⟩
  · simp [Lib.bytesCells, ByteArray.size]; omega
  · unfold Lib.bytesCells
    rw [Array.toList_append, List.take_append_of_le_length (by simp), List.take_of_length_le (by simp)]
    simp
theorem below_bytesWorld (w : World) (s : ByteArray) : Below w.heap.size w (Lib.bytesWorld w 5 s) := by
  refine ⟨?_, ?_, ?_, ?_, fun k hk => Lib.bytesWorld_at_old w _ s k hk⟩
  · simp [Lib.bytesWorld, World.freeze, World.alloc, World.drew, -World.alloc_eq, -World.drew_eq]
  · simp [Lib.bytesWorld, World.freeze, World.alloc, World.drew, -World.alloc_eq, -World.drew_eq]
  · simp [Lib.bytesWorld, World.freeze, World.alloc, World.drew, -World.alloc_eq, -World.drew_eq]
  · rw [Lib.bytesWorld_size]; omega
end Go.Proofs.YtcmjdaalhokmdaaDoor
