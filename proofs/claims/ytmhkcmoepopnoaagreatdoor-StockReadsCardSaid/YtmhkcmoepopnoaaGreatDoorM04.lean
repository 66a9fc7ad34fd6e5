/- Structs in memory: loads and stores of whole ones, laws at the operations of a walk. -/
import Derived.Laws.CopyRow
import Derived.Laws.Rows
import Derived.Test.YtmhkcmoepopnoaaGreatDoorM03
namespace Go.Proofs.YtmhkcmoepopnoaaGreatDoor
open Go.RowKit

/-- Nothing but block b has turned, and no block is new. -/
structure Turned (b : Nat) (w w' : World) : Prop where
  os : w'.os = w.os
  tape : w'.tape = w.tape
  output : w'.output = w.output
  size : w'.heap.size = w.heap.size
  block : ∀ k, k ≠ b → w'.heap[k]? = w.heap[k]?
theorem Turned.refl (b : Nat) (w : World) : Turned b w w := ⟨rfl, rfl, rfl, rfl, fun _ _ => rfl⟩
theorem Turned.trans {b : Nat} {w1 w2 w3 : World} (h : Turned b w1 w2) (k : Turned b w2 w3) : Turned b w1 w3 := ⟨k.os.trans h.os, k.tape.trans h.tape, k.output.trans h.output, k.size.trans h.size, fun i hi => (k.block i hi).trans (h.block i hi)⟩
theorem Turned.drew {b : Nat} {w w' : World} (h : Turned b w w') : Turned b w w'.drew := ⟨h.os, h.tape, h.output, h.size, h.block⟩
theorem Turned.cell {b : Nat} {w w' : World} (h : Turned b w w') {a : Addr} {v : Value} (hc : w.cell? a = some v) (hne : a.block ≠ b) : w'.cell? a = some v := (World.cell?_of_block (h.block _ hne)).trans hc
theorem Turned.below {b : Nat} {w w' : World} (h : Turned b w w') {B : Nat} (hB : B ≤ b) : Below B w w' := ⟨h.os, h.tape, h.output, Nat.le_of_eq h.size.symm, fun k hk => h.block k (by omega)⟩
theorem Turned.heap {b : Nat} {w w' : World} (h : Turned b w w') {k : Nat} {o : Obj} (hc : w.heap[k]? = some o) (hne : k ≠ b) : w'.heap[k]? = some o := (h.block _ hne).trans hc

variable {P : Program} {ops : Array Oper} {rest : List Oper} {o : Oper} {a : Act} {w : World} {Q : Exit → Act → World → Prop}
/-- A struct that lies in cells one behind the other. -/
def Lies (w : World) (b off : Nat) (vs : List Value) : Prop := ∀ j v, vs[j]? = some v → w.cell? ⟨b, off + j, none⟩ = some v
theorem Lies.row {w : World} {b : Nat} {t : TypeId} {fr : Nat × Nat} (L : List Value) (h : w.heap[b]? = some (.cells L.toArray t fr)) : Lies w b 0 L := fun j v hv => by
  rw [cell_of_row _ _ _ _ _ _ h]
  simpa using hv
theorem Lies.sub {w : World} {b : Nat} {t : TypeId} {fr : Nat × Nat} (L : List Value) (h : w.heap[b]? = some (.cells L.toArray t fr)) (off : Nat) (vs : List Value) (hs : ∀ j v, vs[j]? = some v → L[off + j]? = some v) : Lies w b off vs := fun j v hv => by
  rw [cell_of_row _ _ _ _ _ _ h]
  simpa using hs j v hv
theorem Lies.below {w w' : World} {b off : Nat} {vs : List Value} (h : Lies w b off vs) (hb : Below w.heap.size w w') : Lies w' b off vs := fun j v hv => (hb.cell (p := ⟨b, off + j, none⟩) (lt_of_cell (h j v hv))).trans (h j v hv)
theorem Lies.turned {w w' : World} {b off c : Nat} {vs : List Value} (h : Lies w b off vs) (ht : Turned c w w') (hne : b ≠ c) : Lies w' b off vs := fun j v hv => ht.cell (h j v hv) hne

theorem run_loadVar_at (ty : TypeId) (b off : Nat) (vs : List Value) (hc : Lies w b off vs) (d : TypeDesc)
    (hu : P.underlying ty = some d) (hd : (match d with | .struct _ | .array _ _ => true | _ => false) = true) (hi : (P.info? ty).map (·.size) = some vs.length) :
    (loadVar ty ⟨b, off, none⟩).run P w = .ok (.agg vs.toArray) w := by
  have hl : (loadCells ⟨b, off, none⟩ vs.length).run P w = .ok vs.toArray w :=
    run_loadCells_list (P := P) w ⟨b, off, none⟩ vs (fun j v hv => by
      have hadd : (⟨b, off, none⟩ : Addr).add j = ⟨b, off + j, none⟩ := by unfold Addr.add; split <;> simp_all
      rw [hadd]
      exact hc j v hv)
  cases hq : P.info? ty with
  | none => simp [hq] at hi
  | some i =>
    have hs : i.size = vs.length := by simpa [hq] using hi
    have hagg : (isAgg ty).run P w = .ok true w := by
      unfold isAgg
      rw [Sem.run_bind, run_underlying hu w]
      cases d <;> simp_all
    simp [loadVar, Sem.run_bind, hagg, sizeOf, typeInfo, hq, hs, hl]
theorem wpList_load_at (hgd : o.guard = none) (ty : TypeId) (x : Operand) (ho : o.op = .load ty x) (b off : Nat) (hx : a.eval x = .pointer (some ⟨b, off, none⟩)) (vs : List Value)
    (hc : Lies w b off vs) (d : TypeDesc) (hu : P.underlying ty = some d) (hd : (match d with | .struct _ | .array _ _ => true | _ => false) = true)
    (hi : (P.info? ty).map (·.size) = some vs.length) (h : wpList P ops Q rest (a.put o.dst (.agg vs.toArray)) w) : wpList P ops Q (o :: rest) a w :=
  wpList_plain hgd fun _ hK => by
    unfold Oper.wp execOp
    simp only [ho, hx, Instr.loadAt, Instr.sureAddr, Sem.run_bind, Sem.run_pure, Result.andThen_ok, run_loadVar_at ty b off vs hc d hu hd hi]
    exact hK _ _ h
theorem run_storeVar_at (ty : TypeId) (b off : Nat) (vs : List Value) (t : TypeId) (L : List Value) (hb : w.heap[b]? = some (.cells L.toArray t (0, 0)))
    (hi : (P.info? ty).map (·.size) = some vs.length) (hl : off + vs.length ≤ L.length) (h1 : ∀ v ∈ vs, v.oneCell' = true) :
    ∃ w', (storeVar ty ⟨b, off, none⟩ (.agg vs.toArray)).run P w = .ok () w' ∧ w'.heap[b]? = some (.cells (L.take off ++ vs ++ L.drop (off + vs.length)).toArray t (0, 0)) ∧ Turned b w w' := by
  have hr := run_storeCells_at (P := P) b off t vs 0 L.toArray w hb (by simpa using hl) h1
  refine ⟨_, ?_, setRow_heap w b L.toArray _ t _ hb, ⟨rfl, rfl, rfl, ?_, fun k hk => ?_⟩⟩
  · cases hq : P.info? ty with
    | none => simp [hq] at hi
    | some i =>
      have hs : vs.length = i.size := by simp [hq] at hi; omega
      simp [storeVar, sizeOf, typeInfo, hq, Value.cells, hs]
      simpa [hs] using hr
  · simp [World.setRow]
  · simp only [World.setRow, Array.getElem?_modify]
    rw [if_neg (fun e => hk e.symm)]
theorem wpList_store_at (hgd : o.guard = none) (ty : TypeId) (x y : Operand) (ho : o.op = .store ty x y) (b off : Nat) (vs : List Value) (hx : a.eval x = .pointer (some ⟨b, off, none⟩)) (hy : a.eval y = .agg vs.toArray)
    (t : TypeId) (L : List Value) (hb : w.heap[b]? = some (.cells L.toArray t (0, 0))) (hi : (P.info? ty).map (·.size) = some vs.length) (hl : off + vs.length ≤ L.length) (h1 : ∀ v ∈ vs, v.oneCell' = true)
    (h : ∀ w', w'.heap[b]? = some (.cells (L.take off ++ vs ++ L.drop (off + vs.length)).toArray t (0, 0)) → Turned b w w' → wpList P ops Q rest (a.put o.dst undef) w') : wpList P ops Q (o :: rest) a w :=
  wpList_plain hgd fun _ hK => by
    obtain ⟨w', hr, r1, r2⟩ := run_storeVar_at (P := P) ty b off vs t L hb hi hl h1
    unfold Oper.wp execOp
    simp only [ho, hx, hy, Instr.storeAt, Instr.sureAddr, Sem.run_bind, Sem.run_pure, Result.andThen_ok, hr]
    exact hK _ _ (h w' r1 r2)
theorem run_storeVar_val (ty : TypeId) (b off : Nat) (u : Value) (vs : List Value) (hu : u.cells = vs.toArray) (t : TypeId) (L : List Value) (hb : w.heap[b]? = some (.cells L.toArray t (0, 0)))
    (hi : (P.info? ty).map (·.size) = some vs.length) (hl : off + vs.length ≤ L.length) (h1 : ∀ v ∈ vs, v.oneCell' = true) :
    ∃ w', (storeVar ty ⟨b, off, none⟩ u).run P w = .ok () w' ∧ w'.heap[b]? = some (.cells (L.take off ++ vs ++ L.drop (off + vs.length)).toArray t (0, 0)) ∧ Turned b w w' := by
  obtain ⟨w', hr, h⟩ := run_storeVar_at (P := P) ty b off vs t L hb hi hl h1
  refine ⟨w', ?_, h⟩
  unfold storeVar at hr ⊢
  rw [hu]
  exact hr
/-- A value of one cell stored. -/
theorem wpList_store_val (hgd : o.guard = none) (ty : TypeId) (x y : Operand) (ho : o.op = .store ty x y) (b off : Nat) (u : Value) (hx : a.eval x = .pointer (some ⟨b, off, none⟩)) (hy : a.eval y = u) (hu : u.cells = #[u])
    (t : TypeId) (L : List Value) (hb : w.heap[b]? = some (.cells L.toArray t (0, 0))) (hi : (P.info? ty).map (·.size) = some 1) (hl : off < L.length) (h1 : u.oneCell' = true)
    (h : ∀ w', w'.heap[b]? = some (.cells (L.take off ++ [u] ++ L.drop (off + 1)).toArray t (0, 0)) → Turned b w w' → wpList P ops Q rest (a.put o.dst undef) w') : wpList P ops Q (o :: rest) a w :=
  wpList_plain hgd fun _ hK => by
    obtain ⟨w', hr, r1, r2⟩ := run_storeVar_val (P := P) ty b off u [u] hu t L hb hi (show off + 1 ≤ L.length from hl) (fun v hv => by rw [List.mem_singleton.1 hv]; exact h1)
    unfold Oper.wp execOp
    simp only [ho, hx, hy, Instr.storeAt, Instr.sureAddr, Sem.run_bind, Sem.run_pure, Result.andThen_ok, hr]
    exact hK _ _ (h w' r1 r2)
end Go.Proofs.YtmhkcmoepopnoaaGreatDoor
