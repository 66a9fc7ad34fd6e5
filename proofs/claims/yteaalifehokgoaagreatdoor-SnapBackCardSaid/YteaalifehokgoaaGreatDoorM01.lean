/- The words for worlds: later worlds, what package-level variables hold, errors that are sentinels. Old cells behind a call; Within; errors and boxes. Structs in memory: loads and stores of whole ones, laws at the operations of a walk. -/
import Derived.Test.YteaalifehokgoaaGreatDoorProg
import Derived.WalkKit
import Derived.WalkSmall
import Derived.WalkSpells
import Derived.WalkLawsBesides
import Derived.Lib.LaidTab
import Derived.Lib.ItoaNum
import Derived.Lib.Hide
import Derived.Deep.QuietTactic
import Derived.BigQuiet
import Derived.Deep.RegionWith
import Derived.Deep.RegionHeld3
import Derived.Deep.DeepCutAuto
import Derived.Deep.DeepFit
import Derived.LoopTactic
import Derived.Outline
import Derived.Laws.CopyRow
import Derived.Laws.Rows
namespace Go.Proofs.YteaalifehokgoaaGreatDoor
open Go.RowKit
theorem lt_of_cell {w : World} {a : Addr} {v : Value} (h : w.cell? a = some v) : a.block < w.heap.size := by
 rcases Nat.lt_or_ge a.block w.heap.size with hl | hl
 ·exact hl
 ·simp [World.cell?, Array.getElem?_eq_none hl] at h
def TabG (w : World) : Prop := Lib.TabIs Tryz.prog w "internal/strconv.uint64pow10" .u64 Lib.pow10Tab ∧ 16 < w.heap.size
theorem TabG.below {w w' : World} (h : TabG w) (hb : Below w.heap.size w w') : TabG w' :=
 ⟨var?_below hb (by kernel_rfl) h.2 h.1, Nat.lt_of_lt_of_le h.2 hb.size⟩
def AtoiG (w : World) : Prop := (∃ tp p, w.cell? ⟨17, 0, none⟩ = some (.iface tp p)) ∧ (∃ tp p, w.cell? ⟨18, 0, none⟩ = some (.iface tp p))
theorem AtoiG.below {w w' : World} (h : AtoiG w) (hb : Below w.heap.size w w') : AtoiG w' := by
 obtain ⟨⟨t1, p1, h1⟩, ⟨t2, p2, h2⟩⟩ := h
 exact ⟨⟨t1, p1, by rw [hb.cell (lt_of_cell h1)]; exact h1⟩, ⟨t2, p2, by rw [hb.cell (lt_of_cell h2)]; exact h2⟩⟩
def MaxG (w : World) : Prop := ∃ m : Int, w.cell? ⟨13, 0, none⟩ = some (.int .i64 m)
theorem MaxG.below {w w' : World} (h : MaxG w) (hb : Below w.heap.size w w') : MaxG w' := by
 obtain ⟨m, h1⟩ := h
 exact ⟨m, by rw [hb.cell (lt_of_cell h1)]; exact h1⟩
def ErrAt (g : Nat) (a : Addr) (w : World) : Prop := w.cell? ⟨g, 0, none⟩ = some (.iface 318 (.pointer (some a)))
theorem ErrAt.below {g : Nat} {a : Addr} {w w' : World} (h : ErrAt g a w) (hb : Below w.heap.size w w') : ErrAt g a w' := by
 unfold ErrAt
 rw [hb.cell (lt_of_cell h)]
 exact h
def errOf (E : Nat → Addr) (k : Nat) : Value := if k = 0 then .nilIface else .iface 318 (.pointer (some (E k)))
theorem errOf_zero (E : Nat → Addr) : errOf E 0 = .nilIface := rfl
theorem errOf_pos (E : Nat → Addr) (k : Nat) (h : k ≠ 0) : errOf E k = .iface 318 (.pointer (some (E k))) := if_neg h
theorem TabG.drew {w : World} (h : TabG w) : TabG w.drew := h
theorem TabG.drewN {w : World} (h : TabG w) (n : Nat) : TabG (w.drewN n) := h
theorem mk_app (a b : List UInt8) : (⟨a.toArray⟩ : ByteArray) ++ (⟨b.toArray⟩ : ByteArray) = ⟨(a ++ b).toArray⟩ := by
 apply ByteArray.ext
 simp
theorem within_yes (n a b : Int) (w : World) (h1 : a ≤ n) (h2 : n ≤ b) : Calls Tryz.prog 130 #[.int .i64 n, .int .i64 a, .int .i64 b] w fun e w' => e = .returned (.bool true) ∧ w = w' := by
 go_enter Tryz.func130, Tryz.ntmps130
 go_wp2
 go_ret
 exact ⟨rfl, rfl⟩
theorem within_no (n a b : Int) (w : World) (h : n < a ∨ b < n) : Calls Tryz.prog 130 #[.int .i64 n, .int .i64 a, .int .i64 b] w fun e w' => e = .returned (.bool false) ∧ w = w' := by
 by_cases h1 : a ≤ n
 ·have h2 : ¬ n ≤ b := by omega
  go_enter Tryz.func130, Tryz.ntmps130
  go_wp2
  go_ret
  exact ⟨rfl, rfl⟩
 ·go_enter Tryz.func130, Tryz.ntmps130
  go_wp2
  go_ret
  exact ⟨rfl, rfl⟩
end Go.Proofs.YteaalifehokgoaaGreatDoor
namespace Go.Proofs.YteaalifehokgoaaGreatDoor
open Go.RowKit
theorem bcell {W w1 : World} (hb : Below W.heap.size W w1) : (∀ b o, b < W.heap.size → w1.cell? ⟨b, o, none⟩ = W.cell? ⟨b, o, none⟩) ∧ (∀ b o, b < W.heap.size → w1.frozen? ⟨b, o, none⟩ = W.frozen? ⟨b, o, none⟩) :=
 ⟨fun b o h => hb.cell (p := ⟨b, o, none⟩) h, fun b o h => hb.frozen (p := ⟨b, o, none⟩) h⟩
def wiB (n a b : Int) : Bool := decide (a ≤ n ∧ n ≤ b)
theorem within_any (n a b : Int) (w : World) : Calls Tryz.prog 130 #[.int .i64 n, .int .i64 a, .int .i64 b] w fun e w' => e = .returned (.bool (wiB n a b)) ∧ w = w' := by
 by_cases h : a ≤ n ∧ n ≤ b
 ·rw [show wiB n a b = true from decide_eq_true h]
  exact within_yes n a b w h.1 h.2
 ·rw [show wiB n a b = false from decide_eq_false h]
  exact within_no n a b w (by omega)
theorem heap_two {w w1 : World} {o : Obj} (b : Below (w.alloc o).heap.size (w.alloc o) w1) : w.heap.size < w1.heap.size := by
 have := b.size
 simp at this; omega
theorem below_one (w : World) (o : Obj) : Below w.heap.size w (w.alloc o) := (Below.refl _ _).alloc (Nat.le_refl _) _
theorem below_two (w : World) (o1 o2 : Obj) : Below w.heap.size w ((w.alloc o1).alloc o2) := ((Below.refl _ _).alloc (Nat.le_refl _) _).alloc (by simp) _
end Go.Proofs.YteaalifehokgoaaGreatDoor
namespace Go.Proofs.YteaalifehokgoaaGreatDoor
open Go.RowKit
structure Turned (b : Nat) (w w' : World) : Prop where
 os : w'.os = w.os
 tape : w'.tape = w.tape
 output : w'.output = w.output
 size : w'.heap.size = w.heap.size
 block : ∀ k, k ≠ b → w'.heap[k]? = w.heap[k]?
theorem Turned.refl (b : Nat) (w : World) : Turned b w w := ⟨rfl, rfl, rfl, rfl, fun _ _ => rfl⟩
theorem Turned.trans {b : Nat} {w1 w2 w3 : World} (h : Turned b w1 w2) (k : Turned b w2 w3) : Turned b w1 w3 := ⟨k.os.trans h.os, k.tape.trans h.tape, k.output.trans h.output, k.size.trans h.size, fun i hi => (k.block i hi).trans (h.block i hi)⟩
theorem Turned.drew {b : Nat} {w w' : World} (h : Turned b w w') : Turned b w w'.drew := ⟨h.os, h.tape, h.output, h.size, h.block⟩
theorem Turned.cell {b : Nat} {w w' : World} (h : Turned b w w') {a : Addr} {v : Value} (hc : w.cell? a = some v) (hne : a.block ≠ b) : w'.cell? a = some v := (World.cell?_of_block (h.block _ hne)).trans hc
theorem Turned.below {b : Nat} {w w' : World} (h : Turned b w w') {B : Nat} (hB : B ≤ b) : Below B w w' := ⟨h.os, h.tape, h.output, Nat.le_of_eq h.size.symm, fun k hk => h.block k (by omega)⟩
theorem Turned.heap {b : Nat} {w w' : World} (h : Turned b w w') {k : Nat} {o : Obj} (hc : w.heap[k]? = some o) (hne : k ≠ b) : w'.heap[k]? = some o := (h.block _ hne).trans hc
variable {P : Program} {ops : Array Oper} {rest : List Oper} {o : Oper} {a : Act} {w : World} {Q : Exit → Act → World → Prop}
def Lies (w : World) (b off : Nat) (vs : List Value) : Prop := ∀ j v, vs[j]? = some v → w.cell? ⟨b, off + j, none⟩ = some v
theorem Lies.row {w : World} {b : Nat} {t : TypeId} {fr : Nat × Nat} (L : List Value) (h : w.heap[b]? = some (.cells L.toArray t fr)) : Lies w b 0 L := fun j v hv => by
 rw [cell_of_row _ _ _ _ _ _ h]
 simpa using hv
theorem Lies.sub {w : World} {b : Nat} {t : TypeId} {fr : Nat × Nat} (L : List Value) (h : w.heap[b]? = some (.cells L.toArray t fr)) (off : Nat) (vs : List Value) (hs : ∀ j v, vs[j]? = some v → L[off + j]? = some v) : Lies w b off vs := fun j v hv => by
 rw [cell_of_row _ _ _ _ _ _ h]
 simpa using hs j v hv
theorem Lies.below {w w' : World} {b off : Nat} {vs : List Value} (h : Lies w b off vs) (hb : Below w.heap.size w w') : Lies w' b off vs := fun j v hv => (hb.cell (p := ⟨b, off + j, none⟩) (lt_of_cell (h j v hv))).trans (h j v hv)
theorem Lies.turned {w w' : World} {b off c : Nat} {vs : List Value} (h : Lies w b off vs) (ht : Turned c w w') (hne : b ≠ c) : Lies w' b off vs := fun j v hv => ht.cell (h j v hv) hne
theorem run_loadVar_at (ty : TypeId) (b off : Nat) (vs : List Value) (hc : Lies w b off vs) (d : TypeDesc)
  (hu : P.underlying ty = some d) (hd : (match d with | .struct _ | .array _ _ => true | _ => false) = true) (hi : (P.info? ty).map (·.size) = some vs.length) :
  (loadVar ty ⟨b, off, none⟩).run P w = .ok (.agg vs.toArray) w := by
 have hl : (loadCells ⟨b, off, none⟩ vs.length).run P w = .ok vs.toArray w :=
  run_loadCells_list (P := P) w ⟨b, off, none⟩ vs (fun j v hv => by
   have hadd : (⟨b, off, none⟩ : Addr).add j = ⟨b, off + j, none⟩ := by unfold Addr.add; split <;> simp_all
   rw [hadd]
   exact hc j v hv)
 cases hq : P.info? ty with
 |none => simp [hq] at hi
 |some i =>
  have hs : i.size = vs.length := by simpa [hq] using hi
  have hagg : (isAgg ty).run P w = .ok true w := by
   unfold isAgg
   rw [Sem.run_bind, run_underlying hu w]
   cases d <;> simp_all
  simp [loadVar, Sem.run_bind, hagg, sizeOf, typeInfo, hq, hs, hl]
theorem wpList_load_at (hgd : o.guard = none) (ty : TypeId) (x : Operand) (ho : o.op = .load ty x) (b off : Nat) (hx : a.eval x = .pointer (some ⟨b, off, none⟩)) (vs : List Value)
  (hc : Lies w b off vs) (d : TypeDesc) (hu : P.underlying ty = some d) (hd : (match d with | .struct _ | .array _ _ => true | _ => false) = true)
  (hi : (P.info? ty).map (·.size) = some vs.length) (h : wpList P ops Q rest (a.put o.dst (.agg vs.toArray)) w) : wpList P ops Q (o :: rest) a w :=
 wpList_plain hgd fun _ hK => by
  unfold Oper.wp execOp
  simp only [ho, hx, Instr.loadAt, Instr.sureAddr, Sem.run_bind, Sem.run_pure, Result.andThen_ok, run_loadVar_at ty b off vs hc d hu hd hi]
  exact hK _ _ h
theorem run_storeVar_at (ty : TypeId) (b off : Nat) (vs : List Value) (t : TypeId) (L : List Value) (hb : w.heap[b]? = some (.cells L.toArray t (0, 0)))
  (hi : (P.info? ty).map (·.size) = some vs.length) (hl : off + vs.length ≤ L.length) (h1 : ∀ v ∈ vs, v.oneCell' = true) :
  ∃ w', (storeVar ty ⟨b, off, none⟩ (.agg vs.toArray)).run P w = .ok () w' ∧ w'.heap[b]? = some (.cells (L.take off ++ vs ++ L.drop (off + vs.length)).toArray t (0, 0)) ∧ Turned b w w' := by
 have hr := run_storeCells_at (P := P) b off t vs 0 L.toArray w hb (by simpa using hl) h1
 refine ⟨_, ?_, setRow_heap w b L.toArray _ t _ hb, ⟨rfl, rfl, rfl, ?_, fun k hk => ?_⟩⟩
 ·cases hq : P.info? ty with
  |none => simp [hq] at hi
  |some i =>
   have hs : vs.length = i.size := by simp [hq] at hi; omega
   simp [storeVar, sizeOf, typeInfo, hq, Value.cells, hs]
   simpa [hs] using hr
 ·simp [World.setRow]
 ·simp only [World.setRow, Array.getElem?_modify]
  rw [if_neg (fun e => hk e.symm)]
theorem wpList_store_at (hgd : o.guard = none) (ty : TypeId) (x y : Operand) (ho : o.op = .store ty x y) (b off : Nat) (vs : List Value) (hx : a.eval x = .pointer (some ⟨b, off, none⟩)) (hy : a.eval y = .agg vs.toArray)
  (t : TypeId) (L : List Value) (hb : w.heap[b]? = some (.cells L.toArray t (0, 0))) (hi : (P.info? ty).map (·.size) = some vs.length) (hl : off + vs.length ≤ L.length) (h1 : ∀ v ∈ vs, v.oneCell' = true)
  (h : ∀ w', w'.heap[b]? = some (.cells (L.take off ++ vs ++ L.drop (off + vs.length)).toArray t (0, 0)) → Turned b w w' → wpList P ops Q rest (a.put o.dst undef) w') : wpList P ops Q (o :: rest) a w :=
 wpList_plain hgd fun _ hK => by
  obtain ⟨w', hr, r1, r2⟩ := run_storeVar_at (P := P) ty b off vs t L hb hi hl h1
  unfold Oper.wp execOp
  simp only [ho, hx, hy, Instr.storeAt, Instr.sureAddr, Sem.run_bind, Sem.run_pure, Result.andThen_ok, hr]
  exact hK _ _ (h w' r1 r2)
theorem run_storeVar_val (ty : TypeId) (b off : Nat) (u : Value) (vs : List Value) (hu : u.cells = vs.toArray) (t : TypeId) (L : List Value) (hb : w.heap[b]? = some (.cells L.toArray t (0, 0)))
  (hi : (P.info? ty).map (·.size) = some vs.length) (hl : off + vs.length ≤ L.length) (h1 : ∀ v ∈ vs, v.oneCell' = true) :
  ∃ w', (storeVar ty ⟨b, off, none⟩ u).run P w = .ok () w' ∧ w'.heap[b]? = some (.cells (L.take off ++ vs ++ L.drop (off + vs.length)).toArray t (0, 0)) ∧ Turned b w w' := by
 obtain ⟨w', hr, h⟩ := run_storeVar_at (P := P) ty b off vs t L hb hi hl h1
 refine ⟨w', ?_, h⟩
 unfold storeVar at hr ⊢
 rw [hu]
 exact hr
theorem wpList_store_val (hgd : o.guard = none) (ty : TypeId) (x y : Operand) (ho : o.op = .store ty x y) (b off : Nat) (u : Value) (hx : a.eval x = .pointer (some ⟨b, off, none⟩)) (hy : a.eval y = u) (hu : u.cells = #[u])
  (t : TypeId) (L : List Value) (hb : w.heap[b]? = some (.cells L.toArray t (0, 0))) (hi : (P.info? ty).map (·.size) = some 1) (hl : off < L.length) (h1 : u.oneCell' = true)
  (h : ∀ w', w'.heap[b]? = some (.cells (L.take off ++ [u] ++ L.drop (off + 1)).toArray t (0, 0)) → Turned b w w' → wpList P ops Q rest (a.put o.dst undef) w') : wpList P ops Q (o :: rest) a w :=
 wpList_plain hgd fun _ hK => by
  obtain ⟨w', hr, r1, r2⟩ := run_storeVar_val (P := P) ty b off u [u] hu t L hb hi (show off + 1 ≤ L.length from hl) (fun v hv => by rw [List.mem_singleton.1 hv]; exact h1)
  unfold Oper.wp execOp
  simp only [ho, hx, hy, Instr.storeAt, Instr.sureAddr, Sem.run_bind, Sem.run_pure, Result.andThen_ok, hr]
  exact hK _ _ (h w' r1 r2)
end Go.Proofs.YteaalifehokgoaaGreatDoor
