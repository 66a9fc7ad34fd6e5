/- A book as text, plainly. Snaps: numbers as words. A builder, with its row of bytes named: what stays where it is written to: all but these two blocks. slices.Sorted of maps.Keys at this translation: laid by the kit (lay-iter, lay-plain). -/
import Derived.Shelf.SlGeneric
import Derived.Shelf.SlIter.Nil
import Derived.Shelf.SortM.Plain
import Derived.Shelf.SortM.SortNone
import Derived.Ground.GgzProg
import Derived.Ground.SlgmProg
import Derived.Test.YteaalifehokgoaaGreatDoorProg
import Derived.Test.YteaalifehokgoaaGreatDoorM04
import Derived.Test.YteaalifehokgoaaGreatDoorM05
import Derived.Test.YteaalifehokgoaaGreatDoorM08
import Derived.Test.YteaalifehokgoaaGreatDoorM14
import Derived.Test.YteaalifehokgoaaGreatDoorM36
namespace Go.Proofs.YteaalifehokgoaaGreatDoor
open Go.RowKit Go.Sort Go.Proofs
def wordsT (l : List Int) : List UInt8 := l.flatMap fun n => 32 :: Lib.itoa n
def snapG (x : GoS) : List UInt8 := [103, 111, 111, 100, 115, 32] ++ x.1.1 ++ wordsT [x.1.2, x.2.1, x.2.2.1, x.2.2.2.1, x.2.2.2.2] ++ [10]
def snapL (x : LoH) : List UInt8 := [108, 111, 116, 32] ++ lotText x.1 ++ wordsT [(x.2 : Int)] ++ [10]
def snapS (x : LineV) : List UInt8 := [97, 116, 32] ++ lineText x ++ [10]
def snapGs (l : List GoS) : List UInt8 := l.flatMap snapG
def snapLs (l : List LoH) : List UInt8 := l.flatMap snapL
def snapSs (l : List LineV) : List UInt8 := l.flatMap snapS
def snapT (B : BkV) : List UInt8 := snapGs B.1 ++ snapLs B.2.1 ++ snapSs (linesM B.2.2)
theorem wordsT_take (l : List Int) (k : Nat) (h : k < l.length) : wordsT (l.take (k + 1)) = wordsT (l.take k) ++ 32 :: Lib.itoa l[k] := by
 unfold wordsT
 rw [List.take_succ_eq_append_getElem h, List.flatMap_append]
 simp
theorem flat_take {α : Type} (f : α → List UInt8) (l : List α) (k : Nat) (h : k < l.length) : (l.take (k + 1)).flatMap f = (l.take k).flatMap f ++ f l[k] := by
 rw [List.take_succ_eq_append_getElem h, List.flatMap_append]
 simp
theorem flat_len {α : Type} (f : α → List UInt8) (n : Nat) : ∀ l : List α, (∀ x ∈ l, (f x).length ≤ n) → (l.flatMap f).length ≤ n * l.length
 |[], _ => by simp
 |x :: r, h => by
  have h1 := h x List.mem_cons_self
  have h2 := flat_len f n r fun y hy => h y (List.mem_cons_of_mem _ hy)
  rw [List.flatMap_cons, List.length_append, List.length_cons, Nat.mul_succ]
  omega
end Go.Proofs.YteaalifehokgoaaGreatDoor
namespace Go.Proofs.YteaalifehokgoaaGreatDoor
open Go.RowKit Go.Sort Go.Proofs
theorem words_app (s t : List UInt8) : (⟨s.toArray⟩ : ByteArray) ++ ((⟨#[32]⟩ : ByteArray) ++ ⟨t.toArray⟩) = ⟨(s ++ 32 :: t).toArray⟩ := by
 rw [show (⟨#[32]⟩ : ByteArray) = ⟨[32].toArray⟩ from rfl, mk_app, mk_app]
 rfl
def encInt (n : Int) : List Value := [.int .i64 n]
set_option maxHeartbeats 800000 in
set_option maxRecDepth 100000 in
theorem snWords_any (A : Option Addr) (cap : Nat) (l : List Int) (w : World) (hrow : RowAt encInt 1 w A l) (hl : l.length ≤ 1000) (hn : ∀ n ∈ l, -9223372036854775808 ≤ n ∧ n ≤ 9223372036854775807) (hT : TabG w) :
  Calls Tryz.prog 28 #[.slice A l.length cap] w fun e w' => e = .returned (.string ⟨(wordsT l).toArray⟩) ∧ Below w.heap.size w w' := by
 have HR := Lib.hid (fun W (h : Below w.heap.size w W) => hrow.below h)
 have HTK := Lib.hid (wordsT_take l)
 have HI := Lib.hid (fun n (h : n ∈ l) W (hb : Below w.heap.size w W) => itoa_any n (hn n h).1 (hn n h).2 W (hT.below hb))
 have HLI : Hid (∀ n ∈ l, (Lib.itoa n).length ≤ 21) := fun n h => Lib.itoa_length_le n (hn n h).1 (hn n h).2
 have HLW : Hid (∀ k, (wordsT (l.take k)).length ≤ 22000) := fun k => by
  have h1 := flat_len (fun n : Int => 32 :: Lib.itoa n) 22 (l.take k) fun n h => by
   have := HLI.out n (List.mem_of_mem_take h)
   simp
   omega
  have h2 : (l.take k).length ≤ l.length := List.length_take_le' _ _
  unfold wordsT
  omega
 obtain ⟨N, hN⟩ : ∃ N, N = l.length := ⟨_, rfl⟩
 have HN := Lib.hid hN
 rw [← hN] at hl ⊢
 clear hrow hn hT hN
 go_enter Tryz.func28, Tryz.ntmps28
 go_wp2_with fail
 go_loopw [3, 8] (fun s i wr => ∃ k : Nat, k ≤ N ∧ i = .int .i64 k ∧ s = .string ⟨(wordsT (l.take k)).toArray⟩ ∧ Hid (Below w.heap.size w wr)) (fun _ i _ => N - (intOf i).toNat)
 case atStart => exact ⟨0, by omega, rfl, rfl, Below.refl _ _⟩
 case round =>
  obtain ⟨k, hk, rfl, rfl, HB⟩ := hrel
  by_cases hkN : k < N
  ·have hkx : k < l.length := by rw [← HN.out]; exact hkN
   obtain ⟨g, o, rfl, lg, cg⟩ := HR.out wr HB.out |>.resolve_left (fun h => by rw [h] at hkx; simp at hkx)
   have c0 := cg k hkx 0 _ rfl
   have ht := HTK.out k hkx
   have HI1 := Lib.hid (HI.out l[k] (List.getElem_mem hkx) wr HB.out)
   have hb1 := HLW.out k
   have hb2 := HLI.out l[k] (List.getElem_mem hkx)
   generalize l[k] = n at c0 ht HI1 hb2
   have HTT := Lib.hid ht
   generalize wordsT (l.take k) = s0 at HTT hb1 ⊢
   generalize Lib.itoa n = t0 at HTT HI1 hb2
   have v1 : ¬ 9223372036854775807 < 1 + t0.length := by omega
   have v2 : ¬ 9223372036854775807 < t0.length + 1 := by omega
   have v3 : ¬ 9223372036854775807 < s0.length + (1 + t0.length) := by omega
   have v4 : ¬ 9223372036854775807 < s0.length + (t0.length + 1) := by omega
   simp only [Nat.add_zero, Nat.mul_one] at c0
   clear cg ht
   go_wp2_with fail
   refine HI1.out.mono ?_
   rintro e w1 ⟨rfl, b1⟩
   have B1 := Lib.hid (HB.out.trans (b1.mono HB.out.size))
   clear b1 HI1
   go_wp2_with fail
   go_roundw
   case rel => exact ⟨k + 1, by omega, by go_num, by rw [HTT.out]; exact congrArg Value.string (words_app s0 t0), B1.out⟩
   case measure => simp [intOf]; omega
  ·obtain rfl : k = N := by omega
   have hT : l.take k = l := List.take_of_length_le (by rw [← HN.out]; exact Nat.le_refl _)
   rw [hT]
   go_wp2_with fail
   go_ret
   exact ⟨rfl, HB.out⟩
end Go.Proofs.YteaalifehokgoaaGreatDoor
namespace Go.Proofs.YteaalifehokgoaaGreatDoor
open Go.RowKit Go.Sort Go.Proofs
def BldX (B b : Nat) (r : Option Nat) (bs : List Value) (w : World) : Prop :=
 b < B ∧ ∃ p v, (p = .pointer none ∨ p = .pointer (some ⟨b, 0, none⟩)) ∧ w.heap[b]? = some (.cells #[p, v] 75 (0, 0)) ∧ w.ownsRow B 5 1 v bs.length bs ∧ v.ownBlock = r
theorem BldX.at_ {B b : Nat} {r : Option Nat} {bs : List Value} {w : World} (h : BldX B b r bs w) : BldAt B b bs w := by
 obtain ⟨h1, p, v, hp, hb, ho, -⟩ := h
 exact ⟨h1, p, v, hp, hb, ho⟩
theorem BldX.fresh {B b : Nat} {w : World} (h1 : b < B) (hb : w.heap[b]? = some (.cells #[.pointer none, .slice none 0 0] 75 (0, 0))) : BldX B b none [] w :=
 ⟨h1, _, _, .inl rfl, hb, World.ownsRow_nil _ _ _ _, rfl⟩
theorem BldX.row {B b : Nat} {r : Option Nat} {bs : List Value} {w : World} (h : BldX B b r bs w) : ∀ k, r = some k → B ≤ k ∧ k < w.heap.size := fun k hk => by
 obtain ⟨-, p, v, -, -, ho, hr⟩ := h
 exact ho.lt k (hr.trans hk)
theorem BldX.keep {B b : Nat} {r : Option Nat} {bs : List Value} {w w' : World} (h : BldX B b r bs w) (hb : Below w.heap.size w w') : BldX B b r bs w' := by
 obtain ⟨h1, p, v, hp, hk, hown, hr⟩ := h
 refine ⟨h1, p, v, hp, (hb.block _ (Array.getElem?_eq_some_iff.1 hk).1).trans hk, ⟨hown.1, ?_⟩, hr⟩
 rcases hown.2 with h0 | ⟨g, cap, cur, r1, r2, r3, r4⟩
 ·exact .inl h0
 ·exact .inr ⟨g, cap, cur, r1, r2, (hb.block _ (Array.getElem?_eq_some_iff.1 r3).1).trans r3, r4⟩
structure ButX (b : Nat) (r : Option Nat) (w w' : World) : Prop where
 os : w'.os = w.os
 tape : w'.tape = w.tape
 output : w'.output = w.output
 size : w.heap.size ≤ w'.heap.size
 block : ∀ k, k < w.heap.size → k ≠ b → r ≠ some k → w'.heap[k]? = w.heap[k]?
theorem ButX.refl (b : Nat) (r : Option Nat) (w : World) : ButX b r w w := ⟨rfl, rfl, rfl, Nat.le_refl _, fun _ _ _ _ => rfl⟩
theorem ButX.of_below {b : Nat} {r : Option Nat} {w w' : World} (h : Below w.heap.size w w') : ButX b r w w' := ⟨h.os, h.tape, h.output, h.size, fun k hk _ _ => h.block k hk⟩
theorem ButX.trans {b : Nat} {r r' : Option Nat} {w1 w2 w3 : World} (h : ButX b r w1 w2) (k : ButX b r' w2 w3) (hr : r' = r ∨ ∀ k, r' = some k → w1.heap.size ≤ k) : ButX b r w1 w3 :=
 ⟨k.os.trans h.os, k.tape.trans h.tape, k.output.trans h.output, Nat.le_trans h.size k.size, fun i hi hb hri => (k.block i (Nat.lt_of_lt_of_le hi h.size) hb (fun e => by
  rcases hr with e2 | e2
  ·exact hri (e2 ▸ e)
  ·have := e2 i e
   omega)).trans (h.block i hi hb hri)⟩
theorem ButX.below {A b : Nat} {r : Option Nat} {w w' : World} (h : ButX b r w w') (hA : A ≤ w.heap.size) (hb : A ≤ b) (hr : ∀ k, r = some k → A ≤ k) : Below A w w' :=
 ⟨h.os, h.tape, h.output, h.size, fun k hk => h.block k (by omega) (by omega) (fun e => by have := hr k e; omega)⟩
def BldS (B b : Nat) (rz : Option Nat) (wz : World) (bs : List Value) (w : World) : Prop :=
 ∃ r, BldX B b r bs w ∧ (r = rz ∨ ∀ k, r = some k → wz.heap.size ≤ k) ∧ ButX b rz wz w
theorem BldS.start {B b : Nat} {r : Option Nat} {bs : List Value} {w : World} (h : BldX B b r bs w) : BldS B b r w bs w := ⟨r, h, .inl rfl, ButX.refl _ _ _⟩
theorem BldS.below {B b : Nat} {rz : Option Nat} {wz : World} {bs : List Value} {w w' : World} (h : BldS B b rz wz bs w) (hb : Below w.heap.size w w') : BldS B b rz wz bs w' := by
 obtain ⟨r, h1, h2, h3⟩ := h
 exact ⟨r, h1.keep hb, h2, h3.trans (r' := none) (ButX.of_below hb) (.inr fun k e => by cases e)⟩
theorem run_append_str_x (w : World) (B : Nat) (ty : TypeId) (i : TypeInfo) (hi : Tryz.prog.info? 5 = some i) (hz : i.zero = some (.int .u8 0)) (hsize : i.size = 1) (hby : i.bytes = 1) (v : Value) (n : Nat) (xs : List Value) (hown : w.ownsRow B 5 1 v n xs) (s : ByteArray)
  (h1 : n + s.size ≤ 140737488355328) (hB : B ≤ w.heap.size) :
  ∃ v' w', (Builtin.append_ #[73, 9] ty #[v, .string s]).run Tryz.prog w = .ok v' w' ∧ w'.ownsRow B 5 1 v' (n + s.size) (xs ++ Lib.strCells s) ∧ w.grownBy w' v.ownBlock ∧ (v'.ownBlock = v.ownBlock ∨ v'.ownBlock = some w.heap.size) := by
 have h63 : n + s.size ≤ maxLen := by unfold maxLen; omega
 obtain ⟨v', w', hr, h2, h3, h4⟩ := Lib.run_append_own_string (P := Tryz.prog) w B 73 9 ty 5 i Tryz.underlying73 Tryz.underlying9 hi hz hsize hby v n xs hown s h63 h1 hB
 refine ⟨v', w', hr, h2, h3, ?_⟩
 have hxl : xs.length = n := by simpa using hown.1
 have hm : n + s.size ≤ 9223372036854775807 := by omega
 rcases hown.2 with ⟨rfl, rfl⟩ | ⟨g, cap, cur, rfl, hbg, hg, hnc, hcm, hcs, htake⟩
 ·by_cases h0 : s.size = 0
  ·rw [h4.2 ⟨rfl, h0⟩]
   exact .inl rfl
  ·have hx := Go.run_append_nil_string (P := Tryz.prog) w 73 9 ty 5 i (.int .u8 0) Tryz.underlying73 Tryz.underlying9 hi hz s (by omega) (by omega) (by rw [hby]; omega)
   rw [hr] at hx
   cases hx
   exact .inr rfl
 ·by_cases hroom : n + s.size ≤ cap
  ·have hx := Lib.run_append_room_string (P := Tryz.prog) w 73 9 ty 5 i Tryz.underlying73 Tryz.underlying9 hi hsize g n cap cur hg s hroom (by omega)
   rw [hr] at hx
   cases hx
   exact .inl rfl
  ·have hcl : ∀ j u, xs[j]? = some u → w.cell? ((⟨g, 0, none⟩ : Addr).add j) = some u := hown.cells (g := g) rfl
   have hx := Lib.run_append_grow_string (P := Tryz.prog) w 73 9 ty 5 i (.int .u8 0) Tryz.underlying73 Tryz.underlying9 hi hz ⟨g, 0, none⟩ n cap xs (by rw [hsize]; simpa using hxl) hcl s (by omega) (by omega) (by rw [hby]; exact growslice_fits (by omega) (by omega))
   rw [hr] at hx
   cases hx
   exact .inr rfl
theorem wpList_append_str_x {ops : Array Oper} {rest : List Oper} {o : Oper} {a : Act} {Q : Exit → Act → World → Prop} (w : World) (hgd : o.guard = none) (sl x : Operand)
  (ho : o.op = .call { callee := .builtin .append, args := #[sl, x], argTypes := #[73, 9] }) (B : Nat) (i : TypeInfo) (hi : Tryz.prog.info? 5 = some i) (hz : i.zero = some (.int .u8 0)) (hsize : i.size = 1) (hby : i.bytes = 1)
  (v : Value) (n : Nat) (xs : List Value) (hs : a.eval sl = v) (hown : w.ownsRow B 5 1 v n xs) (s : ByteArray) (hx : a.eval x = .string s) (h1 : n + s.size ≤ 140737488355328) (hB : B ≤ w.heap.size)
  (h : ∀ v' w', w'.ownsRow B 5 1 v' (n + s.size) (xs ++ Lib.strCells s) → w.grownBy w' v.ownBlock → (v'.ownBlock = v.ownBlock ∨ v'.ownBlock = some w.heap.size) → wpList Tryz.prog ops Q rest (a.put o.dst v') w') : wpList Tryz.prog ops Q (o :: rest) a w := by
 refine wpList_plain hgd fun K hK => ?_
 obtain ⟨v', w', hr, h2, h3, h4⟩ := run_append_str_x w B o.type i hi hz hsize hby v n xs hown s h1 hB
 unfold Oper.wp execOp
 simp only [ho, resolve, invoke, builtin, Sem.run_bind, Sem.run_pure, Result.andThen_ok, List.map_toArray, List.map_cons, List.map_nil, hs, hx, hr]
 exact hK _ _ (h v' w' h2 h3 h4)
theorem copyCheck_x (B b : Nat) (r : Option Nat) (bs : List Value) (w : World) (h : BldX B b r bs w) :
  Calls Tryz.prog 76 #[.pointer (some ⟨b, 0, none⟩)] w fun e w' => e = .returned (.tuple #[]) ∧ (∃ v, w'.heap[b]? = some (.cells #[.pointer (some ⟨b, 0, none⟩), v] 75 (0, 0)) ∧ w'.ownsRow B 5 1 v bs.length bs ∧ v.ownBlock = r) ∧ But b w w' := by
 obtain ⟨h1, p, v, hp, hb, hown, hr⟩ := h
 have c0 : w.cell? ⟨b, 0, none⟩ = some p := by rw [Lib.cell_of_heap hb]; rfl
 rcases hp with rfl | rfl
 ·refine (copyCheck_fresh b w c0 (by simp [World.shape?, hb]) (Lib.frozen_of_heap hb 0)).mono ?_
  rintro e w' ⟨rfl, rfl⟩
  exact ⟨rfl, ⟨v, by simp [World.setCell, Array.getElem?_modify, hb], own_set hown h1, hr⟩, ⟨rfl, rfl, rfl, by simp [World.setCell], fun k _ hk => Below.heap_setCell _ _ _ _ hk⟩⟩
 ·refine (copyCheck_used b w c0).mono ?_
  rintro e w' ⟨rfl, rfl⟩
  exact ⟨rfl, ⟨v, hb, hown, hr⟩, But.refl _ _⟩
set_option maxHeartbeats 1000000 in
set_option maxRecDepth 100000 in
theorem writeString_x (B b : Nat) (r : Option Nat) (bs : List Value) (s : ByteArray) (w : World) (h : BldX B b r bs w) (hlen : bs.length + s.size ≤ 140737488355328) (hBw : B ≤ w.heap.size) :
  Calls Tryz.prog 27 #[.pointer (some ⟨b, 0, none⟩), .string s] w fun e w' => e = .returned (.tuple #[.int .i64 s.size, .nilIface]) ∧ (∃ r', BldX B b r' (bs ++ Lib.strCells s) w' ∧ (r' = r ∨ ∀ k, r' = some k → w.heap.size ≤ k)) ∧ ButX b r w w' := by
 obtain ⟨i0, hi, hz0, hz1, hz2⟩ := info_parts byteInfo
 have hbB := h.1
 go_enter Tryz.func27, Tryz.ntmps27
 go_wp2_with fail
 refine (copyCheck_x B b r bs _ h).mono ?_
 rintro e w1 ⟨rfl, ⟨v, hbk, hown, hvr⟩, hbt⟩
 have hb1 := hbt
 have c0 : w1.cell? ⟨b, 0, none⟩ = some (.pointer (some ⟨b, 0, none⟩)) := by rw [Lib.cell_of_heap hbk]; rfl
 have c1 : w1.cell? ⟨b, 1, none⟩ = some v := by rw [Lib.cell_of_heap hbk]; rfl
 have c3 := hb1.size
 go_wp2_with (at_builtin; refine wpList_append_str_x _ rfl _ _ rfl B i0 hi hz0 hz1 hz2 _ _ _ rfl hown s rfl (by omega) (by omega) ?_)
 intro v' w2 hown' hgrow hnew
 have hlt : b < w1.heap.size := (Array.getElem?_eq_some_iff.1 hbk).1
 have hno : some b ≠ v.ownBlock := fun e => by
  have := (hown.lt b e.symm).1
  omega
 have hb2 : w2.heap[b]? = some (.cells #[.pointer (some ⟨b, 0, none⟩), v] 75 (0, 0)) := by
  rw [hgrow.block b hlt (by rw [hvr] at hno; exact hno)]
  exact hbk
 have d0 : w2.cell? ⟨b, 0, none⟩ = some (.pointer (some ⟨b, 0, none⟩)) := by rw [Lib.cell_of_heap hb2]; rfl
 have d1 : w2.cell? ⟨b, 1, none⟩ = some v := by rw [Lib.cell_of_heap hb2]; rfl
 have f1 : w2.frozen? ⟨b, 1, none⟩ = false := Lib.frozen_of_heap hb2 1
 obtain ⟨ao, n', cap, rfl⟩ : ∃ ao n' cap, v' = .slice ao n' cap := by
  rcases hown'.2 with ⟨hv, _⟩ | ⟨g, cap, cur, hv, _⟩
  ·exact ⟨_, _, _, hv⟩
  ·exact ⟨_, _, _, hv⟩
 have HNEW := Lib.hid hnew
 clear hnew
 go_wp2
 go_ret2
 refine ⟨rfl, ⟨_, ⟨hbB, .pointer (some ⟨b, 0, none⟩), .slice ao n' cap, .inr rfl, ?_, own_set ?_ hbB, rfl⟩, ?_⟩, ⟨hgrow.os.trans hbt.os, hgrow.tape.trans hbt.tape, hgrow.output.trans hbt.output, Nat.le_trans hbt.size (Nat.le_trans hgrow.size (by simp [World.setCell])), fun k hk hkb hkr => ?_⟩⟩
 ·simp [World.setCell, Array.getElem?_modify, hb2]
 ·simpa [Lib.strCells_length] using hown'
 ·rcases HNEW.out with e | e
  ·exact .inl (by first | exact e | exact e.trans hvr)
  ·exact .inr fun k hk => by
    rw [e] at hk
    cases hk
    exact hbt.size
 ·exact (Below.heap_setCell _ _ _ _ hkb).trans ((hgrow.block k (Nat.lt_of_lt_of_le hk hbt.size) (fun e => hkr e.symm)).trans (hbt.block k hk hkb))
end Go.Proofs.YteaalifehokgoaaGreatDoor
namespace Go.Proofs
open Go.Shelf
def Tryz.keys71_ren : Go.Shelf.Ren := ⟨fun | 7 => 71 | 10 => 117 | n => n, fun | 23 => 102 | 26 => 9 | 3 => 37 | 28 => 97 | 0 => 0 | 27 => 96 | 33 => 100 | 4 => 4 | n => n, fun | n => n⟩
theorem Tryz.keys71 : Go.Proofs.SlLaysZ.n7 Tryz.prog Tryz.keys71_ren := {
 mixed := by kernel_rfl
 f7 := ⟨Tryz.f71.name, by decide, Tryz.func71.trans (congrArg some (by kernel_rfl))⟩
 f10 := ⟨Tryz.f117.name, by decide, Tryz.func117.trans (congrArg some (by kernel_rfl))⟩
 t0 := Tryz.underlying0
 a0 := Tryz.isAgg0
 z0 := Tryz.sizeOf0
 v0 := Tryz.zeroValue0
 t4 := Tryz.underlying4
 a4 := Tryz.isAgg4
 z4 := Tryz.sizeOf4
 v4 := Tryz.zeroValue4
 t23 := Tryz.underlying102
 a23 := Tryz.isAgg102
 z23 := Tryz.sizeOf102
 v23 := Tryz.zeroValue102
 t26 := Tryz.underlying9
 a26 := Tryz.isAgg9
 z26 := Tryz.sizeOf9
 v26 := Tryz.zeroValue9
 t27 := Tryz.underlying96
 a27 := Tryz.isAgg96
 z27 := Tryz.sizeOf96
 v27 := Tryz.zeroValue96
 t28 := Tryz.underlying97
 a28 := Tryz.isAgg97
 z28 := Tryz.sizeOf97
 v28 := Tryz.zeroValue97
 t33 := Tryz.underlying100
 a33 := Tryz.isAgg100
 z33 := Tryz.sizeOf100
 v33 := Tryz.zeroValue100 }
def Tryz.sorted70_ren : Go.Shelf.Ren := ⟨fun | 6 => 70 | 8 => 115 | 9 => 116 | 11 => 156 | 13 => 133 | 12 => 157 | 23 => 170 | 24 => 171 | 14 => 181 | 15 => 182 | 16 => 183 | 17 => 184 | 18 => 185 | 19 => 186 | 20 => 187 | 21 => 188 | 22 => 189 | 25 => 220 | 26 => 203 | 27 => 204 | 28 => 221 | 29 => 222 | 30 => 223 | 31 => 240 | n => n, fun | 26 => 9 | 28 => 97 | 24 => 125 | 0 => 0 | 3 => 3 | 37 => 202 | 48 => 249 | 50 => 251 | 4 => 4 | 40 => 243 | 39 => 242 | 45 => 162 | 5 => 5 | 9 => 9 | 51 => 272 | 55 => 276 | 57 => 296 | 58 => 44 | 33 => 100 | n => n, fun | n => n⟩
theorem Tryz.sorted70 : Go.Proofs.SlLaysZ.n6 Tryz.prog Tryz.sorted70_ren := {
 mixed := by kernel_rfl
 f6 := ⟨Tryz.f70.name, by decide, Tryz.func70.trans (congrArg some (by kernel_rfl))⟩
 f8 := ⟨Tryz.f115.name, by decide, Tryz.func115.trans (congrArg some (by kernel_rfl))⟩
 f11 := ⟨Tryz.f156.name, by decide, Tryz.func156.trans (congrArg some (by kernel_rfl))⟩
 t0 := Tryz.underlying0
 a0 := Tryz.isAgg0
 z0 := Tryz.sizeOf0
 v0 := Tryz.zeroValue0
 t24 := Tryz.underlying125
 a24 := Tryz.isAgg125
 z24 := Tryz.sizeOf125
 v24 := Tryz.zeroValue125
 t26 := Tryz.underlying9
 a26 := Tryz.isAgg9
 z26 := Tryz.sizeOf9
 v26 := Tryz.zeroValue9
 t28 := Tryz.underlying97
 a28 := Tryz.isAgg97
 z28 := Tryz.sizeOf97
 v28 := Tryz.zeroValue97
 i26 := by kernel_rfl }
def Tryz.sort116_ren : Go.Shelf.Ren := ⟨fun | 6 => 116 | 8 => 133 | 9 => 157 | 19 => 170 | 20 => 171 | 21 => 181 | 22 => 182 | 23 => 183 | 24 => 184 | 25 => 185 | 26 => 186 | 27 => 187 | 28 => 188 | 29 => 189 | 36 => 220 | 31 => 203 | 32 => 204 | 37 => 221 | 38 => 222 | 39 => 223 | 41 => 240 | n => n, fun | 27 => 125 | 29 => 9 | 3 => 3 | 32 => 202 | 26 => 125 | 0 => 0 | 44 => 249 | 46 => 251 | 4 => 4 | 36 => 243 | 35 => 242 | 41 => 162 | 5 => 5 | 9 => 9 | 53 => 272 | 57 => 276 | 63 => 296 | 64 => 44 | n => n, fun | n => n⟩
theorem Tryz.sort116 : Go.Proofs.SlLaysM.n6 Tryz.prog Tryz.sort116_ren := {
 mixed := by kernel_rfl
 f6 := ⟨Tryz.f116.name, by decide, Tryz.func116.trans (congrArg some (by kernel_rfl))⟩
 f8 := Tryz.func133.trans (congrArg some (by kernel_rfl))
 f9 := ⟨Tryz.f157.name, by decide, Tryz.func157.trans (congrArg some (by kernel_rfl))⟩
 f19 := Tryz.func170.trans (congrArg some (by kernel_rfl))
 f20 := Tryz.func171.trans (congrArg some (by kernel_rfl))
 f21 := ⟨Tryz.f181.name, by decide, Tryz.func181.trans (congrArg some (by kernel_rfl))⟩
 f22 := ⟨Tryz.f182.name, by decide, Tryz.func182.trans (congrArg some (by kernel_rfl))⟩
 f23 := ⟨Tryz.f183.name, by decide, Tryz.func183.trans (congrArg some (by kernel_rfl))⟩
 f24 := ⟨Tryz.f184.name, by decide, Tryz.func184.trans (congrArg some (by kernel_rfl))⟩
 f25 := ⟨Tryz.f185.name, by decide, Tryz.func185.trans (congrArg some (by kernel_rfl))⟩
 f26 := ⟨Tryz.f186.name, by decide, Tryz.func186.trans (congrArg some (by kernel_rfl))⟩
 f27 := ⟨Tryz.f187.name, by decide, Tryz.func187.trans (congrArg some (by kernel_rfl))⟩
 f28 := ⟨Tryz.f188.name, by decide, Tryz.func188.trans (congrArg some (by kernel_rfl))⟩
 f29 := ⟨Tryz.f189.name, by decide, Tryz.func189.trans (congrArg some (by kernel_rfl))⟩
 f31 := Tryz.func203.trans (congrArg some (by kernel_rfl))
 f32 := Tryz.func204.trans (congrArg some (by kernel_rfl))
 f36 := ⟨Tryz.f220.name, by decide, Tryz.func220.trans (congrArg some (by kernel_rfl))⟩
 f37 := ⟨Tryz.f221.name, by decide, Tryz.func221.trans (congrArg some (by kernel_rfl))⟩
 f38 := ⟨Tryz.f222.name, by decide, Tryz.func222.trans (congrArg some (by kernel_rfl))⟩
 f39 := ⟨Tryz.f223.name, by decide, Tryz.func223.trans (congrArg some (by kernel_rfl))⟩
 f41 := ⟨Tryz.f240.name, by decide, Tryz.func240.trans (congrArg some (by kernel_rfl))⟩
 t0 := Tryz.underlying0
 a0 := Tryz.isAgg0
 z0 := Tryz.sizeOf0
 v0 := Tryz.zeroValue0
 t3 := Tryz.underlying3
 a3 := Tryz.isAgg3
 z3 := Tryz.sizeOf3
 v3 := Tryz.zeroValue3
 t4 := Tryz.underlying4
 a4 := Tryz.isAgg4
 z4 := Tryz.sizeOf4
 v4 := Tryz.zeroValue4
 t5 := Tryz.underlying5
 a5 := Tryz.isAgg5
 z5 := Tryz.sizeOf5
 v5 := Tryz.zeroValue5
 t9 := Tryz.underlying9
 a9 := Tryz.isAgg9
 z9 := Tryz.sizeOf9
 v9 := Tryz.zeroValue9
 t26 := Tryz.underlying125
 a26 := Tryz.isAgg125
 z26 := Tryz.sizeOf125
 v26 := Tryz.zeroValue125
 t27 := Tryz.underlying125
 a27 := Tryz.isAgg125
 z27 := Tryz.sizeOf125
 v27 := Tryz.zeroValue125
 t29 := Tryz.underlying9
 a29 := Tryz.isAgg9
 z29 := Tryz.sizeOf9
 v29 := Tryz.zeroValue9
 t32 := Tryz.underlying202
 a32 := Tryz.isAgg202
 z32 := Tryz.sizeOf202
 v32 := Tryz.zeroValue202
 t35 := Tryz.underlying242
 a35 := Tryz.isAgg242
 z35 := Tryz.sizeOf242
 v35 := Tryz.zeroValue242
 t36 := Tryz.underlying243
 a36 := Tryz.isAgg243
 z36 := Tryz.sizeOf243
 v36 := Tryz.zeroValue243
 t41 := Tryz.underlying162
 a41 := Tryz.isAgg162
 z41 := Tryz.sizeOf162
 v41 := Tryz.zeroValue162
 t44 := Tryz.underlying249
 a44 := Tryz.isAgg249
 z44 := Tryz.sizeOf249
 v44 := Tryz.zeroValue249
 t46 := Tryz.underlying251
 a46 := Tryz.isAgg251
 z46 := Tryz.sizeOf251
 v46 := Tryz.zeroValue251
 t53 := Tryz.underlying272
 a53 := Tryz.isAgg272
 z53 := Tryz.sizeOf272
 v53 := Tryz.zeroValue272
 t57 := Tryz.underlying276
 a57 := Tryz.isAgg276
 z57 := Tryz.sizeOf276
 v57 := Tryz.zeroValue276
 t63 := Tryz.underlying296
 a63 := Tryz.isAgg296
 z63 := Tryz.sizeOf296
 v63 := Tryz.zeroValue296
 t64 := Tryz.underlying44
 a64 := Tryz.isAgg44
 z64 := Tryz.sizeOf44
 v64 := Tryz.zeroValue44 }
def Tryz.keys78_ren : Go.Shelf.Ren := ⟨fun | 7 => 78 | 10 => 128 | n => n, fun | 23 => 103 | 26 => 9 | 3 => 39 | 28 => 97 | 0 => 0 | 27 => 96 | 33 => 100 | 4 => 4 | n => n, fun | n => n⟩
theorem Tryz.keys78 : Go.Proofs.SlLaysZ.n7 Tryz.prog Tryz.keys78_ren := {
 mixed := by kernel_rfl
 f7 := ⟨Tryz.f78.name, by decide, Tryz.func78.trans (congrArg some (by kernel_rfl))⟩
 f10 := ⟨Tryz.f128.name, by decide, Tryz.func128.trans (congrArg some (by kernel_rfl))⟩
 t0 := Tryz.underlying0
 a0 := Tryz.isAgg0
 z0 := Tryz.sizeOf0
 v0 := Tryz.zeroValue0
 t4 := Tryz.underlying4
 a4 := Tryz.isAgg4
 z4 := Tryz.sizeOf4
 v4 := Tryz.zeroValue4
 t23 := Tryz.underlying103
 a23 := Tryz.isAgg103
 z23 := Tryz.sizeOf103
 v23 := Tryz.zeroValue103
 t26 := Tryz.underlying9
 a26 := Tryz.isAgg9
 z26 := Tryz.sizeOf9
 v26 := Tryz.zeroValue9
 t27 := Tryz.underlying96
 a27 := Tryz.isAgg96
 z27 := Tryz.sizeOf96
 v27 := Tryz.zeroValue96
 t28 := Tryz.underlying97
 a28 := Tryz.isAgg97
 z28 := Tryz.sizeOf97
 v28 := Tryz.zeroValue97
 t33 := Tryz.underlying100
 a33 := Tryz.isAgg100
 z33 := Tryz.sizeOf100
 v33 := Tryz.zeroValue100 }
set_option maxHeartbeats 1000000 in
open Go.RowKit Go.Maps Go.Sort in
theorem Tryz.sorts70 (m : Nat) : AnyZ.SortsIn Tryz.prog Tryz.sorted70_ren Fence.wide m :=
  ⟨fun blk off cap ss W hH hblk hsz => callsIn_wide.2 (AnyM.slices_Sort_string Tryz.sort116 blk off cap ss W hH hblk hsz),
   fun p cap W => callsIn_wide.2 (AnyM.slices_Sort_string_none Tryz.sort116 p cap W)⟩
set_option maxHeartbeats 1000000 in
open Go.RowKit Go.Maps Go.Sort in
theorem Tryz.maps_Keys_71 (mb : Option Nat) (W : World) : CallsIn Fence.wide 5 Tryz.prog 71 #[.map mb] W fun e w' => e = .returned (.func (.func 117) #[] #[.pointer (some ⟨W.heap.size, 0, none⟩)]) ∧ w' = W.alloc (.cells #[.map mb] 102) :=
 AnyZ.keys_in Tryz.keys71 Fence.wide 5 trivial rfl mb W
set_option maxHeartbeats 1000000 in
open Go.RowKit Go.Maps Go.Sort in
theorem Tryz.slices_Sorted_keys_70_71 {H : Type} (b nn : Nat) (D0 : DataW H) (R : Value → Option (DataW H × List MemPlace)) (w : World) (hown : w.ownsMap Tryz.prog 9 R b nn D0) (hmax : Maps.size D0 ≤ maxLen) (hbytes : Maps.size D0 * 16 ≤ 140737488355328) :
  CallsIn Fence.wide 5 Tryz.prog 70 #[.func (.func 117) #[] #[.pointer (some ⟨w.heap.size, 0, none⟩)]] (w.alloc (.cells #[.map (some b)] 102)) fun e w' => ∃ (v : Value) (ss : List (List UInt8)), e = .returned v ∧ ss.Perm (strKeys D0) ∧
   w'.ownsRow (w.alloc (.cells #[.map (some b)] 102)).heap.size 9 1 v ss.length ((ss.mergeSort (fun x y => decide (x ≤ y))).map encStr) ∧ (v = .slice none 0 0 ↔ ss = []) ∧ Below (w.alloc (.cells #[.map (some b)] 102)).heap.size (w.alloc (.cells #[.map (some b)] 102)) w' := by
 have hbl := hown.lt
 have hseq : SeqGives Fence.wide 2 Tryz.prog 117 #[.pointer (some ⟨w.heap.size, 0, none⟩)] encStr (fun ss => ss.Perm (strKeys D0)) (Maps.size D0) (w.alloc (.cells #[.map (some b)] 102)) :=
  AnyZ.keys_gives (ρ := Tryz.keys71_ren) { Tryz.keys71 with } Fence.wide _ trivial rfl (by omega) w.heap.size b nn D0 _ (by simp) (by simp) (by
   obtain ⟨es, clock, hb, Ft, hs, hD⟩ := hown
   exact ⟨es, clock, (Below.heap_alloc _ _ b hbl).trans hb, Ft, hs, hD⟩)
 exact AnyZ.sorted_in Tryz.sorted70 Fence.wide 5 trivial trivial trivial trivial rfl (by omega) (Tryz.sorts70 _) (enters_of Tryz.func116 (by kernel_rfl) rfl) 117 #[.pointer (some ⟨w.heap.size, 0, none⟩)] trivial (enters_of Tryz.func117 (by kernel_rfl) rfl) _ _ hmax hbytes _ hseq
set_option maxHeartbeats 1000000 in
open Go.RowKit Go.Maps Go.Sort in
theorem Tryz.maps_Keys_78 (mb : Option Nat) (W : World) : CallsIn Fence.wide 5 Tryz.prog 78 #[.map mb] W fun e w' => e = .returned (.func (.func 128) #[] #[.pointer (some ⟨W.heap.size, 0, none⟩)]) ∧ w' = W.alloc (.cells #[.map mb] 103) :=
 AnyZ.keys_in Tryz.keys78 Fence.wide 5 trivial rfl mb W
set_option maxHeartbeats 1000000 in
open Go.RowKit Go.Maps Go.Sort in
theorem Tryz.slices_Sorted_keys_70_78 {H : Type} (b nn : Nat) (D0 : DataW H) (R : Value → Option (DataW H × List MemPlace)) (w : World) (hown : w.ownsMap Tryz.prog 9 R b nn D0) (hmax : Maps.size D0 ≤ maxLen) (hbytes : Maps.size D0 * 16 ≤ 140737488355328) :
  CallsIn Fence.wide 5 Tryz.prog 70 #[.func (.func 128) #[] #[.pointer (some ⟨w.heap.size, 0, none⟩)]] (w.alloc (.cells #[.map (some b)] 103)) fun e w' => ∃ (v : Value) (ss : List (List UInt8)), e = .returned v ∧ ss.Perm (strKeys D0) ∧
   w'.ownsRow (w.alloc (.cells #[.map (some b)] 103)).heap.size 9 1 v ss.length ((ss.mergeSort (fun x y => decide (x ≤ y))).map encStr) ∧ (v = .slice none 0 0 ↔ ss = []) ∧ Below (w.alloc (.cells #[.map (some b)] 103)).heap.size (w.alloc (.cells #[.map (some b)] 103)) w' := by
 have hbl := hown.lt
 have hseq : SeqGives Fence.wide 2 Tryz.prog 128 #[.pointer (some ⟨w.heap.size, 0, none⟩)] encStr (fun ss => ss.Perm (strKeys D0)) (Maps.size D0) (w.alloc (.cells #[.map (some b)] 103)) :=
  AnyZ.keys_gives (ρ := Tryz.keys78_ren) { Tryz.keys78 with } Fence.wide _ trivial rfl (by omega) w.heap.size b nn D0 _ (by simp) (by simp) (by
   obtain ⟨es, clock, hb, Ft, hs, hD⟩ := hown
   exact ⟨es, clock, (Below.heap_alloc _ _ b hbl).trans hb, Ft, hs, hD⟩)
 exact AnyZ.sorted_in Tryz.sorted70 Fence.wide 5 trivial trivial trivial trivial rfl (by omega) (Tryz.sorts70 _) (enters_of Tryz.func116 (by kernel_rfl) rfl) 128 #[.pointer (some ⟨w.heap.size, 0, none⟩)] trivial (enters_of Tryz.func128 (by kernel_rfl) rfl) _ _ hmax hbytes _ hseq
end Go.Proofs
