/- strings.Builder: copyCheck, WriteString (lines of the shelf's own proofs, turned to this dump). Contracts of the library at this translation: laid by the kit's shelf (lay-shelf, lay-plain), those alone that the claim uses. Stock: Text. Plain facts: the document's reading of a numeral, held against strconv's. No program in sight. -/
import Derived.Shelf.Strings.Builder1
import Derived.Maps.AppendAt
import Derived.Deep.Onto
import Derived.Test.YtchiojiicehpeaaGreatDoorProg
import Derived.Test.YtchiojiicehpeaaGreatDoorM01
import Derived.Test.YtchiojiicehpeaaGreatDoorM03
import Derived.Test.YtchiojiicehpeaaGreatDoorM04
import Derived.Test.YtchiojiicehpeaaGreatDoorM08
namespace Go.Proofs.YtchiojiicehpeaaGreatDoor
open Go.RowKit
set_option maxHeartbeats 1000000 in
set_option maxRecDepth 100000 in
theorem copyCheck_used (b : Nat) (w : World) (h0 : w.cell? ⟨b, 0, none⟩ = some (.pointer (some ⟨b, 0, none⟩))) :
  Calls Tryz.prog 144 #[.pointer (some ⟨b, 0, none⟩)] w fun e w' => e = .returned (.tuple #[]) ∧ w' = w := by
 obtain ⟨j, hj, _⟩ := Option.map_eq_some_iff.1 (show (Tryz.prog.info? 165).map (·.size) = some 2 by kernel_rfl)
 go_enter Tryz.func144, Tryz.ntmps144
 go_wp2
 rw [Lib.run_neq_ptr_same w _ Tryz.underlying162 hj]
 go_wp2
 go_end0
 exact ⟨rfl, rfl⟩
set_option maxHeartbeats 1000000 in
set_option maxRecDepth 100000 in
theorem copyCheck_fresh (b : Nat) (w : World) (h0 : w.cell? ⟨b, 0, none⟩ = some (.pointer none)) (hsh : w.shape? b = some (165, 2)) (hfz : w.frozen? ⟨b, 0, none⟩ = false) :
  Calls Tryz.prog 144 #[.pointer (some ⟨b, 0, none⟩)] w fun e w' => e = .returned (.tuple #[]) ∧ w' = w.setCell ⟨b, 0, none⟩ (.pointer (some ⟨b, 0, none⟩)) := by
 obtain ⟨j, hj, hjs⟩ := Option.map_eq_some_iff.1 (show (Tryz.prog.info? 165).map (·.size) = some 2 by kernel_rfl)
 go_enter Tryz.func144, Tryz.ntmps144
 go_wp2
 rw [Lib.run_to_unsafe w ⟨b, 0, none⟩ Tryz.underlying162 Tryz.underlying233 hj (by rw [hjs]; decide) hsh (Nat.zero_lt_succ 1)]
 simp only [Result.andThen]
 rw [Oper.upon_value]
 go_wp2
 rw [run_callFunc_extern Tryz.func194 (by kernel_rfl) (by kernel_rfl) (by kernel_rfl) (e := Extern.AbiNoEscape.same) (by kernel_rfl)]
 rw [Lib.run_noEscape]
 simp only [Result.andThen]
 rw [Oper.upon_value]
 go_wp2
 rw [Lib.run_from_unsafe w ⟨b, 0, none⟩ Tryz.underlying233 Tryz.underlying162 hj hsh (by kernel_rfl)]
 simp only [Result.andThen]
 rw [Oper.upon_value]
 go_wp2
 go_end0
 exact ⟨rfl, rfl⟩
theorem copyCheck_any (B b : Nat) (bs : List Value) (w : World) (h : Lib.IsBuilder 165 5 B b bs w) :
  Calls Tryz.prog 144 #[.pointer (some ⟨b, 0, none⟩)] w fun e w' => e = .returned (.tuple #[]) ∧ (Lib.BuilderAt 165 5 B b (.pointer (some ⟨b, 0, none⟩)) bs w' ∧ Below B w w') := by
 rcases h with h | h
 ·refine (copyCheck_fresh b w h.cell0 h.shape h.frozen0).mono ?_
  rintro e w' ⟨rfl, rfl⟩
  exact ⟨rfl, h.used _, (Below.refl B w).setCell (p := ⟨b, 0, none⟩) h.1 _⟩
 ·refine (copyCheck_used b w h.cell0).mono ?_
  rintro e w' ⟨rfl, rfl⟩
  exact ⟨rfl, h, Below.refl B _⟩
theorem byteInfo : (Tryz.prog.info? 5).map (fun i => (i.zero, i.size, i.bytes)) = some (some (.int .u8 0), 1, 1) := by kernel_rfl
set_option maxHeartbeats 1000000 in
set_option maxRecDepth 100000 in
theorem writeString_any (B b : Nat) (bs : List Value) (s : ByteArray) (w : World) (h : Lib.IsBuilder 165 5 B b bs w) (hlen : bs.length + s.size ≤ 140737488355328) (hBw : B ≤ w.heap.size) :
  Calls Tryz.prog 89 #[.pointer (some ⟨b, 0, none⟩), .string s] w fun e w' => e = .returned (.tuple #[.int .i64 s.size, .nilIface]) ∧ (Lib.BuilderAt 165 5 B b (.pointer (some ⟨b, 0, none⟩)) (bs ++ Lib.strCells s) w' ∧ Below B w w') := by
 obtain ⟨i0, hi, hz0, hz1, hz2⟩ := info_parts byteInfo
 go_enter Tryz.func89, Tryz.ntmps89
 go_wp2_with fail
 refine (copyCheck_any B b bs _ h).mono ?_
 rintro e w1 ⟨rfl, h1, hb1⟩
 obtain ⟨hB, v, hbk, hown, hne⟩ := h1
 have c0 : w1.cell? ⟨b, 0, none⟩ = some (.pointer (some ⟨b, 0, none⟩)) := by rw [Lib.cell_of_heap hbk]; rfl
 have c1 : w1.cell? ⟨b, 1, none⟩ = some v := by rw [Lib.cell_of_heap hbk]; rfl
 go_wp2_with (at_builtin; refine Lib.wpList_append_own_string _ rfl _ _ 163 9 rfl B 5 i0 Tryz.underlying163 Tryz.underlying9 hi hz0 hz1 hz2 _ _ _ rfl hown s rfl ?c3 ?c4 ?c5 ?_)
 case c3 => unfold maxLen; omega
 case c4 => omega
 case c5 => have := hb1.size; omega
 intro v' w2 hown' hgrow _
 have hlt : b < w1.heap.size := by
  rcases Nat.lt_or_ge b w1.heap.size with h' | h'
  ·exact h'
  ·simp [Array.getElem?_eq_none h'] at hbk
 have hb2 : w2.heap[b]? = some (.cells #[.pointer (some ⟨b, 0, none⟩), v] 165 (0, 0)) := by
  rw [hgrow.block b hlt (fun e => hne e.symm)]
  exact hbk
 have d0 : w2.cell? ⟨b, 0, none⟩ = some (.pointer (some ⟨b, 0, none⟩)) := by rw [Lib.cell_of_heap hb2]; rfl
 have d1 : w2.cell? ⟨b, 1, none⟩ = some v := by rw [Lib.cell_of_heap hb2]; rfl
 have f1 : w2.frozen? ⟨b, 1, none⟩ = false := Lib.frozen_of_heap hb2 1
 obtain ⟨ao, n', cap, rfl⟩ : ∃ ao n' cap, v' = .slice ao n' cap := by
  rcases hown'.2 with ⟨hv, _⟩ | ⟨g, cap, cur, hv, _⟩
  ·exact ⟨_, _, _, hv⟩
  ·exact ⟨_, _, _, hv⟩
 go_wp2
 go_ret2
 refine ⟨rfl, ?_, ?_⟩
 ·exact Lib.BuilderAt.put (T := 165) (e := 5) hB hb2 (bs' := bs ++ Lib.strCells s) (by simpa [Lib.strCells_length] using hown') (by decide)
 ·exact (hb1.grown hgrow (by have := hb1.size; omega) (fun k hk => (hown.lt k hk).1)).setCell (p := ⟨b, 1, none⟩) hB _
/-! A builder whose row lies apart: ahead of B all but the builder itself stays. -/
structure ButB (B b : Nat) (w w' : World) : Prop where
 os : w'.os = w.os
 tape : w'.tape = w.tape
 output : w'.output = w.output
 size : w.heap.size ≤ w'.heap.size
 block : ∀ k, k < B → k ≠ b → w'.heap[k]? = w.heap[k]?
theorem ButB.refl (B b : Nat) (w : World) : ButB B b w w := ⟨rfl, rfl, rfl, Nat.le_refl _, fun _ _ _ => rfl⟩
theorem ButB.trans {B b : Nat} {w1 w2 w3 : World} (h : ButB B b w1 w2) (k : ButB B b w2 w3) : ButB B b w1 w3 :=
 ⟨k.os.trans h.os, k.tape.trans h.tape, k.output.trans h.output, Nat.le_trans h.size k.size, fun i hi hb => (k.block i hi hb).trans (h.block i hi hb)⟩
theorem ButB.of_below {B b : Nat} {w w' : World} (h : Below B w w') : ButB B b w w' := ⟨h.os, h.tape, h.output, h.size, fun k hk _ => h.block k hk⟩
theorem ButB.below {A B b : Nat} {w w' : World} (h : ButB B b w w') (hA : A ≤ b) (hB : A ≤ B) : Below A w w' := ⟨h.os, h.tape, h.output, h.size, fun k hk => h.block k (by omega) (by omega)⟩
def BldAt (B b : Nat) (bs : List Value) (w : World) : Prop :=
 b < B ∧ ∃ p v, (p = .pointer none ∨ p = .pointer (some ⟨b, 0, none⟩)) ∧ w.heap[b]? = some (.cells #[p, v] 165 (0, 0)) ∧ w.ownsRow B 5 1 v bs.length bs
theorem BldAt.is {B b : Nat} {bs : List Value} {w : World} (h : BldAt B b bs w) : Lib.IsBuilder 165 5 b b bs w := by
 obtain ⟨h1, p, v, hp, hb, hown⟩ := h
 have hne := Lib.ownBlock_ne hown hb (by decide)
 rcases hp with rfl | rfl
 ·exact .inl ⟨Nat.le_refl _, v, hb, hown.mono (Nat.le_of_lt h1), hne⟩
 ·exact .inr ⟨Nat.le_refl _, v, hb, hown.mono (Nat.le_of_lt h1), hne⟩
theorem BldAt.lt {B b : Nat} {bs : List Value} {w : World} (h : BldAt B b bs w) : b < w.heap.size := by
 obtain ⟨_, _, _, _, hb, _⟩ := h
 exact (Array.getElem?_eq_some_iff.1 hb).1
theorem BldAt.keep {B b : Nat} {bs : List Value} {w w' : World} (h : BldAt B b bs w) (hb : Below w.heap.size w w') : BldAt B b bs w' := by
 obtain ⟨h1, p, v, hp, hk, hown⟩ := h
 refine ⟨h1, p, v, hp, (hb.block _ (Array.getElem?_eq_some_iff.1 hk).1).trans hk, hown.1, ?_⟩
 rcases hown.2 with h0 | ⟨g, cap, cur, r1, r2, r3, r4⟩
 ·exact .inl h0
 ·exact .inr ⟨g, cap, cur, r1, r2, (hb.block g (Array.getElem?_eq_some_iff.1 r3).1).trans r3, r4⟩
theorem BldAt.fresh {B b : Nat} {w : World} (h1 : b < B) (hb : w.heap[b]? = some (.cells #[.pointer none, .slice none 0 0] 165 (0, 0))) : BldAt B b [] w :=
 ⟨h1, _, _, .inl rfl, hb, World.ownsRow_nil _ _ _ _⟩
theorem butB_set {B b j : Nat} {v : Value} (w : World) : ButB B b w (w.setCell ⟨b, j, none⟩ v) := ⟨rfl, rfl, rfl, by simp [World.setCell], fun k _ hk => Below.heap_setCell _ _ _ _ hk⟩
theorem own_set {B b j : Nat} {v u : Value} {n : Nat} {xs : List Value} {w : World} (hown : w.ownsRow B 5 1 u n xs) (h : b < B) : (w.setCell ⟨b, j, none⟩ v).ownsRow B 5 1 u n xs := by
 refine ⟨hown.1, ?_⟩
 rcases hown.2 with h0 | ⟨g, cap, cur, r1, r2, r3, r4⟩
 ·exact .inl h0
 ·exact .inr ⟨g, cap, cur, r1, r2, (Below.heap_setCell _ _ _ _ (by show g ≠ b; omega)).trans r3, r4⟩
theorem copyCheck_apart (B b : Nat) (bs : List Value) (w : World) (h : BldAt B b bs w) :
  Calls Tryz.prog 144 #[.pointer (some ⟨b, 0, none⟩)] w fun e w' => e = .returned (.tuple #[]) ∧ (∃ v, w'.heap[b]? = some (.cells #[.pointer (some ⟨b, 0, none⟩), v] 165 (0, 0)) ∧ w'.ownsRow B 5 1 v bs.length bs) ∧ ButB B b w w' := by
 obtain ⟨h1, p, v, hp, hb, hown⟩ := h
 have c0 : w.cell? ⟨b, 0, none⟩ = some p := by rw [Lib.cell_of_heap hb]; rfl
 rcases hp with rfl | rfl
 ·refine (copyCheck_fresh b w c0 (by simp [World.shape?, hb]) (Lib.frozen_of_heap hb 0)).mono ?_
  rintro e w' ⟨rfl, rfl⟩
  exact ⟨rfl, ⟨v, by simp [World.setCell, Array.getElem?_modify, hb], own_set hown h1⟩, butB_set w⟩
 ·refine (copyCheck_used b w c0).mono ?_
  rintro e w' ⟨rfl, rfl⟩
  exact ⟨rfl, ⟨v, hb, hown⟩, ButB.refl _ _ _⟩
set_option maxHeartbeats 1000000 in
set_option maxRecDepth 100000 in
theorem writeString_apart (B b : Nat) (bs : List Value) (s : ByteArray) (w : World) (h : BldAt B b bs w) (hlen : bs.length + s.size ≤ 140737488355328) (hBw : B ≤ w.heap.size) :
  Calls Tryz.prog 89 #[.pointer (some ⟨b, 0, none⟩), .string s] w fun e w' => e = .returned (.tuple #[.int .i64 s.size, .nilIface]) ∧ BldAt B b (bs ++ Lib.strCells s) w' ∧ ButB B b w w' := by
 obtain ⟨i0, hi, hz0, hz1, hz2⟩ := info_parts byteInfo
 have hbB := h.1
 go_enter Tryz.func89, Tryz.ntmps89
 go_wp2_with fail
 refine (copyCheck_apart B b bs _ h).mono ?_
 rintro e w1 ⟨rfl, ⟨v, hbk, hown⟩, hb1⟩
 have c0 : w1.cell? ⟨b, 0, none⟩ = some (.pointer (some ⟨b, 0, none⟩)) := by rw [Lib.cell_of_heap hbk]; rfl
 have c1 : w1.cell? ⟨b, 1, none⟩ = some v := by rw [Lib.cell_of_heap hbk]; rfl
 go_wp2_with (at_builtin; refine Lib.wpList_append_own_string _ rfl _ _ 163 9 rfl B 5 i0 Tryz.underlying163 Tryz.underlying9 hi hz0 hz1 hz2 _ _ _ rfl hown s rfl ?c3 ?c4 ?c5 ?_)
 case c3 => unfold maxLen; omega
 case c4 => omega
 case c5 => have := hb1.size; omega
 intro v' w2 hown' hgrow _
 have hlt : b < w1.heap.size := (Array.getElem?_eq_some_iff.1 hbk).1
 have hno : ∀ k, k < B → some k ≠ v.ownBlock := fun k hk e => by
  have := (hown.lt k e.symm).1
  omega
 have hb2 : w2.heap[b]? = some (.cells #[.pointer (some ⟨b, 0, none⟩), v] 165 (0, 0)) := by
  rw [hgrow.block b hlt (hno b hbB)]
  exact hbk
 have d0 : w2.cell? ⟨b, 0, none⟩ = some (.pointer (some ⟨b, 0, none⟩)) := by rw [Lib.cell_of_heap hb2]; rfl
 have d1 : w2.cell? ⟨b, 1, none⟩ = some v := by rw [Lib.cell_of_heap hb2]; rfl
 have f1 : w2.frozen? ⟨b, 1, none⟩ = false := Lib.frozen_of_heap hb2 1
 have hg2 : ButB B b w1 w2 := ⟨hgrow.os, hgrow.tape, hgrow.output, hgrow.size, fun k hk _ => hgrow.block k (by have := hb1.size; omega) (hno k hk)⟩
 obtain ⟨ao, n', cap, rfl⟩ : ∃ ao n' cap, v' = .slice ao n' cap := by
  rcases hown'.2 with ⟨hv, _⟩ | ⟨g, cap, cur, hv, _⟩
  ·exact ⟨_, _, _, hv⟩
  ·exact ⟨_, _, _, hv⟩
 go_wp2
 go_ret2
 refine ⟨rfl, ⟨hbB, .pointer (some ⟨b, 0, none⟩), .slice ao n' cap, .inr rfl, ?_, own_set ?_ hbB⟩, (hb1.trans hg2).trans (butB_set _)⟩
 ·simp [World.setCell, Array.getElem?_modify, hb2]
 ·simpa [Lib.strCells_length] using hown'
end Go.Proofs.YtchiojiicehpeaaGreatDoor
namespace Go.Proofs
open Go.Shelf
def Tryz.lays169_ren : Go.Shelf.Ren := ⟨fun | 169 => 95 | n => n, fun | 70 => 162 | 9 => 9 | 0 => 0 | 72 => 165 | 37 => 163 | 127 => 225 | 3 => 3 | 5 => 5 | n => n, fun | n => n⟩
theorem Tryz.lays169 : Go.Proofs.Lays.n169 Tryz.prog Tryz.lays169_ren := {
 mixed := by kernel_rfl
 f169 := Tryz.func95.trans (congrArg some (by kernel_rfl))
 t0 := Tryz.underlying0
 a0 := Tryz.isAgg0
 z0 := Tryz.sizeOf0
 v0 := Tryz.zeroValue0
 t3 := Tryz.underlying3
 a3 := Tryz.isAgg3
 z3 := Tryz.sizeOf3
 v3 := Tryz.zeroValue3
 t9 := Tryz.underlying9
 a9 := Tryz.isAgg9
 z9 := Tryz.sizeOf9
 v9 := Tryz.zeroValue9
 t37 := Tryz.underlying163
 a37 := Tryz.isAgg163
 z37 := Tryz.sizeOf163
 v37 := Tryz.zeroValue163
 t70 := Tryz.underlying162
 a70 := Tryz.isAgg162
 z70 := Tryz.sizeOf162
 v70 := Tryz.zeroValue162
 t72 := Tryz.underlying165
 a72 := Tryz.isAgg165
 z72 := Tryz.sizeOf165
 v72 := Tryz.zeroValue165
 t127 := Tryz.underlying225
 a127 := Tryz.isAgg225
 z127 := Tryz.sizeOf225
 v127 := Tryz.zeroValue225 }
theorem Tryz.Builder_Extra_169 : Builder.Extra Tryz.prog Tryz.lays169_ren := {
 sizeBuilder := by kernel_rfl
 liesBuilder := by kernel_rfl
 t5 := Tryz.underlying5
 a5 := Tryz.isAgg5
 z5 := Tryz.sizeOf5
 v5 := Tryz.zeroValue5
 infoByte := by kernel_rfl
 cellsByte := by kernel_rfl
 sizeByte := by kernel_rfl
 neB5 := by decide }
open Go.RowKit in
theorem Tryz.Builder_String (B b : Nat) (l : List UInt8) (w : World) (h : Lib.IsBuilder 165 5 B b (Lib.byteCells l) w) (h0 : l ≠ []) :
  Calls Tryz.prog 95 #[.pointer (some ⟨b, 0, none⟩)] w fun e w' => e = .returned (.string ⟨l.toArray⟩) ∧ Below B w w' := Any.Builder_String Tryz.lays169 Tryz.Builder_Extra_169 B b l w h h0
open Go.RowKit in
theorem Tryz.Builder_String_empty (B b : Nat) (w : World) (h : Lib.IsBuilder 165 5 B b [] w) (hBw : B ≤ w.heap.size) :
  Calls Tryz.prog 95 #[.pointer (some ⟨b, 0, none⟩)] w fun e w' => e = .returned (.string ⟨#[]⟩) ∧ Below B w w' := Any.Builder_String_empty Tryz.lays169 Tryz.Builder_Extra_169 B b w h hBw
end Go.Proofs
namespace Go.Proofs.YtchiojiicehpeaaGreatDoor
open Go.RowKit Go.Sort Go.Proofs
def linesText (l : List LineV) : List UInt8 := (l.map fun x => lineText x ++ [10]).flatten
theorem linesText_take (l : List LineV) (k : Nat) (h : k < l.length) : linesText (l.take (k + 1)) = linesText (l.take k) ++ (lineText l[k] ++ [10]) := by
 unfold linesText
 rw [List.take_succ_eq_append_getElem h, List.map_append, List.flatten_append]
 simp
def WellL (x : LineV) : Prop := placeE x.1 = 0 ∧ nameB x.2.1 = true ∧ 1 ≤ x.2.2 ∧ x.2.2 ≤ 1099511627776
theorem lineText_len {x : LineV} (h : WellL x) : (lineText x).length ≤ 100 := by
 unfold lineText
 have h1 := placeText_len x.1
 have h2 := (nameB_len h.2.1).2
 have h3 := Lib.itoa_length_le x.2.2 (by have := h.2.2.1; omega) (by have := h.2.2.2; omega)
 simp only [List.length_append, List.length_cons, List.length_nil]
 omega
theorem linesText_len {l : List LineV} (h : ∀ x ∈ l, WellL x) : (linesText l).length ≤ l.length * 101 := by
 induction l with
 |nil => simp [linesText]
 |cons x r ih =>
  have h1 := lineText_len (h x List.mem_cons_self)
  have h2 := ih fun y hy => h y (List.mem_cons_of_mem _ hy)
  unfold linesText at *
  simp only [List.map_cons, List.flatten_cons, List.length_append, List.length_cons, List.length_nil]
  omega
structure WellS (m : StkV) : Prop where
 few : m.length ≤ 200
 well : ∀ x ∈ m, placeE x.1.1 = 0 ∧ nameB x.1.2 = true ∧ 1 ≤ x.2 ∧ x.2 ≤ 1099511627776
theorem WellS.inPs {m : StkV} (h : WellS m) : InPs m := fun x hx => InP.of (h.well x hx).1
theorem WellS.lines {m : StkV} (h : WellS m) : ∀ x ∈ linesM m, WellL x := fun x hx => by
 obtain ⟨a, ha, rfl⟩ := List.mem_map.1 ((Stab.srt_perm _ _).mem_iff.1 hx)
 obtain ⟨h1, h2, h3, h4⟩ := h.well a ha
 exact ⟨h1, h2, by simp only [lineOf]; omega, by simp only [lineOf]; omega⟩
theorem linesM_len (m : StkV) : (linesM m).length = m.length := by rw [linesM, Stab.srt_length, List.length_map]
def textM (m : StkV) : List UInt8 := linesText (linesM m)
theorem range5L {x : LineV} {w : World} {b o : Nat} (h : ∀ c v, (encLine x)[c]? = some v → w.cell? ⟨b, o + c, none⟩ = some v) :
  w.cell? ⟨b, o, none⟩ = some (.string ⟨x.1.1.toArray⟩) ∧ w.cell? ⟨b, o + 1, none⟩ = some (.int .i64 x.1.2.1) ∧ w.cell? ⟨b, o + 2, none⟩ = some (.int .i64 x.1.2.2) ∧ w.cell? ⟨b, o + 3, none⟩ = some (.string ⟨x.2.1.toArray⟩) ∧ w.cell? ⟨b, o + 4, none⟩ = some (.int .i64 x.2.2) :=
 ⟨h 0 _ rfl, h 1 _ rfl, h 2 _ rfl, h 3 _ rfl, h 4 _ rfl⟩
set_option maxHeartbeats 1600000 in
set_option maxRecDepth 100000 in
theorem textStock_any (E : Nat → Addr) (p b : Nat) (m : StkV) (w : World) (h : StkAt w p b m) (hW : WellS m) (hG : PlaceG E w) :
  Calls Tryz.prog 67 #[.pointer (some ⟨p, 0, none⟩)] w fun e w' => e = .returned (.string ⟨(textM m).toArray⟩) ∧ Below w.heap.size w w' := by
 have HLI := Lib.hid (fun W (hb : Below w.heap.size w W) => linesStock_any p b m W (h.below hb) hW.inPs (by have := hW.few; omega))
 have HW := Lib.hid hW.lines
 have HN := Lib.hid (linesM_len m)
 have hlen := hW.few
 have HG := Lib.hid (fun W (h : Below w.heap.size w W) => hG.below h)
 have HT := Lib.hid (show textM m = linesText (linesM m) from rfl)
 generalize textM m = T at HT ⊢
 unfold LinesEnds at HLI
 generalize linesM m = l at HLI HW HN HT
 generalize m.length = N at HLI HN hlen
 clear h hW hG
 go_enter Tryz.func67, Tryz.ntmps67
 go_wp2_with fail
 refine (HLI.out _ (below_one _ _)).mono ?_
 rintro e w2 ⟨A, cap, rfl, hrow, hA, hb2⟩
 have hq2 : w2.heap[w.heap.size]? = some (.cells #[.pointer none, .slice none 0 0] 165 (0, 0)) := (hb2.block _ (by simp)).trans (heap_alloc_new _ _)
 have hqlt : w.heap.size < w2.heap.size := (Array.getElem?_eq_some_iff.1 hq2).1
 have HBD := Lib.hid (BldAt.fresh hqlt hq2)
 have HB2 : Hid (Below w.heap.size w w2) := (below_one _ _).trans (hb2.mono (by simp))
 have HROW := Lib.hid hrow
 have HA := Lib.hid hA
 clear hb2 hq2 hrow hA HLI
 go_wp2_with fail
 go_loopw [9] (fun n wr => ∃ k : Nat, k ≤ N ∧ n = .int .i64 k ∧ Hid (BldAt w2.heap.size w.heap.size (Lib.byteCells (linesText (l.take k))) wr) ∧ Hid (ButB w2.heap.size w.heap.size w2 wr)) (fun n _ => N - (intOf n).toNat)
 case atStart => exact ⟨0, by omega, rfl, HBD.out, ButB.refl _ _ _⟩
 case round =>
  obtain ⟨k, hk, rfl, HB, HU⟩ := hrel
  by_cases hkN : k < N
  ·have hkx : k < l.length := by rw [HN.out]; exact hkN
   obtain ⟨g, o, rfl, lg, cg⟩ := HROW.out.resolve_left (fun h => by rw [h] at hkx; simp at hkx)
   have hgq : g ≠ w.heap.size := by
    have := HA.out _ rfl
    simp at this
    omega
   obtain ⟨x, hx⟩ : ∃ x, x = l[k] := ⟨_, rfl⟩
   have hwx : WellL x := by rw [hx]; exact HW.out _ (List.getElem_mem hkx)
   have r5 := range5L (x := x) (w := wr) (b := g) (o := o + k * 5) (fun cc v hv => by
    have h1 := cg k hkx cc v (by rw [← hx]; exact hv)
    exact (World.cell?_of_block (HU.out.block g lg hgq)).trans h1)
   have hbw : Below w.heap.size w wr := HB2.out.trans (HU.out.below (Nat.le_refl _) (Nat.le_of_lt hqlt))
   have HL := Lib.hid (fun W h => textLine_any E x W h (by have := (nameB_len hwx.2.1).2; omega) (by have := hwx.2.2.1; omega) (by have := hwx.2.2.2; omega))
   have ht := lineText_len hwx
   have hlt : (linesText (l.take k)).length ≤ 20200 := by
    have := linesText_len (l := l.take k) fun y hy => HW.out y (List.mem_of_mem_take hy)
    rw [List.length_take] at this
    omega
   have HTK := Lib.hid (linesText_take l k hkx)
   rw [← hx] at HTK
   have HWR := Lib.hid hbw
   generalize linesText (l.take k) = lt0 at HTK hlt HB
   generalize lineText x = t at HTK HL ht
   have hsz := HU.out.size
   clear hx hwx hbw cg
   obtain ⟨⟨a1, a2, a3⟩, a4, a5⟩ := x
   obtain ⟨e0, e1, e2, e3, e4⟩ := r5
   simp only [encLine] at HL
   simp only at e0 e1 e2 e3 e4
   have v1 : ¬ 9223372036854775807 < t.length + 1 := by omega
   go_wp2_with fail
   refine (HL.out _ (HG.out _ (HWR.out.alloc HWR.out.size _))).mono ?_
   rintro e w3 ⟨rfl, b3⟩
   have b3' : Below wr.heap.size wr w3 := (below_one _ _).trans (b3.mono (by simp))
   have HB3 := Lib.hid (HB.out.keep b3')
   have HU3 := Lib.hid (HU.out.trans (ButB.of_below (b := w.heap.size) (b3'.mono hsz)))
   have hs3 := b3'.size
   clear b3 b3' e0 e1 e2 e3 e4
   go_wp2_with fail
   refine (writeString_apart _ _ _ _ w3 HB3.out ?_ (by omega)).mono ?_
   ·simp [Lib.byteCells, ByteArray.size]
    omega
   rintro e w4 ⟨rfl, hB4, hU4⟩
   have HB4 := Lib.hid hB4
   have HU4 := Lib.hid hU4
   clear hB4 hU4
   go_wp2_with fail
   go_roundw
   case rel =>
    refine ⟨k + 1, by omega, by go_num, ?_, HU3.out.trans HU4.out⟩
    have h := HB4.out
    rw [HTK.out]
    show BldAt _ _ _ _
    have e : Lib.byteCells lt0 ++ Lib.strCells ((⟨t.toArray⟩ : ByteArray) ++ (⟨#[10]⟩ : ByteArray)) = Lib.byteCells (lt0 ++ (t ++ [10])) := by
     rw [show (⟨#[10]⟩ : ByteArray) = ⟨[10].toArray⟩ from rfl, mk_app]
     simp [Lib.byteCells, Lib.strCells]
    rw [← e]
    exact h
   case measure => simp [intOf]; omega
  ·obtain rfl : k = N := by omega
   have htk : l.take k = l := List.take_of_length_le (by rw [HN.out]; exact Nat.le_refl _)
   rw [htk, ← HT.out] at HB
   have HWR : Hid (Below w.heap.size w wr) := HB2.out.trans (HU.out.below (Nat.le_refl _) (Nat.le_of_lt hqlt))
   by_cases hT : T = []
   ·subst hT
    have hq := HWR.out.size
    go_wp2_with fail
    refine (Tryz.Builder_String_empty w.heap.size w.heap.size wr HB.out.is hq).mono ?_
    rintro e w4 ⟨rfl, b4⟩
    go_wp2_with fail
    go_ret
    exact ⟨rfl, HWR.out.trans b4⟩
   ·go_wp2_with fail
    refine (Tryz.Builder_String w.heap.size w.heap.size T wr HB.out.is hT).mono ?_
    rintro e w4 ⟨rfl, b4⟩
    go_wp2_with fail
    go_ret
    exact ⟨rfl, HWR.out.trans b4⟩
end Go.Proofs.YtchiojiicehpeaaGreatDoor
namespace Go.Proofs.YtchiojiicehpeaaGreatDoor
open Go.Lib
def isDig (c : UInt8) : Bool := decide (48 ≤ c.toNat) && decide (c.toNat ≤ 57)
def valN (l : List UInt8) : Nat := l.foldl (fun a c => 10 * a + (c.toNat - 48)) 0
theorem valN_snoc (r : List UInt8) (c : UInt8) : valN (r ++ [c]) = 10 * valN r + (c.toNat - 48) := by simp [valN]
theorem valN_one (c : UInt8) : valN [c] = c.toNat - 48 := by simp [valN]
theorem valN_nil : valN [] = 0 := rfl
theorem snoc_ind {P : List UInt8 → Prop} (h0 : P []) (h1 : ∀ l a, P l → P (l ++ [a])) (l : List UInt8) : P l := by
 have : ∀ r : List UInt8, P r.reverse := fun r => by
  induction r with
  |nil => exact h0
  |cons a r ih => rw [List.reverse_cons]; exact h1 _ _ ih
 have h := this l.reverse
 rwa [List.reverse_reverse] at h
theorem dec_small {u : Nat} (h : u < 10) : decDigits u = [UInt8.ofNat (48 + u)] := by rw [decDigits, dif_pos h]
theorem dec_big {u : Nat} (h : ¬ u < 10) : decDigits u = decDigits (u / 10) ++ [UInt8.ofNat (48 + u % 10)] := by rw [decDigits, dif_neg h]
theorem dec_val (n : Nat) : valN (decDigits n) = n := by
 induction n using Nat.strongRecOn with
 |_ n ih =>
  by_cases h : n < 10
  ·rw [dec_small h, valN_one, digit_toNat n h]; omega
  ·rw [dec_big h, valN_snoc, ih (n / 10) (by omega), digit_toNat _ (Nat.mod_lt _ (by omega))]; omega
theorem dec_head (n : Nat) (h0 : 0 < n) : (decDigits n).head? ≠ some 48 := by
 induction n using Nat.strongRecOn with
 |_ n ih =>
  by_cases h : n < 10
  ·rw [dec_small h]
   simp only [List.head?_cons, ne_eq, Option.some.injEq]
   intro e
   have := congrArg UInt8.toNat e
   rw [digit_toNat n h] at this
   simp at this; omega
  ·rw [dec_big h]
   have hne := dec_ne_nil (n / 10)
   have hi := ih (n / 10) (by omega) (by omega)
   cases hd : decDigits (n / 10) with
   |nil => exact absurd hd hne
   |cons x r => rw [hd] at hi; simpa using hi
theorem digits_all (l : List UInt8) : l.all isDig = true ↔ ∀ c ∈ l, 48 ≤ c.toNat ∧ c.toNat ≤ 57 := by
 simp [isDig, List.all_eq_true]
theorem dec_of_val (l : List UInt8) : l.all isDig = true → l ≠ [] → (l.length = 1 ∨ l.head? ≠ some 48) → decDigits (valN l) = l := by
 induction l using snoc_ind with
 |h0 => intro _ h; exact absurd rfl h
 |h1 r c ih =>
  intro ha _ hz
  have ha' := (digits_all _).1 ha
  have hc := ha' c (by simp)
  have hcn : UInt8.ofNat (48 + (c.toNat - 48)) = c := by
   apply UInt8.toNat_inj.1
   rw [digit_toNat _ (by omega)]; omega
  cases r with
  |nil =>
   rw [List.nil_append, valN_one, dec_small (by omega), hcn]
  |cons x q =>
   have hx : x ≠ 48 := by
    rcases hz with hz | hz
    ·simp at hz
    ·simpa using hz
   have h1 := ih ((digits_all _).2 fun d hd => ha' d (List.mem_append_left _ hd)) (by simp) (.inr (by simpa using hx))
   have hv : 0 < valN (x :: q) := by
    rcases Nat.eq_zero_or_pos (valN (x :: q)) with h | h
    ·rw [h, dec_small (by omega)] at h1
     simp at h1
     exact absurd h1.1.symm hx
    ·exact h
   rw [valN_snoc, dec_big (by omega), show (10 * valN (x :: q) + (c.toNat - 48)) / 10 = valN (x :: q) by omega, show (10 * valN (x :: q) + (c.toNat - 48)) % 10 = c.toNat - 48 by omega, h1, hcn]
theorem valN_lt (l : List UInt8) (h : l.all isDig = true) : valN l < 10 ^ l.length := by
 induction l using snoc_ind with
 |h0 => simp [valN]
 |h1 r c ih =>
  have ha' := (digits_all _).1 h
  have hc := ha' c (by simp)
  have := ih ((digits_all _).2 fun d hd => ha' d (List.mem_append_left _ hd))
  rw [valN_snoc, List.length_append, List.length_singleton, Nat.pow_succ]; omega
def refNum (l : List UInt8) (d : Nat) : Int := if l.length < 1 ∨ d < l.length ∨ (1 < l.length ∧ l.head? = some 48) ∨ l.all isDig = false then -1 else (valN l : Int)
theorem refNum_eq (l : List UInt8) (d : Nat) (hd : d ≤ 18) : refNum l d = match numQ l d with | some n => (n : Int) | none => -1 := by
 unfold refNum
 split
 ·rename_i h
  cases hq : numQ l d with
  |none => rfl
  |some n =>
   exfalso
   obtain ⟨h1, h2, h3⟩ := (numQ_iff l d n).1 hq
   rcases h with h | h | ⟨h, h'⟩ | h
   ·have := dec_ne_nil n
    rw [← h1] at this
    cases l <;> simp_all
   ·omega
   ·rcases Nat.eq_zero_or_pos n with h0 | h0
    ·subst h0
     rw [h1, dec_small (by omega)] at h
     simp at h
    ·rw [h1] at h'; exact dec_head n h0 h'
   ·have : l.all isDig = true := (digits_all l).2 (by rw [h1]; exact dec_digit n)
    rw [h] at this; cases this
 ·rename_i h
  have hn : l ≠ [] := by rintro rfl; simp at h
  have ha : l.all isDig = true := by
   cases hh : l.all isDig
   ·exact absurd (.inr (.inr (.inr hh))) h
   ·rfl
  have hz : l.length = 1 ∨ l.head? ≠ some 48 := by
   by_cases h1 : l.length = 1
   ·exact .inl h1
   ·refine .inr fun h2 => h (.inr (.inr (.inl ⟨?_, h2⟩)))
    have := List.length_pos_iff.2 hn
    omega
  have hd1 := dec_of_val l ha hn hz
  have hl : l.length ≤ d := by omega
  have hv := valN_lt l ha
  have : 10 ^ l.length ≤ 10 ^ 18 := Nat.pow_le_pow_right (by omega) (by omega)
  rw [(numQ_iff l d (valN l)).2 ⟨hd1.symm, hl, by omega⟩]
end Go.Proofs.YtchiojiicehpeaaGreatDoor
