/- The program's book: summed. Printed by gen/bksum.py. Equal lines. An entry's parts in memory. The program's book: taken; sums compared; an entry's error, step by step. maps.Clone at the book's maps. Printed by gen/bkclone.py. A stock of the document: Text. -/
import Derived.Deep.CutBlock
import Derived.Shelf.SlMaps.Clone
import Derived.Test.YteaalifehokgoaaGreatDoorM01
import Derived.Test.YteaalifehokgoaaGreatDoorM04
import Derived.Test.YteaalifehokgoaaGreatDoorM07
import Derived.Test.YteaalifehokgoaaGreatDoorM10
import Derived.Test.YteaalifehokgoaaGreatDoorM12
import Derived.Test.YteaalifehokgoaaGreatDoorM15
import Derived.Test.YteaalifehokgoaaGreatDoorM16
import Derived.Test.YteaalifehokgoaaGreatDoorM18
import Derived.Test.YteaalifehokgoaaGreatDoorM19
namespace Go.Proofs.YteaalifehokgoaaGreatDoor
open Go.RowKit Go.Sort Go.Proofs
theorem row4f {w : World} {b : Nat} {u v x y : Value} {t : TypeId} (h : w.heap[b]? = some (.cells #[u, v, x, y] t (0, 0))) :
  (w.cell? ⟨b, 0, none⟩ = some u ∧ w.cell? ⟨b, 1, none⟩ = some v ∧ w.cell? ⟨b, 2, none⟩ = some x ∧ w.cell? ⟨b, 3, none⟩ = some y) ∧ w.frozen? ⟨b, 0, none⟩ = false ∧ w.frozen? ⟨b, 1, none⟩ = false ∧ w.frozen? ⟨b, 2, none⟩ = false ∧ w.frozen? ⟨b, 3, none⟩ = false :=
 ⟨⟨rowC h 0, rowC h 1, rowC h 2, rowC h 3⟩, rowF h 0, rowF h 1, rowF h 2, rowF h 3⟩
theorem zeroSumsV (w : World) : (zeroValue 77).run Tryz.prog w = .ok (eSums zeroSums) w := by kernel_rfl
set_option maxHeartbeats 1600000 in
set_option maxRecDepth 100000 in
theorem summed_any (s : SumsV) (x : EntV) (w : World) (hs : OkS s) (hn : 0 ≤ x.2.2.2.2.2 ∧ x.2.2.2.2.2 ≤ 1099511627776) :
  Calls Tryz.prog 99 #[.agg (encSums s).toArray, .agg (encEnt x).toArray] w fun e w' => e = .returned (.agg (encSums (summ s x)).toArray) ∧ Below w.heap.size w w' := by
 have hm : mostS = 65970697666560 := rfl
 obtain ⟨q1, q2, q3, q4, q5, q6, q7, q8⟩ := hs
 rw [hm] at q2 q4 q6 q8
 obtain ⟨s1, s2, s3, s4⟩ := s
 simp only at q1 q2 q3 q4 q5 q6 q7 q8
 have c0 : (encEnt x)[0]? = some (.string ⟨x.1.toArray⟩) := rfl
 have c13 : (encEnt x)[13]? = some (.int .i64 x.2.2.2.2.2) := rfl
 obtain ⟨r, hr⟩ : ∃ r, r = summ (s1, s2, s3, s4) x := ⟨_, rfl⟩
 rw [← hr]
 have HR : Hid (r = if x.1 = kIn then (s1 + x.2.2.2.2.2, s2, s3, s4) else if x.1 = kOut then (s1, s2 + x.2.2.2.2.2, s3, s4) else if x.1 = kMore then (s1, s2, s3 + x.2.2.2.2.2, s4) else if x.1 = kLess then (s1, s2, s3, s4 + x.2.2.2.2.2) else (s1, s2, s3, s4)) := hr
 obtain ⟨h0, h1, h2⟩ := heap3 w (.cells #[.int .i64 s1, .int .i64 s2, .int .i64 s3, .int .i64 s4] 77) (.cells (encEnt x).toArray 43) (.cells #[.int .i64 0, .int .i64 0, .int .i64 0, .int .i64 0] 77)
 have b0 : Below w.heap.size w (((w.alloc (.cells #[.int .i64 s1, .int .i64 s2, .int .i64 s3, .int .i64 s4] 77)).alloc (.cells (encEnt x).toArray 43)).alloc (.cells #[.int .i64 0, .int .i64 0, .int .i64 0, .int .i64 0] 77)) := ((below_one w _).alloc (by simp) _).alloc (by simp; omega) _
 have B0 := Lib.hid b0
 clear hr hm b0
 generalize x.2.2.2.2.2 = n at *
 generalize x.1 = k at *
 generalize encEnt x = LX at *
 simp only [encSums]
 go_enter Tryz.func99, Tryz.ntmps99
 go_upto_region 1 with fail
 generalize (((w.alloc (.cells #[.int .i64 s1, .int .i64 s2, .int .i64 s3, .int .i64 s4] 77)).alloc (.cells LX.toArray 43)).alloc (.cells #[.int .i64 0, .int .i64 0, .int .i64 0, .int .i64 0] 77)) = W0 at h0 h1 h2 B0 ⊢
 have e0 : W0.cell? ⟨w.heap.size + 1, 0, none⟩ = some (.string ⟨k.toArray⟩) := (cell_of_row _ _ _ _ _ _ h1).trans (by simpa using c0)
 have e13 : W0.cell? ⟨w.heap.size + 1, 13, none⟩ = some (.int .i64 n) := (cell_of_row _ _ _ _ _ _ h1).trans (by simpa using c13)
 obtain ⟨⟨d0, d1, d2, d3⟩, -⟩ := row4f h0
 clear c0 c13 h1
 by_cases k0 : k = kIn
 ·have b0 : (k == [105, 110]) = true := by rw [k0]; rfl
  have H0 := Lib.hid k0
  clear k0
  have HR0 := Lib.hid (show r = (s1 + n, s2, s3, s4) from HR.out.trans (by rw [if_pos H0.out]))
  have hw : IntKind.i64.wrap (s1 + n) = s1 + n := wrap_small (by omega) (by omega)
  clear HR
  go_wp2_with (first | (refine wpList_store_val rfl 3 _ _ rfl w.heap.size 0 (.int .i64 (s1 + n)) rfl rfl rfl _ [.int .i64 s1, .int .i64 s2, .int .i64 s3, .int .i64 s4] h0 (by kernel_rfl) (Nat.le_of_ble_eq_true rfl) rfl ?_; intro w7 h7 t7; have h27 := (t7.block (w.heap.size + 2) (by omega)).trans h2) | (refine wpList_load_at rfl 77 _ rfl w.heap.size 0 rfl [.int .i64 (s1 + n), .int .i64 s2, .int .i64 s3, .int .i64 s4] (Lies.row _ h7) _ Tryz.underlying77 rfl (by kernel_rfl) ?_) | (refine wpList_store_box rfl 77 _ _ rfl (w.heap.size + 2) [.int .i64 (s1 + n), .int .i64 s2, .int .i64 s3, .int .i64 s4] rfl rfl _ [.int .i64 0, .int .i64 0, .int .i64 0, .int .i64 0] h27 (by kernel_rfl) rfl (encSums_one (s1 + n, s2, s3, s4)) ?_; intro w8 h8 t8))
  refine bodyPost_ret (results_cell_row rfl _ _ (w.heap.size + 2) 77 _ (0, 0) _ rfl h8 Tryz.underlying77 rfl (by kernel_rfl)) rfl ?_
  rw [HR0.out]
  exact ⟨rfl, (B0.out.trans (t7.below (Nat.le_refl _))).trans (t8.below (by omega))⟩
 have b0 : (k == [105, 110]) = false := by simpa [kIn] using k0
 have H0 := Lib.hid k0
 clear k0
 by_cases k1 : k = kOut
 ·have b1 : (k == [111, 117, 116]) = true := by rw [k1]; rfl
  have H1 := Lib.hid k1
  clear k1
  have HR0 := Lib.hid (show r = (s1, s2 + n, s3, s4) from HR.out.trans (by rw [if_neg H0.out, if_pos H1.out]))
  have hw : IntKind.i64.wrap (s2 + n) = s2 + n := wrap_small (by omega) (by omega)
  clear HR
  go_wp2_with (first | (refine wpList_store_val rfl 3 _ _ rfl w.heap.size 1 (.int .i64 (s2 + n)) rfl rfl rfl _ [.int .i64 s1, .int .i64 s2, .int .i64 s3, .int .i64 s4] h0 (by kernel_rfl) (Nat.le_of_ble_eq_true rfl) rfl ?_; intro w7 h7 t7; have h27 := (t7.block (w.heap.size + 2) (by omega)).trans h2) | (refine wpList_load_at rfl 77 _ rfl w.heap.size 0 rfl [.int .i64 s1, .int .i64 (s2 + n), .int .i64 s3, .int .i64 s4] (Lies.row _ h7) _ Tryz.underlying77 rfl (by kernel_rfl) ?_) | (refine wpList_store_box rfl 77 _ _ rfl (w.heap.size + 2) [.int .i64 s1, .int .i64 (s2 + n), .int .i64 s3, .int .i64 s4] rfl rfl _ [.int .i64 0, .int .i64 0, .int .i64 0, .int .i64 0] h27 (by kernel_rfl) rfl (encSums_one (s1, s2 + n, s3, s4)) ?_; intro w8 h8 t8))
  refine bodyPost_ret (results_cell_row rfl _ _ (w.heap.size + 2) 77 _ (0, 0) _ rfl h8 Tryz.underlying77 rfl (by kernel_rfl)) rfl ?_
  rw [HR0.out]
  exact ⟨rfl, (B0.out.trans (t7.below (Nat.le_refl _))).trans (t8.below (by omega))⟩
 have b1 : (k == [111, 117, 116]) = false := by simpa [kOut] using k1
 have H1 := Lib.hid k1
 clear k1
 by_cases k2 : k = kMore
 ·have b2 : (k == [109, 111, 114, 101]) = true := by rw [k2]; rfl
  have H2 := Lib.hid k2
  clear k2
  have HR0 := Lib.hid (show r = (s1, s2, s3 + n, s4) from HR.out.trans (by rw [if_neg H0.out, if_neg H1.out, if_pos H2.out]))
  have hw : IntKind.i64.wrap (s3 + n) = s3 + n := wrap_small (by omega) (by omega)
  clear HR
  go_wp2_with (first | (refine wpList_store_val rfl 3 _ _ rfl w.heap.size 2 (.int .i64 (s3 + n)) rfl rfl rfl _ [.int .i64 s1, .int .i64 s2, .int .i64 s3, .int .i64 s4] h0 (by kernel_rfl) (Nat.le_of_ble_eq_true rfl) rfl ?_; intro w7 h7 t7; have h27 := (t7.block (w.heap.size + 2) (by omega)).trans h2) | (refine wpList_load_at rfl 77 _ rfl w.heap.size 0 rfl [.int .i64 s1, .int .i64 s2, .int .i64 (s3 + n), .int .i64 s4] (Lies.row _ h7) _ Tryz.underlying77 rfl (by kernel_rfl) ?_) | (refine wpList_store_box rfl 77 _ _ rfl (w.heap.size + 2) [.int .i64 s1, .int .i64 s2, .int .i64 (s3 + n), .int .i64 s4] rfl rfl _ [.int .i64 0, .int .i64 0, .int .i64 0, .int .i64 0] h27 (by kernel_rfl) rfl (encSums_one (s1, s2, s3 + n, s4)) ?_; intro w8 h8 t8))
  refine bodyPost_ret (results_cell_row rfl _ _ (w.heap.size + 2) 77 _ (0, 0) _ rfl h8 Tryz.underlying77 rfl (by kernel_rfl)) rfl ?_
  rw [HR0.out]
  exact ⟨rfl, (B0.out.trans (t7.below (Nat.le_refl _))).trans (t8.below (by omega))⟩
 have b2 : (k == [109, 111, 114, 101]) = false := by simpa [kMore] using k2
 have H2 := Lib.hid k2
 clear k2
 by_cases k3 : k = kLess
 ·have b3 : (k == [108, 101, 115, 115]) = true := by rw [k3]; rfl
  have H3 := Lib.hid k3
  clear k3
  have HR0 := Lib.hid (show r = (s1, s2, s3, s4 + n) from HR.out.trans (by rw [if_neg H0.out, if_neg H1.out, if_neg H2.out, if_pos H3.out]))
  have hw : IntKind.i64.wrap (s4 + n) = s4 + n := wrap_small (by omega) (by omega)
  clear HR
  go_wp2_with (first | (refine wpList_store_val rfl 3 _ _ rfl w.heap.size 3 (.int .i64 (s4 + n)) rfl rfl rfl _ [.int .i64 s1, .int .i64 s2, .int .i64 s3, .int .i64 s4] h0 (by kernel_rfl) (Nat.le_of_ble_eq_true rfl) rfl ?_; intro w7 h7 t7; have h27 := (t7.block (w.heap.size + 2) (by omega)).trans h2) | (refine wpList_load_at rfl 77 _ rfl w.heap.size 0 rfl [.int .i64 s1, .int .i64 s2, .int .i64 s3, .int .i64 (s4 + n)] (Lies.row _ h7) _ Tryz.underlying77 rfl (by kernel_rfl) ?_) | (refine wpList_store_box rfl 77 _ _ rfl (w.heap.size + 2) [.int .i64 s1, .int .i64 s2, .int .i64 s3, .int .i64 (s4 + n)] rfl rfl _ [.int .i64 0, .int .i64 0, .int .i64 0, .int .i64 0] h27 (by kernel_rfl) rfl (encSums_one (s1, s2, s3, s4 + n)) ?_; intro w8 h8 t8))
  refine bodyPost_ret (results_cell_row rfl _ _ (w.heap.size + 2) 77 _ (0, 0) _ rfl h8 Tryz.underlying77 rfl (by kernel_rfl)) rfl ?_
  rw [HR0.out]
  exact ⟨rfl, (B0.out.trans (t7.below (Nat.le_refl _))).trans (t8.below (by omega))⟩
 have b3 : (k == [108, 101, 115, 115]) = false := by simpa [kLess] using k3
 have H3 := Lib.hid k3
 clear k3
 have HR0 := Lib.hid (show r = (s1, s2, s3, s4) from HR.out.trans (by rw [if_neg H0.out, if_neg H1.out, if_neg H2.out, if_neg H3.out]))
 clear HR
 go_wp2_with (first | (refine wpList_load_at rfl 77 _ rfl w.heap.size 0 rfl [.int .i64 s1, .int .i64 s2, .int .i64 s3, .int .i64 s4] (Lies.row _ h0) _ Tryz.underlying77 rfl (by kernel_rfl) ?_) | (refine wpList_store_box rfl 77 _ _ rfl (w.heap.size + 2) [.int .i64 s1, .int .i64 s2, .int .i64 s3, .int .i64 s4] rfl rfl _ [.int .i64 0, .int .i64 0, .int .i64 0, .int .i64 0] h2 (by kernel_rfl) rfl (encSums_one (s1, s2, s3, s4)) ?_; intro w8 h8 t8))
 refine bodyPost_ret (results_cell_row rfl _ _ (w.heap.size + 2) 77 _ (0, 0) _ rfl h8 Tryz.underlying77 rfl (by kernel_rfl)) rfl ?_
 rw [HR0.out]
 exact ⟨rfl, B0.out.trans (t8.below (by omega))⟩
end Go.Proofs.YteaalifehokgoaaGreatDoor
namespace Go.Proofs.YteaalifehokgoaaGreatDoor
open Go.RowKit Go.Sort Go.Proofs
end Go.Proofs.YteaalifehokgoaaGreatDoor
namespace Go.Proofs.YteaalifehokgoaaGreatDoor
open Go.RowKit Go.Sort Go.Proofs
theorem ent_from {w : World} {b : Nat} {x : EntV} (h : Lies w b 0 (encEnt x)) : Lies w b 7 (encPlace x.2.2.2.1) := fun j v hv => by
 have hj : j < 3 := (List.getElem?_eq_some_iff.1 hv).1
 have := h (7 + j) v (by match j, hj, hv with | 0, _, hv => exact hv | 1, _, hv => exact hv | 2, _, hv => exact hv)
 simpa using this
theorem ent_to {w : World} {b : Nat} {x : EntV} (h : Lies w b 0 (encEnt x)) : Lies w b 10 (encPlace x.2.2.2.2.1) := fun j v hv => by
 have hj : j < 3 := (List.getElem?_eq_some_iff.1 hv).1
 have := h (10 + j) v (by match j, hj, hv with | 0, _, hv => exact hv | 1, _, hv => exact hv | 2, _, hv => exact hv)
 simpa using this
theorem ent_lot {w : World} {b : Nat} {x : EntV} (h : Lies w b 0 (encEnt x)) : Lies w b 3 (encLot x.2.2.1) := fun j v hv => by
 have hj : j < 4 := (List.getElem?_eq_some_iff.1 hv).1
 have := h (3 + j) v (by match j, hj, hv with | 0, _, hv => exact hv | 1, _, hv => exact hv | 2, _, hv => exact hv | 3, _, hv => exact hv)
 simpa using this
theorem Lies.at {w : World} {b : Nat} {L : List Value} (h : Lies w b 0 L) (i : Nat) (v : Value) (hv : L[i]? = some v) : w.cell? ⟨b, i, none⟩ = some v := by
 have := h i v hv
 rwa [Nat.zero_add] at this
end Go.Proofs.YteaalifehokgoaaGreatDoor
namespace Go.Proofs.YteaalifehokgoaaGreatDoor
open Go.RowKit Go.Sort Go.Proofs
theorem eqInSums (x y : SumsV) (W : World) : (Op.equalIn 10000 77 (.agg (encSums x).toArray) (.agg (encSums y).toArray)).run Tryz.prog W = .ok (decide (x = y)) W := by
 have u3 := Tryz.underlying3
 have hS : Tryz.prog.underlying 77 = some (.struct (Tryz.prog.fieldsOf 77)) := by kernel_rfl
 have hp : Tryz.prog.stoodInHeld 77 = false := by kernel_rfl
 simp only [encSums]
 rw [show (10000 : Nat) = 9999 + 1 from rfl, run_equalIn_agg W 9999 77 _ _ hS hp]
 clear hS hp
 simp only [Program.fieldsOf, Tryz.underlying77]
 go_simp
 obtain ⟨a1, a2, a3, a4⟩ := x
 obtain ⟨b1, b2, b3, b4⟩ := y
 by_cases h1 : a1 = b1 <;> by_cases h2 : a2 = b2 <;> by_cases h3 : a3 = b3 <;> by_cases h4 : a4 = b4 <;> simp [h1, h2, h3, h4]
theorem neqSums (x y : SumsV) (W : World) : (binOp .neq 77 (.agg (encSums x).toArray) (.agg (encSums y).toArray)).run Tryz.prog W = .ok (.bool (!decide (x = y))) W := by
 rw [run_neq_struct, eqInSums]
 rfl
def takenE (m : StkV) (h : Nat) (x : EntV) : Nat := if takeE m x.2.2.2.1 x.2.2.1.1 x.2.2.2.2.2 ≠ 0 then takeE m x.2.2.2.1 x.2.2.1.1 x.2.2.2.2.2 else if ofM (takeM m x.2.2.2.1 x.2.2.1.1 x.2.2.2.2.2) x.2.2.1.1 < h then 9 else 0
def actS (m : StkV) (h : Nat) (x : EntV) : Nat :=
 if x.1 = kIn ∨ x.1 = kMore then putE m x.2.2.2.2.1 x.2.2.1.1 x.2.2.2.2.2 else if x.1 = kOut ∨ x.1 = kLess then takenE m h x
 else if x.1 = kMove then moveE m x.2.2.2.1 x.2.2.2.2.1 x.2.2.1.1 x.2.2.2.2.2 else 0
def heldS (m : StkV) (h : Nat) (x : EntV) : Nat := if actS m h x = 0 ∧ (heldN h x < 0 ∨ (ofM (actM m x) x.2.2.1.1 : Int) < heldN h x) then 9 else actS m h x
theorem pcE_steps {B : BkV} {x : EntV} {y : LoH} (hy : fL B x.2.2.1.1 = some y) : pcE B x = if heldS B.2.2 y.2 x ≠ 0 then heldS B.2.2 y.2 x else if overS (summ (sumsOf B y.1.2.1) x) = true then 2 else 0 := by
 unfold pcE
 rw [hy]
 simp only
 have key : heldS B.2.2 y.2 x = if actE B.2.2 x ≠ 0 then actE B.2.2 x else if heldN y.2 x < 0 ∨ (ofM (actM B.2.2 x) x.2.2.1.1 : Int) < heldN y.2 x then 9 else 0 := by
  unfold heldS actS actE
  by_cases k1 : x.1 = kIn ∨ x.1 = kMore
  ·simp only [if_pos k1]
   split
   ·rename_i h; rw [if_neg (by simp [h.1]), if_pos h.2]
   ·rename_i h
    split
    ·rfl
    ·rename_i h0
     simp only [ne_eq, Decidable.not_not] at h0
     rw [h0, if_neg (fun e => h ⟨h0, e⟩)]
  ·simp only [if_neg k1]
   by_cases k2 : x.1 = kOut ∨ x.1 = kLess
   ·simp only [if_pos k2]
    have ea : actM B.2.2 x = takeM B.2.2 x.2.2.2.1 x.2.2.1.1 x.2.2.2.2.2 := by
     unfold actM
     rw [if_neg k1, if_pos k2]
    have eh : heldN y.2 x = y.2 := by
     unfold heldN
     rw [if_neg (by rcases k2 with h | h <;> rw [h] <;> decide), if_neg (by rcases k2 with h | h <;> rw [h] <;> decide)]
    rw [ea, eh]
    unfold takenE
    by_cases h0 : takeE B.2.2 x.2.2.2.1 x.2.2.1.1 x.2.2.2.2.2 = 0
    ·simp only [h0, ne_eq, not_true_eq_false, if_false]
     by_cases h1 : ofM (takeM B.2.2 x.2.2.2.1 x.2.2.1.1 x.2.2.2.2.2) x.2.2.1.1 < y.2
     ·simp only [if_pos h1]
      rw [if_neg (by simp), if_pos (.inr (by omega))]
     ·simp only [if_neg h1]
      rw [if_neg (by omega), if_neg (by omega)]
    ·simp only [ne_eq, h0, not_false_eq_true, if_true, false_and, if_false]
   ·simp only [if_neg k2]
    by_cases k3 : x.1 = kMove
    ·simp only [if_pos k3]
     split
     ·rename_i h; rw [if_neg (by simp [h.1]), if_pos h.2]
     ·rename_i h
      split
      ·rfl
      ·rename_i h0
       simp only [ne_eq, Decidable.not_not] at h0
       rw [h0, if_neg (fun e => h ⟨h0, e⟩)]
    ·simp only [if_neg k3]
     simp
 rw [key]
 by_cases h0 : actE B.2.2 x = 0
 ·simp only [h0, ne_eq, not_true_eq_false, if_false]
  split
  ·simp
  ·simp
 ·simp only [ne_eq, h0, not_false_eq_true, if_true]
set_option maxHeartbeats 800000 in
set_option maxRecDepth 100000 in
theorem taken_any (E : Nat → Addr) (p h q c : Nat) (f : List UInt8 → Option Nat) (m : StkV) (x : EntV) (w : World) (cp : w.cell? ⟨p, 2, none⟩ = some (.map (some h))) (hf : MapF eNat w h f) (hS : StkP w q c m) (hI : StkI m) (hpc : p ≠ c) (hhc : h ≠ c) (hG : ∀ W, But c w W → StkG E W) :
  Calls Tryz.prog 96 #[.pointer (some ⟨p, 0, none⟩), .pointer (some ⟨q, 0, none⟩), .agg (encEnt x).toArray] w fun e w' => e = .returned (errOf E (takenE m ((f x.2.2.1.1).getD 0) x)) ∧ StkP w' q c (takeM m x.2.2.2.1 x.2.2.1.1 x.2.2.2.2.2) ∧ But c w w' := by
 have b0 := below_one w (.cells (encEnt x).toArray 43)
 have hrow := heap_alloc_new w (.cells (encEnt x).toArray 43)
 have hcl := hS.lt.2
 have cp0 := (b0.cell (p := ⟨p, 2, none⟩) (lt_of_cell cp)).trans cp
 have hpl := lt_of_cell cp
 have HT := Lib.hid (fun W (k : StkP W q c m) g => takeStock_P E hI x.2.2.2.1 x.2.2.1.1 x.2.2.2.2.2 W k g)
 have HO := Lib.hid (fun W (k : StkP W q c (takeM m x.2.2.2.1 x.2.2.1.1 x.2.2.2.2.2)) => ofStock_P (hI.take x.2.2.2.1 x.2.2.1.1 x.2.2.2.2.2) x.2.2.1.1 W k)
 have HL := Lib.hid (fun W (k : MapF eNat W h f) => k.look (P := Tryz.prog) (t := 104) (kt := 9) (by kernel_rfl) Tryz.underlying104 (zeroIntE W) x.2.2.1.1 false)
 have HF := Lib.hid (hf.below b0)
 have HS := Lib.hid (hS.below b0)
 have HG := Lib.hid hG
 obtain ⟨r, hr⟩ : ∃ r, r = takenE m ((f x.2.2.1.1).getD 0) x := ⟨_, rfl⟩
 rw [← hr]
 unfold takenE at hr
 have HR := Lib.hid hr
 have hlo : (encEnt x)[3]? = some (.string ⟨x.2.2.1.1.toArray⟩) := rfl
 have hn : (encEnt x)[13]? = some (.int .i64 x.2.2.2.2.2) := rfl
 have hfr := Lib.hid (fun (W : World) (b : Nat) (h : Lies W b 0 (encEnt x)) => ent_from h)
 have hpl3 : (encPlace x.2.2.2.1).length = 3 := rfl
 have B0 := Lib.hid b0
 clear hr hf hS hG b0 cp
 generalize takeM m x.2.2.2.1 x.2.2.1.1 x.2.2.2.2.2 = m1 at *
 generalize takeE m x.2.2.2.1 x.2.2.1.1 x.2.2.2.2.2 = te at *
 generalize ofM m1 x.2.2.1.1 = o at HO HR
 generalize (f x.2.2.1.1).getD 0 = hd at HL HR
 simp only [eNat, Bool.false_eq_true, if_false] at HL
 generalize x.2.2.1.1 = id at *
 generalize x.2.2.2.2.2 = n at *
 generalize encPlace x.2.2.2.1 = LP at *
 generalize encEnt x = LX at *
 go_enter Tryz.func96, Tryz.ntmps96
 go_upto_region 1 with fail
 generalize w.alloc (.cells LX.toArray 43) = W0 at hrow cp0 HF HS B0 ⊢
 have e3 : W0.cell? ⟨w.heap.size, 3, none⟩ = some (.string ⟨id.toArray⟩) := (cell_of_row _ _ _ _ _ _ hrow).trans (by simpa using hlo)
 have e13 : W0.cell? ⟨w.heap.size, 13, none⟩ = some (.int .i64 n) := (cell_of_row _ _ _ _ _ _ hrow).trans (by simpa using hn)
 have HFR := Lib.hid (hfr.out W0 _ (Lies.row _ hrow))
 clear hfr hrow hlo hn
 go_wp2_with (refine wpList_load_at rfl 41 _ rfl w.heap.size 7 rfl LP HFR.out _ Tryz.underlying41 rfl (by rw [hpl3]; kernel_rfl) ?_)
 refine (HT.out W0 HS.out (HG.out _ (But.of_below B0.out))).mono ?_
 rintro e w2 ⟨rfl, hS2, t2⟩
 have cp2 : w2.cell? ⟨p, 2, none⟩ = some (.map (some h)) := (World.cell?_of_block (t2.block p (lt_of_cell cp0) hpc)).trans cp0
 have hf2 := HF.out.keep (t2.block h HF.out.lt hhc)
 have HF2 := Lib.hid hf2
 have HS2 := Lib.hid hS2
 have B2 := Lib.hid ((But.of_below B0.out).trans t2)
 have e32 : w2.cell? ⟨w.heap.size, 3, none⟩ = some (.string ⟨id.toArray⟩) := (World.cell?_of_block (t2.block w.heap.size (lt_of_cell e3) (Nat.ne_of_gt hcl))).trans e3
 clear e3 e13 cp0 HF HS hS2 t2 hf2 HT HFR
 by_cases hte : te = 0
 ·have HR0 := Lib.hid (HR.out.trans (if_neg (by simp [hte])))
  subst hte
  rw [errOf_zero]
  have hl := HL.out w2.drew HF2.out
  have cpd : w2.drew.cell? ⟨p, 2, none⟩ = some (.map (some h)) := cp2
  have hfd : MapF eNat w2.drew h f := HF2.out
  have HK : Hid (∀ W, Below w2.drew.heap.size w2.drew W → W.cell? ⟨p, 2, none⟩ = some (.map (some h)) ∧ (Instr.lookup 104 (.map (some h)) (.string ⟨id.toArray⟩) false).run Tryz.prog W = .ok (.int .i64 (hd : Nat)) W) := fun W bb => ⟨(bb.cell (p := ⟨p, 2, none⟩) (lt_of_cell cpd)).trans cpd, HL.out W (hfd.below bb)⟩
  clear cpd hfd
  go_wp2_with fail
  go_region_held3 (fun W => W.cell? ⟨p, 2, none⟩ = some (.map (some h)) ∧ (Instr.lookup 104 (.map (some h)) (.string ⟨id.toArray⟩) false).run Tryz.prog W = .ok (.int .i64 (hd : Nat)) W)
   (first | exact ⟨cp2, hl⟩ | exact HK.out _ bb | go_keep)
   (first | (go_at_call 98; refine (HO.out w2.drew HS2.out).mono ?_; rintro e v ⟨rfl, bb⟩))
  all_goals
   have B3 := Lib.hid (B2.out.drew.trans (But.of_below bb))
   have HS3 := Lib.hid ((show StkP w2.drew q c m1 from HS2.out).below bb)
   have hsh := (HG.out v B3.out).short
   unfold ErrAt at hsh
   clear bb hl cp2 HF2 HS2
   by_cases ho : o < hd
   ·have HR1 := Lib.hid (HR0.out.trans (if_pos ho))
    go_wp2_with fail
    go_ret
    rw [HR1.out]
    exact ⟨rfl, HS3.out, B3.out⟩
   ·have HR1 := Lib.hid (HR0.out.trans (if_neg ho))
    go_wp2_with fail
    go_ret
    rw [HR1.out]
    exact ⟨rfl, HS3.out, B3.out⟩
 ·have HR0 := Lib.hid (HR.out.trans (if_pos hte))
  rw [errOf_pos _ _ hte]
  go_wp2_with fail
  go_ret
  rw [HR0.out, errOf_pos _ _ hte]
  exact ⟨rfl, HS2.out, B2.out⟩
end Go.Proofs.YteaalifehokgoaaGreatDoor
namespace Go.Proofs.YteaalifehokgoaaGreatDoor
open Go.RowKit Go.Sort Go.Proofs
end Go.Proofs.YteaalifehokgoaaGreatDoor
namespace Go.Proofs.YteaalifehokgoaaGreatDoor
open Go.RowKit Go.Sort Go.Proofs
end Go.Proofs.YteaalifehokgoaaGreatDoor
