/- The program's book: summed. Printed by gen/bksum.py. The program's book: Sums, Held, Has. -/
import Derived.Deep.CutBlock
import Derived.Test.YtgllddebodfhkaaGreatDoorM14
import Derived.Test.YtgllddebodfhkaaGreatDoorM17
import Derived.Test.YtgllddebodfhkaaGreatDoorM21
import Derived.Test.YtgllddebodfhkaaGreatDoorM23
namespace Go.Proofs.YtgllddebodfhkaaGreatDoor
open Go.RowKit Go.Sort Go.Proofs

theorem row4f {w : World} {b : Nat} {u v x y : Value} {t : TypeId} (h : w.heap[b]? = some (.cells #[u, v, x, y] t (0, 0))) :
    (w.cell? ⟨b, 0, none⟩ = some u ∧ w.cell? ⟨b, 1, none⟩ = some v ∧ w.cell? ⟨b, 2, none⟩ = some x ∧ w.cell? ⟨b, 3, none⟩ = some y) ∧ w.frozen? ⟨b, 0, none⟩ = false ∧ w.frozen? ⟨b, 1, none⟩ = false ∧ w.frozen? ⟨b, 2, none⟩ = false ∧ w.frozen? ⟨b, 3, none⟩ = false :=
  ⟨⟨rowC h 0, rowC h 1, rowC h 2, rowC h 3⟩, rowF h 0, rowF h 1, rowF h 2, rowF h 3⟩

theorem zeroSumsV (w : World) : (zeroValue 60).run Tryz.prog w = .ok (eSums zeroSums) w := by kernel_rfl

set_option maxHeartbeats 1600000 in
set_option maxRecDepth 100000 in
theorem summed_any (s : SumsV) (x : EntV) (w : World) (hs : OkS s) (hn : 0 ≤ x.2.2.2.2.2 ∧ x.2.2.2.2.2 ≤ 1099511627776) :
    Calls Tryz.prog 102 #[.agg (encSums s).toArray, .agg (encEnt x).toArray] w fun e w' => e = .returned (.agg (encSums (summ s x)).toArray) ∧ Below w.heap.size w w' := by
  have hm : mostS = 65970697666560 := rfl
  obtain ⟨q1, q2, q3, q4, q5, q6, q7, q8⟩ := hs
  rw [hm] at q2 q4 q6 q8
  obtain ⟨s1, s2, s3, s4⟩ := s
  simp only at q1 q2 q3 q4 q5 q6 q7 q8
  have c0 : (encEnt x)[0]? = some (.string ⟨x.1.toArray⟩) := rfl
  have c13 : (encEnt x)[13]? = some (.int .i64 x.2.2.2.2.2) := rfl
  obtain ⟨r, hr⟩ : ∃ r, r = summ (s1, s2, s3, s4) x := ⟨_, rfl⟩
  rw [← hr]
  have HR : Hid (r = if x.1 = kIn then (s1 + x.2.2.2.2.2, s2, s3, s4) else if x.1 = kOut then (s1, s2 + x.2.2.2.2.2, s3, s4) else if x.1 = kMore then (s1, s2, s3 + x.2.2.2.2.2, s4) else if x.1 = kLess then (s1, s2, s3, s4 + x.2.2.2.2.2) else (s1, s2, s3, s4)) := hr
  obtain ⟨h0, h1, h2⟩ := heap3 w (.cells #[.int .i64 s1, .int .i64 s2, .int .i64 s3, .int .i64 s4] 60) (.cells (encEnt x).toArray 49) (.cells #[.int .i64 0, .int .i64 0, .int .i64 0, .int .i64 0] 60)
  have b0 : Below w.heap.size w (((w.alloc (.cells #[.int .i64 s1, .int .i64 s2, .int .i64 s3, .int .i64 s4] 60)).alloc (.cells (encEnt x).toArray 49)).alloc (.cells #[.int .i64 0, .int .i64 0, .int .i64 0, .int .i64 0] 60)) := ((below_one w _).alloc (by simp) _).alloc (by simp; omega) _
  have B0 := Lib.hid b0
  clear hr hm b0
  generalize x.2.2.2.2.2 = n at *
  generalize x.1 = k at *
  generalize encEnt x = LX at *
  simp only [encSums]
  go_enter Tryz.func102, Tryz.ntmps102
  go_upto_region 1 with fail
  generalize (((w.alloc (.cells #[.int .i64 s1, .int .i64 s2, .int .i64 s3, .int .i64 s4] 60)).alloc (.cells LX.toArray 49)).alloc (.cells #[.int .i64 0, .int .i64 0, .int .i64 0, .int .i64 0] 60)) = W0 at h0 h1 h2 B0 ⊢
  have e0 : W0.cell? ⟨w.heap.size + 1, 0, none⟩ = some (.string ⟨k.toArray⟩) := (cell_of_row _ _ _ _ _ _ h1).trans (by simpa using c0)
  have e13 : W0.cell? ⟨w.heap.size + 1, 13, none⟩ = some (.int .i64 n) := (cell_of_row _ _ _ _ _ _ h1).trans (by simpa using c13)
  obtain ⟨⟨d0, d1, d2, d3⟩, -⟩ := row4f h0
  clear c0 c13 h1
  by_cases k0 : k = kIn
  · have b0 : (k == [105, 110]) = true := by rw [k0]; rfl
    have H0 := Lib.hid k0
    clear k0
    have HR0 := Lib.hid (show r = (s1 + n, s2, s3, s4) from HR.out.trans (by rw [if_pos H0.out]))
    have hw : IntKind.i64.wrap (s1 + n) = s1 + n := wrap_small (by omega) (by omega)
    clear HR
    go_wp2_with (first | (refine wpList_store_val rfl 3 _ _ rfl w.heap.size 0 (.int .i64 (s1 + n)) rfl rfl rfl _ [.int .i64 s1, .int .i64 s2, .int .i64 s3, .int .i64 s4] h0 (by kernel_rfl) (Nat.le_of_ble_eq_true rfl) rfl ?_; intro w7 h7 t7; have h27 := (t7.block (w.heap.size + 2) (by omega)).trans h2) | (refine wpList_load_at rfl 60 _ rfl w.heap.size 0 rfl [.int .i64 (s1 + n), .int .i64 s2, .int .i64 s3, .int .i64 s4] (Lies.row _ h7) _ Tryz.underlying60 rfl (by kernel_rfl) ?_) | (refine wpList_store_box rfl 60 _ _ rfl (w.heap.size + 2) [.int .i64 (s1 + n), .int .i64 s2, .int .i64 s3, .int .i64 s4] rfl rfl _ [.int .i64 0, .int .i64 0, .int .i64 0, .int .i64 0] h27 (by kernel_rfl) rfl (encSums_one (s1 + n, s2, s3, s4)) ?_; intro w8 h8 t8))
    refine bodyPost_ret (results_cell_row rfl _ _ (w.heap.size + 2) 60 _ (0, 0) _ rfl h8 Tryz.underlying60 rfl (by kernel_rfl)) rfl ?_
    rw [HR0.out]
    exact ⟨rfl, (B0.out.trans (t7.below (Nat.le_refl _))).trans (t8.below (by omega))⟩
  have b0 : (k == [105, 110]) = false := by simpa [kIn] using k0
  have H0 := Lib.hid k0
  clear k0
  by_cases k1 : k = kOut
  · have b1 : (k == [111, 117, 116]) = true := by rw [k1]; rfl
    have H1 := Lib.hid k1
    clear k1
    have HR0 := Lib.hid (show r = (s1, s2 + n, s3, s4) from HR.out.trans (by rw [if_neg H0.out, if_pos H1.out]))
    have hw : IntKind.i64.wrap (s2 + n) = s2 + n := wrap_small (by omega) (by omega)
    clear HR
    go_wp2_with (first | (refine wpList_store_val rfl 3 _ _ rfl w.heap.size 1 (.int .i64 (s2 + n)) rfl rfl rfl _ [.int .i64 s1, .int .i64 s2, .int .i64 s3, .int .i64 s4] h0 (by kernel_rfl) (Nat.le_of_ble_eq_true rfl) rfl ?_; intro w7 h7 t7; have h27 := (t7.block (w.heap.size + 2) (by omega)).trans h2) | (refine wpList_load_at rfl 60 _ rfl w.heap.size 0 rfl [.int .i64 s1, .int .i64 (s2 + n), .int .i64 s3, .int .i64 s4] (Lies.row _ h7) _ Tryz.underlying60 rfl (by kernel_rfl) ?_) | (refine wpList_store_box rfl 60 _ _ rfl (w.heap.size + 2) [.int .i64 s1, .int .i64 (s2 + n), .int .i64 s3, .int .i64 s4] rfl rfl _ [.int .i64 0, .int .i64 0, .int .i64 0, .int .i64 0] h27 (by kernel_rfl) rfl (encSums_one (s1, s2 + n, s3, s4)) ?_; intro w8 h8 t8))
    refine bodyPost_ret (results_cell_row rfl _ _ (w.heap.size + 2) 60 _ (0, 0) _ rfl h8 Tryz.underlying60 rfl (by kernel_rfl)) rfl ?_
    rw [HR0.out]
    exact ⟨rfl, (B0.out.trans (t7.below (Nat.le_refl _))).trans (t8.below (by omega))⟩
  have b1 : (k == [111, 117, 116]) = false := by simpa [kOut] using k1
  have H1 := Lib.hid k1
  clear k1
  by_cases k2 : k = kMore
  · have b2 : (k == [109, 111, 114, 101]) = true := by rw [k2]; rfl
    have H2 := Lib.hid k2
    clear k2
    have HR0 := Lib.hid (show r = (s1, s2, s3 + n, s4) from HR.out.trans (by rw [if_neg H0.out, if_neg H1.out, if_pos H2.out]))
    have hw : IntKind.i64.wrap (s3 + n) = s3 + n := wrap_small (by omega) (by omega)
    clear HR
    go_wp2_with (first | (refine wpList_store_val rfl 3 _ _ rfl w.heap.size 2 (.int .i64 (s3 + n)) rfl rfl rfl _ [.int .i64 s1, .int .i64 s2, .int .i64 s3, .int .i64 s4] h0 (by kernel_rfl) (Nat.le_of_ble_eq_true rfl) rfl ?_; intro w7 h7 t7; have h27 := (t7.block (w.heap.size + 2) (by omega)).trans h2) | (refine wpList_load_at rfl 60 _ rfl w.heap.size 0 rfl [.int .i64 s1, .int .i64 s2, .int .i64 (s3 + n), .int .i64 s4] (Lies.row _ h7) _ Tryz.underlying60 rfl (by kernel_rfl) ?_) | (refine wpList_store_box rfl 60 _ _ rfl (w.heap.size + 2) [.int .i64 s1, .int .i64 s2, .int .i64 (s3 + n), .int .i64 s4] rfl rfl _ [.int .i64 0, .int .i64 0, .int .i64 0, .int .i64 0] h27 (by kernel_rfl) rfl (encSums_one (s1, s2, s3 + n, s4)) ?_; intro w8 h8 t8))
    refine bodyPost_ret (results_cell_row rfl _ _ (w.heap.size + 2) 60 _ (0, 0) _ rfl h8 Tryz.underlying60 rfl (by kernel_rfl)) rfl ?_
    rw [HR0.out]
    exact ⟨rfl, (B0.out.trans (t7.below (Nat.le_refl _))).trans (t8.below (by omega))⟩
  have b2 : (k == [109, 111, 114, 101]) = false := by simpa [kMore] using k2
  have H2 := Lib.hid k2
  clear k2
  by_cases k3 : k = kLess
  · have b3 : (k == [108, 101, 115, 115]) = true := by rw [k3]; rfl
    have H3 := Lib.hid k3
    clear k3
    have HR0 := Lib.hid (show r = (s1, s2, s3, s4 + n) from HR.out.trans (by rw [if_neg H0.out, if_neg H1.out, if_neg H2.out, if_pos H3.out]))
    have hw : IntKind.i64.wrap (s4 + n) = s4 + n := wrap_small (by omega) (by omega)
    clear HR
    go_wp2_with (first | (refine wpList_store_val rfl 3 _ _ rfl w.heap.size 3 (.int .i64 (s4 + n)) rfl rfl rfl _ [.int .i64 s1, .int .i64 s2, .int .i64 s3, .int .i64 s4] h0 (by kernel_rfl) (Nat.le_of_ble_eq_true rfl) rfl ?_; intro w7 h7 t7; have h27 := (t7.block (w.heap.size + 2) (by omega)).trans h2) | (refine wpList_load_at rfl 60 _ rfl w.heap.size 0 rfl [.int .i64 s1, .int .i64 s2, .int .i64 s3, .int .i64 (s4 + n)] (Lies.row _ h7) _ Tryz.underlying60 rfl (by kernel_rfl) ?_) | (refine wpList_store_box rfl 60 _ _ rfl (w.heap.size + 2) [.int .i64 s1, .int .i64 s2, .int .i64 s3, .int .i64 (s4 + n)] rfl rfl _ [.int .i64 0, .int .i64 0, .int .i64 0, .int .i64 0] h27 (by kernel_rfl) rfl (encSums_one (s1, s2, s3, s4 + n)) ?_; intro w8 h8 t8))
    refine bodyPost_ret (results_cell_row rfl _ _ (w.heap.size + 2) 60 _ (0, 0) _ rfl h8 Tryz.underlying60 rfl (by kernel_rfl)) rfl ?_
    rw [HR0.out]
    exact ⟨rfl, (B0.out.trans (t7.below (Nat.le_refl _))).trans (t8.below (by omega))⟩
  have b3 : (k == [108, 101, 115, 115]) = false := by simpa [kLess] using k3
  have H3 := Lib.hid k3
  clear k3
  have HR0 := Lib.hid (show r = (s1, s2, s3, s4) from HR.out.trans (by rw [if_neg H0.out, if_neg H1.out, if_neg H2.out, if_neg H3.out]))
  clear HR
  go_wp2_with (first | (refine wpList_load_at rfl 60 _ rfl w.heap.size 0 rfl [.int .i64 s1, .int .i64 s2, .int .i64 s3, .int .i64 s4] (Lies.row _ h0) _ Tryz.underlying60 rfl (by kernel_rfl) ?_) | (refine wpList_store_box rfl 60 _ _ rfl (w.heap.size + 2) [.int .i64 s1, .int .i64 s2, .int .i64 s3, .int .i64 s4] rfl rfl _ [.int .i64 0, .int .i64 0, .int .i64 0, .int .i64 0] h2 (by kernel_rfl) rfl (encSums_one (s1, s2, s3, s4)) ?_; intro w8 h8 t8))
  refine bodyPost_ret (results_cell_row rfl _ _ (w.heap.size + 2) 60 _ (0, 0) _ rfl h8 Tryz.underlying60 rfl (by kernel_rfl)) rfl ?_
  rw [HR0.out]
  exact ⟨rfl, B0.out.trans (t8.below (by omega))⟩
end Go.Proofs.YtgllddebodfhkaaGreatDoor
namespace Go.Proofs.YtgllddebodfhkaaGreatDoor
open Go.RowKit Go.Sort Go.Proofs

set_option maxHeartbeats 400000 in
set_option maxRecDepth 100000 in
theorem heldBk_any {p : Nat} {F : List Nat} {B : BkV} {w : World} (H : BookIs w p F B) (id : List UInt8) :
    Calls Tryz.prog 23 #[.pointer (some ⟨p, 0, none⟩), .string ⟨id.toArray⟩] w fun e w' => e = .returned (.int .i64 (heldOf B id : Nat)) ∧ w = w' := by
  obtain ⟨g, l, h, s, q, c, -, -, hm⟩ := H
  obtain ⟨⟨-, -, c2, -, -⟩, -⟩ := hm.cells
  have hl := hm.held.look (P := Tryz.prog) (t := 109) (kt := 9) (by kernel_rfl) Tryz.underlying109 (zeroIntE _) id false
  rw [heldF_get] at hl
  clear hm
  generalize heldOf B id = z at hl ⊢
  simp only [eNat, Bool.false_eq_true, if_false] at hl
  go_enter Tryz.func23, Tryz.ntmps23
  go_wp2_with fail
  go_ret
  exact ⟨rfl, rfl⟩

set_option maxHeartbeats 400000 in
set_option maxRecDepth 100000 in
theorem sumsBk_any {p : Nat} {F : List Nat} {B : BkV} {w : World} (H : BookIs w p F B) (code : List UInt8) :
    Calls Tryz.prog 28 #[.pointer (some ⟨p, 0, none⟩), .string ⟨code.toArray⟩] w fun e w' => e = .returned (.agg (encSums (sumsOf B code)).toArray) ∧ Below w.heap.size w w' := by
  obtain ⟨g, l, h, s, q, c, -, -, hm⟩ := H
  obtain ⟨⟨-, -, -, c3, -⟩, -⟩ := hm.cells
  have b0 := below_one w (.cells #[.int .i64 0, .int .i64 0, .int .i64 0, .int .i64 0] 60)
  have c3' := (b0.cell (p := ⟨p, 3, none⟩) (lt_of_cell c3)).trans c3
  have hr := heap_alloc_new w (.cells #[.int .i64 0, .int .i64 0, .int .i64 0, .int .i64 0] 60)
  have hl := (hm.sums.below b0).look (P := Tryz.prog) (t := 110) (kt := 9) (by kernel_rfl) Tryz.underlying110 (zeroSumsV _) code false
  rw [sumsF_get] at hl
  have B0 := Lib.hid b0
  clear hm b0 c3
  generalize sumsOf B code = z at hl ⊢
  simp only [eSums, Bool.false_eq_true, if_false] at hl
  have hz4 : (encSums z).length = 4 := rfl
  have HZ1 := Lib.hid (encSums_one z)
  generalize encSums z = LZ at *
  go_enter Tryz.func28, Tryz.ntmps28
  go_upto_region 1 with fail
  generalize w.alloc (.cells #[.int .i64 0, .int .i64 0, .int .i64 0, .int .i64 0] 60) = W0 at c3' hr hl B0 ⊢
  go_wp2_with (refine wpList_store_box rfl 60 (.tmp 4) _ rfl w.heap.size LZ rfl rfl _ [.int .i64 0, .int .i64 0, .int .i64 0, .int .i64 0] hr (by rw [hz4]; kernel_rfl) (by rw [hz4]; rfl) HZ1.out ?_; intro w1 h1 tu1)
  refine bodyPost_ret (results_cell_row rfl _ _ w.heap.size 60 LZ.toArray (0, 0) _ rfl h1 Tryz.underlying60 rfl (by rw [List.size_toArray, hz4]; kernel_rfl)) rfl ?_
  exact ⟨rfl, B0.out.trans (tu1.below (Nat.le_refl _))⟩

/-- Pieces of goods among lots. -/
def hasM (m : StkV) (c : List UInt8) (l : List (List UInt8 × LotV)) : Nat := (l.map fun x => if x.2.2.1 = c then ofM m x.1 else 0).sum
theorem hasM_mid (m : StkV) (c : List UInt8) (l1 l2 : List (List UInt8 × LotV)) (x : List UInt8 × LotV) : hasM m c (l1 ++ x :: l2) = (if x.2.2.1 = c then ofM m x.1 else 0) + hasM m c (l1 ++ l2) := by
  unfold hasM
  simp only [List.map_append, List.map_cons, List.sum_append, List.sum_cons]
  omega
theorem hasM_perm {m : StkV} {c : List UInt8} {l l' : List (List UInt8 × LotV)} (h : l.Perm l') : hasM m c l = hasM m c l' := by
  unfold hasM
  induction h with
  | nil => rfl
  | cons x _ ih => simp only [List.map_cons, List.sum_cons, ih]
  | swap x y l => simp only [List.map_cons, List.sum_cons]; omega
  | trans _ _ ih1 ih2 => exact ih1.trans ih2
theorem hasM_lots (m : StkV) (c : List UInt8) : ∀ l : List LoH, hasM m c (l.map fun y => (y.1.1, y.1)) = ((l.filter fun x => decide (x.1.2.1 = c)).map fun x => ofM m x.1.1).sum
  | [] => rfl
  | y :: r => by
    have ih := hasM_lots m c r
    unfold hasM at *
    by_cases h : y.1.2.1 = c
    · rw [List.filter_cons_of_pos (by simpa using h)]
      simp only [List.map_cons, List.sum_cons, ih, if_pos h]
    · rw [List.filter_cons_of_neg (by simpa using h)]
      simp only [List.map_cons, List.sum_cons, ih, if_neg h, Nat.zero_add]
theorem keys_lots {B : BkV} (hI : BkI B) : ((B.2.1.map fun y : LoH => (y.1.1, y.1)).map (·.1)).Nodup := by
  rw [List.map_map]
  refine (List.pairwise_map.2 (hI.ls.imp fun h => ?_))
  exact ltB_ne h
theorem lots_perm {B : BkV} (hI : BkI B) {m : List (List UInt8 × LotV)} (hn : (m.map (·.1)).Nodup) (hg : ∀ k, mget m k = lotsF B k) : m.Perm (B.2.1.map fun y : LoH => (y.1.1, y.1)) :=
  perm_mget hn (keys_lots hI) fun k => by
    rw [hg, mget_find]
    rfl

set_option maxHeartbeats 800000 in
set_option maxRecDepth 100000 in
theorem hasBk_any {p : Nat} {F : List Nat} {B : BkV} {w : World} (H : BookIs w p F B) (hI : BkI B) (code : List UInt8) (hh : hasOf B code ≤ 4611686018427387904) :
    Calls Tryz.prog 20 #[.pointer (some ⟨p, 0, none⟩), .string ⟨code.toArray⟩] w fun e w' => e = .returned (.int .i64 (hasOf B code : Nat)) ∧ Below w.heap.size w w' := by
  obtain ⟨g, l, h, s, q, c, -, -, hm⟩ := H
  obtain ⟨⟨-, c1, -, -, -⟩, -⟩ := hm.cells
  have hcell := Lib.hid (fun W (h : Below w.heap.size w W) => ((BookM.below hm h).cells).1)
  have HOF := Lib.hid (fun id W (h : Below w.heap.size w W) => ofStock_P hI.stk id W (hm.stk.below h))
  obtain ⟨m, hM, hget⟩ := hm.lots
  obtain ⟨T, hT⟩ : ∃ T, T = hasOf B code := ⟨_, rfl⟩
  have HT : Hid (hasM B.2.2 code m = T) := by
    show _ = _
    rw [hasM_perm (lots_perm hI hM.nodup hget), hasM_lots, hT]
    rfl
  rw [← hT] at hh ⊢
  clear hT hm hget hI
  generalize B.2.2 = stk at HT HOF
  go_enter Tryz.func20, Tryz.ntmps20
  go_wp2_with (first | (at_range; refine wpList_range_map _ rfl _ 107 rfl _ _ Tryz.underlying107 l m rfl hM ?_; intro w0 hrg0 hb0 hs0) | go_in)
  go_frame
  go_loopw [5] (fun n wr => ∃ (left : List (List UInt8 × LotV)) (a : Nat), Ranging eStr eLot wr l w.heap.size m left ∧ n = .int .i64 (a : Nat) ∧ Hid (a + hasM stk code left = T) ∧ Below w.heap.size w wr) (fun _ wr => wr.rangeLeft l w.heap.size)
  case atStart => exact ⟨m, 0, hrg0, rfl, (Nat.zero_add _).trans HT.out, hb0⟩
  case round =>
    obtain ⟨left, a, hrg, rfl, HA, hb⟩ := hrel
    have HB := Lib.hid hb
    have hal : a ≤ T := by have := HA.out; omega
    clear hb
    go_wp2_with (first | (at_next; refine wpList_next_map _ rfl _ rfl l w.heap.size m left rfl hrg ?_ ?_) | go_in)
    · intro hl0
      have hfin := Lib.hid (show a = T by have := HA.out; rw [hl0] at this; exact this)
      clear hl0
      go_wp2
      go_ret
      rw [hfin.out]
      exact ⟨rfl, HB.out⟩
    · intro l1 id x1 x2 x3 x4 l2 w1 hl hrg1 ht1 hen
      have HL := Lib.hid hl
      have HS := Lib.hid (hasM_mid stk code l1 l2 (id, (x1, x2, x3, x4)))
      have hb1 := HB.out.trans (ht1.below (Nat.le_refl _))
      have hlen := Lib.hid (show (l1 ++ l2).length < left.length by rw [hl]; simp)
      have HRG := Lib.hid hrg
      simp only [eStr, eLot, encLot] at hen
      have hb2 := hb1.alloc hb1.size (.cells #[.string ⟨x1.toArray⟩, .string ⟨x2.toArray⟩, .int .i64 x3, .int .i64 x4] 47)
      obtain ⟨-, -, -, -, c4⟩ := hcell.out _ hb2
      have B2 := Lib.hid hb2
      have hrg2 := Lib.hid (hrg1.below (below_one _ (.cells #[.string ⟨x1.toArray⟩, .string ⟨x2.toArray⟩, .int .i64 x3, .int .i64 x4] 47)))
      clear hl ht1 hrg hb1 hb2 hrg1
      by_cases hk : x2 = code
      · have hkb : (x2 == code) = true := by simpa using hk
        have hsum : a + ofM stk id + hasM stk code (l1 ++ l2) = T := by
          have h1 := HA.out
          have h2 := HS.out
          rw [← HL.out, if_pos hk] at h2
          simp only at h2
          omega
        have HO := Lib.hid (HOF.out id _ B2.out)
        obtain ⟨v, hv⟩ : ∃ v, v = ofM stk id := ⟨_, rfl⟩
        rw [← hv] at hsum HO
        have hle : a + v ≤ T := by omega
        have HSM := Lib.hid hsum
        clear hsum hk hv
        go_wp2_with fail
        refine HO.out.mono ?_
        rintro e w2 ⟨rfl, b2⟩
        have hrg3 := hrg2.out.below b2
        have B3 := Lib.hid (B2.out.trans (b2.mono B2.out.size))
        clear b2
        go_wp2_with fail
        go_roundw
        case rel => exact ⟨l1 ++ l2, a + v, hrg3, by go_num, HSM.out, B3.out⟩
        case measure => rw [hrg3.left_eq, HRG.out.left_eq]; exact hlen.out
      · have hkb : (x2 == code) = false := by simpa using hk
        have hsum : a + hasM stk code (l1 ++ l2) = T := by
          have h1 := HA.out
          have h2 := HS.out
          rw [← HL.out, if_neg hk] at h2
          omega
        have HSM := Lib.hid hsum
        clear hsum hk
        go_wp2_with fail
        go_roundw
        case rel => exact ⟨l1 ++ l2, a, hrg2.out, rfl, HSM.out, B2.out⟩
        case measure => rw [hrg2.out.left_eq, HRG.out.left_eq]; exact hlen.out
end Go.Proofs.YtgllddebodfhkaaGreatDoor
