/- Entries: Check, whole. Cells of one block set one behind the other. The document's book in memory: rows that it owns, and stores into them. -/
import Derived.Test.YtchiojiicehpeaaGreatDoorM12
import Derived.Test.YtchiojiicehpeaaGreatDoorM17
import Derived.Test.YtchiojiicehpeaaGreatDoorM21
import Derived.Test.YtchiojiicehpeaaGreatDoorM26
namespace Go.Proofs.YtchiojiicehpeaaGreatDoor
open Go.RowKit Go.Sort Go.Proofs
theorem entE_pieces {x : EntV} (h : isP x.1 = true) : entE x = piecesE x := by
 obtain ⟨-, h2, h3⟩ := isP_kind h
 unfold entE
 rw [if_neg h2, if_neg h3, if_pos h]
theorem entE_kind {x : EntV} (h1 : x.1 ≠ kGoods) (h2 : x.1 ≠ kLot) (h : isP x.1 = false) : entE x = 4 := by
 unfold entE
 rw [if_neg h1, if_neg h2, if_neg (by simp [h])]
theorem ent_step {W w2 : World} {eb : Nat} {row : Array Value} {t : TypeId} (hb : Below W.drew.heap.size W.drew w2) (x : EntV) (hc : Cells14 W eb x) (hf : W.heap[eb + 1]? = some (.cells row t (0, 0))) :
  Cells14 w2 eb x ∧ w2.heap[eb + 1]? = some (.cells row t (0, 0)) :=
 ⟨Cells14.below (w := W.drew) hc hb, (hb.block _ (show eb + 1 < W.heap.size from row_lt hf)).trans hf⟩
theorem row_cells {W : World} {b : Nat} {row : Array Value} {t : TypeId} (hf : W.heap[b]? = some (.cells row t (0, 0))) (i : Nat) (v : Value) (hv : row[i]? = some v) : W.cell? ⟨b, i, none⟩ = some v ∧ W.frozen? ⟨b, i, none⟩ = false :=
 ⟨(cell_of_row _ _ _ _ _ _ hf).trans hv, frozen_of_row _ _ _ _ _ hf⟩
theorem want_goods {W : World} {eb : Nat} {x : EntV} {k : List UInt8} {g1 : List UInt8} {g2 : Int} (hc : Cells14 W eb x)
  (hf : W.heap[eb + 1]? = some (.cells #[.string ⟨k.toArray⟩, .string ⟨#[]⟩, .int .i64 0, .string ⟨#[]⟩, .string ⟨#[]⟩, .int .i64 0, .int .i64 0, .string ⟨#[]⟩, .int .i64 0, .int .i64 0, .string ⟨#[]⟩, .int .i64 0, .int .i64 0, .int .i64 0] 67 (0, 0))) :
  Cells14 ((W.setCell ⟨eb + 1, 1, none⟩ (.string ⟨g1.toArray⟩)).setCell ⟨eb + 1, 2, none⟩ (.int .i64 g2)) eb x ∧
  Cells14 ((W.setCell ⟨eb + 1, 1, none⟩ (.string ⟨g1.toArray⟩)).setCell ⟨eb + 1, 2, none⟩ (.int .i64 g2)) (eb + 1) (k, (g1, g2), ([], [], 0, 0), ([], 0, 0), ([], 0, 0), 0) := by
 have h1 := heap_setCell_same W (eb + 1) 1 _ _ (.string ⟨g1.toArray⟩) hf
 have h2 := heap_setCell_same _ (eb + 1) 2 _ _ (.int .i64 g2) h1
 constructor
 ·intro i v hv
  have := World.cell?_setCells_out (eb + 1) [.string ⟨g1.toArray⟩, .int .i64 g2] 1 W ⟨eb, i, none⟩ (fun h => absurd (show eb = eb + 1 from h) (by omega))
  exact (show _ = _ from this).trans (hc i v hv)
 ·intro i v hv
  exact (cell_of_row _ _ _ _ _ _ h2).trans (by simpa [encEnt] using hv)
theorem want_lot {W : World} {eb : Nat} {x : EntV} {k : List UInt8} {l1 l2 : List UInt8} {l3 l4 : Int} (hc : Cells14 W eb x)
  (hf : W.heap[eb + 1]? = some (.cells #[.string ⟨k.toArray⟩, .string ⟨#[]⟩, .int .i64 0, .string ⟨#[]⟩, .string ⟨#[]⟩, .int .i64 0, .int .i64 0, .string ⟨#[]⟩, .int .i64 0, .int .i64 0, .string ⟨#[]⟩, .int .i64 0, .int .i64 0, .int .i64 0] 67 (0, 0))) :
  Cells14 ((((W.setCell ⟨eb + 1, 3, none⟩ (.string ⟨l1.toArray⟩)).setCell ⟨eb + 1, 4, none⟩ (.string ⟨l2.toArray⟩)).setCell ⟨eb + 1, 5, none⟩ (.int .i64 l3)).setCell ⟨eb + 1, 6, none⟩ (.int .i64 l4)) eb x ∧
  Cells14 ((((W.setCell ⟨eb + 1, 3, none⟩ (.string ⟨l1.toArray⟩)).setCell ⟨eb + 1, 4, none⟩ (.string ⟨l2.toArray⟩)).setCell ⟨eb + 1, 5, none⟩ (.int .i64 l3)).setCell ⟨eb + 1, 6, none⟩ (.int .i64 l4)) (eb + 1) (k, ([], 0), (l1, l2, l3, l4), ([], 0, 0), ([], 0, 0), 0) := by
 have h1 := heap_setCell_same W (eb + 1) 3 _ _ (.string ⟨l1.toArray⟩) hf
 have h2 := heap_setCell_same _ (eb + 1) 4 _ _ (.string ⟨l2.toArray⟩) h1
 have h3 := heap_setCell_same _ (eb + 1) 5 _ _ (.int .i64 l3) h2
 have h4 := heap_setCell_same _ (eb + 1) 6 _ _ (.int .i64 l4) h3
 constructor
 ·intro i v hv
  have := World.cell?_setCells_out (eb + 1) [.string ⟨l1.toArray⟩, .string ⟨l2.toArray⟩, .int .i64 l3, .int .i64 l4] 3 W ⟨eb, i, none⟩ (fun h => absurd (show eb = eb + 1 from h) (by omega))
  exact (show _ = _ from this).trans (hc i v hv)
 ·intro i v hv
  exact (cell_of_row _ _ _ _ _ _ h4).trans (by simpa [encEnt] using hv)
set_option maxHeartbeats 3200000 in
set_option maxRecDepth 100000 in
theorem checkEnt_c (E : Nat → Addr) (x : EntV) (h1 : x.2.2.1.1.length ≤ 1000000000) (h2 : x.2.2.1.2.1.length ≤ 1000000000) (w : World) (hG : EntCG E w) :
  Calls Tryz.prog 68 #[.agg (encEnt x).toArray] w fun e w' => e = .returned (errOf E (entE x)) ∧ Below w.heap.size w w' := by
 have HFO := Lib.hid (fun W => formOf_any x.1 W)
 have HPC := Lib.hid (fun W h => pieces_any E x (isP x.1) W h)
 have HGO := Lib.hid (fun W (h : LotCG E W) => checkGoods_any E x.2.1 W h.name h.bound)
 have HLO := Lib.hid (fun W (h : LotCG E W) => checkLot_c E x.2.2.1 h1 h2 W h)
 have HQ := Lib.hid (fun y W => neqEnt x y W)
 have HEP := Lib.hid (entE_pieces (x := x))
 have HEK := Lib.hid (entE_kind (x := x))
 have HEG : Hid (x.1 = kGoods → entE x = if goodsE x.2.1 ≠ 0 then goodsE x.2.1 else if x ≠ (x.1, x.2.1, zeroLot, zeroPlace, zeroPlace, 0) then 3 else 0) := fun h => by unfold entE; rw [if_pos h]
 have HEL : Hid (x.1 = kLot → entE x = if lotE x.2.2.1 ≠ 0 then lotE x.2.2.1 else if x ≠ (x.1, zeroGoods, x.2.2.1, zeroPlace, zeroPlace, 0) then 3 else 0) := fun h => by unfold entE; rw [if_neg (by rw [h]; decide), if_pos h]
 have HG := Lib.hid (fun W (h : Below w.heap.size w W) => hG.below h)
 have b0 := below_one w (.cells (encEnt x).toArray 67)
 have hc := Cells14.new w x
 obtain ⟨r, hr⟩ : ∃ r, r = entE x := ⟨_, rfl⟩
 rw [← hr] at HEP HEK HEG HEL ⊢
 clear hr hG h1 h2
 obtain ⟨k, ⟨g1, g2⟩, ⟨l1, l2, l3, l4⟩, ⟨f1, f2, f3⟩, ⟨t1, t2, t3⟩, n⟩ := x
 simp only [encEnt, encGoods, encLot] at HFO HPC HGO HLO HQ HEP HEK HEG HEL b0 hc ⊢
 generalize piecesE (k, (g1, g2), (l1, l2, l3, l4), (f1, f2, f3), (t1, t2, t3), n) = pe at HPC HEP
 generalize hbP : isP k = bP at *
 clear hbP
 go_enter Tryz.func68, Tryz.ntmps68
 go_wp2_with fail
 have hwant : ((w.alloc (.cells #[.string ⟨k.toArray⟩, .string ⟨g1.toArray⟩, .int .i64 g2, .string ⟨l1.toArray⟩, .string ⟨l2.toArray⟩, .int .i64 l3, .int .i64 l4, .string ⟨f1.toArray⟩, .int .i64 f2, .int .i64 f3, .string ⟨t1.toArray⟩, .int .i64 t2, .int .i64 t3, .int .i64 n] 67)).alloc (.cells #[.string ⟨k.toArray⟩, .string ⟨#[]⟩, .int .i64 0, .string ⟨#[]⟩, .string ⟨#[]⟩, .int .i64 0, .int .i64 0, .string ⟨#[]⟩, .int .i64 0, .int .i64 0, .string ⟨#[]⟩, .int .i64 0, .int .i64 0, .int .i64 0] 67)).heap[w.heap.size + 1]? = some (.cells #[.string ⟨k.toArray⟩, .string ⟨#[]⟩, .int .i64 0, .string ⟨#[]⟩, .string ⟨#[]⟩, .int .i64 0, .int .i64 0, .string ⟨#[]⟩, .int .i64 0, .int .i64 0, .string ⟨#[]⟩, .int .i64 0, .int .i64 0, .int .i64 0] 67 (0, 0)) := by
  have := heap_alloc_new (w.alloc (.cells #[.string ⟨k.toArray⟩, .string ⟨g1.toArray⟩, .int .i64 g2, .string ⟨l1.toArray⟩, .string ⟨l2.toArray⟩, .int .i64 l3, .int .i64 l4, .string ⟨f1.toArray⟩, .int .i64 f2, .int .i64 f3, .string ⟨t1.toArray⟩, .int .i64 t2, .int .i64 t3, .int .i64 n] 67)) (.cells #[.string ⟨k.toArray⟩, .string ⟨#[]⟩, .int .i64 0, .string ⟨#[]⟩, .string ⟨#[]⟩, .int .i64 0, .int .i64 0, .string ⟨#[]⟩, .int .i64 0, .int .i64 0, .string ⟨#[]⟩, .int .i64 0, .int .i64 0, .int .i64 0] 67)
  simpa using this
 have hc' := hc.below (below_one _ (.cells #[.string ⟨k.toArray⟩, .string ⟨#[]⟩, .int .i64 0, .string ⟨#[]⟩, .string ⟨#[]⟩, .int .i64 0, .int .i64 0, .string ⟨#[]⟩, .int .i64 0, .int .i64 0, .string ⟨#[]⟩, .int .i64 0, .int .i64 0, .int .i64 0] 67))
 have b0' := b0.alloc b0.size (.cells #[.string ⟨k.toArray⟩, .string ⟨#[]⟩, .int .i64 0, .string ⟨#[]⟩, .string ⟨#[]⟩, .int .i64 0, .int .i64 0, .string ⟨#[]⟩, .int .i64 0, .int .i64 0, .string ⟨#[]⟩, .int .i64 0, .int .i64 0, .int .i64 0] 67)
 generalize ((w.alloc (.cells #[.string ⟨k.toArray⟩, .string ⟨g1.toArray⟩, .int .i64 g2, .string ⟨l1.toArray⟩, .string ⟨l2.toArray⟩, .int .i64 l3, .int .i64 l4, .string ⟨f1.toArray⟩, .int .i64 f2, .int .i64 f3, .string ⟨t1.toArray⟩, .int .i64 t2, .int .i64 t3, .int .i64 n] 67)).alloc (.cells #[.string ⟨k.toArray⟩, .string ⟨#[]⟩, .int .i64 0, .string ⟨#[]⟩, .string ⟨#[]⟩, .int .i64 0, .int .i64 0, .string ⟨#[]⟩, .int .i64 0, .int .i64 0, .string ⟨#[]⟩, .int .i64 0, .int .i64 0, .int .i64 0] 67)) = W0 at hwant hc' b0' ⊢
 clear hc b0
 refine (HFO.out W0).mono ?_
 rintro e w1 ⟨rfl, b1⟩
 have B1 := Lib.hid (b0'.trans (b1.mono b0'.size))
 have bo := below_one w1 (.cells #[.bool (hasF k), .bool (hasT k), .bool bP] 207)
 have C1 := Lib.hid ((hc'.below b1).below bo)
 have f1 := (b1.block _ (row_lt hwant)).trans hwant
 have F1 := Lib.hid ((bo.block _ (row_lt f1)).trans f1)
 have df : (w1.alloc (.cells #[.bool (hasF k), .bool (hasT k), .bool bP] 207)).cell? ⟨w1.heap.size, 0, none⟩ = some (.bool (hasF k)) := cell_of_row _ _ _ _ _ _ (heap_alloc_new _ _)
 have dt : (w1.alloc (.cells #[.bool (hasF k), .bool (hasT k), .bool bP] 207)).cell? ⟨w1.heap.size, 1, none⟩ = some (.bool (hasT k)) := cell_of_row _ _ _ _ _ _ (heap_alloc_new _ _)
 have di : (w1.alloc (.cells #[.bool (hasF k), .bool (hasT k), .bool bP] 207)).cell? ⟨w1.heap.size, 2, none⟩ = some (.bool bP) := cell_of_row _ _ _ _ _ _ (heap_alloc_new _ _)
 have B2 := Lib.hid (B1.out.trans (bo.mono B1.out.size))
 clear bo f1
 clear b1 b0' hc' hwant HFO B1
 obtain ⟨c0, c1, c2, c3, c4, c5, c6, c7, c8, c9, c10, c11, c12, c13⟩ := C1.out.all
 simp only at c0 c1 c2 c3 c4 c5 c6 c7 c8 c9 c10 c11 c12 c13
 rcases Decidable.em (k = kGoods) with hkg | hkg
 ·have HKG := Lib.hid hkg
  have hk : (k == [103, 111, 111, 100, 115]) = true := by rw [hkg]; rfl
  clear hkg
  go_wp2_with fail
  go_region_with (go_at_call 127; refine (HGO.out _ (HG.out _ B2.out.drew).read).mono ?_; rintro e w2 ⟨rfl, b2⟩; obtain ⟨C2, F2⟩ := ent_step b2 _ C1.out F1.out; have e1 := C2 1 _ rfl; have e2 := C2 2 _ rfl; obtain ⟨k1, fr1⟩ := row_cells F2 1 _ rfl; obtain ⟨k2, fr2⟩ := row_cells F2 2 _ rfl)
  all_goals
   obtain ⟨C3, N3⟩ := want_goods (g1 := g1) (g2 := g2) C2 F2
   have B3 := Lib.hid (((B2.out.drew.trans (b2.mono B2.out.drew.size)).setCell (p := ⟨w.heap.size + 1, 1, none⟩) (Nat.le_succ _) (.string ⟨g1.toArray⟩)).setCell (p := ⟨w.heap.size + 1, 2, none⟩) (Nat.le_succ _) (.int .i64 g2))
   generalize ((w2.setCell ⟨w.heap.size + 1, 1, none⟩ (.string ⟨g1.toArray⟩)).setCell ⟨w.heap.size + 1, 2, none⟩ (.int .i64 g2)) = W3 at C3 N3 B3 ⊢
   clear C2 F2 b2
   have HER := HEG.out HKG.out
   obtain ⟨c0, c1, c2, c3, c4, c5, c6, c7, c8, c9, c10, c11, c12, c13⟩ := C3.all
   obtain ⟨n0, n1, n2, n3, n4, n5, n6, n7, n8, n9, n10, n11, n12, n13⟩ := N3.all
   simp only at c0 c1 c2 c3 c4 c5 c6 c7 c8 c9 c10 c11 c12 c13 n0 n1 n2 n3 n4 n5 n6 n7 n8 n9 n10 n11 n12 n13
   clear C3 N3
   by_cases h0 : goodsE (g1, g2) = 0
   ·rw [h0, errOf_zero]
    have hq := fun W => HQ.out (k, (g1, g2), ([], [], 0, 0), ([], 0, 0), ([], 0, 0), 0) W
    simp only at hq
    have hsh := (HG.out W3 B3.out).shape
    unfold ErrAt at hsh
    by_cases hd : (k, (g1, g2), (l1, l2, l3, l4), (f1, f2, f3), (t1, t2, t3), n) = ((k, (g1, g2), ([], [], 0, 0), ([], 0, 0), ([], 0, 0), 0) : EntV)
    ·have HR := Lib.hid (show r = 0 from HER.trans ((if_neg (by simp [h0])).trans (if_neg (fun h => h hd))))
     have hdd : decide ((k, (g1, g2), (l1, l2, l3, l4), (f1, f2, f3), (t1, t2, t3), n) = ((k, (g1, g2), ([], [], 0, 0), ([], 0, 0), ([], 0, 0), 0) : EntV)) = true := decide_eq_true hd
     simp only [hdd, Bool.not_true] at hq
     clear hdd hd h0 HER
     go_wp2_with fail
     go_ret
     rw [HR.out]
     exact ⟨rfl, B3.out⟩
    ·have HR := Lib.hid (show r = 3 from HER.trans ((if_neg (by simp [h0])).trans (if_pos hd)))
     have hdd : decide ((k, (g1, g2), (l1, l2, l3, l4), (f1, f2, f3), (t1, t2, t3), n) = ((k, (g1, g2), ([], [], 0, 0), ([], 0, 0), ([], 0, 0), 0) : EntV)) = false := decide_eq_false hd
     simp only [hdd, Bool.not_false] at hq
     clear hdd hd h0 HER
     go_wp2_with fail
     go_ret
     rw [HR.out]
     exact ⟨rfl, B3.out⟩
   ·have HR := Lib.hid (show r = goodsE (g1, g2) from HER.trans (if_pos h0))
    rw [errOf_pos _ _ h0]
    have H0 := Lib.hid h0
    clear h0 HER
    go_wp2_with fail
    go_ret
    rw [HR.out, errOf_pos _ _ H0.out]
    exact ⟨rfl, B3.out⟩
 have hk : (k == [103, 111, 111, 100, 115]) = false := beq_eq_false_iff_ne.2 hkg
 have HKG := Lib.hid hkg
 clear hkg
 rcases Decidable.em (k = kLot) with hkl | hkl
 ·have HKL := Lib.hid hkl
  have hk2 : (k == [108, 111, 116]) = true := by rw [hkl]; rfl
  clear hkl
  go_wp2_with fail
  go_region_with (go_at_call 128; refine (HLO.out _ (HG.out _ B2.out.drew).read).mono ?_; rintro e w2 ⟨rfl, b2⟩; obtain ⟨C2, F2⟩ := ent_step b2 _ C1.out F1.out; have e3 := C2 3 _ rfl; have e4 := C2 4 _ rfl; have e5 := C2 5 _ rfl; have e6 := C2 6 _ rfl; obtain ⟨k3, fr3⟩ := row_cells F2 3 _ rfl; obtain ⟨k4, fr4⟩ := row_cells F2 4 _ rfl; obtain ⟨k5, fr5⟩ := row_cells F2 5 _ rfl; obtain ⟨k6, fr6⟩ := row_cells F2 6 _ rfl)
  all_goals
   obtain ⟨C3, N3⟩ := want_lot (l1 := l1) (l2 := l2) (l3 := l3) (l4 := l4) C2 F2
   have B3 := Lib.hid (((((B2.out.drew.trans (b2.mono B2.out.drew.size)).setCell (p := ⟨w.heap.size + 1, 3, none⟩) (Nat.le_succ _) (.string ⟨l1.toArray⟩)).setCell (p := ⟨w.heap.size + 1, 4, none⟩) (Nat.le_succ _) (.string ⟨l2.toArray⟩)).setCell (p := ⟨w.heap.size + 1, 5, none⟩) (Nat.le_succ _) (.int .i64 l3)).setCell (p := ⟨w.heap.size + 1, 6, none⟩) (Nat.le_succ _) (.int .i64 l4))
   generalize ((((w2.setCell ⟨w.heap.size + 1, 3, none⟩ (.string ⟨l1.toArray⟩)).setCell ⟨w.heap.size + 1, 4, none⟩ (.string ⟨l2.toArray⟩)).setCell ⟨w.heap.size + 1, 5, none⟩ (.int .i64 l3)).setCell ⟨w.heap.size + 1, 6, none⟩ (.int .i64 l4)) = W3 at C3 N3 B3 ⊢
   clear C2 F2 b2
   have HER := HEL.out HKL.out
   obtain ⟨c0, c1, c2, c3, c4, c5, c6, c7, c8, c9, c10, c11, c12, c13⟩ := C3.all
   obtain ⟨n0, n1, n2, n3, n4, n5, n6, n7, n8, n9, n10, n11, n12, n13⟩ := N3.all
   simp only at c0 c1 c2 c3 c4 c5 c6 c7 c8 c9 c10 c11 c12 c13 n0 n1 n2 n3 n4 n5 n6 n7 n8 n9 n10 n11 n12 n13
   clear C3 N3
   by_cases h0 : lotE (l1, l2, l3, l4) = 0
   ·rw [h0, errOf_zero]
    have hq := fun W => HQ.out (k, ([], 0), (l1, l2, l3, l4), ([], 0, 0), ([], 0, 0), 0) W
    simp only at hq
    have hsh := (HG.out W3 B3.out).shape
    unfold ErrAt at hsh
    by_cases hd : (k, (g1, g2), (l1, l2, l3, l4), (f1, f2, f3), (t1, t2, t3), n) = ((k, ([], 0), (l1, l2, l3, l4), ([], 0, 0), ([], 0, 0), 0) : EntV)
    ·have HR := Lib.hid (show r = 0 from HER.trans ((if_neg (by simp [h0])).trans (if_neg (fun h => h hd))))
     have hdd : decide ((k, (g1, g2), (l1, l2, l3, l4), (f1, f2, f3), (t1, t2, t3), n) = ((k, ([], 0), (l1, l2, l3, l4), ([], 0, 0), ([], 0, 0), 0) : EntV)) = true := decide_eq_true hd
     simp only [hdd, Bool.not_true] at hq
     clear hdd hd h0 HER
     go_wp2_with fail
     go_ret
     rw [HR.out]
     exact ⟨rfl, B3.out⟩
    ·have HR := Lib.hid (show r = 3 from HER.trans ((if_neg (by simp [h0])).trans (if_pos hd)))
     have hdd : decide ((k, (g1, g2), (l1, l2, l3, l4), (f1, f2, f3), (t1, t2, t3), n) = ((k, ([], 0), (l1, l2, l3, l4), ([], 0, 0), ([], 0, 0), 0) : EntV)) = false := decide_eq_false hd
     simp only [hdd, Bool.not_false] at hq
     clear hdd hd h0 HER
     go_wp2_with fail
     go_ret
     rw [HR.out]
     exact ⟨rfl, B3.out⟩
   ·have HR := Lib.hid (show r = lotE (l1, l2, l3, l4) from HER.trans (if_pos h0))
    rw [errOf_pos _ _ h0]
    have H0 := Lib.hid h0
    clear h0 HER
    go_wp2_with fail
    go_ret
    rw [HR.out, errOf_pos _ _ H0.out]
    exact ⟨rfl, B3.out⟩
 have hk2 : (k == [108, 111, 116]) = false := beq_eq_false_iff_ne.2 hkl
 have HKL := Lib.hid hkl
 clear hkl
 cases bP with
 |true =>
  go_wp2_with fail
  refine (HPC.out _ (HG.out _ B2.out)).mono ?_
  rintro e w2 ⟨rfl, b2⟩
  have B3 := Lib.hid (B2.out.trans (b2.mono B2.out.size))
  have HR := Lib.hid (HEP.out (by simp))
  clear b2 c0 c1 c2 c3 c4 c5 c6 c7 c8 c9 c10 c11 c12 c13 df dt di
  go_wp2
  go_ret
  rw [HR.out]
  exact ⟨rfl, B3.out⟩
 |false =>
  have hkd := (HG.out _ B2.out).kind
  unfold ErrAt at hkd
  have HR := Lib.hid (HEK.out HKG.out HKL.out rfl)
  go_wp2_with fail
  go_ret
  rw [HR.out]
  exact ⟨rfl, B2.out⟩
end Go.Proofs.YtchiojiicehpeaaGreatDoor
namespace Go.Proofs.YtchiojiicehpeaaGreatDoor
open Go.RowKit
def sets (w : World) (b : Nat) : List (Nat × Value) → World
 |[] => w
 |(i, v) :: r => sets (w.setCell ⟨b, i, none⟩ v) b r
theorem set_rowL {w : World} {b : Nat} {t : TypeId} {L : List Value} (h : w.heap[b]? = some (.cells L.toArray t (0, 0))) (i : Nat) (v : Value) : (w.setCell ⟨b, i, none⟩ v).heap[b]? = some (.cells (L.set i v).toArray t (0, 0)) := by
 have h2 := heap_setCell_same w b i _ _ v h
 have e : L.toArray.setIfInBounds i v = (L.set i v).toArray := by
  apply Array.ext'
  simp
 rw [e] at h2
 exact h2
theorem sets_row {b : Nat} {t : TypeId} : ∀ (l : List (Nat × Value)) {w : World} {L : List Value}, w.heap[b]? = some (.cells L.toArray t (0, 0)) → (sets w b l).heap[b]? = some (.cells (l.foldl (fun L p => L.set p.1 p.2) L).toArray t (0, 0))
 |[], _, _, h => h
 |(i, v) :: r, _, _, h => sets_row r (set_rowL h i v)
theorem sets_turned {b : Nat} : ∀ (l : List (Nat × Value)) (w : World), Turned b w (sets w b l)
 |[], w => Turned.refl b w
 |(i, v) :: r, w => (show Turned b w (w.setCell ⟨b, i, none⟩ v) from ⟨rfl, rfl, rfl, by simp [World.setCell], fun k hk => Below.heap_setCell w ⟨b, i, none⟩ v k hk⟩).trans (sets_turned r _)
end Go.Proofs.YtchiojiicehpeaaGreatDoor
namespace Go.Proofs.YtchiojiicehpeaaGreatDoor
open Go.RowKit Go.Sort Go.Proofs
def encGoS (x : GoS) : List Value := [.string ⟨x.1.1.toArray⟩, .int .i64 x.1.2, .int .i64 x.2.1, .int .i64 x.2.2.1, .int .i64 x.2.2.2.1, .int .i64 x.2.2.2.2]
theorem encGoS_len (x : GoS) : (encGoS x).length = 6 := rfl
theorem encGoS_one (x : GoS) : ∀ v ∈ encGoS x, v.oneCell' = true := fun v hv => by
 simp [encGoS] at hv
 rcases hv with rfl | rfl | rfl | rfl | rfl | rfl <;> rfl
def encLoH (x : LoH) : List Value := [.string ⟨x.1.1.toArray⟩, .string ⟨x.1.2.1.toArray⟩, .int .i64 x.1.2.2.1, .int .i64 x.1.2.2.2, .int .i64 (x.2 : Nat)]
theorem encLoH_len (x : LoH) : (encLoH x).length = 5 := rfl
theorem encLoH_one (x : LoH) : ∀ v ∈ encLoH x, v.oneCell' = true := fun v hv => by
 simp [encLoH] at hv
 rcases hv with rfl | rfl | rfl | rfl | rfl <;> rfl
theorem flat_splice {α : Type} {enc : α → List Value} {k : Nat} (hk : ∀ x, (enc x).length = k) : ∀ (l : List α) (i : Nat) (hi : i < l.length) (y : α) (c : Nat) (vs : List Value), enc y = (enc l[i]).take c ++ vs ++ (enc l[i]).drop (c + vs.length) → c + vs.length ≤ k →
  flatL enc (l.set i y) = (flatL enc l).take (i * k + c) ++ vs ++ (flatL enc l).drop (i * k + c + vs.length)
 |[], i, hi, _, _, _, _, _ => by simp at hi
 |x :: r, 0, hi, y, c, vs, hy, hc => by
  have e1 : flatL enc (x :: r) = enc x ++ flatL enc r := rfl
  have e2 : flatL enc ((x :: r).set 0 y) = enc y ++ flatL enc r := rfl
  have hx : (x :: r)[0] = x := rfl
  rw [hx] at hy
  have hl := hk x
  rw [e1, e2, hy, Nat.zero_mul, Nat.zero_add, List.take_append_of_le_length (by omega), List.drop_append_of_le_length (by omega)]
  simp only [List.append_assoc]
 |x :: r, i + 1, hi, y, c, vs, hy, hc => by
  have e1 : flatL enc (x :: r) = enc x ++ flatL enc r := rfl
  have e2 : flatL enc ((x :: r).set (i + 1) y) = enc x ++ flatL enc (r.set i y) := rfl
  have hl := hk x
  have hi' : i < r.length := by simpa using hi
  have ih := flat_splice hk r i hi' y c vs (by simpa using hy) hc
  have ek : (i + 1) * k + c = (enc x).length + (i * k + c) := by rw [hl, Nat.add_mul]; omega
  rw [e1, e2, ih, ek, List.take_length_add_append, Nat.add_assoc (enc x).length, List.drop_length_add_append]
  simp only [List.append_assoc]
theorem splice_take {α : Type} (L vs : List α) (off N : Nat) (h : off + vs.length ≤ N) (hN : N ≤ L.length) : (L.take off ++ vs ++ L.drop (off + vs.length)).take N = (L.take N).take off ++ vs ++ (L.take N).drop (off + vs.length) := by
 have hl : (L.take off ++ vs).length = off + vs.length := by
  rw [List.length_append, List.length_take, Nat.min_eq_left (by omega)]
 rw [List.take_append, List.take_of_length_le (by omega), hl, List.take_take, Nat.min_eq_left (by omega), List.drop_take]
theorem own_splice {w w' : World} {B e size n g cap : Nat} {t : TypeId} {xs vs L : List Value} {off : Nat} (h : w.ownsRow B e size (.slice (some ⟨g, 0, none⟩) n cap) n xs) (hL : w.heap[g]? = some (.cells L.toArray t (0, 0)))
  (h' : w'.heap[g]? = some (.cells (L.take off ++ vs ++ L.drop (off + vs.length)).toArray t (0, 0))) (ho : off + vs.length ≤ n * size) :
  w'.ownsRow B e size (.slice (some ⟨g, 0, none⟩) n cap) n (xs.take off ++ vs ++ xs.drop (off + vs.length)) := by
 obtain ⟨h1, h2⟩ := h
 rcases h2 with ⟨h2, _⟩ | ⟨g', cap', cur, h2, h3, h4, h5, h6, h7, h8⟩
 ·cases h2
 ·cases h2
  rw [hL] at h4
  cases h4
  have hn : n * size ≤ cap * size := Nat.mul_le_mul_right _ h5
  have hsz : L.length = cap * size := by simpa using h7
  have h8' : L.take (n * size) = xs := by simpa using h8
  refine ⟨?_, .inr ⟨g, cap, _, rfl, h3, h', h5, h6, ?_, ?_⟩⟩
  ·simp only [List.length_append, List.length_take, List.length_drop]
   omega
  ·simp only [List.size_toArray, List.length_append, List.length_take, List.length_drop]
   omega
  ·rw [← h8']
   exact splice_take L vs off _ ho (by omega)
theorem own_block {w : World} {B e size n g cap : Nat} {xs : List Value} (h : w.ownsRow B e size (.slice (some ⟨g, 0, none⟩) n cap) n xs) : ∃ L : List Value, w.heap[g]? = some (.cells L.toArray e (0, 0)) ∧ n * size ≤ L.length := by
 obtain ⟨h1, h2⟩ := h
 rcases h2 with ⟨h2, _⟩ | ⟨g', cap', cur, h2, h3, h4, h5, h6, h7, h8⟩
 ·cases h2
 ·cases h2
  refine ⟨cur.toList, by simpa using h4, ?_⟩
  have : n * size ≤ cap * size := Nat.mul_le_mul_right _ h5
  simp only [Array.length_toList]
  omega
theorem own_kept {w w' : World} {B e size n : Nat} {v : Value} {xs : List Value} (h : w.ownsRow B e size v n xs) (hb : ∀ g, v.ownBlock = some g → w'.heap[g]? = w.heap[g]?) : w'.ownsRow B e size v n xs := by
 obtain ⟨h1, h2⟩ := h
 refine ⟨h1, ?_⟩
 rcases h2 with h2 | ⟨g, cap, cur, h2, h3, h4, h5⟩
 ·exact .inl h2
 ·exact .inr ⟨g, cap, cur, h2, h3, by rw [hb g (by rw [h2]; rfl)]; exact h4, h5⟩
theorem own_base {w : World} {B B' e size n : Nat} {v : Value} {xs : List Value} (h : w.ownsRow B e size v n xs) (hB : B' ≤ B) : w.ownsRow B' e size v n xs := by
 obtain ⟨h1, h2⟩ := h
 refine ⟨h1, ?_⟩
 rcases h2 with h2 | ⟨g, cap, cur, h2, h3, h4⟩
 ·exact .inl h2
 ·exact .inr ⟨g, cap, cur, h2, by omega, h4⟩
def blockL (v : Value) : List Nat := match v.ownBlock with | some g => [g] | none => []
structure MBkM (w : World) (q : Nat) (vG vL : Value) (A : Option Addr) (cap : Nat) (B : BkV) : Prop where
 own : w.heap[q]? = some (.cells #[vG, vL, .slice A B.2.2.length cap] 105 (0, 0))
 goods : w.ownsRow 0 154 6 vG B.1.length (flatL encGoS B.1)
 lots : w.ownsRow 0 161 5 vL B.2.1.length (flatL encLoH B.2.1)
 lines : RowAt encLine 5 w A (linesM B.2.2)
def rowB (A : Option Addr) (m : StkV) : List Nat := match A, m with | some a, _ :: _ => [a.block] | _, _ => []
def MBk (w : World) (q : Nat) (F R : List Nat) (B : BkV) : Prop := ∃ vG vL A cap, F = q :: (blockL vG ++ blockL vL) ∧ F.Nodup ∧ R = rowB A B.2.2 ∧ (∀ k ∈ R, k ∉ F ∧ k < w.heap.size) ∧ MBkM w q vG vL A cap B
theorem blockL_mem {v : Value} {g : Nat} (h : v.ownBlock = some g) : g ∈ blockL v := by unfold blockL; rw [h]; simp
theorem blockL_own {v : Value} {g : Nat} (h : g ∈ blockL v) : v.ownBlock = some g := by
 unfold blockL at h
 split at h
 ·rename_i k hk
  simp only [List.mem_singleton] at h
  rw [hk, h]
 ·simp at h
theorem rowB_mem {A : Option Addr} {m : StkV} {a : Addr} (h : A = some a) (hm : m ≠ []) : a.block ∈ rowB A m := by
 cases m with
 |nil => exact absurd rfl hm
 |cons x r => rw [h]; simp [rowB]
theorem rowB_own {A : Option Addr} {m : StkV} {k : Nat} (h : k ∈ rowB A m) : ∃ a, A = some a ∧ a.block = k ∧ m ≠ [] := by
 unfold rowB at h
 split at h
 ·rename_i a x r
  simp only [List.mem_singleton] at h
  exact ⟨a, rfl, h.symm, by simp⟩
 ·simp at h
theorem MBkM.lt {w : World} {q : Nat} {vG vL : Value} {A : Option Addr} {cap : Nat} {B : BkV} (H : MBkM w q vG vL A cap B) : ∀ k ∈ q :: (blockL vG ++ blockL vL), k < w.heap.size := fun k hk => by
 rcases List.mem_cons.1 hk with rfl | hk
 ·exact (Array.getElem?_eq_some_iff.1 H.own).1
 ·rcases List.mem_append.1 hk with hk | hk
  ·exact (H.goods.lt _ (blockL_own hk)).2
  ·exact (H.lots.lt _ (blockL_own hk)).2
theorem MBk.lt {w : World} {q : Nat} {F R : List Nat} {B : BkV} (H : MBk w q F R B) : (∀ k ∈ F, k < w.heap.size) ∧ ∀ k ∈ R, k < w.heap.size := by
 obtain ⟨vG, vL, A, cap, rfl, hn, rfl, hA, H⟩ := H
 exact ⟨H.lt, fun k hk => (hA k hk).2⟩
theorem linesM_ne {m : StkV} (h : linesM m ≠ []) : m ≠ [] := fun e => h (by rw [e]; rfl)
theorem lines_kept {w w' : World} {A : Option Addr} {m : StkV} (h : RowAt encLine 5 w A (linesM m)) (hs : w.heap.size ≤ w'.heap.size) (hk : ∀ k ∈ rowB A m, w'.heap[k]? = w.heap[k]?) : RowAt encLine 5 w' A (linesM m) := by
 rcases h with h | ⟨b, o, h1, h2, h3⟩
 ·exact .inl h
 ·by_cases hm : linesM m = []
  ·exact .inl hm
  ·have h4 := hk b (rowB_mem h1 (linesM_ne hm))
   exact .inr ⟨b, o, h1, Nat.lt_of_lt_of_le h2 hs, fun i hi c v hv => (World.cell?_of_block h4).trans (h3 i hi c v hv)⟩
theorem MBk.butF {w w' : World} {q : Nat} {F R X : List Nat} {B : BkV} (H : MBk w q F R B) (hb : ButF X w w') (hd : ∀ k ∈ F, k ∉ X) (hl : ∀ k ∈ R, k ∉ X) : MBk w' q F R B := by
 obtain ⟨h1, h2⟩ := H.lt
 obtain ⟨vG, vL, A, cap, rfl, hn, rfl, hA, H⟩ := H
 refine ⟨vG, vL, A, cap, rfl, hn, rfl, fun k hk => ⟨(hA k hk).1, Nat.lt_of_lt_of_le (hA k hk).2 hb.size⟩, ⟨?_, ?_, ?_, ?_⟩⟩
 ·exact (hb.block _ (h1 q (by simp)) (hd q (by simp))).trans H.own
 ·exact own_kept H.goods fun g hg => hb.block _ (H.goods.lt g hg).2 (hd g (by simp [blockL_mem hg]))
 ·exact own_kept H.lots fun g hg => hb.block _ (H.lots.lt g hg).2 (hd g (by simp [blockL_mem hg]))
 ·exact lines_kept H.lines hb.size fun k hk => hb.block k (h2 k hk) (hl k hk)
theorem MBk.below {w w' : World} {q : Nat} {F R : List Nat} {B : BkV} (H : MBk w q F R B) (hb : Below w.heap.size w w') : MBk w' q F R B := H.butF (X := []) (ButF.of_below hb) (by simp) (by simp)
theorem map_set {α : Type} (key : α → List UInt8) {l : List α} (hs : l.Pairwise fun x y => ltB (key x) (key y) = true) {k : Nat} (hk : k < l.length) (f : α → α) : (l.map fun y => if key y = key l[k] then f y else y) = l.set k (f l[k]) := by
 refine List.ext_getElem (by simp) fun i h1 h2 => ?_
 have hi : i < l.length := by simpa using h1
 have hp := List.pairwise_iff_getElem.1 hs
 rw [List.getElem_map, List.getElem_set]
 by_cases e : k = i
 ·subst e
  rw [if_pos rfl, if_pos rfl]
 ·rw [if_neg e, if_neg]
  rcases Nat.lt_or_gt_of_ne e with h | h
  ·exact fun q => ltB_ne (hp k i hk hi h) q.symm
  ·exact ltB_ne (hp i k hi hk h)
def idxK {α : Type} (key : α → List UInt8) (l : List α) (c : List UInt8) : Int := match l.findIdx? (fun x => decide (key x = c)) with | some i => (i : Int) | none => -1
theorem idxK_find {α : Type} (key : α → List UInt8) (l : List α) (c : List UInt8) :
  (l.find? (fun x => decide (key x = c)) = none ∧ idxK key l c = -1) ∨ ∃ i, ∃ h : i < l.length, l.find? (fun x => decide (key x = c)) = some l[i] ∧ idxK key l c = i ∧ key l[i] = c := by
 unfold idxK
 cases hf : l.findIdx? (fun x => decide (key x = c)) with
 |none =>
  refine .inl ⟨?_, rfl⟩
  rw [List.findIdx?_eq_none_iff] at hf
  exact List.find?_eq_none.2 fun x hx => by simpa using hf x hx
 |some i =>
  obtain ⟨h1, h2, h3⟩ := List.findIdx?_eq_some_iff_getElem.1 hf
  refine .inr ⟨i, h1, ?_, rfl, by simpa using h2⟩
  rw [List.find?_eq_some_iff_getElem]
  exact ⟨h2, i, h1, rfl, fun j hj => by simpa using h3 j hj⟩
theorem idxK_step {α : Type} (key : α → List UInt8) (l : List α) (c : List UInt8) (k : Nat) (h1 : ∀ j (h : j < l.length), j < k → key l[j] ≠ c) (h2 : ∀ h : k < l.length, key l[k] = c) : idxK key l c = if k < l.length then (k : Int) else -1 := by
 unfold idxK
 by_cases hk : k < l.length
 ·have : l.findIdx? (fun x => decide (key x = c)) = some k := List.findIdx?_eq_some_iff_getElem.2 ⟨hk, by simpa using h2 hk, fun j hj => by simpa using h1 j (by omega) hj⟩
  rw [this, if_pos hk]
 ·have : l.findIdx? (fun x => decide (key x = c)) = none := by
   rw [List.findIdx?_eq_none_iff]
   intro x hx
   obtain ⟨j, hj, rfl⟩ := List.mem_iff_getElem.1 hx
   simpa using h1 j hj (by omega)
  rw [this, if_neg hk]
end Go.Proofs.YtchiojiicehpeaaGreatDoor
