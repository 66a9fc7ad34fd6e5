/- Entries: Check, whole. -/
import Derived.Test.YteaalifehokgoaaGreatDoorM23
namespace Go.Proofs.YteaalifehokgoaaGreatDoor
open Go.RowKit Go.Sort Go.Proofs
theorem entE_pieces {x : EntV} (h : isP x.1 = true) : entE x = piecesE x := by
 obtain ⟨-, h2, h3⟩ := isP_kind h
 unfold entE
 rw [if_neg h2, if_neg h3, if_pos h]
theorem entE_kind {x : EntV} (h1 : x.1 ≠ kGoods) (h2 : x.1 ≠ kLot) (h : isP x.1 = false) : entE x = 4 := by
 unfold entE
 rw [if_neg h1, if_neg h2, if_neg (by simp [h])]
theorem ent_step {W w2 : World} {eb : Nat} {row : Array Value} {t : TypeId} (hb : Below W.drew.heap.size W.drew w2) (x : EntV) (hc : Cells14 W eb x) (hf : W.heap[eb + 1]? = some (.cells row t (0, 0))) :
  Cells14 w2 eb x ∧ w2.heap[eb + 1]? = some (.cells row t (0, 0)) :=
 ⟨Cells14.below (w := W.drew) hc hb, (hb.block _ (show eb + 1 < W.heap.size from row_lt hf)).trans hf⟩
theorem row_cells {W : World} {b : Nat} {row : Array Value} {t : TypeId} (hf : W.heap[b]? = some (.cells row t (0, 0))) (i : Nat) (v : Value) (hv : row[i]? = some v) : W.cell? ⟨b, i, none⟩ = some v ∧ W.frozen? ⟨b, i, none⟩ = false :=
 ⟨(cell_of_row _ _ _ _ _ _ hf).trans hv, frozen_of_row _ _ _ _ _ hf⟩
theorem want_goods {W : World} {eb : Nat} {x : EntV} {k : List UInt8} {g1 : List UInt8} {g2 : Int} (hc : Cells14 W eb x)
  (hf : W.heap[eb + 1]? = some (.cells #[.string ⟨k.toArray⟩, .string ⟨#[]⟩, .int .i64 0, .string ⟨#[]⟩, .string ⟨#[]⟩, .int .i64 0, .int .i64 0, .string ⟨#[]⟩, .int .i64 0, .int .i64 0, .string ⟨#[]⟩, .int .i64 0, .int .i64 0, .int .i64 0] 43 (0, 0))) :
  Cells14 ((W.setCell ⟨eb + 1, 1, none⟩ (.string ⟨g1.toArray⟩)).setCell ⟨eb + 1, 2, none⟩ (.int .i64 g2)) eb x ∧
  Cells14 ((W.setCell ⟨eb + 1, 1, none⟩ (.string ⟨g1.toArray⟩)).setCell ⟨eb + 1, 2, none⟩ (.int .i64 g2)) (eb + 1) (k, (g1, g2), ([], [], 0, 0), ([], 0, 0), ([], 0, 0), 0) := by
 have h1 := heap_setCell_same W (eb + 1) 1 _ _ (.string ⟨g1.toArray⟩) hf
 have h2 := heap_setCell_same _ (eb + 1) 2 _ _ (.int .i64 g2) h1
 constructor
 ·intro i v hv
  have := World.cell?_setCells_out (eb + 1) [.string ⟨g1.toArray⟩, .int .i64 g2] 1 W ⟨eb, i, none⟩ (fun h => absurd (show eb = eb + 1 from h) (by omega))
  exact (show _ = _ from this).trans (hc i v hv)
 ·intro i v hv
  exact (cell_of_row _ _ _ _ _ _ h2).trans (by simpa [encEnt] using hv)
theorem want_lot {W : World} {eb : Nat} {x : EntV} {k : List UInt8} {l1 l2 : List UInt8} {l3 l4 : Int} (hc : Cells14 W eb x)
  (hf : W.heap[eb + 1]? = some (.cells #[.string ⟨k.toArray⟩, .string ⟨#[]⟩, .int .i64 0, .string ⟨#[]⟩, .string ⟨#[]⟩, .int .i64 0, .int .i64 0, .string ⟨#[]⟩, .int .i64 0, .int .i64 0, .string ⟨#[]⟩, .int .i64 0, .int .i64 0, .int .i64 0] 43 (0, 0))) :
  Cells14 ((((W.setCell ⟨eb + 1, 3, none⟩ (.string ⟨l1.toArray⟩)).setCell ⟨eb + 1, 4, none⟩ (.string ⟨l2.toArray⟩)).setCell ⟨eb + 1, 5, none⟩ (.int .i64 l3)).setCell ⟨eb + 1, 6, none⟩ (.int .i64 l4)) eb x ∧
  Cells14 ((((W.setCell ⟨eb + 1, 3, none⟩ (.string ⟨l1.toArray⟩)).setCell ⟨eb + 1, 4, none⟩ (.string ⟨l2.toArray⟩)).setCell ⟨eb + 1, 5, none⟩ (.int .i64 l3)).setCell ⟨eb + 1, 6, none⟩ (.int .i64 l4)) (eb + 1) (k, ([], 0), (l1, l2, l3, l4), ([], 0, 0), ([], 0, 0), 0) := by
 have h1 := heap_setCell_same W (eb + 1) 3 _ _ (.string ⟨l1.toArray⟩) hf
 have h2 := heap_setCell_same _ (eb + 1) 4 _ _ (.string ⟨l2.toArray⟩) h1
 have h3 := heap_setCell_same _ (eb + 1) 5 _ _ (.int .i64 l3) h2
 have h4 := heap_setCell_same _ (eb + 1) 6 _ _ (.int .i64 l4) h3
 constructor
 ·intro i v hv
  have := World.cell?_setCells_out (eb + 1) [.string ⟨l1.toArray⟩, .string ⟨l2.toArray⟩, .int .i64 l3, .int .i64 l4] 3 W ⟨eb, i, none⟩ (fun h => absurd (show eb = eb + 1 from h) (by omega))
  exact (show _ = _ from this).trans (hc i v hv)
 ·intro i v hv
  exact (cell_of_row _ _ _ _ _ _ h4).trans (by simpa [encEnt] using hv)
set_option maxHeartbeats 3200000 in
set_option maxRecDepth 100000 in
theorem checkEnt_c (E : Nat → Addr) (x : EntV) (h1 : x.2.2.1.1.length ≤ 1000000000) (h2 : x.2.2.1.2.1.length ≤ 1000000000) (w : World) (hG : EntCG E w) :
  Calls Tryz.prog 45 #[.agg (encEnt x).toArray] w fun e w' => e = .returned (errOf E (entE x)) ∧ Below w.heap.size w w' := by
 have HFO := Lib.hid (fun W => formOf_any x.1 W)
 have HPC := Lib.hid (fun W h => pieces_any E x (isP x.1) W h)
 have HGO := Lib.hid (fun W (h : LotCG E W) => checkGoods_any E x.2.1 W h.name h.bound)
 have HLO := Lib.hid (fun W (h : LotCG E W) => checkLot_c E x.2.2.1 h1 h2 W h)
 have HQ := Lib.hid (fun y W => neqEnt x y W)
 have HEP := Lib.hid (entE_pieces (x := x))
 have HEK := Lib.hid (entE_kind (x := x))
 have HEG : Hid (x.1 = kGoods → entE x = if goodsE x.2.1 ≠ 0 then goodsE x.2.1 else if x ≠ (x.1, x.2.1, zeroLot, zeroPlace, zeroPlace, 0) then 3 else 0) := fun h => by unfold entE; rw [if_pos h]
 have HEL : Hid (x.1 = kLot → entE x = if lotE x.2.2.1 ≠ 0 then lotE x.2.2.1 else if x ≠ (x.1, zeroGoods, x.2.2.1, zeroPlace, zeroPlace, 0) then 3 else 0) := fun h => by unfold entE; rw [if_neg (by rw [h]; decide), if_pos h]
 have HG := Lib.hid (fun W (h : Below w.heap.size w W) => hG.below h)
 have b0 := below_one w (.cells (encEnt x).toArray 43)
 have hc := Cells14.new w x
 obtain ⟨r, hr⟩ : ∃ r, r = entE x := ⟨_, rfl⟩
 rw [← hr] at HEP HEK HEG HEL ⊢
 clear hr hG h1 h2
 obtain ⟨k, ⟨g1, g2⟩, ⟨l1, l2, l3, l4⟩, ⟨f1, f2, f3⟩, ⟨t1, t2, t3⟩, n⟩ := x
 simp only [encEnt, encGoods, encLot] at HFO HPC HGO HLO HQ HEP HEK HEG HEL b0 hc ⊢
 generalize piecesE (k, (g1, g2), (l1, l2, l3, l4), (f1, f2, f3), (t1, t2, t3), n) = pe at HPC HEP
 generalize hbP : isP k = bP at *
 clear hbP
 go_enter Tryz.func45, Tryz.ntmps45
 go_wp2_with fail
 have hwant : ((w.alloc (.cells #[.string ⟨k.toArray⟩, .string ⟨g1.toArray⟩, .int .i64 g2, .string ⟨l1.toArray⟩, .string ⟨l2.toArray⟩, .int .i64 l3, .int .i64 l4, .string ⟨f1.toArray⟩, .int .i64 f2, .int .i64 f3, .string ⟨t1.toArray⟩, .int .i64 t2, .int .i64 t3, .int .i64 n] 43)).alloc (.cells #[.string ⟨k.toArray⟩, .string ⟨#[]⟩, .int .i64 0, .string ⟨#[]⟩, .string ⟨#[]⟩, .int .i64 0, .int .i64 0, .string ⟨#[]⟩, .int .i64 0, .int .i64 0, .string ⟨#[]⟩, .int .i64 0, .int .i64 0, .int .i64 0] 43)).heap[w.heap.size + 1]? = some (.cells #[.string ⟨k.toArray⟩, .string ⟨#[]⟩, .int .i64 0, .string ⟨#[]⟩, .string ⟨#[]⟩, .int .i64 0, .int .i64 0, .string ⟨#[]⟩, .int .i64 0, .int .i64 0, .string ⟨#[]⟩, .int .i64 0, .int .i64 0, .int .i64 0] 43 (0, 0)) := by
  have := heap_alloc_new (w.alloc (.cells #[.string ⟨k.toArray⟩, .string ⟨g1.toArray⟩, .int .i64 g2, .string ⟨l1.toArray⟩, .string ⟨l2.toArray⟩, .int .i64 l3, .int .i64 l4, .string ⟨f1.toArray⟩, .int .i64 f2, .int .i64 f3, .string ⟨t1.toArray⟩, .int .i64 t2, .int .i64 t3, .int .i64 n] 43)) (.cells #[.string ⟨k.toArray⟩, .string ⟨#[]⟩, .int .i64 0, .string ⟨#[]⟩, .string ⟨#[]⟩, .int .i64 0, .int .i64 0, .string ⟨#[]⟩, .int .i64 0, .int .i64 0, .string ⟨#[]⟩, .int .i64 0, .int .i64 0, .int .i64 0] 43)
  simpa using this
 have hc' := hc.below (below_one _ (.cells #[.string ⟨k.toArray⟩, .string ⟨#[]⟩, .int .i64 0, .string ⟨#[]⟩, .string ⟨#[]⟩, .int .i64 0, .int .i64 0, .string ⟨#[]⟩, .int .i64 0, .int .i64 0, .string ⟨#[]⟩, .int .i64 0, .int .i64 0, .int .i64 0] 43))
 have b0' := b0.alloc b0.size (.cells #[.string ⟨k.toArray⟩, .string ⟨#[]⟩, .int .i64 0, .string ⟨#[]⟩, .string ⟨#[]⟩, .int .i64 0, .int .i64 0, .string ⟨#[]⟩, .int .i64 0, .int .i64 0, .string ⟨#[]⟩, .int .i64 0, .int .i64 0, .int .i64 0] 43)
 generalize ((w.alloc (.cells #[.string ⟨k.toArray⟩, .string ⟨g1.toArray⟩, .int .i64 g2, .string ⟨l1.toArray⟩, .string ⟨l2.toArray⟩, .int .i64 l3, .int .i64 l4, .string ⟨f1.toArray⟩, .int .i64 f2, .int .i64 f3, .string ⟨t1.toArray⟩, .int .i64 t2, .int .i64 t3, .int .i64 n] 43)).alloc (.cells #[.string ⟨k.toArray⟩, .string ⟨#[]⟩, .int .i64 0, .string ⟨#[]⟩, .string ⟨#[]⟩, .int .i64 0, .int .i64 0, .string ⟨#[]⟩, .int .i64 0, .int .i64 0, .string ⟨#[]⟩, .int .i64 0, .int .i64 0, .int .i64 0] 43)) = W0 at hwant hc' b0' ⊢
 clear hc b0
 refine (HFO.out W0).mono ?_
 rintro e w1 ⟨rfl, b1⟩
 have B1 := Lib.hid (b0'.trans (b1.mono b0'.size))
 have bo := below_one w1 (.cells #[.bool (hasF k), .bool (hasT k), .bool bP] 165)
 have C1 := Lib.hid ((hc'.below b1).below bo)
 have f1 := (b1.block _ (row_lt hwant)).trans hwant
 have F1 := Lib.hid ((bo.block _ (row_lt f1)).trans f1)
 have df : (w1.alloc (.cells #[.bool (hasF k), .bool (hasT k), .bool bP] 165)).cell? ⟨w1.heap.size, 0, none⟩ = some (.bool (hasF k)) := cell_of_row _ _ _ _ _ _ (heap_alloc_new _ _)
 have dt : (w1.alloc (.cells #[.bool (hasF k), .bool (hasT k), .bool bP] 165)).cell? ⟨w1.heap.size, 1, none⟩ = some (.bool (hasT k)) := cell_of_row _ _ _ _ _ _ (heap_alloc_new _ _)
 have di : (w1.alloc (.cells #[.bool (hasF k), .bool (hasT k), .bool bP] 165)).cell? ⟨w1.heap.size, 2, none⟩ = some (.bool bP) := cell_of_row _ _ _ _ _ _ (heap_alloc_new _ _)
 have B2 := Lib.hid (B1.out.trans (bo.mono B1.out.size))
 clear bo f1
 clear b1 b0' hc' hwant HFO B1
 obtain ⟨c0, c1, c2, c3, c4, c5, c6, c7, c8, c9, c10, c11, c12, c13⟩ := C1.out.all
 simp only at c0 c1 c2 c3 c4 c5 c6 c7 c8 c9 c10 c11 c12 c13
 rcases Decidable.em (k = kGoods) with hkg | hkg
 ·have HKG := Lib.hid hkg
  have hk : (k == [103, 111, 111, 100, 115]) = true := by rw [hkg]; rfl
  clear hkg
  go_wp2_with fail
  go_region_with (go_at_call 93; refine (HGO.out _ (HG.out _ B2.out.drew).read).mono ?_; rintro e w2 ⟨rfl, b2⟩; obtain ⟨C2, F2⟩ := ent_step b2 _ C1.out F1.out; have e1 := C2 1 _ rfl; have e2 := C2 2 _ rfl; obtain ⟨k1, fr1⟩ := row_cells F2 1 _ rfl; obtain ⟨k2, fr2⟩ := row_cells F2 2 _ rfl)
  all_goals
   obtain ⟨C3, N3⟩ := want_goods (g1 := g1) (g2 := g2) C2 F2
   have B3 := Lib.hid (((B2.out.drew.trans (b2.mono B2.out.drew.size)).setCell (p := ⟨w.heap.size + 1, 1, none⟩) (Nat.le_succ _) (.string ⟨g1.toArray⟩)).setCell (p := ⟨w.heap.size + 1, 2, none⟩) (Nat.le_succ _) (.int .i64 g2))
   generalize ((w2.setCell ⟨w.heap.size + 1, 1, none⟩ (.string ⟨g1.toArray⟩)).setCell ⟨w.heap.size + 1, 2, none⟩ (.int .i64 g2)) = W3 at C3 N3 B3 ⊢
   clear C2 F2 b2
   have HER := HEG.out HKG.out
   obtain ⟨c0, c1, c2, c3, c4, c5, c6, c7, c8, c9, c10, c11, c12, c13⟩ := C3.all
   obtain ⟨n0, n1, n2, n3, n4, n5, n6, n7, n8, n9, n10, n11, n12, n13⟩ := N3.all
   simp only at c0 c1 c2 c3 c4 c5 c6 c7 c8 c9 c10 c11 c12 c13 n0 n1 n2 n3 n4 n5 n6 n7 n8 n9 n10 n11 n12 n13
   clear C3 N3
   by_cases h0 : goodsE (g1, g2) = 0
   ·rw [h0, errOf_zero]
    have hq := fun W => HQ.out (k, (g1, g2), ([], [], 0, 0), ([], 0, 0), ([], 0, 0), 0) W
    simp only at hq
    have hsh := (HG.out W3 B3.out).shape
    unfold ErrAt at hsh
    by_cases hd : (k, (g1, g2), (l1, l2, l3, l4), (f1, f2, f3), (t1, t2, t3), n) = ((k, (g1, g2), ([], [], 0, 0), ([], 0, 0), ([], 0, 0), 0) : EntV)
    ·have HR := Lib.hid (show r = 0 from HER.trans ((if_neg (by simp [h0])).trans (if_neg (fun h => h hd))))
     have hdd : decide ((k, (g1, g2), (l1, l2, l3, l4), (f1, f2, f3), (t1, t2, t3), n) = ((k, (g1, g2), ([], [], 0, 0), ([], 0, 0), ([], 0, 0), 0) : EntV)) = true := decide_eq_true hd
     simp only [hdd, Bool.not_true] at hq
     clear hdd hd h0 HER
     go_wp2_with fail
     go_ret
     rw [HR.out]
     exact ⟨rfl, B3.out⟩
    ·have HR := Lib.hid (show r = 3 from HER.trans ((if_neg (by simp [h0])).trans (if_pos hd)))
     have hdd : decide ((k, (g1, g2), (l1, l2, l3, l4), (f1, f2, f3), (t1, t2, t3), n) = ((k, (g1, g2), ([], [], 0, 0), ([], 0, 0), ([], 0, 0), 0) : EntV)) = false := decide_eq_false hd
     simp only [hdd, Bool.not_false] at hq
     clear hdd hd h0 HER
     go_wp2_with fail
     go_ret
     rw [HR.out]
     exact ⟨rfl, B3.out⟩
   ·have HR := Lib.hid (show r = goodsE (g1, g2) from HER.trans (if_pos h0))
    rw [errOf_pos _ _ h0]
    have H0 := Lib.hid h0
    clear h0 HER
    go_wp2_with fail
    go_ret
    rw [HR.out, errOf_pos _ _ H0.out]
    exact ⟨rfl, B3.out⟩
 have hk : (k == [103, 111, 111, 100, 115]) = false := beq_eq_false_iff_ne.2 hkg
 have HKG := Lib.hid hkg
 clear hkg
 rcases Decidable.em (k = kLot) with hkl | hkl
 ·have HKL := Lib.hid hkl
  have hk2 : (k == [108, 111, 116]) = true := by rw [hkl]; rfl
  clear hkl
  go_wp2_with fail
  go_region_with (go_at_call 79; refine (HLO.out _ (HG.out _ B2.out.drew).read).mono ?_; rintro e w2 ⟨rfl, b2⟩; obtain ⟨C2, F2⟩ := ent_step b2 _ C1.out F1.out; have e3 := C2 3 _ rfl; have e4 := C2 4 _ rfl; have e5 := C2 5 _ rfl; have e6 := C2 6 _ rfl; obtain ⟨k3, fr3⟩ := row_cells F2 3 _ rfl; obtain ⟨k4, fr4⟩ := row_cells F2 4 _ rfl; obtain ⟨k5, fr5⟩ := row_cells F2 5 _ rfl; obtain ⟨k6, fr6⟩ := row_cells F2 6 _ rfl)
  all_goals
   obtain ⟨C3, N3⟩ := want_lot (l1 := l1) (l2 := l2) (l3 := l3) (l4 := l4) C2 F2
   have B3 := Lib.hid (((((B2.out.drew.trans (b2.mono B2.out.drew.size)).setCell (p := ⟨w.heap.size + 1, 3, none⟩) (Nat.le_succ _) (.string ⟨l1.toArray⟩)).setCell (p := ⟨w.heap.size + 1, 4, none⟩) (Nat.le_succ _) (.string ⟨l2.toArray⟩)).setCell (p := ⟨w.heap.size + 1, 5, none⟩) (Nat.le_succ _) (.int .i64 l3)).setCell (p := ⟨w.heap.size + 1, 6, none⟩) (Nat.le_succ _) (.int .i64 l4))
   generalize ((((w2.setCell ⟨w.heap.size + 1, 3, none⟩ (.string ⟨l1.toArray⟩)).setCell ⟨w.heap.size + 1, 4, none⟩ (.string ⟨l2.toArray⟩)).setCell ⟨w.heap.size + 1, 5, none⟩ (.int .i64 l3)).setCell ⟨w.heap.size + 1, 6, none⟩ (.int .i64 l4)) = W3 at C3 N3 B3 ⊢
   clear C2 F2 b2
   have HER := HEL.out HKL.out
   obtain ⟨c0, c1, c2, c3, c4, c5, c6, c7, c8, c9, c10, c11, c12, c13⟩ := C3.all
   obtain ⟨n0, n1, n2, n3, n4, n5, n6, n7, n8, n9, n10, n11, n12, n13⟩ := N3.all
   simp only at c0 c1 c2 c3 c4 c5 c6 c7 c8 c9 c10 c11 c12 c13 n0 n1 n2 n3 n4 n5 n6 n7 n8 n9 n10 n11 n12 n13
   clear C3 N3
   by_cases h0 : lotE (l1, l2, l3, l4) = 0
   ·rw [h0, errOf_zero]
    have hq := fun W => HQ.out (k, ([], 0), (l1, l2, l3, l4), ([], 0, 0), ([], 0, 0), 0) W
    simp only at hq
    have hsh := (HG.out W3 B3.out).shape
    unfold ErrAt at hsh
    by_cases hd : (k, (g1, g2), (l1, l2, l3, l4), (f1, f2, f3), (t1, t2, t3), n) = ((k, ([], 0), (l1, l2, l3, l4), ([], 0, 0), ([], 0, 0), 0) : EntV)
    ·have HR := Lib.hid (show r = 0 from HER.trans ((if_neg (by simp [h0])).trans (if_neg (fun h => h hd))))
     have hdd : decide ((k, (g1, g2), (l1, l2, l3, l4), (f1, f2, f3), (t1, t2, t3), n) = ((k, ([], 0), (l1, l2, l3, l4), ([], 0, 0), ([], 0, 0), 0) : EntV)) = true := decide_eq_true hd
     simp only [hdd, Bool.not_true] at hq
     clear hdd hd h0 HER
     go_wp2_with fail
     go_ret
     rw [HR.out]
     exact ⟨rfl, B3.out⟩
    ·have HR := Lib.hid (show r = 3 from HER.trans ((if_neg (by simp [h0])).trans (if_pos hd)))
     have hdd : decide ((k, (g1, g2), (l1, l2, l3, l4), (f1, f2, f3), (t1, t2, t3), n) = ((k, ([], 0), (l1, l2, l3, l4), ([], 0, 0), ([], 0, 0), 0) : EntV)) = false := decide_eq_false hd
     simp only [hdd, Bool.not_false] at hq
     clear hdd hd h0 HER
     go_wp2_with fail
     go_ret
     rw [HR.out]
     exact ⟨rfl, B3.out⟩
   ·have HR := Lib.hid (show r = lotE (l1, l2, l3, l4) from HER.trans (if_pos h0))
    rw [errOf_pos _ _ h0]
    have H0 := Lib.hid h0
    clear h0 HER
    go_wp2_with fail
    go_ret
    rw [HR.out, errOf_pos _ _ H0.out]
    exact ⟨rfl, B3.out⟩
 have hk2 : (k == [108, 111, 116]) = false := beq_eq_false_iff_ne.2 hkl
 have HKL := Lib.hid hkl
 clear hkl
 cases bP with
 |true =>
  go_wp2_with fail
  refine (HPC.out _ (HG.out _ B2.out)).mono ?_
  rintro e w2 ⟨rfl, b2⟩
  have B3 := Lib.hid (B2.out.trans (b2.mono B2.out.size))
  have HR := Lib.hid (HEP.out (by simp))
  clear b2 c0 c1 c2 c3 c4 c5 c6 c7 c8 c9 c10 c11 c12 c13 df dt di
  go_wp2
  go_ret
  rw [HR.out]
  exact ⟨rfl, B3.out⟩
 |false =>
  have hkd := (HG.out _ B2.out).kind
  unfold ErrAt at hkd
  have HR := Lib.hid (HEK.out HKG.out HKL.out rfl)
  go_wp2_with fail
  go_ret
  rw [HR.out]
  exact ⟨rfl, B2.out⟩
end Go.Proofs.YteaalifehokgoaaGreatDoor
