/- Entries read by the document: ReadEntry. Printed by gen/rreade.py. -/
import Derived.Test.YtpifbahafnaejaaGreatDoorM06
import Derived.Test.YtpifbahafnaejaaGreatDoorM09
import Derived.Test.YtpifbahafnaejaaGreatDoorM10
namespace Go.Proofs.YtpifbahafnaejaaGreatDoor
open Go.RowKit Go.Sort Go.Proofs

theorem strs_some {w : World} {A : Option Addr} {k : List UInt8} {t : List (List UInt8)} (h : StrsAt w A (k :: t)) : ∃ b o, A = some ⟨b, o, none⟩ := by
  rcases h with h | ⟨b, o, h1, _⟩
  · cases h
  · exact ⟨b, o, h1⟩
theorem strs_at {w : World} {b o : Nat} {xs : List (List UInt8)} (h : StrsAt w (some ⟨b, o, none⟩) xs) (i : Nat) (x : List UInt8) (hx : xs[i]? = some x) : w.cell? ⟨b, o + i, none⟩ = some (.string ⟨x.toArray⟩) := by
  rcases h with rfl | ⟨b', o', h1, _, h3⟩
  · simp at hx
  · cases h1
    obtain ⟨hi, rfl⟩ := List.getElem?_eq_some_iff.1 hx
    exact h3 i hi
theorem rd_set_other {w : World} {q j b i : Nat} {u v : Value} (hc : w.cell? ⟨b, i, none⟩ = some u) (h : b ≠ q) : (w.setCell ⟨q, j, none⟩ v).cell? ⟨b, i, none⟩ = some u := (World.cell?_of_block (Below.heap_setCell _ _ _ _ h)).trans hc
theorem cell_set2_drew {w : World} {q j j' b i : Nat} {u v v' : Value} (hc : w.cell? ⟨b, i, none⟩ = some u) (h : b ≠ q) : (((w.setCell ⟨q, j, none⟩ v).setCell ⟨q, j', none⟩ v').drew).cell? ⟨b, i, none⟩ = some u :=
  rd_set_other (w := w.setCell ⟨q, j, none⟩ v) (j := j') (v := v') (rd_set_other (j := j) (v := v) hc h) h
theorem set2_row {w : World} {q j j' : Nat} {cs : Array Value} {t : TypeId} (h : w.heap[q]? = some (.cells cs t (0, 0))) (v v' : Value) : (((w.setCell ⟨q, j, none⟩ v).setCell ⟨q, j', none⟩ v').drew).heap[q]? = some (.cells ((cs.setIfInBounds j v).setIfInBounds j' v') t (0, 0)) :=
  heap_setCell_same _ _ _ _ _ _ (heap_setCell_same _ _ _ _ _ _ h)
theorem set2_other {w : World} {q b j j' : Nat} {o : Obj} (h : w.heap[b]? = some o) (hne : b ≠ q) (v v' : Value) : (((w.setCell ⟨q, j, none⟩ v).setCell ⟨q, j', none⟩ v').drew).heap[b]? = some o :=
  (Below.heap_setCell (w.setCell ⟨q, j, none⟩ v) ⟨q, j', none⟩ v' b hne).trans ((Below.heap_setCell w ⟨q, j, none⟩ v b hne).trans h)
theorem set2_below {w0 w : World} {B q : Nat} (j j' : Nat) (h : Below B w0 w) (hq : B ≤ q) (v v' : Value) : Below B w0 (((w.setCell ⟨q, j, none⟩ v).setCell ⟨q, j', none⟩ v').drew) := ((h.setCell (p := ⟨q, j, none⟩) hq v).setCell (p := ⟨q, j', none⟩) hq v').drew
theorem rdx_lot (x : EntV) (lo : LotV) : List.take 3 (encEnt x) ++ encLot lo ++ List.drop (3 + (encLot lo).length) (encEnt x) = encEnt (x.1, x.2.1, lo, x.2.2.2.1, x.2.2.2.2.1, x.2.2.2.2.2) := rfl
theorem rdx_from (x : EntV) (p : PlaceV) : List.take 7 (encEnt x) ++ encPlace p ++ List.drop (7 + (encPlace p).length) (encEnt x) = encEnt (x.1, x.2.1, x.2.2.1, p, x.2.2.2.2.1, x.2.2.2.2.2) := rfl
theorem rdx_to (x : EntV) (p : PlaceV) : List.take 10 (encEnt x) ++ encPlace p ++ List.drop (10 + (encPlace p).length) (encEnt x) = encEnt (x.1, x.2.1, x.2.2.1, x.2.2.2.1, p, x.2.2.2.2.2) := rfl
theorem placeWords_short {t : List UInt8} (h : t.length ≤ 1000000) : (placeWords (splitL 45 t)).1.1.length ≤ 1000000 := by
  have hl : ∀ x ∈ splitL 45 t, x.length ≤ 1000000 := fun x hx => Nat.le_trans (splitL_lens hx) h
  unfold placeWords
  split
  · split
    · split
      · exact hl _ (by simp_all)
      · exact Nat.zero_le _
    · exact Nat.zero_le _
  · exact Nat.zero_le _
/-- The entry that a kind begins. -/
def kEnt (k : List UInt8) : EntV := (k, zeroGoods, zeroLot, zeroPlace, zeroPlace, 0)
def RdEnt (r : EntV × Nat) (w : World) (e : Ending) (w' : World) : Prop := e = .returned (.tuple #[.agg (encEnt r.1).toArray, .int .i64 (r.2 : Nat)]) ∧ Below w.heap.size w w'
theorem finEnt_err (x : EntV) {k : Nat} (h : k ≠ 0) : finEnt (x, k) = (zeroEnt, k) := if_pos h
theorem finEnt_bad {x : EntV} (h : entE x ≠ 0) : finEnt (x, 0) = (zeroEnt, entE x) := (if_neg (by simp)).trans (if_pos h)
theorem finEnt_ok {x : EntV} (h : entE x = 0) : finEnt (x, 0) = (x, 0) := (if_neg (by simp)).trans (if_neg (by simpa using h))

set_option maxHeartbeats 6400000 in
set_option maxRecDepth 100000 in
theorem refReadE_none (s : ByteArray) (hs : s.size ≤ 1000000) (k : List UInt8) (t : List (List UInt8)) (hw : splitL 32 (bts s) = k :: t) (hk : isKB k = false) (w : World) :
    Calls Tryz.prog 7 #[.string s] w (RdEnt ((zeroEnt, 4)) w) := by
  have HCT := Lib.hid (fun W => refCutC s 32 W hs)
  rw [hw] at HCT
  have hle : ∀ x ∈ k :: t, x.length ≤ 1000000 := fun x hx => Nat.le_trans (splitL_lens (c := 32) (l := bts s) (w := x) (by rw [hw]; exact hx)) hs
  have hn1 : t.length ≤ 1000001 := by
    have := splitL_count 32 (bts s)
    rw [hw] at this
    have h2 : (bts s).length = s.size := rfl
    simp only [List.length_cons] at this
    omega
  have HK := Lib.hid (fun W => isKind_any k W)
  rw [hk] at HK
  clear hk hle
  have hR0 := heap_alloc_new w (.cells (encEnt zeroEnt).toArray 29)
  have b0 := below_one w (.cells (encEnt zeroEnt).toArray 29)
  obtain ⟨R, hRb⟩ : ∃ R, R = w.heap.size := ⟨_, rfl⟩
  have hRw : w.heap.size ≤ R := Nat.le_of_eq hRb.symm
  have B0 := Lib.hid b0
  clear b0 hw hs
  go_enter Tryz.func7, Tryz.ntmps7
  go_wp2_with fail
  rw [show (w.alloc (.cells #[.string ⟨#[]⟩, .string ⟨#[]⟩, .int .i64 0, .string ⟨#[]⟩, .string ⟨#[]⟩, .int .i64 0, .int .i64 0, .string ⟨#[]⟩, .int .i64 0, .int .i64 0, .string ⟨#[]⟩, .int .i64 0, .int .i64 0, .int .i64 0] 29)) = w.alloc (.cells (encEnt zeroEnt).toArray 29) from rfl]
  rw [← hRb] at hR0 ⊢
  generalize w.alloc (.cells (encEnt zeroEnt).toArray 29) = W0 at hR0 B0 ⊢
  refine (HCT.out W0).mono ?_
  rintro e w1 ⟨A, cap, rfl, hS, hfr, b1, hcap⟩
  have hR1 := (b1.block R (row_lt hR0)).trans hR0
  have B1 := Lib.hid (B0.out.trans (b1.mono B0.out.size))
  obtain ⟨bl, o, rfl⟩ := strs_some hS
  have hblR : bl ≠ R := by have h1 : W0.heap.size ≤ bl := hfr _ rfl; have := row_lt hR0; omega
  have kc := strs_head hS
  rw [show (k :: t).length = t.length + 1 from rfl] at hcap ⊢
  clear b1 hR0 HCT hRb B0 hfr
  go_wp2_with fail
  refine (HK.out _).mono ?_
  rintro e w2 ⟨rfl, rfl⟩
  go_wp2_with (first | (refine wpList_store_box rfl 29 (.tmp 2) _ rfl R (encEnt zeroEnt) rfl rfl _ (encEnt zeroEnt) hR1 (by kernel_rfl) rfl (encEnt_one _) ?_; intro w9 hR9 t9))
  (try simp only [Exit.inBlock, Exit.then])
  refine bodyPost_ret (results_cell_row2 rfl _ _ R 29 (encEnt zeroEnt).toArray (0, 0) _ rfl hR9 Tryz.underlying29 rfl (by kernel_rfl)) rfl ?_
  exact ⟨rfl, B1.out.trans (t9.below hRw)⟩

set_option maxHeartbeats 6400000 in
set_option maxRecDepth 100000 in
theorem refReadE_goods_len (s : ByteArray) (hs : s.size ≤ 1000000) (k : List UInt8) (t : List (List UInt8)) (hw : splitL 32 (bts s) = k :: t) (hk : Hid (k = kGoods)) (hl : t.length ≠ 2) (w : World) :
    Calls Tryz.prog 7 #[.string s] w (RdEnt ((zeroEnt, 1)) w) := by
  have HCT := Lib.hid (fun W => refCutC s 32 W hs)
  rw [hw] at HCT
  have hle : ∀ x ∈ k :: t, x.length ≤ 1000000 := fun x hx => Nat.le_trans (splitL_lens (c := 32) (l := bts s) (w := x) (by rw [hw]; exact hx)) hs
  have hn1 : t.length ≤ 1000001 := by
    have := splitL_count 32 (bts s)
    rw [hw] at this
    have h2 : (bts s).length = s.size := rfl
    simp only [List.length_cons] at this
    omega
  have HK := Lib.hid (fun W => isKind_any k W)
  rw [show isKB k = true by rw [hk.out]; decide] at HK
  have hkb : (k == [103, 111, 111, 100, 115]) = true := by rw [hk.out]; rfl
  clear hle
  have h3 : ¬ (t.length : Int) + 1 = 3 := by omega
  have h3b : ((t.length : Int) + 1 == 3) = false := by simpa using h3
  clear hl
  have hR0 := heap_alloc_new w (.cells (encEnt zeroEnt).toArray 29)
  have b0 := below_one w (.cells (encEnt zeroEnt).toArray 29)
  obtain ⟨R, hRb⟩ : ∃ R, R = w.heap.size := ⟨_, rfl⟩
  have hRw : w.heap.size ≤ R := Nat.le_of_eq hRb.symm
  have B0 := Lib.hid b0
  clear b0 hw hs
  go_enter Tryz.func7, Tryz.ntmps7
  go_wp2_with fail
  rw [show (w.alloc (.cells #[.string ⟨#[]⟩, .string ⟨#[]⟩, .int .i64 0, .string ⟨#[]⟩, .string ⟨#[]⟩, .int .i64 0, .int .i64 0, .string ⟨#[]⟩, .int .i64 0, .int .i64 0, .string ⟨#[]⟩, .int .i64 0, .int .i64 0, .int .i64 0] 29)) = w.alloc (.cells (encEnt zeroEnt).toArray 29) from rfl]
  rw [← hRb] at hR0 ⊢
  generalize w.alloc (.cells (encEnt zeroEnt).toArray 29) = W0 at hR0 B0 ⊢
  refine (HCT.out W0).mono ?_
  rintro e w1 ⟨A, cap, rfl, hS, hfr, b1, hcap⟩
  have hR1 := (b1.block R (row_lt hR0)).trans hR0
  have B1 := Lib.hid (B0.out.trans (b1.mono B0.out.size))
  obtain ⟨bl, o, rfl⟩ := strs_some hS
  have hblR : bl ≠ R := by have h1 : W0.heap.size ≤ bl := hfr _ rfl; have := row_lt hR0; omega
  have kc := strs_head hS
  rw [show (k :: t).length = t.length + 1 from rfl] at hcap ⊢
  clear b1 hR0 HCT hRb B0 hfr
  go_wp2_with fail
  refine (HK.out _).mono ?_
  rintro e w2 ⟨rfl, rfl⟩
  have bo := below_one w1 (.cells (encEnt (kEnt k)).toArray 29)
  have hR2 := (bo.block R (row_lt hR1)).trans hR1
  have hS2 := hS.below bo
  have he2 := heap_alloc_new w1 (.cells (encEnt (kEnt k)).toArray 29)
  have B2 := Lib.hid (B1.out.trans (bo.mono B1.out.size))
  have hkc : (w1.alloc (.cells #[.string ⟨k.toArray⟩, .string ⟨#[]⟩, .int .i64 0, .string ⟨#[]⟩, .string ⟨#[]⟩, .int .i64 0, .int .i64 0, .string ⟨#[]⟩, .int .i64 0, .int .i64 0, .string ⟨#[]⟩, .int .i64 0, .int .i64 0, .int .i64 0] 29)).cell? ⟨bl, o, none⟩ = some (.string ⟨k.toArray⟩) := strs_head hS2
  have hne : R ≠ w1.heap.size := Nat.ne_of_lt (row_lt hR1)
  have hse : bl ≠ w1.heap.size := Nat.ne_of_lt (strs_lt hS)
  have hew : w.heap.size ≤ w1.heap.size := B1.out.size
  clear bo hR1 hS B1
  go_wp2_with (first | (refine wpList_store_box rfl 29 (.tmp 2) _ rfl R (encEnt zeroEnt) rfl rfl _ (encEnt zeroEnt) hR2 (by kernel_rfl) rfl (encEnt_one _) ?_; intro w9 hR9 t9))
  (try simp only [Exit.inBlock, Exit.then])
  refine bodyPost_ret (results_cell_row2 rfl _ _ R 29 (encEnt zeroEnt).toArray (0, 0) _ rfl hR9 Tryz.underlying29 rfl (by kernel_rfl)) rfl ?_
  exact ⟨rfl, B2.out.trans (t9.below hRw)⟩

set_option maxHeartbeats 6400000 in
set_option maxRecDepth 100000 in
theorem refReadE_goods (s : ByteArray) (hs : s.size ≤ 1000000) (k : List UInt8) (t : List (List UInt8)) (hw : splitL 32 (bts s) = k :: t) (hk : Hid (k = kGoods)) (c d : List UInt8) (ht : t = [c, d]) (hc : c.length ≤ 900000) (w : World) :
    Calls Tryz.prog 7 #[.string s] w (RdEnt (finEnt (if refNum d 13 < 0 then (zeroEnt, 1) else ((k, (c, refNum d 13), zeroLot, zeroPlace, zeroPlace, 0), 0))) w) := by
  have HCT := Lib.hid (fun W => refCutC s 32 W hs)
  rw [hw] at HCT
  have hle : ∀ x ∈ k :: t, x.length ≤ 1000000 := fun x hx => Nat.le_trans (splitL_lens (c := 32) (l := bts s) (w := x) (by rw [hw]; exact hx)) hs
  have hn1 : t.length ≤ 1000001 := by
    have := splitL_count 32 (bts s)
    rw [hw] at this
    have h2 : (bts s).length = s.size := rfl
    simp only [List.length_cons] at this
    omega
  have HK := Lib.hid (fun W => isKind_any k W)
  rw [show isKB k = true by rw [hk.out]; decide] at HK
  have hkb : (k == [103, 111, 111, 100, 115]) = true := by rw [hk.out]; rfl
  subst ht
  have HSH : Hid (∀ n, ShortE (k, (c, n), zeroLot, zeroPlace, zeroPlace, 0)) := fun n => ⟨by show c.length ≤ _; omega, Nat.zero_le _, Nat.zero_le _, Nat.zero_le _, Nat.zero_le _⟩
  have hdl := hle d (by simp)
  have HN := Lib.hid (fun W => refNumber_any d 13 (by omega) (by omega) W)
  generalize refNum d 13 = n at HN
  have HSH := Lib.hid (HSH.out n)
  obtain ⟨V, hV⟩ : ∃ V, V = finEnt (if n < 0 then (zeroEnt, 1) else ((k, (c, n), zeroLot, zeroPlace, zeroPlace, 0), 0)) := ⟨_, rfl⟩
  have HV := Lib.hid hV
  rw [← hV]
  clear hle hn1 hV
  have hR0 := heap_alloc_new w (.cells (encEnt zeroEnt).toArray 29)
  have b0 := below_one w (.cells (encEnt zeroEnt).toArray 29)
  obtain ⟨R, hRb⟩ : ∃ R, R = w.heap.size := ⟨_, rfl⟩
  have hRw : w.heap.size ≤ R := Nat.le_of_eq hRb.symm
  have B0 := Lib.hid b0
  clear b0 hw hs
  go_enter Tryz.func7, Tryz.ntmps7
  go_wp2_with fail
  rw [show (w.alloc (.cells #[.string ⟨#[]⟩, .string ⟨#[]⟩, .int .i64 0, .string ⟨#[]⟩, .string ⟨#[]⟩, .int .i64 0, .int .i64 0, .string ⟨#[]⟩, .int .i64 0, .int .i64 0, .string ⟨#[]⟩, .int .i64 0, .int .i64 0, .int .i64 0] 29)) = w.alloc (.cells (encEnt zeroEnt).toArray 29) from rfl]
  rw [← hRb] at hR0 ⊢
  generalize w.alloc (.cells (encEnt zeroEnt).toArray 29) = W0 at hR0 B0 ⊢
  refine (HCT.out W0).mono ?_
  rintro e w1 ⟨A, cap, rfl, hS, hfr, b1, hcap⟩
  have hR1 := (b1.block R (row_lt hR0)).trans hR0
  have B1 := Lib.hid (B0.out.trans (b1.mono B0.out.size))
  obtain ⟨bl, o, rfl⟩ := strs_some hS
  have hblR : bl ≠ R := by have h1 : W0.heap.size ≤ bl := hfr _ rfl; have := row_lt hR0; omega
  have kc := strs_head hS
  rw [show [k, c, d].length = 3 from rfl] at hcap ⊢
  clear b1 hR0 HCT hRb B0 hfr
  go_wp2_with fail
  refine (HK.out _).mono ?_
  rintro e w2 ⟨rfl, rfl⟩
  have bo := below_one w1 (.cells (encEnt (kEnt k)).toArray 29)
  have hR2 := (bo.block R (row_lt hR1)).trans hR1
  have hS2 := hS.below bo
  have he2 := heap_alloc_new w1 (.cells (encEnt (kEnt k)).toArray 29)
  have B2 := Lib.hid (B1.out.trans (bo.mono B1.out.size))
  have hkc : (w1.alloc (.cells #[.string ⟨k.toArray⟩, .string ⟨#[]⟩, .int .i64 0, .string ⟨#[]⟩, .string ⟨#[]⟩, .int .i64 0, .int .i64 0, .string ⟨#[]⟩, .int .i64 0, .int .i64 0, .string ⟨#[]⟩, .int .i64 0, .int .i64 0, .int .i64 0] 29)).cell? ⟨bl, o, none⟩ = some (.string ⟨k.toArray⟩) := strs_head hS2
  have hne : R ≠ w1.heap.size := Nat.ne_of_lt (row_lt hR1)
  have hse : bl ≠ w1.heap.size := Nat.ne_of_lt (strs_lt hS)
  have hew : w.heap.size ≤ w1.heap.size := B1.out.size
  clear bo hR1 hS B1
  go_wp2_with fail
  rw [show (w1.alloc (.cells #[.string ⟨k.toArray⟩, .string ⟨#[]⟩, .int .i64 0, .string ⟨#[]⟩, .string ⟨#[]⟩, .int .i64 0, .int .i64 0, .string ⟨#[]⟩, .int .i64 0, .int .i64 0, .string ⟨#[]⟩, .int .i64 0, .int .i64 0, .int .i64 0] 29)) = w1.alloc (.cells (encEnt (kEnt k)).toArray 29) from rfl]
  generalize w1.alloc (.cells (encEnt (kEnt k)).toArray 29) = W2 at hR2 hS2 he2 B2 ⊢
  clear hkc
  generalize w1.heap.size = eb at he2 hne hse hew ⊢
  have hkc := strs_head hS2
  have p1 := strs_at hS2 1 c rfl
  have p2 := strs_at hS2 2 d rfl
  obtain ⟨e1, e2⟩ : W2.cell? ⟨eb, 1, none⟩ = some (.string ⟨#[]⟩) ∧ W2.cell? ⟨eb, 2, none⟩ = some (.int .i64 0) := ⟨(cell_of_row _ _ _ _ _ _ he2).trans rfl, (cell_of_row _ _ _ _ _ _ he2).trans rfl⟩
  have f1 := frozen_of_row W2 eb 1 _ _ he2
  have f2 := frozen_of_row W2 eb 2 _ _ he2
  clear hS2
  go_region_held3 (fun w' => w'.cell? ⟨bl, o + 1, none⟩ = some (.string ⟨c.toArray⟩) ∧ w'.cell? ⟨bl, o + 2, none⟩ = some (.string ⟨d.toArray⟩))
    (first | exact ⟨p1, p2⟩ | exact ⟨cell_set2_drew p1 hse, cell_set2_drew p2 hse⟩ | go_keep)
    (first
      | (go_at_call 21; refine (HN.out _).mono ?_; rintro e w3 ⟨rfl, rfl⟩))
  all_goals
    have he3 := set2_row (j := 1) (j' := 2) he2 (.string ⟨c.toArray⟩) (.int .i64 n)
    have hR3 := set2_other (j := 1) (j' := 2) hR2 hne (.string ⟨c.toArray⟩) (.int .i64 n)
    have B3 := Lib.hid (set2_below 1 2 B2.out hew (.string ⟨c.toArray⟩) (.int .i64 n))
    have HX3 := Lib.hid (show ((encEnt (kEnt k)).toArray.setIfInBounds 1 (.string ⟨c.toArray⟩)).setIfInBounds 2 (.int .i64 n) = (encEnt (k, (c, n), zeroLot, zeroPlace, zeroPlace, 0)).toArray from rfl)
    rw [HX3.out] at he3
    generalize ((W2.setCell ⟨eb, 1, none⟩ (.string ⟨c.toArray⟩)).setCell ⟨eb, 2, none⟩ (.int .i64 n)).drew = W3 at he3 hR3 B3 ⊢
    clear hR2 he2 hkc p1 p2 e1 e2 f1 f2
    have c2 : W3.cell? ⟨eb, 2, none⟩ = some (.int .i64 n) := (cell_of_row _ _ _ _ _ _ he3).trans rfl
    by_cases hn : n < 0
    · have HV2 := Lib.hid (HV.out.trans (congrArg finEnt (if_pos hn)))
      go_wp2_with (first | (refine wpList_store_box rfl 29 (.tmp 2) _ rfl R (encEnt zeroEnt) rfl rfl _ (encEnt zeroEnt) hR3 (by kernel_rfl) rfl (encEnt_one _) ?_; intro w9 hR9 t9))
      (try simp only [Exit.inBlock, Exit.then])
      refine bodyPost_ret (results_cell_row2 rfl _ _ R 29 (encEnt zeroEnt).toArray (0, 0) _ rfl hR9 Tryz.underlying29 rfl (by kernel_rfl)) rfl ?_
      rw [HV2.out]
      exact ⟨rfl, B3.out.trans (t9.below hRw)⟩
    · have HV2 := Lib.hid (HV.out.trans (congrArg finEnt (if_neg hn)))
      have HE1 := Lib.hid (fun W => refEntE_any (k, (c, n), zeroLot, zeroPlace, zeroPlace, 0) W HSH.out)
      have hl1 : (encEnt (k, (c, n), zeroLot, zeroPlace, zeroPlace, 0)).length = 14 := rfl
      have lx := Lies.row (encEnt (k, (c, n), zeroLot, zeroPlace, zeroPlace, 0)) he3
      go_wp2_with (first | (refine wpList_load_at rfl 29 (.tmp 6) rfl eb 0 rfl (encEnt (k, (c, n), zeroLot, zeroPlace, zeroPlace, 0)) lx _ Tryz.underlying29 rfl (by kernel_rfl) ?_))
      refine (HE1.out _).mono ?_
      rintro e w7 ⟨rfl, b7⟩
      have hR7 := (b7.block R (row_lt hR3)).trans hR3
      have lx7 := lx.below b7
      have B7 := Lib.hid (B3.out.trans (b7.mono B3.out.size))
      clear b7 lx HE1
      by_cases hE : entE (k, (c, n), zeroLot, zeroPlace, zeroPlace, 0) = 0
      · have HFI := Lib.hid (finEnt_ok hE)
        rw [hE]
        clear hE
        go_wp2_with (first | (refine wpList_load_at rfl 29 (.tmp 6) rfl eb 0 rfl (encEnt (k, (c, n), zeroLot, zeroPlace, zeroPlace, 0)) lx7 _ Tryz.underlying29 rfl (by kernel_rfl) ?_) | (refine wpList_store_box rfl 29 _ _ rfl R (encEnt (k, (c, n), zeroLot, zeroPlace, zeroPlace, 0)) rfl rfl _ (encEnt zeroEnt) hR7 (by kernel_rfl) rfl (encEnt_one _) ?_; intro w9 hR9 t9))
        (try simp only [Exit.inBlock, Exit.then])
        refine bodyPost_ret (results_cell_row2 rfl _ _ R 29 (encEnt (k, (c, n), zeroLot, zeroPlace, zeroPlace, 0)).toArray (0, 0) _ rfl hR9 Tryz.underlying29 rfl (by kernel_rfl)) rfl ?_
        rw [HV2.out, HFI.out]
        exact ⟨rfl, B7.out.trans (t9.below hRw)⟩
      · have HFI := Lib.hid (finEnt_bad hE)
        have hpos : 0 < (entE (k, (c, n), zeroLot, zeroPlace, zeroPlace, 0) : Int) := by omega
        generalize entE (k, (c, n), zeroLot, zeroPlace, zeroPlace, 0) = ke at hpos HFI
        clear hE
        go_wp2_with (first | (refine wpList_store_box rfl 29 (.tmp 2) _ rfl R (encEnt zeroEnt) rfl rfl _ (encEnt zeroEnt) hR7 (by kernel_rfl) rfl (encEnt_one _) ?_; intro w9 hR9 t9))
        (try simp only [Exit.inBlock, Exit.then])
        refine bodyPost_ret (results_cell_row2 rfl _ _ R 29 (encEnt zeroEnt).toArray (0, 0) _ rfl hR9 Tryz.underlying29 rfl (by kernel_rfl)) rfl ?_
        rw [HV2.out, HFI.out]
        exact ⟨rfl, B7.out.trans (t9.below hRw)⟩

set_option maxHeartbeats 6400000 in
set_option maxRecDepth 100000 in
theorem refReadE_lot (s : ByteArray) (hs : s.size ≤ 1000000) (k : List UInt8) (t : List (List UInt8)) (hw : splitL 32 (bts s) = k :: t) (hk : Hid (k = kLot)) (w : World) :
    Calls Tryz.prog 7 #[.string s] w (RdEnt (finEnt ((k, zeroGoods, (lotWords t).1, zeroPlace, zeroPlace, 0), (lotWords t).2)) w) := by
  have HCT := Lib.hid (fun W => refCutC s 32 W hs)
  rw [hw] at HCT
  have hle : ∀ x ∈ k :: t, x.length ≤ 1000000 := fun x hx => Nat.le_trans (splitL_lens (c := 32) (l := bts s) (w := x) (by rw [hw]; exact hx)) hs
  have hn1 : t.length ≤ 1000001 := by
    have := splitL_count 32 (bts s)
    rw [hw] at this
    have h2 : (bts s).length = s.size := rfl
    simp only [List.length_cons] at this
    omega
  have HK := Lib.hid (fun W => isKind_any k W)
  rw [show isKB k = true by rw [hk.out]; decide] at HK
  have hkb : (k == [103, 111, 111, 100, 115]) = false := by rw [hk.out]; rfl
  have hkl : (k == [108, 111, 116]) = true := by rw [hk.out]; rfl
  have HRL := Lib.hid (fun W A c (h : StrsAt W A t) => refReadLot_any A c t W h (fun x hx => hle x (List.mem_cons_of_mem _ hx)))
  have hsl := lotWords_lens (ws := t) (N := 1000000) fun x hx => hle x (List.mem_cons_of_mem _ hx)
  have HSH : Hid (ShortE (k, zeroGoods, (lotWords t).1, zeroPlace, zeroPlace, 0)) := ⟨Nat.zero_le _, hsl.1, hsl.2, Nat.zero_le _, Nat.zero_le _⟩
  obtain ⟨V, hV⟩ : ∃ V, V = finEnt ((k, zeroGoods, (lotWords t).1, zeroPlace, zeroPlace, 0), (lotWords t).2) := ⟨_, rfl⟩
  have HV := Lib.hid hV
  rw [← hV]
  generalize (lotWords t).1 = lo at HRL HSH HV
  generalize (lotWords t).2 = kl at HRL HV
  clear hle hV hsl
  have hR0 := heap_alloc_new w (.cells (encEnt zeroEnt).toArray 29)
  have b0 := below_one w (.cells (encEnt zeroEnt).toArray 29)
  obtain ⟨R, hRb⟩ : ∃ R, R = w.heap.size := ⟨_, rfl⟩
  have hRw : w.heap.size ≤ R := Nat.le_of_eq hRb.symm
  have B0 := Lib.hid b0
  clear b0 hw hs
  go_enter Tryz.func7, Tryz.ntmps7
  go_wp2_with fail
  rw [show (w.alloc (.cells #[.string ⟨#[]⟩, .string ⟨#[]⟩, .int .i64 0, .string ⟨#[]⟩, .string ⟨#[]⟩, .int .i64 0, .int .i64 0, .string ⟨#[]⟩, .int .i64 0, .int .i64 0, .string ⟨#[]⟩, .int .i64 0, .int .i64 0, .int .i64 0] 29)) = w.alloc (.cells (encEnt zeroEnt).toArray 29) from rfl]
  rw [← hRb] at hR0 ⊢
  generalize w.alloc (.cells (encEnt zeroEnt).toArray 29) = W0 at hR0 B0 ⊢
  refine (HCT.out W0).mono ?_
  rintro e w1 ⟨A, cap, rfl, hS, hfr, b1, hcap⟩
  have hR1 := (b1.block R (row_lt hR0)).trans hR0
  have B1 := Lib.hid (B0.out.trans (b1.mono B0.out.size))
  obtain ⟨bl, o, rfl⟩ := strs_some hS
  have hblR : bl ≠ R := by have h1 : W0.heap.size ≤ bl := hfr _ rfl; have := row_lt hR0; omega
  have kc := strs_head hS
  rw [show (k :: t).length = t.length + 1 from rfl] at hcap ⊢
  clear b1 hR0 HCT hRb B0 hfr
  go_wp2_with fail
  refine (HK.out _).mono ?_
  rintro e w2 ⟨rfl, rfl⟩
  have bo := below_one w1 (.cells (encEnt (kEnt k)).toArray 29)
  have hR2 := (bo.block R (row_lt hR1)).trans hR1
  have hS2 := hS.below bo
  have he2 := heap_alloc_new w1 (.cells (encEnt (kEnt k)).toArray 29)
  have B2 := Lib.hid (B1.out.trans (bo.mono B1.out.size))
  have hkc : (w1.alloc (.cells #[.string ⟨k.toArray⟩, .string ⟨#[]⟩, .int .i64 0, .string ⟨#[]⟩, .string ⟨#[]⟩, .int .i64 0, .int .i64 0, .string ⟨#[]⟩, .int .i64 0, .int .i64 0, .string ⟨#[]⟩, .int .i64 0, .int .i64 0, .int .i64 0] 29)).cell? ⟨bl, o, none⟩ = some (.string ⟨k.toArray⟩) := strs_head hS2
  have hne : R ≠ w1.heap.size := Nat.ne_of_lt (row_lt hR1)
  have hse : bl ≠ w1.heap.size := Nat.ne_of_lt (strs_lt hS)
  have hew : w.heap.size ≤ w1.heap.size := B1.out.size
  clear bo hR1 hS B1
  have hc1 : (1 : Int) ≤ (t.length : Int) + 1 := by omega
  by_cases hcc : cap = 1
  · have ht0 : t.length = 0 := by omega
    obtain rfl := List.eq_nil_of_length_eq_zero ht0
    subst hcc
    go_wp2_with fail
    rw [show (w1.alloc (.cells #[.string ⟨k.toArray⟩, .string ⟨#[]⟩, .int .i64 0, .string ⟨#[]⟩, .string ⟨#[]⟩, .int .i64 0, .int .i64 0, .string ⟨#[]⟩, .int .i64 0, .int .i64 0, .string ⟨#[]⟩, .int .i64 0, .int .i64 0, .int .i64 0] 29)) = w1.alloc (.cells (encEnt (kEnt k)).toArray 29) from rfl]
    generalize w1.alloc (.cells (encEnt (kEnt k)).toArray 29) = W2 at hR2 hS2 he2 B2 ⊢
    clear hkc
    generalize w1.heap.size = eb at he2 hne hse hew ⊢
    have hkc := strs_head hS2
    refine (HRL.out W2 (some ⟨bl, o, none⟩) 0 (.inl rfl)).mono ?_
    rintro e w3 ⟨rfl, b3⟩
    have hR3 := (b3.block R (row_lt hR2)).trans hR2
    have he3 := (b3.block eb (row_lt he2)).trans he2
    have B3 := Lib.hid (B2.out.trans (b3.mono B2.out.size))
    clear b3 hR2 he2 hS2 hkc B2 HRL
    have bo := below_one w3 (.cells #[.string ⟨#[]⟩, .string ⟨#[]⟩, .int .i64 0, .int .i64 0] 25)
    have hR4 := (bo.block R (row_lt hR3)).trans hR3
    have he4 := (bo.block eb (row_lt he3)).trans he3
    have hl4 := heap_alloc_new w3 (.cells #[.string ⟨#[]⟩, .string ⟨#[]⟩, .int .i64 0, .int .i64 0] 25)
    have B4 := Lib.hid (B3.out.trans (bo.mono B3.out.size))
    have hnl : w3.heap.size ≠ eb := Ne.symm (Nat.ne_of_lt (row_lt he3))
    have hnR : R ≠ w3.heap.size := Nat.ne_of_lt (row_lt hR3)
    have hlw : w.heap.size ≤ w3.heap.size := B3.out.size
    clear bo hR3 he3 B3
    by_cases hkz : kl = 0
    · subst hkz
      have HV2 := HV
      rw [show ((0 : Nat) : Int) = 0 from rfl]
      have HE1 := Lib.hid (fun W => refEntE_any (k, zeroGoods, lo, zeroPlace, zeroPlace, 0) W HSH.out)
      have hl1 : (encEnt (k, zeroGoods, lo, zeroPlace, zeroPlace, 0)).length = 14 := rfl
      go_wp2_with (first | (refine wpList_store_box rfl 25 (.tmp 7) _ rfl w3.heap.size (encLot lo) rfl rfl _ [.string ⟨#[]⟩, .string ⟨#[]⟩, .int .i64 0, .int .i64 0] hl4 (by kernel_rfl) rfl (encLot_one _) ?_; intro w5 hl5 t5; have hR5 := t5.heap hR4 hnR; have he5 := t5.heap he4 (Ne.symm hnl); have B5 := Lib.hid (B4.out.trans (t5.below hlw)); have ll5 := Lies.row _ hl5; clear hR4 he4 hl4 t5) | (refine wpList_load_at rfl 25 (.tmp 7) rfl w3.heap.size 0 rfl (encLot lo) ll5 _ Tryz.underlying25 rfl (by kernel_rfl) ?_) | (refine wpList_store_at rfl 25 (.tmp 67) _ rfl eb 3 (encLot lo) rfl rfl _ (encEnt (kEnt k)) he5 (by kernel_rfl) (Nat.le_of_ble_eq_true rfl) (encLot_one _) ?_; intro w6 he6 t6; have hR6 := t6.heap hR5 hne; have B6 := Lib.hid (B5.out.trans (t6.below hew)); rw [rdx_lot] at he6; have lx := Lies.row (encEnt (k, zeroGoods, lo, zeroPlace, zeroPlace, 0)) he6; clear he5 hR5 B5 t6) | (refine wpList_load_at rfl 29 (.tmp 6) rfl eb 0 rfl (encEnt (k, zeroGoods, lo, zeroPlace, zeroPlace, 0)) lx _ Tryz.underlying29 rfl (by kernel_rfl) ?_))
      refine (HE1.out _).mono ?_
      rintro e w7 ⟨rfl, b7⟩
      have hR7 := (b7.block R (row_lt hR6)).trans hR6
      have lx7 := lx.below b7
      have B7 := Lib.hid (B6.out.trans (b7.mono B6.out.size))
      clear b7 lx HE1
      by_cases hE : entE (k, zeroGoods, lo, zeroPlace, zeroPlace, 0) = 0
      · have HFI := Lib.hid (finEnt_ok hE)
        rw [hE]
        clear hE
        go_wp2_with (first | (refine wpList_load_at rfl 29 (.tmp 6) rfl eb 0 rfl (encEnt (k, zeroGoods, lo, zeroPlace, zeroPlace, 0)) lx7 _ Tryz.underlying29 rfl (by kernel_rfl) ?_) | (refine wpList_store_box rfl 29 _ _ rfl R (encEnt (k, zeroGoods, lo, zeroPlace, zeroPlace, 0)) rfl rfl _ (encEnt zeroEnt) hR7 (by kernel_rfl) rfl (encEnt_one _) ?_; intro w9 hR9 t9))
        (try simp only [Exit.inBlock, Exit.then])
        refine bodyPost_ret (results_cell_row2 rfl _ _ R 29 (encEnt (k, zeroGoods, lo, zeroPlace, zeroPlace, 0)).toArray (0, 0) _ rfl hR9 Tryz.underlying29 rfl (by kernel_rfl)) rfl ?_
        rw [HV2.out, HFI.out]
        exact ⟨rfl, B7.out.trans (t9.below hRw)⟩
      · have HFI := Lib.hid (finEnt_bad hE)
        have hpos : 0 < (entE (k, zeroGoods, lo, zeroPlace, zeroPlace, 0) : Int) := by omega
        generalize entE (k, zeroGoods, lo, zeroPlace, zeroPlace, 0) = ke at hpos HFI
        clear hE
        go_wp2_with (first | (refine wpList_store_box rfl 29 (.tmp 2) _ rfl R (encEnt zeroEnt) rfl rfl _ (encEnt zeroEnt) hR7 (by kernel_rfl) rfl (encEnt_one _) ?_; intro w9 hR9 t9))
        (try simp only [Exit.inBlock, Exit.then])
        refine bodyPost_ret (results_cell_row2 rfl _ _ R 29 (encEnt zeroEnt).toArray (0, 0) _ rfl hR9 Tryz.underlying29 rfl (by kernel_rfl)) rfl ?_
        rw [HV2.out, HFI.out]
        exact ⟨rfl, B7.out.trans (t9.below hRw)⟩
    · have HV2 := Lib.hid (HV.out.trans (finEnt_err _ hkz))
      have hpos : 0 < (kl : Int) := by omega
      clear hkz
      go_wp2_with (first | (refine wpList_store_box rfl 25 (.tmp 7) _ rfl w3.heap.size (encLot lo) rfl rfl _ [.string ⟨#[]⟩, .string ⟨#[]⟩, .int .i64 0, .int .i64 0] hl4 (by kernel_rfl) rfl (encLot_one _) ?_; intro w5 hl5 t5; have hR5 := t5.heap hR4 hnR; have he5 := t5.heap he4 (Ne.symm hnl); have B5 := Lib.hid (B4.out.trans (t5.below hlw)); have ll5 := Lies.row _ hl5; clear hR4 he4 hl4 t5) | (refine wpList_store_box rfl 29 (.tmp 2) _ rfl R (encEnt zeroEnt) rfl rfl _ (encEnt zeroEnt) hR5 (by kernel_rfl) rfl (encEnt_one _) ?_; intro w9 hR9 t9))
      (try simp only [Exit.inBlock, Exit.then])
      refine bodyPost_ret (results_cell_row2 rfl _ _ R 29 (encEnt zeroEnt).toArray (0, 0) _ rfl hR9 Tryz.underlying29 rfl (by kernel_rfl)) rfl ?_
      rw [HV2.out]
      exact ⟨rfl, B5.out.trans (t9.below hRw)⟩
  · go_wp2_with fail
    rw [show (w1.alloc (.cells #[.string ⟨k.toArray⟩, .string ⟨#[]⟩, .int .i64 0, .string ⟨#[]⟩, .string ⟨#[]⟩, .int .i64 0, .int .i64 0, .string ⟨#[]⟩, .int .i64 0, .int .i64 0, .string ⟨#[]⟩, .int .i64 0, .int .i64 0, .int .i64 0] 29)) = w1.alloc (.cells (encEnt (kEnt k)).toArray 29) from rfl]
    generalize w1.alloc (.cells (encEnt (kEnt k)).toArray 29) = W2 at hR2 hS2 he2 B2 ⊢
    clear hkc
    generalize w1.heap.size = eb at he2 hne hse hew ⊢
    have hkc := strs_head hS2
    refine (HRL.out W2 (some ⟨bl, o + 1, none⟩) (cap - 1) (strs_tail hS2)).mono ?_
    rintro e w3 ⟨rfl, b3⟩
    have hR3 := (b3.block R (row_lt hR2)).trans hR2
    have he3 := (b3.block eb (row_lt he2)).trans he2
    have B3 := Lib.hid (B2.out.trans (b3.mono B2.out.size))
    clear b3 hR2 he2 hS2 hkc B2 HRL
    have bo := below_one w3 (.cells #[.string ⟨#[]⟩, .string ⟨#[]⟩, .int .i64 0, .int .i64 0] 25)
    have hR4 := (bo.block R (row_lt hR3)).trans hR3
    have he4 := (bo.block eb (row_lt he3)).trans he3
    have hl4 := heap_alloc_new w3 (.cells #[.string ⟨#[]⟩, .string ⟨#[]⟩, .int .i64 0, .int .i64 0] 25)
    have B4 := Lib.hid (B3.out.trans (bo.mono B3.out.size))
    have hnl : w3.heap.size ≠ eb := Ne.symm (Nat.ne_of_lt (row_lt he3))
    have hnR : R ≠ w3.heap.size := Nat.ne_of_lt (row_lt hR3)
    have hlw : w.heap.size ≤ w3.heap.size := B3.out.size
    clear bo hR3 he3 B3
    by_cases hkz : kl = 0
    · subst hkz
      have HV2 := HV
      rw [show ((0 : Nat) : Int) = 0 from rfl]
      have HE1 := Lib.hid (fun W => refEntE_any (k, zeroGoods, lo, zeroPlace, zeroPlace, 0) W HSH.out)
      have hl1 : (encEnt (k, zeroGoods, lo, zeroPlace, zeroPlace, 0)).length = 14 := rfl
      go_wp2_with (first | (refine wpList_store_box rfl 25 (.tmp 7) _ rfl w3.heap.size (encLot lo) rfl rfl _ [.string ⟨#[]⟩, .string ⟨#[]⟩, .int .i64 0, .int .i64 0] hl4 (by kernel_rfl) rfl (encLot_one _) ?_; intro w5 hl5 t5; have hR5 := t5.heap hR4 hnR; have he5 := t5.heap he4 (Ne.symm hnl); have B5 := Lib.hid (B4.out.trans (t5.below hlw)); have ll5 := Lies.row _ hl5; clear hR4 he4 hl4 t5) | (refine wpList_load_at rfl 25 (.tmp 7) rfl w3.heap.size 0 rfl (encLot lo) ll5 _ Tryz.underlying25 rfl (by kernel_rfl) ?_) | (refine wpList_store_at rfl 25 (.tmp 67) _ rfl eb 3 (encLot lo) rfl rfl _ (encEnt (kEnt k)) he5 (by kernel_rfl) (Nat.le_of_ble_eq_true rfl) (encLot_one _) ?_; intro w6 he6 t6; have hR6 := t6.heap hR5 hne; have B6 := Lib.hid (B5.out.trans (t6.below hew)); rw [rdx_lot] at he6; have lx := Lies.row (encEnt (k, zeroGoods, lo, zeroPlace, zeroPlace, 0)) he6; clear he5 hR5 B5 t6) | (refine wpList_load_at rfl 29 (.tmp 6) rfl eb 0 rfl (encEnt (k, zeroGoods, lo, zeroPlace, zeroPlace, 0)) lx _ Tryz.underlying29 rfl (by kernel_rfl) ?_))
      refine (HE1.out _).mono ?_
      rintro e w7 ⟨rfl, b7⟩
      have hR7 := (b7.block R (row_lt hR6)).trans hR6
      have lx7 := lx.below b7
      have B7 := Lib.hid (B6.out.trans (b7.mono B6.out.size))
      clear b7 lx HE1
      by_cases hE : entE (k, zeroGoods, lo, zeroPlace, zeroPlace, 0) = 0
      · have HFI := Lib.hid (finEnt_ok hE)
        rw [hE]
        clear hE
        go_wp2_with (first | (refine wpList_load_at rfl 29 (.tmp 6) rfl eb 0 rfl (encEnt (k, zeroGoods, lo, zeroPlace, zeroPlace, 0)) lx7 _ Tryz.underlying29 rfl (by kernel_rfl) ?_) | (refine wpList_store_box rfl 29 _ _ rfl R (encEnt (k, zeroGoods, lo, zeroPlace, zeroPlace, 0)) rfl rfl _ (encEnt zeroEnt) hR7 (by kernel_rfl) rfl (encEnt_one _) ?_; intro w9 hR9 t9))
        (try simp only [Exit.inBlock, Exit.then])
        refine bodyPost_ret (results_cell_row2 rfl _ _ R 29 (encEnt (k, zeroGoods, lo, zeroPlace, zeroPlace, 0)).toArray (0, 0) _ rfl hR9 Tryz.underlying29 rfl (by kernel_rfl)) rfl ?_
        rw [HV2.out, HFI.out]
        exact ⟨rfl, B7.out.trans (t9.below hRw)⟩
      · have HFI := Lib.hid (finEnt_bad hE)
        have hpos : 0 < (entE (k, zeroGoods, lo, zeroPlace, zeroPlace, 0) : Int) := by omega
        generalize entE (k, zeroGoods, lo, zeroPlace, zeroPlace, 0) = ke at hpos HFI
        clear hE
        go_wp2_with (first | (refine wpList_store_box rfl 29 (.tmp 2) _ rfl R (encEnt zeroEnt) rfl rfl _ (encEnt zeroEnt) hR7 (by kernel_rfl) rfl (encEnt_one _) ?_; intro w9 hR9 t9))
        (try simp only [Exit.inBlock, Exit.then])
        refine bodyPost_ret (results_cell_row2 rfl _ _ R 29 (encEnt zeroEnt).toArray (0, 0) _ rfl hR9 Tryz.underlying29 rfl (by kernel_rfl)) rfl ?_
        rw [HV2.out, HFI.out]
        exact ⟨rfl, B7.out.trans (t9.below hRw)⟩
    · have HV2 := Lib.hid (HV.out.trans (finEnt_err _ hkz))
      have hpos : 0 < (kl : Int) := by omega
      clear hkz
      go_wp2_with (first | (refine wpList_store_box rfl 25 (.tmp 7) _ rfl w3.heap.size (encLot lo) rfl rfl _ [.string ⟨#[]⟩, .string ⟨#[]⟩, .int .i64 0, .int .i64 0] hl4 (by kernel_rfl) rfl (encLot_one _) ?_; intro w5 hl5 t5; have hR5 := t5.heap hR4 hnR; have he5 := t5.heap he4 (Ne.symm hnl); have B5 := Lib.hid (B4.out.trans (t5.below hlw)); have ll5 := Lies.row _ hl5; clear hR4 he4 hl4 t5) | (refine wpList_store_box rfl 29 (.tmp 2) _ rfl R (encEnt zeroEnt) rfl rfl _ (encEnt zeroEnt) hR5 (by kernel_rfl) rfl (encEnt_one _) ?_; intro w9 hR9 t9))
      (try simp only [Exit.inBlock, Exit.then])
      refine bodyPost_ret (results_cell_row2 rfl _ _ R 29 (encEnt zeroEnt).toArray (0, 0) _ rfl hR9 Tryz.underlying29 rfl (by kernel_rfl)) rfl ?_
      rw [HV2.out]
      exact ⟨rfl, B5.out.trans (t9.below hRw)⟩

set_option maxHeartbeats 6400000 in
set_option maxRecDepth 100000 in
theorem refReadE_len00 (s : ByteArray) (hs : s.size ≤ 1000000) (k : List UInt8) (t : List (List UInt8)) (hw : splitL 32 (bts s) = k :: t) (hk1 : k ≠ kGoods) (hk2 : k ≠ kLot) (hk3 : isP k = true) (hF : hasF k = false) (hT : hasT k = false) (hl : t.length ≠ 2) (w : World) :
    Calls Tryz.prog 7 #[.string s] w (RdEnt ((zeroEnt, 1)) w) := by
  have HCT := Lib.hid (fun W => refCutC s 32 W hs)
  rw [hw] at HCT
  have hle : ∀ x ∈ k :: t, x.length ≤ 1000000 := fun x hx => Nat.le_trans (splitL_lens (c := 32) (l := bts s) (w := x) (by rw [hw]; exact hx)) hs
  have hn1 : t.length ≤ 1000001 := by
    have := splitL_count 32 (bts s)
    rw [hw] at this
    have h2 : (bts s).length = s.size := rfl
    simp only [List.length_cons] at this
    omega
  have HK := Lib.hid (fun W => isKind_any k W)
  rw [show isKB k = true by unfold isKB; rw [hk3]; simp] at HK
  have HF := Lib.hid (fun W => hasFrom_any k W)
  have HT := Lib.hid (fun W => hasTo_any k W)
  rw [hF] at HF
  rw [hT] at HT
  have hkb : (k == [103, 111, 111, 100, 115]) = false := beq_eq_false_iff_ne.2 hk1
  have hkl : (k == [108, 111, 116]) = false := beq_eq_false_iff_ne.2 hk2
  have h3 : ¬ (t.length : Int) + 1 = 3 := by omega
  have h3b : ((t.length : Int) + 1 == 3) = false := by simpa using h3
  clear hle hl hk1 hk2 hk3 hF hT
  have hR0 := heap_alloc_new w (.cells (encEnt zeroEnt).toArray 29)
  have b0 := below_one w (.cells (encEnt zeroEnt).toArray 29)
  obtain ⟨R, hRb⟩ : ∃ R, R = w.heap.size := ⟨_, rfl⟩
  have hRw : w.heap.size ≤ R := Nat.le_of_eq hRb.symm
  have B0 := Lib.hid b0
  clear b0 hw hs
  go_enter Tryz.func7, Tryz.ntmps7
  go_wp2_with fail
  rw [show (w.alloc (.cells #[.string ⟨#[]⟩, .string ⟨#[]⟩, .int .i64 0, .string ⟨#[]⟩, .string ⟨#[]⟩, .int .i64 0, .int .i64 0, .string ⟨#[]⟩, .int .i64 0, .int .i64 0, .string ⟨#[]⟩, .int .i64 0, .int .i64 0, .int .i64 0] 29)) = w.alloc (.cells (encEnt zeroEnt).toArray 29) from rfl]
  rw [← hRb] at hR0 ⊢
  generalize w.alloc (.cells (encEnt zeroEnt).toArray 29) = W0 at hR0 B0 ⊢
  refine (HCT.out W0).mono ?_
  rintro e w1 ⟨A, cap, rfl, hS, hfr, b1, hcap⟩
  have hR1 := (b1.block R (row_lt hR0)).trans hR0
  have B1 := Lib.hid (B0.out.trans (b1.mono B0.out.size))
  obtain ⟨bl, o, rfl⟩ := strs_some hS
  have hblR : bl ≠ R := by have h1 : W0.heap.size ≤ bl := hfr _ rfl; have := row_lt hR0; omega
  have kc := strs_head hS
  rw [show (k :: t).length = t.length + 1 from rfl] at hcap ⊢
  clear b1 hR0 HCT hRb B0 hfr
  go_wp2_with fail
  refine (HK.out _).mono ?_
  rintro e w2 ⟨rfl, rfl⟩
  have bo := below_one w1 (.cells (encEnt (kEnt k)).toArray 29)
  have hR2 := (bo.block R (row_lt hR1)).trans hR1
  have hS2 := hS.below bo
  have he2 := heap_alloc_new w1 (.cells (encEnt (kEnt k)).toArray 29)
  have B2 := Lib.hid (B1.out.trans (bo.mono B1.out.size))
  have hkc : (w1.alloc (.cells #[.string ⟨k.toArray⟩, .string ⟨#[]⟩, .int .i64 0, .string ⟨#[]⟩, .string ⟨#[]⟩, .int .i64 0, .int .i64 0, .string ⟨#[]⟩, .int .i64 0, .int .i64 0, .string ⟨#[]⟩, .int .i64 0, .int .i64 0, .int .i64 0] 29)).cell? ⟨bl, o, none⟩ = some (.string ⟨k.toArray⟩) := strs_head hS2
  have hne : R ≠ w1.heap.size := Nat.ne_of_lt (row_lt hR1)
  have hse : bl ≠ w1.heap.size := Nat.ne_of_lt (strs_lt hS)
  have hew : w.heap.size ≤ w1.heap.size := B1.out.size
  clear bo hR1 hS B1
  go_wp2_with fail
  rw [show (w1.alloc (.cells #[.string ⟨k.toArray⟩, .string ⟨#[]⟩, .int .i64 0, .string ⟨#[]⟩, .string ⟨#[]⟩, .int .i64 0, .int .i64 0, .string ⟨#[]⟩, .int .i64 0, .int .i64 0, .string ⟨#[]⟩, .int .i64 0, .int .i64 0, .int .i64 0] 29)) = w1.alloc (.cells (encEnt (kEnt k)).toArray 29) from rfl]
  generalize w1.alloc (.cells (encEnt (kEnt k)).toArray 29) = W2 at hR2 hS2 he2 B2 ⊢
  clear hkc
  generalize w1.heap.size = eb at he2 hne hse hew ⊢
  have hkc := strs_head hS2
  refine (HF.out _).mono ?_
  rintro e w2 ⟨rfl, rfl⟩
  go_wp2_with fail
  refine (HT.out _).mono ?_
  rintro e w2 ⟨rfl, rfl⟩
  go_wp2_with (first | (refine wpList_store_box rfl 29 (.tmp 2) _ rfl R (encEnt zeroEnt) rfl rfl _ (encEnt zeroEnt) hR2 (by kernel_rfl) rfl (encEnt_one _) ?_; intro w9 hR9 t9))
  (try simp only [Exit.inBlock, Exit.then])
  refine bodyPost_ret (results_cell_row2 rfl _ _ R 29 (encEnt zeroEnt).toArray (0, 0) _ rfl hR9 Tryz.underlying29 rfl (by kernel_rfl)) rfl ?_
  exact ⟨rfl, B2.out.trans (t9.below hRw)⟩

set_option maxHeartbeats 12800000 in
set_option maxRecDepth 100000 in
theorem refReadE_p00 (s : ByteArray) (hs : s.size ≤ 1000000) (k : List UInt8) (t : List (List UInt8)) (hw : splitL 32 (bts s) = k :: t) (hk1 : k ≠ kGoods) (hk2 : k ≠ kLot) (hk3 : isP k = true) (hF : hasF k = false) (hT : hasT k = false) (a d : List UInt8) (ht : t = [a, d]) (w : World) :
    Calls Tryz.prog 7 #[.string s] w (RdEnt (finEnt (entPieces k [k, a, d])) w) := by
  have HCT := Lib.hid (fun W => refCutC s 32 W hs)
  rw [hw] at HCT
  have hle : ∀ x ∈ k :: t, x.length ≤ 1000000 := fun x hx => Nat.le_trans (splitL_lens (c := 32) (l := bts s) (w := x) (by rw [hw]; exact hx)) hs
  have hn1 : t.length ≤ 1000001 := by
    have := splitL_count 32 (bts s)
    rw [hw] at this
    have h2 : (bts s).length = s.size := rfl
    simp only [List.length_cons] at this
    omega
  have HK := Lib.hid (fun W => isKind_any k W)
  rw [show isKB k = true by unfold isKB; rw [hk3]; simp] at HK
  have HF := Lib.hid (fun W => hasFrom_any k W)
  have HT := Lib.hid (fun W => hasTo_any k W)
  have hkb : (k == [103, 111, 111, 100, 115]) = false := beq_eq_false_iff_ne.2 hk1
  have hkl : (k == [108, 111, 116]) = false := beq_eq_false_iff_ne.2 hk2
  subst ht
  have hal := hle a (by simp)
  have hdl := hle d (by simp)
  have HN := Lib.hid (fun W => refNumber_any d 13 (by omega) (by omega) W)
  rw [refNum_eq d 13 (by omega)] at HN
  obtain ⟨V, hV⟩ : ∃ V, V = finEnt (entPieces k [k, a, d]) := ⟨_, rfl⟩
  rw [← hV]
  have HV0 : Hid (numQ d 13 = none → V = (zeroEnt, 1)) := fun h => hV.trans ((congrArg finEnt (entPieces_num (k := k) (ws := [k, a, d]) h)).trans (finEnt_err _ (by decide)))
  have HVX : Hid (∀ u : Nat, numQ d 13 = some u → V = finEnt ((k, zeroGoods, (a, [], 0, 0), zeroPlace, zeroPlace, (u : Int)), 0)) := fun u h  => by
    show V = _
    rw [hV]
    unfold entPieces
    simp only [hF, hT, List.length_cons, List.length_nil, List.getLast?_cons_cons, List.getLast?_singleton, Option.getD_some, h]
    simp []
  rw [hF] at HF
  rw [hT] at HT
  have HSHU : Hid (∀ u : Int, ShortE (k, zeroGoods, (a, [], 0, 0), zeroPlace, zeroPlace, u)) := fun u => ⟨Nat.zero_le _, by show a.length ≤ _; omega, Nat.zero_le _, Nat.zero_le _, Nat.zero_le _⟩
  clear hle hn1 hV hk1 hk2 hk3 hF hT
  have hR0 := heap_alloc_new w (.cells (encEnt zeroEnt).toArray 29)
  have b0 := below_one w (.cells (encEnt zeroEnt).toArray 29)
  obtain ⟨R, hRb⟩ : ∃ R, R = w.heap.size := ⟨_, rfl⟩
  have hRw : w.heap.size ≤ R := Nat.le_of_eq hRb.symm
  have B0 := Lib.hid b0
  clear b0 hw hs
  go_enter Tryz.func7, Tryz.ntmps7
  go_wp2_with fail
  rw [show (w.alloc (.cells #[.string ⟨#[]⟩, .string ⟨#[]⟩, .int .i64 0, .string ⟨#[]⟩, .string ⟨#[]⟩, .int .i64 0, .int .i64 0, .string ⟨#[]⟩, .int .i64 0, .int .i64 0, .string ⟨#[]⟩, .int .i64 0, .int .i64 0, .int .i64 0] 29)) = w.alloc (.cells (encEnt zeroEnt).toArray 29) from rfl]
  rw [← hRb] at hR0 ⊢
  generalize w.alloc (.cells (encEnt zeroEnt).toArray 29) = W0 at hR0 B0 ⊢
  refine (HCT.out W0).mono ?_
  rintro e w1 ⟨A, cap, rfl, hS, hfr, b1, hcap⟩
  have hR1 := (b1.block R (row_lt hR0)).trans hR0
  have B1 := Lib.hid (B0.out.trans (b1.mono B0.out.size))
  obtain ⟨bl, o, rfl⟩ := strs_some hS
  have hblR : bl ≠ R := by have h1 : W0.heap.size ≤ bl := hfr _ rfl; have := row_lt hR0; omega
  have kc := strs_head hS
  rw [show [k, a, d].length = 3 from rfl] at hcap ⊢
  clear b1 hR0 HCT hRb B0 hfr
  go_wp2_with fail
  refine (HK.out _).mono ?_
  rintro e w2 ⟨rfl, rfl⟩
  have bo := below_one w1 (.cells (encEnt (kEnt k)).toArray 29)
  have hR2 := (bo.block R (row_lt hR1)).trans hR1
  have hS2 := hS.below bo
  have he2 := heap_alloc_new w1 (.cells (encEnt (kEnt k)).toArray 29)
  have B2 := Lib.hid (B1.out.trans (bo.mono B1.out.size))
  have hkc : (w1.alloc (.cells #[.string ⟨k.toArray⟩, .string ⟨#[]⟩, .int .i64 0, .string ⟨#[]⟩, .string ⟨#[]⟩, .int .i64 0, .int .i64 0, .string ⟨#[]⟩, .int .i64 0, .int .i64 0, .string ⟨#[]⟩, .int .i64 0, .int .i64 0, .int .i64 0] 29)).cell? ⟨bl, o, none⟩ = some (.string ⟨k.toArray⟩) := strs_head hS2
  have hne : R ≠ w1.heap.size := Nat.ne_of_lt (row_lt hR1)
  have hse : bl ≠ w1.heap.size := Nat.ne_of_lt (strs_lt hS)
  have hew : w.heap.size ≤ w1.heap.size := B1.out.size
  clear bo hR1 hS B1
  go_wp2_with fail
  rw [show (w1.alloc (.cells #[.string ⟨k.toArray⟩, .string ⟨#[]⟩, .int .i64 0, .string ⟨#[]⟩, .string ⟨#[]⟩, .int .i64 0, .int .i64 0, .string ⟨#[]⟩, .int .i64 0, .int .i64 0, .string ⟨#[]⟩, .int .i64 0, .int .i64 0, .int .i64 0] 29)) = w1.alloc (.cells (encEnt (kEnt k)).toArray 29) from rfl]
  generalize w1.alloc (.cells (encEnt (kEnt k)).toArray 29) = W2 at hR2 hS2 he2 B2 ⊢
  clear hkc
  generalize w1.heap.size = eb at he2 hne hse hew ⊢
  have hkc := strs_head hS2
  refine (HF.out _).mono ?_
  rintro e w2 ⟨rfl, rfl⟩
  go_wp2_with fail
  refine (HT.out _).mono ?_
  rintro e w2 ⟨rfl, rfl⟩
  have p1 := strs_at hS2 1 a rfl
  go_wp2_with (refine wpList_store_val rfl 9 (.tmp 91) _ rfl eb 3 (.string ⟨a.toArray⟩) rfl rfl rfl _ (encEnt (kEnt k)) he2 (by kernel_rfl) (Nat.le_of_ble_eq_true rfl) rfl ?_; intro w3 he3 t3; have hS3 := strs_turned hS2 t3 hse; have pL := strs_at hS3 2 d rfl; have hR3 := t3.heap hR2 hne; have B3 := Lib.hid (B2.out.trans (t3.below hew)); clear he2 hS2 hR2 B2 hkc p1 t3)
  have he3 : w3.heap[eb]? = some (.cells (encEnt (k, zeroGoods, (a, [], 0, 0), zeroPlace, zeroPlace, 0)).toArray 29 (0, 0)) := he3
  refine (HN.out _).mono ?_
  rintro e w4 ⟨rfl, rfl⟩
  clear pL
  cases hq : numQ d 13 with
  | none =>
    have HV1 := Lib.hid (HV0.out hq)
    clear hq
    simp only
    go_wp2_with (first | (refine wpList_store_val rfl 3 (.tmp 98) _ rfl eb 13 (.int .i64 (-1)) rfl rfl rfl _ (encEnt (k, zeroGoods, (a, [], 0, 0), zeroPlace, zeroPlace, 0)) he3 (by kernel_rfl) (Nat.le_of_ble_eq_true rfl) rfl ?_; intro w4 he4 t4; have hS4 := strs_turned hS3 t4 hse; have c13 : w4.cell? ⟨eb, 13, none⟩ = some (.int .i64 (-1)) := (cell_of_row _ _ _ _ _ _ he4).trans rfl; have hR4 := t4.heap hR3 hne; have B4 := Lib.hid (B3.out.trans (t4.below hew)); clear he3 hS3 hR3 B3 t4) | (refine wpList_store_box rfl 29 (.tmp 2) _ rfl R (encEnt zeroEnt) rfl rfl _ (encEnt zeroEnt) hR4 (by kernel_rfl) rfl (encEnt_one _) ?_; intro w9 hR9 t9))
    (try simp only [Exit.inBlock, Exit.then])
    refine bodyPost_ret (results_cell_row2 rfl _ _ R 29 (encEnt zeroEnt).toArray (0, 0) _ rfl hR9 Tryz.underlying29 rfl (by kernel_rfl)) rfl ?_
    rw [HV1.out]
    exact ⟨rfl, B4.out.trans (t9.below hRw)⟩
  | some u =>
    have HSH := Lib.hid (HSHU.out (u : Int))
    have HVX1 := Lib.hid (HVX.out u hq)
    clear hq
    simp only
    have hu0 : ¬ (u : Int) < 0 := by omega
    clear HV0 HVX HSHU
    have HV2 := HVX1
    have HE1 := Lib.hid (fun W => refEntE_any (k, zeroGoods, (a, [], 0, 0), zeroPlace, zeroPlace, (u : Int)) W HSH.out)
    have hl1 : (encEnt (k, zeroGoods, (a, [], 0, 0), zeroPlace, zeroPlace, (u : Int))).length = 14 := rfl
    go_wp2_with (first | (refine wpList_store_val rfl 3 (.tmp 98) _ rfl eb 13 (.int .i64 (u : Int)) rfl rfl rfl _ (encEnt (k, zeroGoods, (a, [], 0, 0), zeroPlace, zeroPlace, 0)) he3 (by kernel_rfl) (Nat.le_of_ble_eq_true rfl) rfl ?_; intro w4 he4 t4; have hS4 := strs_turned hS3 t4 hse; have c13 : w4.cell? ⟨eb, 13, none⟩ = some (.int .i64 (u : Int)) := (cell_of_row _ _ _ _ _ _ he4).trans rfl; have hR4 := t4.heap hR3 hne; have B4 := Lib.hid (B3.out.trans (t4.below hew)); have lx := Lies.row (encEnt (k, zeroGoods, (a, [], 0, 0), zeroPlace, zeroPlace, (u : Int))) (show w4.heap[eb]? = some (.cells (encEnt (k, zeroGoods, (a, [], 0, 0), zeroPlace, zeroPlace, (u : Int))).toArray 29 (0, 0)) from he4); clear he3 hS3 hR3 B3 t4) | (refine wpList_load_at rfl 29 (.tmp 6) rfl eb 0 rfl (encEnt (k, zeroGoods, (a, [], 0, 0), zeroPlace, zeroPlace, (u : Int))) lx _ Tryz.underlying29 rfl (by kernel_rfl) ?_))
    refine (HE1.out _).mono ?_
    rintro e w7 ⟨rfl, b7⟩
    have hR7 := (b7.block R (row_lt hR4)).trans hR4
    have lx7 := lx.below b7
    have B7 := Lib.hid (B4.out.trans (b7.mono B4.out.size))
    clear b7 lx HE1
    by_cases hE : entE (k, zeroGoods, (a, [], 0, 0), zeroPlace, zeroPlace, (u : Int)) = 0
    · have HFI := Lib.hid (finEnt_ok hE)
      rw [hE]
      clear hE
      go_wp2_with (first | (refine wpList_load_at rfl 29 (.tmp 6) rfl eb 0 rfl (encEnt (k, zeroGoods, (a, [], 0, 0), zeroPlace, zeroPlace, (u : Int))) lx7 _ Tryz.underlying29 rfl (by kernel_rfl) ?_) | (refine wpList_store_box rfl 29 _ _ rfl R (encEnt (k, zeroGoods, (a, [], 0, 0), zeroPlace, zeroPlace, (u : Int))) rfl rfl _ (encEnt zeroEnt) hR7 (by kernel_rfl) rfl (encEnt_one _) ?_; intro w9 hR9 t9))
      (try simp only [Exit.inBlock, Exit.then])
      refine bodyPost_ret (results_cell_row2 rfl _ _ R 29 (encEnt (k, zeroGoods, (a, [], 0, 0), zeroPlace, zeroPlace, (u : Int))).toArray (0, 0) _ rfl hR9 Tryz.underlying29 rfl (by kernel_rfl)) rfl ?_
      rw [HV2.out, HFI.out]
      exact ⟨rfl, B7.out.trans (t9.below hRw)⟩
    · have HFI := Lib.hid (finEnt_bad hE)
      have hpos : 0 < (entE (k, zeroGoods, (a, [], 0, 0), zeroPlace, zeroPlace, (u : Int)) : Int) := by omega
      generalize entE (k, zeroGoods, (a, [], 0, 0), zeroPlace, zeroPlace, (u : Int)) = ke at hpos HFI
      clear hE
      go_wp2_with (first | (refine wpList_store_box rfl 29 (.tmp 2) _ rfl R (encEnt zeroEnt) rfl rfl _ (encEnt zeroEnt) hR7 (by kernel_rfl) rfl (encEnt_one _) ?_; intro w9 hR9 t9))
      (try simp only [Exit.inBlock, Exit.then])
      refine bodyPost_ret (results_cell_row2 rfl _ _ R 29 (encEnt zeroEnt).toArray (0, 0) _ rfl hR9 Tryz.underlying29 rfl (by kernel_rfl)) rfl ?_
      rw [HV2.out, HFI.out]
      exact ⟨rfl, B7.out.trans (t9.below hRw)⟩

set_option maxHeartbeats 6400000 in
set_option maxRecDepth 100000 in
theorem refReadE_len01 (s : ByteArray) (hs : s.size ≤ 1000000) (k : List UInt8) (t : List (List UInt8)) (hw : splitL 32 (bts s) = k :: t) (hk1 : k ≠ kGoods) (hk2 : k ≠ kLot) (hk3 : isP k = true) (hF : hasF k = false) (hT : hasT k = true) (hl : t.length ≠ 3) (w : World) :
    Calls Tryz.prog 7 #[.string s] w (RdEnt ((zeroEnt, 1)) w) := by
  have HCT := Lib.hid (fun W => refCutC s 32 W hs)
  rw [hw] at HCT
  have hle : ∀ x ∈ k :: t, x.length ≤ 1000000 := fun x hx => Nat.le_trans (splitL_lens (c := 32) (l := bts s) (w := x) (by rw [hw]; exact hx)) hs
  have hn1 : t.length ≤ 1000001 := by
    have := splitL_count 32 (bts s)
    rw [hw] at this
    have h2 : (bts s).length = s.size := rfl
    simp only [List.length_cons] at this
    omega
  have HK := Lib.hid (fun W => isKind_any k W)
  rw [show isKB k = true by unfold isKB; rw [hk3]; simp] at HK
  have HF := Lib.hid (fun W => hasFrom_any k W)
  have HT := Lib.hid (fun W => hasTo_any k W)
  rw [hF] at HF
  rw [hT] at HT
  have hkb : (k == [103, 111, 111, 100, 115]) = false := beq_eq_false_iff_ne.2 hk1
  have hkl : (k == [108, 111, 116]) = false := beq_eq_false_iff_ne.2 hk2
  have h3 : ¬ (t.length : Int) + 1 = 4 := by omega
  have h3b : ((t.length : Int) + 1 == 4) = false := by simpa using h3
  clear hle hl hk1 hk2 hk3 hF hT
  have hR0 := heap_alloc_new w (.cells (encEnt zeroEnt).toArray 29)
  have b0 := below_one w (.cells (encEnt zeroEnt).toArray 29)
  obtain ⟨R, hRb⟩ : ∃ R, R = w.heap.size := ⟨_, rfl⟩
  have hRw : w.heap.size ≤ R := Nat.le_of_eq hRb.symm
  have B0 := Lib.hid b0
  clear b0 hw hs
  go_enter Tryz.func7, Tryz.ntmps7
  go_wp2_with fail
  rw [show (w.alloc (.cells #[.string ⟨#[]⟩, .string ⟨#[]⟩, .int .i64 0, .string ⟨#[]⟩, .string ⟨#[]⟩, .int .i64 0, .int .i64 0, .string ⟨#[]⟩, .int .i64 0, .int .i64 0, .string ⟨#[]⟩, .int .i64 0, .int .i64 0, .int .i64 0] 29)) = w.alloc (.cells (encEnt zeroEnt).toArray 29) from rfl]
  rw [← hRb] at hR0 ⊢
  generalize w.alloc (.cells (encEnt zeroEnt).toArray 29) = W0 at hR0 B0 ⊢
  refine (HCT.out W0).mono ?_
  rintro e w1 ⟨A, cap, rfl, hS, hfr, b1, hcap⟩
  have hR1 := (b1.block R (row_lt hR0)).trans hR0
  have B1 := Lib.hid (B0.out.trans (b1.mono B0.out.size))
  obtain ⟨bl, o, rfl⟩ := strs_some hS
  have hblR : bl ≠ R := by have h1 : W0.heap.size ≤ bl := hfr _ rfl; have := row_lt hR0; omega
  have kc := strs_head hS
  rw [show (k :: t).length = t.length + 1 from rfl] at hcap ⊢
  clear b1 hR0 HCT hRb B0 hfr
  go_wp2_with fail
  refine (HK.out _).mono ?_
  rintro e w2 ⟨rfl, rfl⟩
  have bo := below_one w1 (.cells (encEnt (kEnt k)).toArray 29)
  have hR2 := (bo.block R (row_lt hR1)).trans hR1
  have hS2 := hS.below bo
  have he2 := heap_alloc_new w1 (.cells (encEnt (kEnt k)).toArray 29)
  have B2 := Lib.hid (B1.out.trans (bo.mono B1.out.size))
  have hkc : (w1.alloc (.cells #[.string ⟨k.toArray⟩, .string ⟨#[]⟩, .int .i64 0, .string ⟨#[]⟩, .string ⟨#[]⟩, .int .i64 0, .int .i64 0, .string ⟨#[]⟩, .int .i64 0, .int .i64 0, .string ⟨#[]⟩, .int .i64 0, .int .i64 0, .int .i64 0] 29)).cell? ⟨bl, o, none⟩ = some (.string ⟨k.toArray⟩) := strs_head hS2
  have hne : R ≠ w1.heap.size := Nat.ne_of_lt (row_lt hR1)
  have hse : bl ≠ w1.heap.size := Nat.ne_of_lt (strs_lt hS)
  have hew : w.heap.size ≤ w1.heap.size := B1.out.size
  clear bo hR1 hS B1
  go_wp2_with fail
  rw [show (w1.alloc (.cells #[.string ⟨k.toArray⟩, .string ⟨#[]⟩, .int .i64 0, .string ⟨#[]⟩, .string ⟨#[]⟩, .int .i64 0, .int .i64 0, .string ⟨#[]⟩, .int .i64 0, .int .i64 0, .string ⟨#[]⟩, .int .i64 0, .int .i64 0, .int .i64 0] 29)) = w1.alloc (.cells (encEnt (kEnt k)).toArray 29) from rfl]
  generalize w1.alloc (.cells (encEnt (kEnt k)).toArray 29) = W2 at hR2 hS2 he2 B2 ⊢
  clear hkc
  generalize w1.heap.size = eb at he2 hne hse hew ⊢
  have hkc := strs_head hS2
  refine (HF.out _).mono ?_
  rintro e w2 ⟨rfl, rfl⟩
  go_wp2_with fail
  refine (HT.out _).mono ?_
  rintro e w2 ⟨rfl, rfl⟩
  go_wp2_with (first | (refine wpList_store_box rfl 29 (.tmp 2) _ rfl R (encEnt zeroEnt) rfl rfl _ (encEnt zeroEnt) hR2 (by kernel_rfl) rfl (encEnt_one _) ?_; intro w9 hR9 t9))
  (try simp only [Exit.inBlock, Exit.then])
  refine bodyPost_ret (results_cell_row2 rfl _ _ R 29 (encEnt zeroEnt).toArray (0, 0) _ rfl hR9 Tryz.underlying29 rfl (by kernel_rfl)) rfl ?_
  exact ⟨rfl, B2.out.trans (t9.below hRw)⟩

set_option maxHeartbeats 12800000 in
set_option maxRecDepth 100000 in
theorem refReadE_p01 (s : ByteArray) (hs : s.size ≤ 1000000) (k : List UInt8) (t : List (List UInt8)) (hw : splitL 32 (bts s) = k :: t) (hk1 : k ≠ kGoods) (hk2 : k ≠ kLot) (hk3 : isP k = true) (hF : hasF k = false) (hT : hasT k = true) (a q d : List UInt8) (ht : t = [a, q, d]) (w : World) :
    Calls Tryz.prog 7 #[.string s] w (RdEnt (finEnt (entPieces k [k, a, q, d])) w) := by
  have HCT := Lib.hid (fun W => refCutC s 32 W hs)
  rw [hw] at HCT
  have hle : ∀ x ∈ k :: t, x.length ≤ 1000000 := fun x hx => Nat.le_trans (splitL_lens (c := 32) (l := bts s) (w := x) (by rw [hw]; exact hx)) hs
  have hn1 : t.length ≤ 1000001 := by
    have := splitL_count 32 (bts s)
    rw [hw] at this
    have h2 : (bts s).length = s.size := rfl
    simp only [List.length_cons] at this
    omega
  have HK := Lib.hid (fun W => isKind_any k W)
  rw [show isKB k = true by unfold isKB; rw [hk3]; simp] at HK
  have HF := Lib.hid (fun W => hasFrom_any k W)
  have HT := Lib.hid (fun W => hasTo_any k W)
  have hkb : (k == [103, 111, 111, 100, 115]) = false := beq_eq_false_iff_ne.2 hk1
  have hkl : (k == [108, 111, 116]) = false := beq_eq_false_iff_ne.2 hk2
  subst ht
  have hal := hle a (by simp)
  have hdl := hle d (by simp)
  have hql := hle q (by simp)
  have HRPq := Lib.hid (fun W => refReadPlace_any ⟨q.toArray⟩ (by show q.length ≤ _; omega) W)
  rw [show bts ⟨q.toArray⟩ = q from rfl] at HRPq
  have hzq := placeWords_short (t := q) hql
  have HN := Lib.hid (fun W => refNumber_any d 13 (by omega) (by omega) W)
  rw [refNum_eq d 13 (by omega)] at HN
  obtain ⟨V, hV⟩ : ∃ V, V = finEnt (entPieces k [k, a, q, d]) := ⟨_, rfl⟩
  rw [← hV]
  have HV0 : Hid (numQ d 13 = none → V = (zeroEnt, 1)) := fun h => hV.trans ((congrArg finEnt (entPieces_num (k := k) (ws := [k, a, q, d]) h)).trans (finEnt_err _ (by decide)))
  have HVT : Hid (∀ u, numQ d 13 = some u → (placeWords (splitL 45 q)).2 ≠ 0 → V = (zeroEnt, (placeWords (splitL 45 q)).2)) := fun u h h2 => by
    show V = _
    rw [hV]
    unfold entPieces
    simp only [hF, hT, List.length_cons, List.length_nil, List.getLast?_cons_cons, List.getLast?_singleton, Option.getD_some, h]
    simp [h2, finEnt]
  have HVX : Hid (∀ u : Nat, numQ d 13 = some u → (placeWords (splitL 45 q)).2 = 0 → V = finEnt ((k, zeroGoods, (a, [], 0, 0), zeroPlace, (placeWords (splitL 45 q)).1, (u : Int)), 0)) := fun u h h2 => by
    show V = _
    rw [hV]
    unfold entPieces
    simp only [hF, hT, List.length_cons, List.length_nil, List.getLast?_cons_cons, List.getLast?_singleton, Option.getD_some, h]
    simp [h2]
  rw [hF] at HF
  rw [hT] at HT
  have HSHU : Hid (∀ u : Int, ShortE (k, zeroGoods, (a, [], 0, 0), zeroPlace, (placeWords (splitL 45 q)).1, u)) := fun u => ⟨Nat.zero_le _, by show a.length ≤ _; omega, Nat.zero_le _, Nat.zero_le _, hzq⟩
  generalize hgenq : placeWords (splitL 45 q) = rq at HRPq HSHU HVX HVT
  clear hgenq
  obtain ⟨plq, kkq⟩ := rq
  simp only at HRPq HSHU HVX HVT
  clear hle hn1 hV hk1 hk2 hk3 hF hT hql hzq
  have hR0 := heap_alloc_new w (.cells (encEnt zeroEnt).toArray 29)
  have b0 := below_one w (.cells (encEnt zeroEnt).toArray 29)
  obtain ⟨R, hRb⟩ : ∃ R, R = w.heap.size := ⟨_, rfl⟩
  have hRw : w.heap.size ≤ R := Nat.le_of_eq hRb.symm
  have B0 := Lib.hid b0
  clear b0 hw hs
  go_enter Tryz.func7, Tryz.ntmps7
  go_wp2_with fail
  rw [show (w.alloc (.cells #[.string ⟨#[]⟩, .string ⟨#[]⟩, .int .i64 0, .string ⟨#[]⟩, .string ⟨#[]⟩, .int .i64 0, .int .i64 0, .string ⟨#[]⟩, .int .i64 0, .int .i64 0, .string ⟨#[]⟩, .int .i64 0, .int .i64 0, .int .i64 0] 29)) = w.alloc (.cells (encEnt zeroEnt).toArray 29) from rfl]
  rw [← hRb] at hR0 ⊢
  generalize w.alloc (.cells (encEnt zeroEnt).toArray 29) = W0 at hR0 B0 ⊢
  refine (HCT.out W0).mono ?_
  rintro e w1 ⟨A, cap, rfl, hS, hfr, b1, hcap⟩
  have hR1 := (b1.block R (row_lt hR0)).trans hR0
  have B1 := Lib.hid (B0.out.trans (b1.mono B0.out.size))
  obtain ⟨bl, o, rfl⟩ := strs_some hS
  have hblR : bl ≠ R := by have h1 : W0.heap.size ≤ bl := hfr _ rfl; have := row_lt hR0; omega
  have kc := strs_head hS
  rw [show [k, a, q, d].length = 4 from rfl] at hcap ⊢
  clear b1 hR0 HCT hRb B0 hfr
  go_wp2_with fail
  refine (HK.out _).mono ?_
  rintro e w2 ⟨rfl, rfl⟩
  have bo := below_one w1 (.cells (encEnt (kEnt k)).toArray 29)
  have hR2 := (bo.block R (row_lt hR1)).trans hR1
  have hS2 := hS.below bo
  have he2 := heap_alloc_new w1 (.cells (encEnt (kEnt k)).toArray 29)
  have B2 := Lib.hid (B1.out.trans (bo.mono B1.out.size))
  have hkc : (w1.alloc (.cells #[.string ⟨k.toArray⟩, .string ⟨#[]⟩, .int .i64 0, .string ⟨#[]⟩, .string ⟨#[]⟩, .int .i64 0, .int .i64 0, .string ⟨#[]⟩, .int .i64 0, .int .i64 0, .string ⟨#[]⟩, .int .i64 0, .int .i64 0, .int .i64 0] 29)).cell? ⟨bl, o, none⟩ = some (.string ⟨k.toArray⟩) := strs_head hS2
  have hne : R ≠ w1.heap.size := Nat.ne_of_lt (row_lt hR1)
  have hse : bl ≠ w1.heap.size := Nat.ne_of_lt (strs_lt hS)
  have hew : w.heap.size ≤ w1.heap.size := B1.out.size
  clear bo hR1 hS B1
  go_wp2_with fail
  rw [show (w1.alloc (.cells #[.string ⟨k.toArray⟩, .string ⟨#[]⟩, .int .i64 0, .string ⟨#[]⟩, .string ⟨#[]⟩, .int .i64 0, .int .i64 0, .string ⟨#[]⟩, .int .i64 0, .int .i64 0, .string ⟨#[]⟩, .int .i64 0, .int .i64 0, .int .i64 0] 29)) = w1.alloc (.cells (encEnt (kEnt k)).toArray 29) from rfl]
  generalize w1.alloc (.cells (encEnt (kEnt k)).toArray 29) = W2 at hR2 hS2 he2 B2 ⊢
  clear hkc
  generalize w1.heap.size = eb at he2 hne hse hew ⊢
  have hkc := strs_head hS2
  refine (HF.out _).mono ?_
  rintro e w2 ⟨rfl, rfl⟩
  go_wp2_with fail
  refine (HT.out _).mono ?_
  rintro e w2 ⟨rfl, rfl⟩
  have p1 := strs_at hS2 1 a rfl
  go_wp2_with (refine wpList_store_val rfl 9 (.tmp 91) _ rfl eb 3 (.string ⟨a.toArray⟩) rfl rfl rfl _ (encEnt (kEnt k)) he2 (by kernel_rfl) (Nat.le_of_ble_eq_true rfl) rfl ?_; intro w3 he3 t3; have hS3 := strs_turned hS2 t3 hse; have pL := strs_at hS3 3 d rfl; have hR3 := t3.heap hR2 hne; have B3 := Lib.hid (B2.out.trans (t3.below hew)); clear he2 hS2 hR2 B2 hkc p1 t3)
  have he3 : w3.heap[eb]? = some (.cells (encEnt (k, zeroGoods, (a, [], 0, 0), zeroPlace, zeroPlace, 0)).toArray 29 (0, 0)) := he3
  refine (HN.out _).mono ?_
  rintro e w4 ⟨rfl, rfl⟩
  clear pL
  cases hq : numQ d 13 with
  | none =>
    have HV1 := Lib.hid (HV0.out hq)
    clear hq
    simp only
    go_wp2_with (first | (refine wpList_store_val rfl 3 (.tmp 98) _ rfl eb 13 (.int .i64 (-1)) rfl rfl rfl _ (encEnt (k, zeroGoods, (a, [], 0, 0), zeroPlace, zeroPlace, 0)) he3 (by kernel_rfl) (Nat.le_of_ble_eq_true rfl) rfl ?_; intro w4 he4 t4; have hS4 := strs_turned hS3 t4 hse; have c13 : w4.cell? ⟨eb, 13, none⟩ = some (.int .i64 (-1)) := (cell_of_row _ _ _ _ _ _ he4).trans rfl; have hR4 := t4.heap hR3 hne; have B4 := Lib.hid (B3.out.trans (t4.below hew)); clear he3 hS3 hR3 B3 t4) | (refine wpList_store_box rfl 29 (.tmp 2) _ rfl R (encEnt zeroEnt) rfl rfl _ (encEnt zeroEnt) hR4 (by kernel_rfl) rfl (encEnt_one _) ?_; intro w9 hR9 t9))
    (try simp only [Exit.inBlock, Exit.then])
    refine bodyPost_ret (results_cell_row2 rfl _ _ R 29 (encEnt zeroEnt).toArray (0, 0) _ rfl hR9 Tryz.underlying29 rfl (by kernel_rfl)) rfl ?_
    rw [HV1.out]
    exact ⟨rfl, B4.out.trans (t9.below hRw)⟩
  | some u =>
    have HSH := Lib.hid (HSHU.out (u : Int))
    have HVT1 := Lib.hid (HVT.out u hq)
    have HVX1 := Lib.hid (HVX.out u hq)
    clear hq
    simp only
    have hu0 : ¬ (u : Int) < 0 := by omega
    clear HV0 HVX HSHU HVT
    go_wp2_with (first | (refine wpList_store_val rfl 3 (.tmp 98) _ rfl eb 13 (.int .i64 (u : Int)) rfl rfl rfl _ (encEnt (k, zeroGoods, (a, [], 0, 0), zeroPlace, zeroPlace, 0)) he3 (by kernel_rfl) (Nat.le_of_ble_eq_true rfl) rfl ?_; intro w4 he4 t4; have hS4 := strs_turned hS3 t4 hse; have c13 : w4.cell? ⟨eb, 13, none⟩ = some (.int .i64 (u : Int)) := (cell_of_row _ _ _ _ _ _ he4).trans rfl; have hR4 := t4.heap hR3 hne; have B4 := Lib.hid (B3.out.trans (t4.below hew)); have pWq := strs_at hS4 2 q rfl; clear he3 hS3 hR3 B3 t4) )
    have he4 : w4.heap[eb]? = some (.cells (encEnt (k, zeroGoods, (a, [], 0, 0), zeroPlace, zeroPlace, (u : Int))).toArray 29 (0, 0)) := he4
    refine (HRPq.out _).mono ?_
    rintro e w5 ⟨rfl, b5⟩
    have hR5 := (b5.block R (row_lt hR4)).trans hR4
    have he5 := (b5.block eb (row_lt he4)).trans he4
    have hS5 := hS4.below b5
    have B5 := Lib.hid (B4.out.trans (b5.mono B4.out.size))
    clear b5 he4 hR4 hS4 pWq c13
    have bo := below_one w5 (.cells #[.string ⟨#[]⟩, .int .i64 0, .int .i64 0] 27)
    have hR6 := (bo.block R (row_lt hR5)).trans hR5
    have he6 := (bo.block eb (row_lt he5)).trans he5
    have hS6 := hS5.below bo
    have hp6 := heap_alloc_new w5 (.cells #[.string ⟨#[]⟩, .int .i64 0, .int .i64 0] 27)
    have B6 := Lib.hid (B5.out.trans (bo.mono B5.out.size))
    have hnp : w5.heap.size ≠ eb := Ne.symm (Nat.ne_of_lt (row_lt he5))
    have hnR : R ≠ w5.heap.size := Nat.ne_of_lt (row_lt hR5)
    have hnS : bl ≠ w5.heap.size := Nat.ne_of_lt (strs_lt hS5)
    have hpw : w.heap.size ≤ w5.heap.size := B5.out.size
    clear bo hR5 he5 hS5 B5
    by_cases hkz : kkq = 0
    · subst hkz
      replace HVX1 := Lib.hid (HVX1.out rfl)
      rw [show ((0 : Nat) : Int) = 0 from rfl]
      have HV2 := HVX1
      have HE1 := Lib.hid (fun W => refEntE_any (k, zeroGoods, (a, [], 0, 0), zeroPlace, plq, (u : Int)) W HSH.out)
      have hl1 : (encEnt (k, zeroGoods, (a, [], 0, 0), zeroPlace, plq, (u : Int))).length = 14 := rfl
      go_wp2_with (first | (refine wpList_store_box rfl 27 (.tmp 14) _ rfl w5.heap.size (encPlace plq) rfl rfl _ [.string ⟨#[]⟩, .int .i64 0, .int .i64 0] hp6 (by kernel_rfl) rfl (encPlace_one _) ?_; intro w6 hp7 t7; have hR7 := t7.heap hR6 hnR; have he7 := t7.heap he6 (Ne.symm hnp); have hS7 := strs_turned hS6 t7 hnS; have B7 := Lib.hid (B6.out.trans (t7.below hpw)); have lp7 := Lies.row _ hp7; clear hR6 he6 hS6 hp6 t7) | (refine wpList_load_at rfl 27 (.tmp 14) rfl w5.heap.size 0 rfl (encPlace plq) lp7 _ Tryz.underlying27 rfl (by kernel_rfl) ?_) | (refine wpList_store_at rfl 27 (.tmp 132) _ rfl eb 10 (encPlace plq) rfl rfl _ (encEnt (k, zeroGoods, (a, [], 0, 0), zeroPlace, zeroPlace, (u : Int))) he7 (by kernel_rfl) (Nat.le_of_ble_eq_true rfl) (encPlace_one _) ?_; intro w7 he8 t8; rw [rdx_to] at he8; have hR8 := t8.heap hR7 hne; have hS8 := strs_turned hS7 t8 hse; have B8 := Lib.hid (B7.out.trans (t8.below hew)); have lx := Lies.row (encEnt (k, zeroGoods, (a, [], 0, 0), zeroPlace, plq, (u : Int))) (show w7.heap[eb]? = some (.cells (encEnt (k, zeroGoods, (a, [], 0, 0), zeroPlace, plq, (u : Int))).toArray 29 (0, 0)) from he8); clear he7 hR7 hS7 B7 t8) | (refine wpList_load_at rfl 29 (.tmp 6) rfl eb 0 rfl (encEnt (k, zeroGoods, (a, [], 0, 0), zeroPlace, plq, (u : Int))) lx _ Tryz.underlying29 rfl (by kernel_rfl) ?_))
      refine (HE1.out _).mono ?_
      rintro e w7 ⟨rfl, b7⟩
      have hR7 := (b7.block R (row_lt hR8)).trans hR8
      have lx7 := lx.below b7
      have B7 := Lib.hid (B8.out.trans (b7.mono B8.out.size))
      clear b7 lx HE1
      by_cases hE : entE (k, zeroGoods, (a, [], 0, 0), zeroPlace, plq, (u : Int)) = 0
      · have HFI := Lib.hid (finEnt_ok hE)
        rw [hE]
        clear hE
        go_wp2_with (first | (refine wpList_load_at rfl 29 (.tmp 6) rfl eb 0 rfl (encEnt (k, zeroGoods, (a, [], 0, 0), zeroPlace, plq, (u : Int))) lx7 _ Tryz.underlying29 rfl (by kernel_rfl) ?_) | (refine wpList_store_box rfl 29 _ _ rfl R (encEnt (k, zeroGoods, (a, [], 0, 0), zeroPlace, plq, (u : Int))) rfl rfl _ (encEnt zeroEnt) hR7 (by kernel_rfl) rfl (encEnt_one _) ?_; intro w9 hR9 t9))
        (try simp only [Exit.inBlock, Exit.then])
        refine bodyPost_ret (results_cell_row2 rfl _ _ R 29 (encEnt (k, zeroGoods, (a, [], 0, 0), zeroPlace, plq, (u : Int))).toArray (0, 0) _ rfl hR9 Tryz.underlying29 rfl (by kernel_rfl)) rfl ?_
        rw [HV2.out, HFI.out]
        exact ⟨rfl, B7.out.trans (t9.below hRw)⟩
      · have HFI := Lib.hid (finEnt_bad hE)
        have hpos : 0 < (entE (k, zeroGoods, (a, [], 0, 0), zeroPlace, plq, (u : Int)) : Int) := by omega
        generalize entE (k, zeroGoods, (a, [], 0, 0), zeroPlace, plq, (u : Int)) = ke at hpos HFI
        clear hE
        go_wp2_with (first | (refine wpList_store_box rfl 29 (.tmp 2) _ rfl R (encEnt zeroEnt) rfl rfl _ (encEnt zeroEnt) hR7 (by kernel_rfl) rfl (encEnt_one _) ?_; intro w9 hR9 t9))
        (try simp only [Exit.inBlock, Exit.then])
        refine bodyPost_ret (results_cell_row2 rfl _ _ R 29 (encEnt zeroEnt).toArray (0, 0) _ rfl hR9 Tryz.underlying29 rfl (by kernel_rfl)) rfl ?_
        rw [HV2.out, HFI.out]
        exact ⟨rfl, B7.out.trans (t9.below hRw)⟩
    · have HV2 := Lib.hid (HVT1.out hkz)
      have hpos : 0 < (kkq : Int) := by omega
      clear hkz
      go_wp2_with (first | (refine wpList_store_box rfl 27 (.tmp 14) _ rfl w5.heap.size (encPlace plq) rfl rfl _ [.string ⟨#[]⟩, .int .i64 0, .int .i64 0] hp6 (by kernel_rfl) rfl (encPlace_one _) ?_; intro w6 hp7 t7; have hR7 := t7.heap hR6 hnR; have he7 := t7.heap he6 (Ne.symm hnp); have hS7 := strs_turned hS6 t7 hnS; have B7 := Lib.hid (B6.out.trans (t7.below hpw)); have lp7 := Lies.row _ hp7; clear hR6 he6 hS6 hp6 t7) | (refine wpList_store_box rfl 29 (.tmp 2) _ rfl R (encEnt zeroEnt) rfl rfl _ (encEnt zeroEnt) hR7 (by kernel_rfl) rfl (encEnt_one _) ?_; intro w9 hR9 t9))
      (try simp only [Exit.inBlock, Exit.then])
      refine bodyPost_ret (results_cell_row2 rfl _ _ R 29 (encEnt zeroEnt).toArray (0, 0) _ rfl hR9 Tryz.underlying29 rfl (by kernel_rfl)) rfl ?_
      rw [HV2.out]
      exact ⟨rfl, B7.out.trans (t9.below hRw)⟩

set_option maxHeartbeats 6400000 in
set_option maxRecDepth 100000 in
theorem refReadE_len10 (s : ByteArray) (hs : s.size ≤ 1000000) (k : List UInt8) (t : List (List UInt8)) (hw : splitL 32 (bts s) = k :: t) (hk1 : k ≠ kGoods) (hk2 : k ≠ kLot) (hk3 : isP k = true) (hF : hasF k = true) (hT : hasT k = false) (hl : t.length ≠ 3) (w : World) :
    Calls Tryz.prog 7 #[.string s] w (RdEnt ((zeroEnt, 1)) w) := by
  have HCT := Lib.hid (fun W => refCutC s 32 W hs)
  rw [hw] at HCT
  have hle : ∀ x ∈ k :: t, x.length ≤ 1000000 := fun x hx => Nat.le_trans (splitL_lens (c := 32) (l := bts s) (w := x) (by rw [hw]; exact hx)) hs
  have hn1 : t.length ≤ 1000001 := by
    have := splitL_count 32 (bts s)
    rw [hw] at this
    have h2 : (bts s).length = s.size := rfl
    simp only [List.length_cons] at this
    omega
  have HK := Lib.hid (fun W => isKind_any k W)
  rw [show isKB k = true by unfold isKB; rw [hk3]; simp] at HK
  have HF := Lib.hid (fun W => hasFrom_any k W)
  have HT := Lib.hid (fun W => hasTo_any k W)
  rw [hF] at HF
  rw [hT] at HT
  have hkb : (k == [103, 111, 111, 100, 115]) = false := beq_eq_false_iff_ne.2 hk1
  have hkl : (k == [108, 111, 116]) = false := beq_eq_false_iff_ne.2 hk2
  have h3 : ¬ (t.length : Int) + 1 = 4 := by omega
  have h3b : ((t.length : Int) + 1 == 4) = false := by simpa using h3
  clear hle hl hk1 hk2 hk3 hF hT
  have hR0 := heap_alloc_new w (.cells (encEnt zeroEnt).toArray 29)
  have b0 := below_one w (.cells (encEnt zeroEnt).toArray 29)
  obtain ⟨R, hRb⟩ : ∃ R, R = w.heap.size := ⟨_, rfl⟩
  have hRw : w.heap.size ≤ R := Nat.le_of_eq hRb.symm
  have B0 := Lib.hid b0
  clear b0 hw hs
  go_enter Tryz.func7, Tryz.ntmps7
  go_wp2_with fail
  rw [show (w.alloc (.cells #[.string ⟨#[]⟩, .string ⟨#[]⟩, .int .i64 0, .string ⟨#[]⟩, .string ⟨#[]⟩, .int .i64 0, .int .i64 0, .string ⟨#[]⟩, .int .i64 0, .int .i64 0, .string ⟨#[]⟩, .int .i64 0, .int .i64 0, .int .i64 0] 29)) = w.alloc (.cells (encEnt zeroEnt).toArray 29) from rfl]
  rw [← hRb] at hR0 ⊢
  generalize w.alloc (.cells (encEnt zeroEnt).toArray 29) = W0 at hR0 B0 ⊢
  refine (HCT.out W0).mono ?_
  rintro e w1 ⟨A, cap, rfl, hS, hfr, b1, hcap⟩
  have hR1 := (b1.block R (row_lt hR0)).trans hR0
  have B1 := Lib.hid (B0.out.trans (b1.mono B0.out.size))
  obtain ⟨bl, o, rfl⟩ := strs_some hS
  have hblR : bl ≠ R := by have h1 : W0.heap.size ≤ bl := hfr _ rfl; have := row_lt hR0; omega
  have kc := strs_head hS
  rw [show (k :: t).length = t.length + 1 from rfl] at hcap ⊢
  clear b1 hR0 HCT hRb B0 hfr
  go_wp2_with fail
  refine (HK.out _).mono ?_
  rintro e w2 ⟨rfl, rfl⟩
  have bo := below_one w1 (.cells (encEnt (kEnt k)).toArray 29)
  have hR2 := (bo.block R (row_lt hR1)).trans hR1
  have hS2 := hS.below bo
  have he2 := heap_alloc_new w1 (.cells (encEnt (kEnt k)).toArray 29)
  have B2 := Lib.hid (B1.out.trans (bo.mono B1.out.size))
  have hkc : (w1.alloc (.cells #[.string ⟨k.toArray⟩, .string ⟨#[]⟩, .int .i64 0, .string ⟨#[]⟩, .string ⟨#[]⟩, .int .i64 0, .int .i64 0, .string ⟨#[]⟩, .int .i64 0, .int .i64 0, .string ⟨#[]⟩, .int .i64 0, .int .i64 0, .int .i64 0] 29)).cell? ⟨bl, o, none⟩ = some (.string ⟨k.toArray⟩) := strs_head hS2
  have hne : R ≠ w1.heap.size := Nat.ne_of_lt (row_lt hR1)
  have hse : bl ≠ w1.heap.size := Nat.ne_of_lt (strs_lt hS)
  have hew : w.heap.size ≤ w1.heap.size := B1.out.size
  clear bo hR1 hS B1
  go_wp2_with fail
  rw [show (w1.alloc (.cells #[.string ⟨k.toArray⟩, .string ⟨#[]⟩, .int .i64 0, .string ⟨#[]⟩, .string ⟨#[]⟩, .int .i64 0, .int .i64 0, .string ⟨#[]⟩, .int .i64 0, .int .i64 0, .string ⟨#[]⟩, .int .i64 0, .int .i64 0, .int .i64 0] 29)) = w1.alloc (.cells (encEnt (kEnt k)).toArray 29) from rfl]
  generalize w1.alloc (.cells (encEnt (kEnt k)).toArray 29) = W2 at hR2 hS2 he2 B2 ⊢
  clear hkc
  generalize w1.heap.size = eb at he2 hne hse hew ⊢
  have hkc := strs_head hS2
  refine (HF.out _).mono ?_
  rintro e w2 ⟨rfl, rfl⟩
  go_wp2_with fail
  refine (HT.out _).mono ?_
  rintro e w2 ⟨rfl, rfl⟩
  go_wp2_with (first | (refine wpList_store_box rfl 29 (.tmp 2) _ rfl R (encEnt zeroEnt) rfl rfl _ (encEnt zeroEnt) hR2 (by kernel_rfl) rfl (encEnt_one _) ?_; intro w9 hR9 t9))
  (try simp only [Exit.inBlock, Exit.then])
  refine bodyPost_ret (results_cell_row2 rfl _ _ R 29 (encEnt zeroEnt).toArray (0, 0) _ rfl hR9 Tryz.underlying29 rfl (by kernel_rfl)) rfl ?_
  exact ⟨rfl, B2.out.trans (t9.below hRw)⟩

set_option maxHeartbeats 12800000 in
set_option maxRecDepth 100000 in
theorem refReadE_p10 (s : ByteArray) (hs : s.size ≤ 1000000) (k : List UInt8) (t : List (List UInt8)) (hw : splitL 32 (bts s) = k :: t) (hk1 : k ≠ kGoods) (hk2 : k ≠ kLot) (hk3 : isP k = true) (hF : hasF k = true) (hT : hasT k = false) (a p d : List UInt8) (ht : t = [a, p, d]) (w : World) :
    Calls Tryz.prog 7 #[.string s] w (RdEnt (finEnt (entPieces k [k, a, p, d])) w) := by
  have HCT := Lib.hid (fun W => refCutC s 32 W hs)
  rw [hw] at HCT
  have hle : ∀ x ∈ k :: t, x.length ≤ 1000000 := fun x hx => Nat.le_trans (splitL_lens (c := 32) (l := bts s) (w := x) (by rw [hw]; exact hx)) hs
  have hn1 : t.length ≤ 1000001 := by
    have := splitL_count 32 (bts s)
    rw [hw] at this
    have h2 : (bts s).length = s.size := rfl
    simp only [List.length_cons] at this
    omega
  have HK := Lib.hid (fun W => isKind_any k W)
  rw [show isKB k = true by unfold isKB; rw [hk3]; simp] at HK
  have HF := Lib.hid (fun W => hasFrom_any k W)
  have HT := Lib.hid (fun W => hasTo_any k W)
  have hkb : (k == [103, 111, 111, 100, 115]) = false := beq_eq_false_iff_ne.2 hk1
  have hkl : (k == [108, 111, 116]) = false := beq_eq_false_iff_ne.2 hk2
  subst ht
  have hal := hle a (by simp)
  have hdl := hle d (by simp)
  have hpl := hle p (by simp)
  have HRPp := Lib.hid (fun W => refReadPlace_any ⟨p.toArray⟩ (by show p.length ≤ _; omega) W)
  rw [show bts ⟨p.toArray⟩ = p from rfl] at HRPp
  have hzp := placeWords_short (t := p) hpl
  have HN := Lib.hid (fun W => refNumber_any d 13 (by omega) (by omega) W)
  rw [refNum_eq d 13 (by omega)] at HN
  obtain ⟨V, hV⟩ : ∃ V, V = finEnt (entPieces k [k, a, p, d]) := ⟨_, rfl⟩
  rw [← hV]
  have HV0 : Hid (numQ d 13 = none → V = (zeroEnt, 1)) := fun h => hV.trans ((congrArg finEnt (entPieces_num (k := k) (ws := [k, a, p, d]) h)).trans (finEnt_err _ (by decide)))
  have HVF : Hid (∀ u, numQ d 13 = some u → (placeWords (splitL 45 p)).2 ≠ 0 → V = (zeroEnt, (placeWords (splitL 45 p)).2)) := fun u h h2 => by
    show V = _
    rw [hV]
    unfold entPieces
    simp only [hF, hT, List.length_cons, List.length_nil, List.getLast?_cons_cons, List.getLast?_singleton, Option.getD_some, h]
    simp [h2, finEnt]
  have HVX : Hid (∀ u : Nat, numQ d 13 = some u → (placeWords (splitL 45 p)).2 = 0 → V = finEnt ((k, zeroGoods, (a, [], 0, 0), (placeWords (splitL 45 p)).1, zeroPlace, (u : Int)), 0)) := fun u h h1 => by
    show V = _
    rw [hV]
    unfold entPieces
    simp only [hF, hT, List.length_cons, List.length_nil, List.getLast?_cons_cons, List.getLast?_singleton, Option.getD_some, h]
    simp [h1]
  rw [hF] at HF
  rw [hT] at HT
  have HSHU : Hid (∀ u : Int, ShortE (k, zeroGoods, (a, [], 0, 0), (placeWords (splitL 45 p)).1, zeroPlace, u)) := fun u => ⟨Nat.zero_le _, by show a.length ≤ _; omega, Nat.zero_le _, hzp, Nat.zero_le _⟩
  generalize hgenp : placeWords (splitL 45 p) = rp at HRPp HSHU HVX HVF
  clear hgenp
  obtain ⟨plp, kkp⟩ := rp
  simp only at HRPp HSHU HVX HVF
  clear hle hn1 hV hk1 hk2 hk3 hF hT hpl hzp
  have hR0 := heap_alloc_new w (.cells (encEnt zeroEnt).toArray 29)
  have b0 := below_one w (.cells (encEnt zeroEnt).toArray 29)
  obtain ⟨R, hRb⟩ : ∃ R, R = w.heap.size := ⟨_, rfl⟩
  have hRw : w.heap.size ≤ R := Nat.le_of_eq hRb.symm
  have B0 := Lib.hid b0
  clear b0 hw hs
  go_enter Tryz.func7, Tryz.ntmps7
  go_wp2_with fail
  rw [show (w.alloc (.cells #[.string ⟨#[]⟩, .string ⟨#[]⟩, .int .i64 0, .string ⟨#[]⟩, .string ⟨#[]⟩, .int .i64 0, .int .i64 0, .string ⟨#[]⟩, .int .i64 0, .int .i64 0, .string ⟨#[]⟩, .int .i64 0, .int .i64 0, .int .i64 0] 29)) = w.alloc (.cells (encEnt zeroEnt).toArray 29) from rfl]
  rw [← hRb] at hR0 ⊢
  generalize w.alloc (.cells (encEnt zeroEnt).toArray 29) = W0 at hR0 B0 ⊢
  refine (HCT.out W0).mono ?_
  rintro e w1 ⟨A, cap, rfl, hS, hfr, b1, hcap⟩
  have hR1 := (b1.block R (row_lt hR0)).trans hR0
  have B1 := Lib.hid (B0.out.trans (b1.mono B0.out.size))
  obtain ⟨bl, o, rfl⟩ := strs_some hS
  have hblR : bl ≠ R := by have h1 : W0.heap.size ≤ bl := hfr _ rfl; have := row_lt hR0; omega
  have kc := strs_head hS
  rw [show [k, a, p, d].length = 4 from rfl] at hcap ⊢
  clear b1 hR0 HCT hRb B0 hfr
  go_wp2_with fail
  refine (HK.out _).mono ?_
  rintro e w2 ⟨rfl, rfl⟩
  have bo := below_one w1 (.cells (encEnt (kEnt k)).toArray 29)
  have hR2 := (bo.block R (row_lt hR1)).trans hR1
  have hS2 := hS.below bo
  have he2 := heap_alloc_new w1 (.cells (encEnt (kEnt k)).toArray 29)
  have B2 := Lib.hid (B1.out.trans (bo.mono B1.out.size))
  have hkc : (w1.alloc (.cells #[.string ⟨k.toArray⟩, .string ⟨#[]⟩, .int .i64 0, .string ⟨#[]⟩, .string ⟨#[]⟩, .int .i64 0, .int .i64 0, .string ⟨#[]⟩, .int .i64 0, .int .i64 0, .string ⟨#[]⟩, .int .i64 0, .int .i64 0, .int .i64 0] 29)).cell? ⟨bl, o, none⟩ = some (.string ⟨k.toArray⟩) := strs_head hS2
  have hne : R ≠ w1.heap.size := Nat.ne_of_lt (row_lt hR1)
  have hse : bl ≠ w1.heap.size := Nat.ne_of_lt (strs_lt hS)
  have hew : w.heap.size ≤ w1.heap.size := B1.out.size
  clear bo hR1 hS B1
  go_wp2_with fail
  rw [show (w1.alloc (.cells #[.string ⟨k.toArray⟩, .string ⟨#[]⟩, .int .i64 0, .string ⟨#[]⟩, .string ⟨#[]⟩, .int .i64 0, .int .i64 0, .string ⟨#[]⟩, .int .i64 0, .int .i64 0, .string ⟨#[]⟩, .int .i64 0, .int .i64 0, .int .i64 0] 29)) = w1.alloc (.cells (encEnt (kEnt k)).toArray 29) from rfl]
  generalize w1.alloc (.cells (encEnt (kEnt k)).toArray 29) = W2 at hR2 hS2 he2 B2 ⊢
  clear hkc
  generalize w1.heap.size = eb at he2 hne hse hew ⊢
  have hkc := strs_head hS2
  refine (HF.out _).mono ?_
  rintro e w2 ⟨rfl, rfl⟩
  go_wp2_with fail
  refine (HT.out _).mono ?_
  rintro e w2 ⟨rfl, rfl⟩
  have p1 := strs_at hS2 1 a rfl
  go_wp2_with (refine wpList_store_val rfl 9 (.tmp 91) _ rfl eb 3 (.string ⟨a.toArray⟩) rfl rfl rfl _ (encEnt (kEnt k)) he2 (by kernel_rfl) (Nat.le_of_ble_eq_true rfl) rfl ?_; intro w3 he3 t3; have hS3 := strs_turned hS2 t3 hse; have pL := strs_at hS3 3 d rfl; have hR3 := t3.heap hR2 hne; have B3 := Lib.hid (B2.out.trans (t3.below hew)); clear he2 hS2 hR2 B2 hkc p1 t3)
  have he3 : w3.heap[eb]? = some (.cells (encEnt (k, zeroGoods, (a, [], 0, 0), zeroPlace, zeroPlace, 0)).toArray 29 (0, 0)) := he3
  refine (HN.out _).mono ?_
  rintro e w4 ⟨rfl, rfl⟩
  clear pL
  cases hq : numQ d 13 with
  | none =>
    have HV1 := Lib.hid (HV0.out hq)
    clear hq
    simp only
    go_wp2_with (first | (refine wpList_store_val rfl 3 (.tmp 98) _ rfl eb 13 (.int .i64 (-1)) rfl rfl rfl _ (encEnt (k, zeroGoods, (a, [], 0, 0), zeroPlace, zeroPlace, 0)) he3 (by kernel_rfl) (Nat.le_of_ble_eq_true rfl) rfl ?_; intro w4 he4 t4; have hS4 := strs_turned hS3 t4 hse; have c13 : w4.cell? ⟨eb, 13, none⟩ = some (.int .i64 (-1)) := (cell_of_row _ _ _ _ _ _ he4).trans rfl; have hR4 := t4.heap hR3 hne; have B4 := Lib.hid (B3.out.trans (t4.below hew)); clear he3 hS3 hR3 B3 t4) | (refine wpList_store_box rfl 29 (.tmp 2) _ rfl R (encEnt zeroEnt) rfl rfl _ (encEnt zeroEnt) hR4 (by kernel_rfl) rfl (encEnt_one _) ?_; intro w9 hR9 t9))
    (try simp only [Exit.inBlock, Exit.then])
    refine bodyPost_ret (results_cell_row2 rfl _ _ R 29 (encEnt zeroEnt).toArray (0, 0) _ rfl hR9 Tryz.underlying29 rfl (by kernel_rfl)) rfl ?_
    rw [HV1.out]
    exact ⟨rfl, B4.out.trans (t9.below hRw)⟩
  | some u =>
    have HSH := Lib.hid (HSHU.out (u : Int))
    have HVF1 := Lib.hid (fun h => HVF.out u hq h)
    have HVX1 := Lib.hid (HVX.out u hq)
    clear hq
    simp only
    have hu0 : ¬ (u : Int) < 0 := by omega
    clear HV0 HVX HSHU HVF
    go_wp2_with (first | (refine wpList_store_val rfl 3 (.tmp 98) _ rfl eb 13 (.int .i64 (u : Int)) rfl rfl rfl _ (encEnt (k, zeroGoods, (a, [], 0, 0), zeroPlace, zeroPlace, 0)) he3 (by kernel_rfl) (Nat.le_of_ble_eq_true rfl) rfl ?_; intro w4 he4 t4; have hS4 := strs_turned hS3 t4 hse; have c13 : w4.cell? ⟨eb, 13, none⟩ = some (.int .i64 (u : Int)) := (cell_of_row _ _ _ _ _ _ he4).trans rfl; have hR4 := t4.heap hR3 hne; have B4 := Lib.hid (B3.out.trans (t4.below hew)); have pWp := strs_at hS4 2 p rfl; clear he3 hS3 hR3 B3 t4) )
    have he4 : w4.heap[eb]? = some (.cells (encEnt (k, zeroGoods, (a, [], 0, 0), zeroPlace, zeroPlace, (u : Int))).toArray 29 (0, 0)) := he4
    refine (HRPp.out _).mono ?_
    rintro e w5 ⟨rfl, b5⟩
    have hR5 := (b5.block R (row_lt hR4)).trans hR4
    have he5 := (b5.block eb (row_lt he4)).trans he4
    have hS5 := hS4.below b5
    have B5 := Lib.hid (B4.out.trans (b5.mono B4.out.size))
    clear b5 he4 hR4 hS4 pWp c13
    have bo := below_one w5 (.cells #[.string ⟨#[]⟩, .int .i64 0, .int .i64 0] 27)
    have hR6 := (bo.block R (row_lt hR5)).trans hR5
    have he6 := (bo.block eb (row_lt he5)).trans he5
    have hS6 := hS5.below bo
    have hp6 := heap_alloc_new w5 (.cells #[.string ⟨#[]⟩, .int .i64 0, .int .i64 0] 27)
    have B6 := Lib.hid (B5.out.trans (bo.mono B5.out.size))
    have hnp : w5.heap.size ≠ eb := Ne.symm (Nat.ne_of_lt (row_lt he5))
    have hnR : R ≠ w5.heap.size := Nat.ne_of_lt (row_lt hR5)
    have hnS : bl ≠ w5.heap.size := Nat.ne_of_lt (strs_lt hS5)
    have hpw : w.heap.size ≤ w5.heap.size := B5.out.size
    clear bo hR5 he5 hS5 B5
    by_cases hkz : kkp = 0
    · subst hkz
      replace HVX1 := Lib.hid (HVX1.out rfl)
      rw [show ((0 : Nat) : Int) = 0 from rfl]
      have HV2 := HVX1
      have HE1 := Lib.hid (fun W => refEntE_any (k, zeroGoods, (a, [], 0, 0), plp, zeroPlace, (u : Int)) W HSH.out)
      have hl1 : (encEnt (k, zeroGoods, (a, [], 0, 0), plp, zeroPlace, (u : Int))).length = 14 := rfl
      go_wp2_with (first | (refine wpList_store_box rfl 27 (.tmp 12) _ rfl w5.heap.size (encPlace plp) rfl rfl _ [.string ⟨#[]⟩, .int .i64 0, .int .i64 0] hp6 (by kernel_rfl) rfl (encPlace_one _) ?_; intro w6 hp7 t7; have hR7 := t7.heap hR6 hnR; have he7 := t7.heap he6 (Ne.symm hnp); have hS7 := strs_turned hS6 t7 hnS; have B7 := Lib.hid (B6.out.trans (t7.below hpw)); have lp7 := Lies.row _ hp7; clear hR6 he6 hS6 hp6 t7) | (refine wpList_load_at rfl 27 (.tmp 12) rfl w5.heap.size 0 rfl (encPlace plp) lp7 _ Tryz.underlying27 rfl (by kernel_rfl) ?_) | (refine wpList_store_at rfl 27 (.tmp 116) _ rfl eb 7 (encPlace plp) rfl rfl _ (encEnt (k, zeroGoods, (a, [], 0, 0), zeroPlace, zeroPlace, (u : Int))) he7 (by kernel_rfl) (Nat.le_of_ble_eq_true rfl) (encPlace_one _) ?_; intro w7 he8 t8; rw [rdx_from] at he8; have hR8 := t8.heap hR7 hne; have hS8 := strs_turned hS7 t8 hse; have B8 := Lib.hid (B7.out.trans (t8.below hew)); have lx := Lies.row (encEnt (k, zeroGoods, (a, [], 0, 0), plp, zeroPlace, (u : Int))) (show w7.heap[eb]? = some (.cells (encEnt (k, zeroGoods, (a, [], 0, 0), plp, zeroPlace, (u : Int))).toArray 29 (0, 0)) from he8); clear he7 hR7 hS7 B7 t8) | (refine wpList_load_at rfl 29 (.tmp 6) rfl eb 0 rfl (encEnt (k, zeroGoods, (a, [], 0, 0), plp, zeroPlace, (u : Int))) lx _ Tryz.underlying29 rfl (by kernel_rfl) ?_))
      refine (HE1.out _).mono ?_
      rintro e w7 ⟨rfl, b7⟩
      have hR7 := (b7.block R (row_lt hR8)).trans hR8
      have lx7 := lx.below b7
      have B7 := Lib.hid (B8.out.trans (b7.mono B8.out.size))
      clear b7 lx HE1
      by_cases hE : entE (k, zeroGoods, (a, [], 0, 0), plp, zeroPlace, (u : Int)) = 0
      · have HFI := Lib.hid (finEnt_ok hE)
        rw [hE]
        clear hE
        go_wp2_with (first | (refine wpList_load_at rfl 29 (.tmp 6) rfl eb 0 rfl (encEnt (k, zeroGoods, (a, [], 0, 0), plp, zeroPlace, (u : Int))) lx7 _ Tryz.underlying29 rfl (by kernel_rfl) ?_) | (refine wpList_store_box rfl 29 _ _ rfl R (encEnt (k, zeroGoods, (a, [], 0, 0), plp, zeroPlace, (u : Int))) rfl rfl _ (encEnt zeroEnt) hR7 (by kernel_rfl) rfl (encEnt_one _) ?_; intro w9 hR9 t9))
        (try simp only [Exit.inBlock, Exit.then])
        refine bodyPost_ret (results_cell_row2 rfl _ _ R 29 (encEnt (k, zeroGoods, (a, [], 0, 0), plp, zeroPlace, (u : Int))).toArray (0, 0) _ rfl hR9 Tryz.underlying29 rfl (by kernel_rfl)) rfl ?_
        rw [HV2.out, HFI.out]
        exact ⟨rfl, B7.out.trans (t9.below hRw)⟩
      · have HFI := Lib.hid (finEnt_bad hE)
        have hpos : 0 < (entE (k, zeroGoods, (a, [], 0, 0), plp, zeroPlace, (u : Int)) : Int) := by omega
        generalize entE (k, zeroGoods, (a, [], 0, 0), plp, zeroPlace, (u : Int)) = ke at hpos HFI
        clear hE
        go_wp2_with (first | (refine wpList_store_box rfl 29 (.tmp 2) _ rfl R (encEnt zeroEnt) rfl rfl _ (encEnt zeroEnt) hR7 (by kernel_rfl) rfl (encEnt_one _) ?_; intro w9 hR9 t9))
        (try simp only [Exit.inBlock, Exit.then])
        refine bodyPost_ret (results_cell_row2 rfl _ _ R 29 (encEnt zeroEnt).toArray (0, 0) _ rfl hR9 Tryz.underlying29 rfl (by kernel_rfl)) rfl ?_
        rw [HV2.out, HFI.out]
        exact ⟨rfl, B7.out.trans (t9.below hRw)⟩
    · have HV2 := Lib.hid (HVF1.out hkz)
      have hpos : 0 < (kkp : Int) := by omega
      clear hkz
      go_wp2_with (first | (refine wpList_store_box rfl 27 (.tmp 12) _ rfl w5.heap.size (encPlace plp) rfl rfl _ [.string ⟨#[]⟩, .int .i64 0, .int .i64 0] hp6 (by kernel_rfl) rfl (encPlace_one _) ?_; intro w6 hp7 t7; have hR7 := t7.heap hR6 hnR; have he7 := t7.heap he6 (Ne.symm hnp); have hS7 := strs_turned hS6 t7 hnS; have B7 := Lib.hid (B6.out.trans (t7.below hpw)); have lp7 := Lies.row _ hp7; clear hR6 he6 hS6 hp6 t7) | (refine wpList_store_box rfl 29 (.tmp 2) _ rfl R (encEnt zeroEnt) rfl rfl _ (encEnt zeroEnt) hR7 (by kernel_rfl) rfl (encEnt_one _) ?_; intro w9 hR9 t9))
      (try simp only [Exit.inBlock, Exit.then])
      refine bodyPost_ret (results_cell_row2 rfl _ _ R 29 (encEnt zeroEnt).toArray (0, 0) _ rfl hR9 Tryz.underlying29 rfl (by kernel_rfl)) rfl ?_
      rw [HV2.out]
      exact ⟨rfl, B7.out.trans (t9.below hRw)⟩

set_option maxHeartbeats 6400000 in
set_option maxRecDepth 100000 in
theorem refReadE_len11 (s : ByteArray) (hs : s.size ≤ 1000000) (k : List UInt8) (t : List (List UInt8)) (hw : splitL 32 (bts s) = k :: t) (hk1 : k ≠ kGoods) (hk2 : k ≠ kLot) (hk3 : isP k = true) (hF : hasF k = true) (hT : hasT k = true) (hl : t.length ≠ 4) (w : World) :
    Calls Tryz.prog 7 #[.string s] w (RdEnt ((zeroEnt, 1)) w) := by
  have HCT := Lib.hid (fun W => refCutC s 32 W hs)
  rw [hw] at HCT
  have hle : ∀ x ∈ k :: t, x.length ≤ 1000000 := fun x hx => Nat.le_trans (splitL_lens (c := 32) (l := bts s) (w := x) (by rw [hw]; exact hx)) hs
  have hn1 : t.length ≤ 1000001 := by
    have := splitL_count 32 (bts s)
    rw [hw] at this
    have h2 : (bts s).length = s.size := rfl
    simp only [List.length_cons] at this
    omega
  have HK := Lib.hid (fun W => isKind_any k W)
  rw [show isKB k = true by unfold isKB; rw [hk3]; simp] at HK
  have HF := Lib.hid (fun W => hasFrom_any k W)
  have HT := Lib.hid (fun W => hasTo_any k W)
  rw [hF] at HF
  rw [hT] at HT
  have hkb : (k == [103, 111, 111, 100, 115]) = false := beq_eq_false_iff_ne.2 hk1
  have hkl : (k == [108, 111, 116]) = false := beq_eq_false_iff_ne.2 hk2
  have h3 : ¬ (t.length : Int) + 1 = 5 := by omega
  have h3b : ((t.length : Int) + 1 == 5) = false := by simpa using h3
  clear hle hl hk1 hk2 hk3 hF hT
  have hR0 := heap_alloc_new w (.cells (encEnt zeroEnt).toArray 29)
  have b0 := below_one w (.cells (encEnt zeroEnt).toArray 29)
  obtain ⟨R, hRb⟩ : ∃ R, R = w.heap.size := ⟨_, rfl⟩
  have hRw : w.heap.size ≤ R := Nat.le_of_eq hRb.symm
  have B0 := Lib.hid b0
  clear b0 hw hs
  go_enter Tryz.func7, Tryz.ntmps7
  go_wp2_with fail
  rw [show (w.alloc (.cells #[.string ⟨#[]⟩, .string ⟨#[]⟩, .int .i64 0, .string ⟨#[]⟩, .string ⟨#[]⟩, .int .i64 0, .int .i64 0, .string ⟨#[]⟩, .int .i64 0, .int .i64 0, .string ⟨#[]⟩, .int .i64 0, .int .i64 0, .int .i64 0] 29)) = w.alloc (.cells (encEnt zeroEnt).toArray 29) from rfl]
  rw [← hRb] at hR0 ⊢
  generalize w.alloc (.cells (encEnt zeroEnt).toArray 29) = W0 at hR0 B0 ⊢
  refine (HCT.out W0).mono ?_
  rintro e w1 ⟨A, cap, rfl, hS, hfr, b1, hcap⟩
  have hR1 := (b1.block R (row_lt hR0)).trans hR0
  have B1 := Lib.hid (B0.out.trans (b1.mono B0.out.size))
  obtain ⟨bl, o, rfl⟩ := strs_some hS
  have hblR : bl ≠ R := by have h1 : W0.heap.size ≤ bl := hfr _ rfl; have := row_lt hR0; omega
  have kc := strs_head hS
  rw [show (k :: t).length = t.length + 1 from rfl] at hcap ⊢
  clear b1 hR0 HCT hRb B0 hfr
  go_wp2_with fail
  refine (HK.out _).mono ?_
  rintro e w2 ⟨rfl, rfl⟩
  have bo := below_one w1 (.cells (encEnt (kEnt k)).toArray 29)
  have hR2 := (bo.block R (row_lt hR1)).trans hR1
  have hS2 := hS.below bo
  have he2 := heap_alloc_new w1 (.cells (encEnt (kEnt k)).toArray 29)
  have B2 := Lib.hid (B1.out.trans (bo.mono B1.out.size))
  have hkc : (w1.alloc (.cells #[.string ⟨k.toArray⟩, .string ⟨#[]⟩, .int .i64 0, .string ⟨#[]⟩, .string ⟨#[]⟩, .int .i64 0, .int .i64 0, .string ⟨#[]⟩, .int .i64 0, .int .i64 0, .string ⟨#[]⟩, .int .i64 0, .int .i64 0, .int .i64 0] 29)).cell? ⟨bl, o, none⟩ = some (.string ⟨k.toArray⟩) := strs_head hS2
  have hne : R ≠ w1.heap.size := Nat.ne_of_lt (row_lt hR1)
  have hse : bl ≠ w1.heap.size := Nat.ne_of_lt (strs_lt hS)
  have hew : w.heap.size ≤ w1.heap.size := B1.out.size
  clear bo hR1 hS B1
  go_wp2_with fail
  rw [show (w1.alloc (.cells #[.string ⟨k.toArray⟩, .string ⟨#[]⟩, .int .i64 0, .string ⟨#[]⟩, .string ⟨#[]⟩, .int .i64 0, .int .i64 0, .string ⟨#[]⟩, .int .i64 0, .int .i64 0, .string ⟨#[]⟩, .int .i64 0, .int .i64 0, .int .i64 0] 29)) = w1.alloc (.cells (encEnt (kEnt k)).toArray 29) from rfl]
  generalize w1.alloc (.cells (encEnt (kEnt k)).toArray 29) = W2 at hR2 hS2 he2 B2 ⊢
  clear hkc
  generalize w1.heap.size = eb at he2 hne hse hew ⊢
  have hkc := strs_head hS2
  refine (HF.out _).mono ?_
  rintro e w2 ⟨rfl, rfl⟩
  go_wp2_with fail
  refine (HT.out _).mono ?_
  rintro e w2 ⟨rfl, rfl⟩
  go_wp2_with (first | (refine wpList_store_box rfl 29 (.tmp 2) _ rfl R (encEnt zeroEnt) rfl rfl _ (encEnt zeroEnt) hR2 (by kernel_rfl) rfl (encEnt_one _) ?_; intro w9 hR9 t9))
  (try simp only [Exit.inBlock, Exit.then])
  refine bodyPost_ret (results_cell_row2 rfl _ _ R 29 (encEnt zeroEnt).toArray (0, 0) _ rfl hR9 Tryz.underlying29 rfl (by kernel_rfl)) rfl ?_
  exact ⟨rfl, B2.out.trans (t9.below hRw)⟩

set_option maxHeartbeats 12800000 in
set_option maxRecDepth 100000 in
theorem refReadE_p11 (s : ByteArray) (hs : s.size ≤ 1000000) (k : List UInt8) (t : List (List UInt8)) (hw : splitL 32 (bts s) = k :: t) (hk1 : k ≠ kGoods) (hk2 : k ≠ kLot) (hk3 : isP k = true) (hF : hasF k = true) (hT : hasT k = true) (a p q d : List UInt8) (ht : t = [a, p, q, d]) (w : World) :
    Calls Tryz.prog 7 #[.string s] w (RdEnt (finEnt (entPieces k [k, a, p, q, d])) w) := by
  have HCT := Lib.hid (fun W => refCutC s 32 W hs)
  rw [hw] at HCT
  have hle : ∀ x ∈ k :: t, x.length ≤ 1000000 := fun x hx => Nat.le_trans (splitL_lens (c := 32) (l := bts s) (w := x) (by rw [hw]; exact hx)) hs
  have hn1 : t.length ≤ 1000001 := by
    have := splitL_count 32 (bts s)
    rw [hw] at this
    have h2 : (bts s).length = s.size := rfl
    simp only [List.length_cons] at this
    omega
  have HK := Lib.hid (fun W => isKind_any k W)
  rw [show isKB k = true by unfold isKB; rw [hk3]; simp] at HK
  have HF := Lib.hid (fun W => hasFrom_any k W)
  have HT := Lib.hid (fun W => hasTo_any k W)
  have hkb : (k == [103, 111, 111, 100, 115]) = false := beq_eq_false_iff_ne.2 hk1
  have hkl : (k == [108, 111, 116]) = false := beq_eq_false_iff_ne.2 hk2
  subst ht
  have hal := hle a (by simp)
  have hdl := hle d (by simp)
  have hpl := hle p (by simp)
  have HRPp := Lib.hid (fun W => refReadPlace_any ⟨p.toArray⟩ (by show p.length ≤ _; omega) W)
  rw [show bts ⟨p.toArray⟩ = p from rfl] at HRPp
  have hzp := placeWords_short (t := p) hpl
  have hql := hle q (by simp)
  have HRPq := Lib.hid (fun W => refReadPlace_any ⟨q.toArray⟩ (by show q.length ≤ _; omega) W)
  rw [show bts ⟨q.toArray⟩ = q from rfl] at HRPq
  have hzq := placeWords_short (t := q) hql
  have HN := Lib.hid (fun W => refNumber_any d 13 (by omega) (by omega) W)
  rw [refNum_eq d 13 (by omega)] at HN
  obtain ⟨V, hV⟩ : ∃ V, V = finEnt (entPieces k [k, a, p, q, d]) := ⟨_, rfl⟩
  rw [← hV]
  have HV0 : Hid (numQ d 13 = none → V = (zeroEnt, 1)) := fun h => hV.trans ((congrArg finEnt (entPieces_num (k := k) (ws := [k, a, p, q, d]) h)).trans (finEnt_err _ (by decide)))
  have HVF : Hid (∀ u, numQ d 13 = some u → (placeWords (splitL 45 p)).2 ≠ 0 → V = (zeroEnt, (placeWords (splitL 45 p)).2)) := fun u h h2 => by
    show V = _
    rw [hV]
    unfold entPieces
    simp only [hF, hT, List.length_cons, List.length_nil, List.getLast?_cons_cons, List.getLast?_singleton, Option.getD_some, h]
    simp [h2, finEnt]
  have HVT : Hid (∀ u, numQ d 13 = some u → (placeWords (splitL 45 p)).2 = 0 → (placeWords (splitL 45 q)).2 ≠ 0 → V = (zeroEnt, (placeWords (splitL 45 q)).2)) := fun u h h1 h2 => by
    show V = _
    rw [hV]
    unfold entPieces
    simp only [hF, hT, List.length_cons, List.length_nil, List.getLast?_cons_cons, List.getLast?_singleton, Option.getD_some, h]
    simp [h1, h2, finEnt]
  have HVX : Hid (∀ u : Nat, numQ d 13 = some u → (placeWords (splitL 45 p)).2 = 0 → (placeWords (splitL 45 q)).2 = 0 → V = finEnt ((k, zeroGoods, (a, [], 0, 0), (placeWords (splitL 45 p)).1, (placeWords (splitL 45 q)).1, (u : Int)), 0)) := fun u h h1 h2 => by
    show V = _
    rw [hV]
    unfold entPieces
    simp only [hF, hT, List.length_cons, List.length_nil, List.getLast?_cons_cons, List.getLast?_singleton, Option.getD_some, h]
    simp [h1, h2]
  rw [hF] at HF
  rw [hT] at HT
  have HSHU : Hid (∀ u : Int, ShortE (k, zeroGoods, (a, [], 0, 0), (placeWords (splitL 45 p)).1, (placeWords (splitL 45 q)).1, u)) := fun u => ⟨Nat.zero_le _, by show a.length ≤ _; omega, Nat.zero_le _, hzp, hzq⟩
  generalize hgenp : placeWords (splitL 45 p) = rp at HRPp HSHU HVX HVF HVT
  clear hgenp
  obtain ⟨plp, kkp⟩ := rp
  simp only at HRPp HSHU HVX HVF HVT
  generalize hgenq : placeWords (splitL 45 q) = rq at HRPq HSHU HVX HVT
  clear hgenq
  obtain ⟨plq, kkq⟩ := rq
  simp only at HRPq HSHU HVX HVT
  clear hle hn1 hV hk1 hk2 hk3 hF hT hpl hzp hql hzq
  have hR0 := heap_alloc_new w (.cells (encEnt zeroEnt).toArray 29)
  have b0 := below_one w (.cells (encEnt zeroEnt).toArray 29)
  obtain ⟨R, hRb⟩ : ∃ R, R = w.heap.size := ⟨_, rfl⟩
  have hRw : w.heap.size ≤ R := Nat.le_of_eq hRb.symm
  have B0 := Lib.hid b0
  clear b0 hw hs
  go_enter Tryz.func7, Tryz.ntmps7
  go_wp2_with fail
  rw [show (w.alloc (.cells #[.string ⟨#[]⟩, .string ⟨#[]⟩, .int .i64 0, .string ⟨#[]⟩, .string ⟨#[]⟩, .int .i64 0, .int .i64 0, .string ⟨#[]⟩, .int .i64 0, .int .i64 0, .string ⟨#[]⟩, .int .i64 0, .int .i64 0, .int .i64 0] 29)) = w.alloc (.cells (encEnt zeroEnt).toArray 29) from rfl]
  rw [← hRb] at hR0 ⊢
  generalize w.alloc (.cells (encEnt zeroEnt).toArray 29) = W0 at hR0 B0 ⊢
  refine (HCT.out W0).mono ?_
  rintro e w1 ⟨A, cap, rfl, hS, hfr, b1, hcap⟩
  have hR1 := (b1.block R (row_lt hR0)).trans hR0
  have B1 := Lib.hid (B0.out.trans (b1.mono B0.out.size))
  obtain ⟨bl, o, rfl⟩ := strs_some hS
  have hblR : bl ≠ R := by have h1 : W0.heap.size ≤ bl := hfr _ rfl; have := row_lt hR0; omega
  have kc := strs_head hS
  rw [show [k, a, p, q, d].length = 5 from rfl] at hcap ⊢
  clear b1 hR0 HCT hRb B0 hfr
  go_wp2_with fail
  refine (HK.out _).mono ?_
  rintro e w2 ⟨rfl, rfl⟩
  have bo := below_one w1 (.cells (encEnt (kEnt k)).toArray 29)
  have hR2 := (bo.block R (row_lt hR1)).trans hR1
  have hS2 := hS.below bo
  have he2 := heap_alloc_new w1 (.cells (encEnt (kEnt k)).toArray 29)
  have B2 := Lib.hid (B1.out.trans (bo.mono B1.out.size))
  have hkc : (w1.alloc (.cells #[.string ⟨k.toArray⟩, .string ⟨#[]⟩, .int .i64 0, .string ⟨#[]⟩, .string ⟨#[]⟩, .int .i64 0, .int .i64 0, .string ⟨#[]⟩, .int .i64 0, .int .i64 0, .string ⟨#[]⟩, .int .i64 0, .int .i64 0, .int .i64 0] 29)).cell? ⟨bl, o, none⟩ = some (.string ⟨k.toArray⟩) := strs_head hS2
  have hne : R ≠ w1.heap.size := Nat.ne_of_lt (row_lt hR1)
  have hse : bl ≠ w1.heap.size := Nat.ne_of_lt (strs_lt hS)
  have hew : w.heap.size ≤ w1.heap.size := B1.out.size
  clear bo hR1 hS B1
  go_wp2_with fail
  rw [show (w1.alloc (.cells #[.string ⟨k.toArray⟩, .string ⟨#[]⟩, .int .i64 0, .string ⟨#[]⟩, .string ⟨#[]⟩, .int .i64 0, .int .i64 0, .string ⟨#[]⟩, .int .i64 0, .int .i64 0, .string ⟨#[]⟩, .int .i64 0, .int .i64 0, .int .i64 0] 29)) = w1.alloc (.cells (encEnt (kEnt k)).toArray 29) from rfl]
  generalize w1.alloc (.cells (encEnt (kEnt k)).toArray 29) = W2 at hR2 hS2 he2 B2 ⊢
  clear hkc
  generalize w1.heap.size = eb at he2 hne hse hew ⊢
  have hkc := strs_head hS2
  refine (HF.out _).mono ?_
  rintro e w2 ⟨rfl, rfl⟩
  go_wp2_with fail
  refine (HT.out _).mono ?_
  rintro e w2 ⟨rfl, rfl⟩
  have p1 := strs_at hS2 1 a rfl
  go_wp2_with (refine wpList_store_val rfl 9 (.tmp 91) _ rfl eb 3 (.string ⟨a.toArray⟩) rfl rfl rfl _ (encEnt (kEnt k)) he2 (by kernel_rfl) (Nat.le_of_ble_eq_true rfl) rfl ?_; intro w3 he3 t3; have hS3 := strs_turned hS2 t3 hse; have pL := strs_at hS3 4 d rfl; have hR3 := t3.heap hR2 hne; have B3 := Lib.hid (B2.out.trans (t3.below hew)); clear he2 hS2 hR2 B2 hkc p1 t3)
  have he3 : w3.heap[eb]? = some (.cells (encEnt (k, zeroGoods, (a, [], 0, 0), zeroPlace, zeroPlace, 0)).toArray 29 (0, 0)) := he3
  refine (HN.out _).mono ?_
  rintro e w4 ⟨rfl, rfl⟩
  clear pL
  cases hq : numQ d 13 with
  | none =>
    have HV1 := Lib.hid (HV0.out hq)
    clear hq
    simp only
    go_wp2_with (first | (refine wpList_store_val rfl 3 (.tmp 98) _ rfl eb 13 (.int .i64 (-1)) rfl rfl rfl _ (encEnt (k, zeroGoods, (a, [], 0, 0), zeroPlace, zeroPlace, 0)) he3 (by kernel_rfl) (Nat.le_of_ble_eq_true rfl) rfl ?_; intro w4 he4 t4; have hS4 := strs_turned hS3 t4 hse; have c13 : w4.cell? ⟨eb, 13, none⟩ = some (.int .i64 (-1)) := (cell_of_row _ _ _ _ _ _ he4).trans rfl; have hR4 := t4.heap hR3 hne; have B4 := Lib.hid (B3.out.trans (t4.below hew)); clear he3 hS3 hR3 B3 t4) | (refine wpList_store_box rfl 29 (.tmp 2) _ rfl R (encEnt zeroEnt) rfl rfl _ (encEnt zeroEnt) hR4 (by kernel_rfl) rfl (encEnt_one _) ?_; intro w9 hR9 t9))
    (try simp only [Exit.inBlock, Exit.then])
    refine bodyPost_ret (results_cell_row2 rfl _ _ R 29 (encEnt zeroEnt).toArray (0, 0) _ rfl hR9 Tryz.underlying29 rfl (by kernel_rfl)) rfl ?_
    rw [HV1.out]
    exact ⟨rfl, B4.out.trans (t9.below hRw)⟩
  | some u =>
    have HSH := Lib.hid (HSHU.out (u : Int))
    have HVF1 := Lib.hid (fun h => HVF.out u hq h)
    have HVT1 := Lib.hid (HVT.out u hq)
    have HVX1 := Lib.hid (HVX.out u hq)
    clear hq
    simp only
    have hu0 : ¬ (u : Int) < 0 := by omega
    clear HV0 HVX HSHU HVF HVT
    go_wp2_with (first | (refine wpList_store_val rfl 3 (.tmp 98) _ rfl eb 13 (.int .i64 (u : Int)) rfl rfl rfl _ (encEnt (k, zeroGoods, (a, [], 0, 0), zeroPlace, zeroPlace, 0)) he3 (by kernel_rfl) (Nat.le_of_ble_eq_true rfl) rfl ?_; intro w4 he4 t4; have hS4 := strs_turned hS3 t4 hse; have c13 : w4.cell? ⟨eb, 13, none⟩ = some (.int .i64 (u : Int)) := (cell_of_row _ _ _ _ _ _ he4).trans rfl; have hR4 := t4.heap hR3 hne; have B4 := Lib.hid (B3.out.trans (t4.below hew)); have pWp := strs_at hS4 2 p rfl; clear he3 hS3 hR3 B3 t4) )
    have he4 : w4.heap[eb]? = some (.cells (encEnt (k, zeroGoods, (a, [], 0, 0), zeroPlace, zeroPlace, (u : Int))).toArray 29 (0, 0)) := he4
    refine (HRPp.out _).mono ?_
    rintro e w5 ⟨rfl, b5⟩
    have hR5 := (b5.block R (row_lt hR4)).trans hR4
    have he5 := (b5.block eb (row_lt he4)).trans he4
    have hS5 := hS4.below b5
    have B5 := Lib.hid (B4.out.trans (b5.mono B4.out.size))
    clear b5 he4 hR4 hS4 pWp c13
    have bo := below_one w5 (.cells #[.string ⟨#[]⟩, .int .i64 0, .int .i64 0] 27)
    have hR6 := (bo.block R (row_lt hR5)).trans hR5
    have he6 := (bo.block eb (row_lt he5)).trans he5
    have hS6 := hS5.below bo
    have hp6 := heap_alloc_new w5 (.cells #[.string ⟨#[]⟩, .int .i64 0, .int .i64 0] 27)
    have B6 := Lib.hid (B5.out.trans (bo.mono B5.out.size))
    have hnp : w5.heap.size ≠ eb := Ne.symm (Nat.ne_of_lt (row_lt he5))
    have hnR : R ≠ w5.heap.size := Nat.ne_of_lt (row_lt hR5)
    have hnS : bl ≠ w5.heap.size := Nat.ne_of_lt (strs_lt hS5)
    have hpw : w.heap.size ≤ w5.heap.size := B5.out.size
    clear bo hR5 he5 hS5 B5
    by_cases hkz : kkp = 0
    · subst hkz
      replace HVT1 := Lib.hid (HVT1.out rfl)
      replace HVX1 := Lib.hid (HVX1.out rfl)
      rw [show ((0 : Nat) : Int) = 0 from rfl]
      go_wp2_with (first | (refine wpList_store_box rfl 27 (.tmp 12) _ rfl w5.heap.size (encPlace plp) rfl rfl _ [.string ⟨#[]⟩, .int .i64 0, .int .i64 0] hp6 (by kernel_rfl) rfl (encPlace_one _) ?_; intro w6 hp7 t7; have hR7 := t7.heap hR6 hnR; have he7 := t7.heap he6 (Ne.symm hnp); have hS7 := strs_turned hS6 t7 hnS; have B7 := Lib.hid (B6.out.trans (t7.below hpw)); have lp7 := Lies.row _ hp7; clear hR6 he6 hS6 hp6 t7) | (refine wpList_load_at rfl 27 (.tmp 12) rfl w5.heap.size 0 rfl (encPlace plp) lp7 _ Tryz.underlying27 rfl (by kernel_rfl) ?_) | (refine wpList_store_at rfl 27 (.tmp 116) _ rfl eb 7 (encPlace plp) rfl rfl _ (encEnt (k, zeroGoods, (a, [], 0, 0), zeroPlace, zeroPlace, (u : Int))) he7 (by kernel_rfl) (Nat.le_of_ble_eq_true rfl) (encPlace_one _) ?_; intro w7 he8 t8; rw [rdx_from] at he8; have hR8 := t8.heap hR7 hne; have hS8 := strs_turned hS7 t8 hse; have B8 := Lib.hid (B7.out.trans (t8.below hew)); have pWq := strs_at hS8 3 q rfl; clear he7 hR7 hS7 B7 t8) )
      have he4 : w7.heap[eb]? = some (.cells (encEnt (k, zeroGoods, (a, [], 0, 0), plp, zeroPlace, (u : Int))).toArray 29 (0, 0)) := he8
      refine (HRPq.out _).mono ?_
      rintro e w8 ⟨rfl, b5⟩
      have hR5 := (b5.block R (row_lt hR8)).trans hR8
      have he5 := (b5.block eb (row_lt he4)).trans he4
      have hS5 := hS8.below b5
      have B5 := Lib.hid (B8.out.trans (b5.mono B8.out.size))
      clear b5 he4 hR8 hS8 pWq
      have bo := below_one w8 (.cells #[.string ⟨#[]⟩, .int .i64 0, .int .i64 0] 27)
      have hR6 := (bo.block R (row_lt hR5)).trans hR5
      have he6 := (bo.block eb (row_lt he5)).trans he5
      have hS6 := hS5.below bo
      have hp6 := heap_alloc_new w8 (.cells #[.string ⟨#[]⟩, .int .i64 0, .int .i64 0] 27)
      have B6 := Lib.hid (B5.out.trans (bo.mono B5.out.size))
      have hnp : w8.heap.size ≠ eb := Ne.symm (Nat.ne_of_lt (row_lt he5))
      have hnR : R ≠ w8.heap.size := Nat.ne_of_lt (row_lt hR5)
      have hnS : bl ≠ w8.heap.size := Nat.ne_of_lt (strs_lt hS5)
      have hpw : w.heap.size ≤ w8.heap.size := B5.out.size
      clear bo hR5 he5 hS5 B5
      by_cases hkz : kkq = 0
      · subst hkz
        replace HVX1 := Lib.hid (HVX1.out rfl)
        rw [show ((0 : Nat) : Int) = 0 from rfl]
        have HV2 := HVX1
        have HE1 := Lib.hid (fun W => refEntE_any (k, zeroGoods, (a, [], 0, 0), plp, plq, (u : Int)) W HSH.out)
        have hl1 : (encEnt (k, zeroGoods, (a, [], 0, 0), plp, plq, (u : Int))).length = 14 := rfl
        go_wp2_with (first | (refine wpList_store_box rfl 27 (.tmp 14) _ rfl w8.heap.size (encPlace plq) rfl rfl _ [.string ⟨#[]⟩, .int .i64 0, .int .i64 0] hp6 (by kernel_rfl) rfl (encPlace_one _) ?_; intro w9 hp7 t7; have hR7 := t7.heap hR6 hnR; have he7 := t7.heap he6 (Ne.symm hnp); have hS7 := strs_turned hS6 t7 hnS; have B7 := Lib.hid (B6.out.trans (t7.below hpw)); have lp7 := Lies.row _ hp7; clear hR6 he6 hS6 hp6 t7) | (refine wpList_load_at rfl 27 (.tmp 14) rfl w8.heap.size 0 rfl (encPlace plq) lp7 _ Tryz.underlying27 rfl (by kernel_rfl) ?_) | (refine wpList_store_at rfl 27 (.tmp 132) _ rfl eb 10 (encPlace plq) rfl rfl _ (encEnt (k, zeroGoods, (a, [], 0, 0), plp, zeroPlace, (u : Int))) he7 (by kernel_rfl) (Nat.le_of_ble_eq_true rfl) (encPlace_one _) ?_; intro w10 he8 t8; rw [rdx_to] at he8; have hR8 := t8.heap hR7 hne; have hS8 := strs_turned hS7 t8 hse; have B8 := Lib.hid (B7.out.trans (t8.below hew)); have lx := Lies.row (encEnt (k, zeroGoods, (a, [], 0, 0), plp, plq, (u : Int))) (show w10.heap[eb]? = some (.cells (encEnt (k, zeroGoods, (a, [], 0, 0), plp, plq, (u : Int))).toArray 29 (0, 0)) from he8); clear he7 hR7 hS7 B7 t8) | (refine wpList_load_at rfl 29 (.tmp 6) rfl eb 0 rfl (encEnt (k, zeroGoods, (a, [], 0, 0), plp, plq, (u : Int))) lx _ Tryz.underlying29 rfl (by kernel_rfl) ?_))
        refine (HE1.out _).mono ?_
        rintro e w7 ⟨rfl, b7⟩
        have hR7 := (b7.block R (row_lt hR8)).trans hR8
        have lx7 := lx.below b7
        have B7 := Lib.hid (B8.out.trans (b7.mono B8.out.size))
        clear b7 lx HE1
        by_cases hE : entE (k, zeroGoods, (a, [], 0, 0), plp, plq, (u : Int)) = 0
        · have HFI := Lib.hid (finEnt_ok hE)
          rw [hE]
          clear hE
          go_wp2_with (first | (refine wpList_load_at rfl 29 (.tmp 6) rfl eb 0 rfl (encEnt (k, zeroGoods, (a, [], 0, 0), plp, plq, (u : Int))) lx7 _ Tryz.underlying29 rfl (by kernel_rfl) ?_) | (refine wpList_store_box rfl 29 _ _ rfl R (encEnt (k, zeroGoods, (a, [], 0, 0), plp, plq, (u : Int))) rfl rfl _ (encEnt zeroEnt) hR7 (by kernel_rfl) rfl (encEnt_one _) ?_; intro w9 hR9 t9))
          (try simp only [Exit.inBlock, Exit.then])
          refine bodyPost_ret (results_cell_row2 rfl _ _ R 29 (encEnt (k, zeroGoods, (a, [], 0, 0), plp, plq, (u : Int))).toArray (0, 0) _ rfl hR9 Tryz.underlying29 rfl (by kernel_rfl)) rfl ?_
          rw [HV2.out, HFI.out]
          exact ⟨rfl, B7.out.trans (t9.below hRw)⟩
        · have HFI := Lib.hid (finEnt_bad hE)
          have hpos : 0 < (entE (k, zeroGoods, (a, [], 0, 0), plp, plq, (u : Int)) : Int) := by omega
          generalize entE (k, zeroGoods, (a, [], 0, 0), plp, plq, (u : Int)) = ke at hpos HFI
          clear hE
          go_wp2_with (first | (refine wpList_store_box rfl 29 (.tmp 2) _ rfl R (encEnt zeroEnt) rfl rfl _ (encEnt zeroEnt) hR7 (by kernel_rfl) rfl (encEnt_one _) ?_; intro w9 hR9 t9))
          (try simp only [Exit.inBlock, Exit.then])
          refine bodyPost_ret (results_cell_row2 rfl _ _ R 29 (encEnt zeroEnt).toArray (0, 0) _ rfl hR9 Tryz.underlying29 rfl (by kernel_rfl)) rfl ?_
          rw [HV2.out, HFI.out]
          exact ⟨rfl, B7.out.trans (t9.below hRw)⟩
      · have HV2 := Lib.hid (HVT1.out hkz)
        have hpos : 0 < (kkq : Int) := by omega
        clear hkz
        go_wp2_with (first | (refine wpList_store_box rfl 27 (.tmp 14) _ rfl w8.heap.size (encPlace plq) rfl rfl _ [.string ⟨#[]⟩, .int .i64 0, .int .i64 0] hp6 (by kernel_rfl) rfl (encPlace_one _) ?_; intro w9 hp7 t7; have hR7 := t7.heap hR6 hnR; have he7 := t7.heap he6 (Ne.symm hnp); have hS7 := strs_turned hS6 t7 hnS; have B7 := Lib.hid (B6.out.trans (t7.below hpw)); have lp7 := Lies.row _ hp7; clear hR6 he6 hS6 hp6 t7) | (refine wpList_store_box rfl 29 (.tmp 2) _ rfl R (encEnt zeroEnt) rfl rfl _ (encEnt zeroEnt) hR7 (by kernel_rfl) rfl (encEnt_one _) ?_; intro w9 hR9 t9))
        (try simp only [Exit.inBlock, Exit.then])
        refine bodyPost_ret (results_cell_row2 rfl _ _ R 29 (encEnt zeroEnt).toArray (0, 0) _ rfl hR9 Tryz.underlying29 rfl (by kernel_rfl)) rfl ?_
        rw [HV2.out]
        exact ⟨rfl, B7.out.trans (t9.below hRw)⟩
    · have HV2 := Lib.hid (HVF1.out hkz)
      have hpos : 0 < (kkp : Int) := by omega
      clear hkz
      go_wp2_with (first | (refine wpList_store_box rfl 27 (.tmp 12) _ rfl w5.heap.size (encPlace plp) rfl rfl _ [.string ⟨#[]⟩, .int .i64 0, .int .i64 0] hp6 (by kernel_rfl) rfl (encPlace_one _) ?_; intro w6 hp7 t7; have hR7 := t7.heap hR6 hnR; have he7 := t7.heap he6 (Ne.symm hnp); have hS7 := strs_turned hS6 t7 hnS; have B7 := Lib.hid (B6.out.trans (t7.below hpw)); have lp7 := Lies.row _ hp7; clear hR6 he6 hS6 hp6 t7) | (refine wpList_store_box rfl 29 (.tmp 2) _ rfl R (encEnt zeroEnt) rfl rfl _ (encEnt zeroEnt) hR7 (by kernel_rfl) rfl (encEnt_one _) ?_; intro w9 hR9 t9))
      (try simp only [Exit.inBlock, Exit.then])
      refine bodyPost_ret (results_cell_row2 rfl _ _ R 29 (encEnt zeroEnt).toArray (0, 0) _ rfl hR9 Tryz.underlying29 rfl (by kernel_rfl)) rfl ?_
      rw [HV2.out]
      exact ⟨rfl, B7.out.trans (t9.below hRw)⟩
end Go.Proofs.YtpifbahafnaejaaGreatDoor
