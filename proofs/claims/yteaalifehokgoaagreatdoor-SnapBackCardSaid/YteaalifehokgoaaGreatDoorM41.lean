/- Snaps: Snap. -/
import Derived.Deep.RegionHeld3
import Derived.Test.YteaalifehokgoaaGreatDoorM08
import Derived.Test.YteaalifehokgoaaGreatDoorM09
import Derived.Test.YteaalifehokgoaaGreatDoorM14
import Derived.Test.YteaalifehokgoaaGreatDoorM27
import Derived.Test.YteaalifehokgoaaGreatDoorM38
import Derived.Test.YteaalifehokgoaaGreatDoorM39
import Derived.Test.YteaalifehokgoaaGreatDoorM40
namespace Go.Proofs.YteaalifehokgoaaGreatDoor
open Go.RowKit Go.Sort Go.Proofs
theorem goodsE_zeroS {x : GoodsV} (h : goodsE x = 0) : nameB x.1 = true ∧ 1 ≤ x.2 ∧ x.2 ≤ 1000 := by
 unfold goodsE at h
 split at h
 ·cases h
 split at h
 ·cases h
 rename_i h3 h4
 unfold wiB at h4
 simp only [decide_eq_false_iff_not, Decidable.not_not] at h4
 exact ⟨by simpa using h3, h4⟩
set_option maxHeartbeats 1600000 in
set_option maxRecDepth 100000 in
theorem linesStk_P {q c : Nat} {m : StkV} (hI : StkI m) (w : World) (h : StkP w q c m) :
  Calls Tryz.prog 33 #[.pointer (some ⟨q, 0, none⟩)] w fun e w' => ∃ A cap, e = .returned (.slice A m.length cap) ∧ RowAt encLine 5 w' A (linesM m) ∧ (∀ a, A = some a → w.heap.size ≤ a.block) ∧ Below w.heap.size w w' := by
 obtain ⟨m', h1, h2⟩ := h
 have hI' := hI.perm h2.symm
 refine (linesStock_any q c m' w h1 hI'.well.inPs (by have := hI'.well.few; omega)).mono ?_
 rintro e w' ⟨A, cap, he, hr, hf, hb⟩
 exact ⟨A, cap, by rw [he, h2.length_eq], by rw [← lines_permE hI' h2]; exact hr, hf, hb⟩
theorem row_ints (w : World) (l : List Int) : RowAt encInt 1 (w.alloc (.cells (l.map fun n => Value.int .i64 n).toArray 3)) (some ⟨w.heap.size, 0, none⟩) l :=
 .inr ⟨w.heap.size, 0, rfl, row_lt (heap_alloc_new _ _), fun i hi c v hv => by
  have hc : c = 0 := by
   have := (List.getElem?_eq_some_iff.1 hv).1
   simp [encInt] at this
   exact this
  subst hc
  rw [cell_of_row _ _ _ _ _ _ (heap_alloc_new _ _)]
  simp [encInt] at hv
  simp [hi, hv]⟩
theorem snap_cells (l a x y : List UInt8) : Lib.byteCells l ++ Lib.strCells ((((⟨a.toArray⟩ : ByteArray) ++ ⟨x.toArray⟩) ++ ⟨y.toArray⟩) ++ (⟨#[10]⟩ : ByteArray)) = Lib.byteCells (l ++ (a ++ x ++ y ++ [10])) := by
 rw [show (⟨#[10]⟩ : ByteArray) = ⟨[10].toArray⟩ from rfl, mk_app, mk_app, mk_app]
 simp [Lib.byteCells, Lib.strCells]
theorem snapG_len {B : BkV} (hI : BkI B) : ∀ x ∈ B.1, (snapG x).length ≤ 200 := fun x hx => by
 have h1 := goods_len hI x hx
 have hb := (hI.gok x hx)
 unfold snapG wordsT
 have hi : ∀ n : Int, -9223372036854775808 ≤ n → n ≤ 9223372036854775807 → (Lib.itoa n).length ≤ 21 := fun n a b => Lib.itoa_length_le n a b
 have hg := (goodsE_zeroS hb.1).2
 have ho := hb.2
 unfold OkS mostS at ho
 have a1 := hi x.1.2 (by omega) (by omega)
 have a2 := hi x.2.1 (by omega) (by omega)
 have a3 := hi x.2.2.1 (by omega) (by omega)
 have a4 := hi x.2.2.2.1 (by omega) (by omega)
 have a5 := hi x.2.2.2.2 (by omega) (by omega)
 simp
 omega
theorem lotE_zeroS {x : LotV} (h : lotE x = 0) : x.1.length ≤ 8 ∧ x.2.1.length ≤ 8 := by
 unfold lotE at h
 split at h
 ·cases h
 ·rename_i h1
  simp at h1
  have hl8 : ∀ l, nameB l = true → l.length ≤ 8 := fun l h => by
   unfold nameB at h
   simp at h
   exact h.1.2
  exact ⟨hl8 _ h1.1, hl8 _ h1.2⟩
theorem lotText_le (x : LotV) (h : lotE x = 0) : (lotText x).length ≤ 100 := by
 have h0 := h
 have hl := lotE_zeroS h
 unfold lotE at h
 split at h
 ·cases h
 split at h
 ·cases h
 rename_i h1 h2
 have a3 := Lib.itoa_length_le x.2.2.1 (by omega) (by omega)
 have a4 := Lib.itoa_length_le x.2.2.2 (by omega) (by omega)
 unfold lotText
 rw [if_pos h0]
 simp only [List.length_append, List.length_singleton]
 omega
theorem snapL_ok {B : BkV} (hI : BkI B) : ∀ x ∈ B.2.1, x.1.1.length ≤ 8 ∧ x.1.2.1.length ≤ 8 ∧ (lotText x.1).length ≤ 100 ∧ heldOf B x.1.1 = x.2 ∧ x.2 ≤ 1099511627776 ∧ (snapL x).length ≤ 200 := fun x hx => by
 obtain ⟨h1, h2, -⟩ := hI.lok x hx
 obtain ⟨a1, a2⟩ := lotE_zeroS h1
 have a3 := lotText_le x.1 h1
 have hh : heldOf B x.1.1 = x.2 := by unfold heldOf; rw [hI.fL_is hx]
 have hf : x.2 ≤ 1099511627776 := Nat.le_trans h2 (hI.stk.few x.1.1)
 refine ⟨a1, a2, a3, hh, hf, ?_⟩
 have a4 := Lib.itoa_length_le (x.2 : Int) (by omega) (by omega)
 unfold snapL wordsT
 simp
 omega
set_option maxHeartbeats 6400000 in
set_option maxRecDepth 100000 in
theorem snap_any (E : Nat → Addr) {p : Nat} {F : List Nat} {B : BkV} {w : World} (H : BookIs w p F B) (hI : BkI B) (hG : PlaceG E w) :
  Calls Tryz.prog 9 #[.pointer (some ⟨p, 0, none⟩)] w fun e w' => e = .returned (.string ⟨(snapT B).toArray⟩) ∧ Below w.heap.size w w' := by
 have HT := Lib.hid (fun W (hb : Below w.heap.size w W) => hG.below hb)
 have HBK := Lib.hid (fun W (hb : Below w.heap.size w W) => H.below hb)
 have HGO := Lib.hid (fun W (hb : Below w.heap.size w W) => goodsBk_any (H.below hb) hI)
 have HSU := Lib.hid (fun W (hb : Below w.heap.size w W) c => sumsBk_any (H.below hb) c)
 have HSA : Hid (∀ k (hk : k < B.1.length), sumsOf B B.1[k].1.1 = B.1[k].2) := fun k hk => by
  unfold sumsOf
  rw [hI.fG_is (List.getElem_mem hk)]
 have HGL := Lib.hid (snapG_len hI)
 have HOK := Lib.hid (fun x (hx : x ∈ B.1) => And.intro (goodsE_zeroS (hI.gok x hx).1).2 (hI.gok x hx).2)
 have hg30 := hI.gfew
 have hBw : ∀ W, Below w.heap.size w W → w.heap.size ≤ W.heap.size := fun W h => h.size
 obtain ⟨N1, hN1⟩ : ∃ N, N = B.1.length := ⟨_, rfl⟩
 have HN1 := Lib.hid hN1
 rw [← hN1] at HGO hg30
 have hl60 := hI.lfew
 obtain ⟨N2, hN2⟩ : ∃ N, N = B.2.1.length := ⟨_, rfl⟩
 have HN2 := Lib.hid hN2
 rw [← hN2] at hl60
 have b0 := below_one w (.cells #[.pointer none, .slice none 0 0] 75)
 have h0 := heap_alloc_new w (.cells #[.pointer none, .slice none 0 0] 75)
 have HI := Lib.hid hI
 clear H hI hG hN1 hBw hN2
 go_enter Tryz.func9, Tryz.ntmps9
 go_upto_region 4 with fail
 generalize w.alloc (.cells #[.pointer none, .slice none 0 0] 75) = w1 at b0 h0 ⊢
 have B0 := Lib.hid b0
 have hw1 : w.heap.size < w1.heap.size := row_lt h0
 obtain ⟨b, hb⟩ : ∃ b, b = w.heap.size := ⟨_, rfl⟩
 have HBE := Lib.hid hb
 rw [← hb] at h0 hw1 ⊢
 have H0 := Lib.hid h0
 clear hb h0 b0
 go_wp2_with fail
 refine (HGO.out w1 B0.out).mono ?_
 rintro e w2 ⟨A1, c1, rfl, hr1, hge1, b2⟩
 have HX2 : Hid (BldX w1.heap.size b none [] w2) := (BldX.fresh hw1 H0.out).keep b2
 have B2 := Lib.hid (B0.out.trans (b2.mono B0.out.size))
 have HR1 := Lib.hid hr1
 have HGE1 := Lib.hid hge1
 have hs12 := b2.size
 clear hr1 hge1 b2 HGO
 go_wp2_with fail
 go_loopw [16] (fun i wr => ∃ k : Nat, k ≤ N1 ∧ i = .int .i64 k ∧ Hid (BldS w1.heap.size b none w2 (Lib.byteCells (snapGs (B.1.take k))) wr)) (fun i _ => N1 - (intOf i).toNat)
 case atStart => exact ⟨0, by omega, rfl, BldS.start HX2.out⟩
 case round =>
  obtain ⟨k, hk, rfl, HBS⟩ := hrel
  obtain ⟨r, HXr, HCr, HUr⟩ : ∃ r, Hid (BldX w1.heap.size b r (Lib.byteCells (snapGs (B.1.take k))) wr) ∧ Hid (r = none ∨ ∀ k, r = some k → w2.heap.size ≤ k) ∧ Hid (ButX b none w2 wr) := HBS.out
  have hbw : Below w.heap.size w wr := B2.out.trans (HUr.out.below B2.out.size (by rw [HBE.out]; exact Nat.le_refl _) (fun k e => by cases e))
  have BW := Lib.hid hbw
  by_cases hkN : k < N1
  ·have hkx : k < B.1.length := by rw [← HN1.out]; exact hkN
   have hkm : k < (B.1.map (·.1)).length := by rw [List.length_map]; exact hkx
   obtain ⟨g, o, rfl, lg, cg⟩ := HR1.out.resolve_left (fun h => by rw [h] at hkm; simp at hkm)
   have hgb : g ≠ b := by have := HGE1.out _ rfl; simp at this; omega
   obtain ⟨x, hx⟩ : ∃ x, x = B.1[k] := ⟨_, rfl⟩
   have hcx := cg k hkm
   rw [List.getElem_map, ← hx] at hcx
   have hlies : Lies wr g (o + k * 2) (encGoods x.1) := fun j v hv => (World.cell?_of_block (a := ⟨g, o + k * 2 + j, none⟩) (HUr.out.block g lg hgb (by simp))).trans (hcx j v hv)
   have HL := Lib.hid hlies
   have hsa := HSA.out k hkx
   rw [← hx] at hsa
   have HSU1 := Lib.hid (fun W (hb : Below wr.heap.size wr W) => HSU.out W (hbw.trans (hb.mono hbw.size)) x.1.1)
   rw [hsa] at HSU1
   have hxm : x ∈ B.1 := by rw [hx]; exact List.getElem_mem hkx
   have hxl := HGL.out x hxm
   obtain ⟨hp1, hp2⟩ := HOK.out x hxm
   have HTK := Lib.hid (flat_take snapG B.1 k hkx)
   rw [← hx] at HTK
   have hpl : (snapGs (B.1.take k)).length ≤ 6000 := by
    have h1 := flat_len snapG 200 (B.1.take k) fun y hy => HGL.out y (List.mem_of_mem_take hy)
    have h2 : (B.1.take k).length ≤ B.1.length := List.length_take_le' _ _
    have h3 := HN1.out
    unfold snapGs
    omega
   clear hx hcx cg hlies hsa hxm hbw
   obtain ⟨⟨x1, x2⟩, y1, y2, y3, y4⟩ := x
   simp only [encGoods, encSums] at HL HSU1
   unfold OkS mostS at hp2
   simp only at hp1 hp2
   have hba := below_one wr (.cells #[.string ⟨#[]⟩, .int .i64 0] 37)
   have hk0 : (0 : Int) ≤ (k : Nat) := by omega
   have hk1 : ((k : Nat) : Int) < (N1 : Nat) := by omega
   have hrs := HXr.out.row
   have hbr : b < wr.heap.size := HXr.out.at_.lt
   have HRS : Hid (∀ q, r = some q → q < wr.heap.size) := fun q hq => (hrs q hq).2
   clear hrs
   go_upto_region 7 with (first | (refine wpList_load_at rfl 37 _ rfl g (o + k * 2) rfl [.string ⟨x1.toArray⟩, .int .i64 x2] HL.out _ Tryz.underlying37 rfl (by kernel_rfl) ?_) | (refine wpList_store_box rfl 37 _ _ rfl wr.heap.size [.string ⟨x1.toArray⟩, .int .i64 x2] rfl rfl _ [.string ⟨#[]⟩, .int .i64 0] (heap_alloc_new wr _) (by kernel_rfl) rfl (by simp [Value.oneCell']) ?_; intro w3 h3 tu3))
   have b3 := hba.trans (tu3.below (Nat.le_refl _))
   generalize hgbe : wr.heap.size = gb at h3 ⊢
   have HGBE := Lib.hid hgbe
   clear hgbe
   have e0 : w3.cell? ⟨gb, 0, none⟩ = some (.string ⟨x1.toArray⟩) := (cell_of_row _ _ _ _ _ _ h3).trans rfl
   have H3 := Lib.hid h3
   have B3 := Lib.hid b3
   clear h3 tu3 b3 hba HL lg
   go_wp2_with fail
   refine (HSU1.out w3 B3.out).mono ?_
   rintro e w4 ⟨rfl, b4⟩
   have B4 := Lib.hid (B3.out.trans (b4.mono B3.out.size))
   have H4 := Lib.hid ((b4.block gb (row_lt H3.out)).trans H3.out)
   have hba4 := below_one w4 (.cells #[.int .i64 0, .int .i64 0, .int .i64 0, .int .i64 0] 77)
   clear b4 e0 HSU1 H3 B3
   go_upto_region 8 with (refine wpList_store_box rfl 77 _ _ rfl w4.heap.size [.int .i64 y1, .int .i64 y2, .int .i64 y3, .int .i64 y4] rfl rfl _ [.int .i64 0, .int .i64 0, .int .i64 0, .int .i64 0] (heap_alloc_new w4 _) (by kernel_rfl) rfl (by simp [Value.oneCell']) ?_; intro w5 h5 tu5)
   have b5 := hba4.trans (tu5.below (Nat.le_refl _))
   have h4' := (b5.block gb (row_lt H4.out)).trans H4.out
   have B5 := Lib.hid (B4.out.trans (b5.mono B4.out.size))
   have hgb4 : gb < w4.heap.size := row_lt H4.out
   have hwr4 := B4.out.size
   have hg5 := row_lt h4'
   have hs5 := row_lt h5
   generalize w4.heap.size = sb at h5 hs5 hgb4 hwr4 ⊢
   have HCG : Hid (∀ W : World, W.heap[gb]? = w5.heap[gb]? → W.heap[sb]? = w5.heap[sb]? → W.cell? ⟨gb, 0, none⟩ = some (.string ⟨x1.toArray⟩) ∧ W.cell? ⟨gb, 1, none⟩ = some (.int .i64 x2) ∧ W.cell? ⟨sb, 0, none⟩ = some (.int .i64 y1) ∧ W.cell? ⟨sb, 1, none⟩ = some (.int .i64 y2) ∧ W.cell? ⟨sb, 2, none⟩ = some (.int .i64 y3) ∧ W.cell? ⟨sb, 3, none⟩ = some (.int .i64 y4)) := fun W q1 q2 =>
    ⟨(cell_of_row _ _ _ _ _ _ (q1.trans h4')).trans rfl, (cell_of_row _ _ _ _ _ _ (q1.trans h4')).trans rfl, (cell_of_row _ _ _ _ _ _ (q2.trans h5)).trans rfl, (cell_of_row _ _ _ _ _ _ (q2.trans h5)).trans rfl, (cell_of_row _ _ _ _ _ _ (q2.trans h5)).trans rfl, (cell_of_row _ _ _ _ _ _ (q2.trans h5)).trans rfl⟩
   have HS : Hid (∀ W, Below w5.heap.size w5 W → W.cell? ⟨gb, 0, none⟩ = some (.string ⟨x1.toArray⟩) ∧ W.cell? ⟨gb, 1, none⟩ = some (.int .i64 x2) ∧ W.cell? ⟨sb, 0, none⟩ = some (.int .i64 y1) ∧ W.cell? ⟨sb, 1, none⟩ = some (.int .i64 y2) ∧ W.cell? ⟨sb, 2, none⟩ = some (.int .i64 y3) ∧ W.cell? ⟨sb, 3, none⟩ = some (.int .i64 y4)) := fun W hb => HCG.out W (hb.block gb hg5) (hb.block sb hs5)
   have HSW : Hid (∀ W W', Below w5.heap.size w5 W → ButX b r W W' → W'.cell? ⟨gb, 0, none⟩ = some (.string ⟨x1.toArray⟩) ∧ W'.cell? ⟨gb, 1, none⟩ = some (.int .i64 x2) ∧ W'.cell? ⟨sb, 0, none⟩ = some (.int .i64 y1) ∧ W'.cell? ⟨sb, 1, none⟩ = some (.int .i64 y2) ∧ W'.cell? ⟨sb, 2, none⟩ = some (.int .i64 y3) ∧ W'.cell? ⟨sb, 3, none⟩ = some (.int .i64 y4)) := fun W W' hb hu =>
    HCG.out W' ((hu.block gb (Nat.lt_of_lt_of_le hg5 hb.size) (by have := HGBE.out; omega) (fun e => by have := HRS.out gb e; have := HGBE.out; omega)).trans (hb.block gb hg5)) ((hu.block sb (Nat.lt_of_lt_of_le hs5 hb.size) (by omega) (fun e => by have := HRS.out sb e; omega)).trans (hb.block sb hs5))
   have HWD : Hid (Calls Tryz.prog 28 #[.slice (some ⟨w5.heap.size, 0, none⟩) 5 5] (w5.alloc (.cells #[.int .i64 x2, .int .i64 y1, .int .i64 y2, .int .i64 y3, .int .i64 y4] 3)).drew fun e w' => e = .returned (.string ⟨(wordsT [x2, y1, y2, y3, y4]).toArray⟩) ∧ Below w5.heap.size w5 w') := by
    have hb2 : Below w5.heap.size w5 (w5.alloc (.cells #[.int .i64 x2, .int .i64 y1, .int .i64 y2, .int .i64 y3, .int .i64 y4] 3)).drew := (below_one w5 (.cells #[.int .i64 x2, .int .i64 y1, .int .i64 y2, .int .i64 y3, .int .i64 y4] 3)).drew
    have hrow : RowAt encInt 1 (w5.alloc (.cells #[.int .i64 x2, .int .i64 y1, .int .i64 y2, .int .i64 y3, .int .i64 y4] 3)).drew (some ⟨w5.heap.size, 0, none⟩) [x2, y1, y2, y3, y4] := row_ints w5 [x2, y1, y2, y3, y4]
    refine (snWords_any (some ⟨w5.heap.size, 0, none⟩) 5 [x2, y1, y2, y3, y4] _ hrow (by simp) (fun n hn => ?_) (HT.out _ ?_).tab).mono fun e w' h => ⟨h.1, hb2.trans (h.2.mono hb2.size)⟩
    ·simp only [List.mem_cons, List.not_mem_nil, or_false] at hn
     rcases hn with rfl | rfl | rfl | rfl | rfl <;> omega
    ·have h1 := BW.out.trans (B5.out.mono BW.out.size)
     exact h1.trans (hb2.mono h1.size)
   have HWX : Hid (∀ (W : World) (s : ByteArray), Below w5.heap.size w5 W → s.size ≤ 1000 → Calls Tryz.prog 27 #[.pointer (some ⟨b, 0, none⟩), .string s] W fun e w' => e = .returned (.tuple #[.int .i64 s.size, .nilIface]) ∧ (∃ r', BldX w1.heap.size b r' (Lib.byteCells (snapGs (B.1.take k)) ++ Lib.strCells s) w' ∧ (r' = r ∨ ∀ k, r' = some k → W.heap.size ≤ k)) ∧ ButX b r W w') := fun W s hb hs => by
    have hbr := B5.out.trans (hb.mono B5.out.size)
    refine writeString_x w1.heap.size b r _ s W (HXr.out.keep hbr) ?_ ?_
    ·simp only [Lib.byteCells, List.length_map]
     omega
    ·have := hbr.size
     have := HUr.out.size
     omega
   have hd0 : Below w5.heap.size w5 w5.drew := (Below.refl _ _).drew
   have hxl2 : x1.length + (wordsT [x2, y1, y2, y3, y4]).length ≤ 193 := by
    unfold snapG at hxl
    simp only [List.length_append, List.length_cons, List.length_nil] at hxl
    omega
   have HST : Hid (snapG ((x1, x2), y1, y2, y3, y4) = [103, 111, 111, 100, 115, 32] ++ x1 ++ wordsT [x2, y1, y2, y3, y4] ++ [10]) := rfl
   generalize wordsT [x2, y1, y2, y3, y4] = wt at HWD hxl2 HST
   have v1 : ¬ 9223372036854775807 < 6 + x1.length := by omega
   have v2 : ¬ 9223372036854775807 < 6 + x1.length + wt.length := by omega
   have v3 : ¬ 9223372036854775807 < 6 + x1.length + wt.length + 1 := by omega
   clear h4' h5 tu5 b5 hba4 HCG H4 B4 hxl
   go_wp2_with fail
   go_region_held3 (fun W => W.cell? ⟨gb, 0, none⟩ = some (.string ⟨x1.toArray⟩) ∧ W.cell? ⟨gb, 1, none⟩ = some (.int .i64 x2) ∧ W.cell? ⟨sb, 0, none⟩ = some (.int .i64 y1) ∧ W.cell? ⟨sb, 1, none⟩ = some (.int .i64 y2) ∧ W.cell? ⟨sb, 2, none⟩ = some (.int .i64 y3) ∧ W.cell? ⟨sb, 3, none⟩ = some (.int .i64 y4))
    (first | exact HSW.out _ _ bb hU | exact HS.out _ bb | exact HS.out _ (below_one _ _).drew | exact HS.out _ hd0 | go_keep)
    (first | (go_at_call 28; refine HWD.out.mono ?_; rintro e wv ⟨rfl, bb⟩) | (go_at_call 27; refine (HWX.out _ _ bb (by simp [ByteArray.size]; omega)).mono ?_; rintro e v ⟨rfl, hX, hU⟩))
   all_goals
    have hb1 : Below wr.heap.size wr wv := B5.out.trans (bb.mono B5.out.size)
    have u1 : ButX b none w2 wv := HUr.out.trans (ButX.of_below (r := none) hb1) (.inl rfl)
    have u2 : ButX b none w2 v := u1.trans hU HCr.out
    have HBN : Hid (BldS w1.heap.size b none w2 (Lib.byteCells (snapGs (B.1.take (k + 1)))) v) := by
     obtain ⟨r', hx', hc'⟩ := hX
     refine ⟨r', ?_, ?_, u2⟩
     ·have e : snapGs (B.1.take (k + 1)) = snapGs (B.1.take k) ++ ([103, 111, 111, 100, 115, 32] ++ x1 ++ wt ++ [10]) := by
       rw [← HST.out]
       exact HTK.out
      rw [e, ← snap_cells]
      exact hx'
     ·rcases hc' with e | e
      ·rw [e]
       exact HCr.out
      ·refine .inr fun q hq => ?_
       have h1 := e q hq
       have h2 := hb1.size
       have h3 := HUr.out.size
       omega
    clear hX hU u1 u2 hb1 bb HS HSW
    go_wp2_with fail
    go_roundw
    case rel => exact ⟨k + 1, by omega, by go_num, HBN.out⟩
    case measure => simp [intOf]; omega
  ·obtain rfl : k = N1 := by omega
   have hT : B.1.take k = B.1 := List.take_of_length_le (by rw [← HN1.out]; exact Nat.le_refl _)
   rw [hT] at HXr
   have HAL := Lib.hid (allBk_any (HBK.out wr BW.out) HI.out)
   rw [← HN2.out] at HAL
   have hwr := hbw.size
   have hrs := HXr.out.row
   have hbr : b < wr.heap.size := HXr.out.at_.lt
   have HRS : Hid (∀ q, r = some q → q < wr.heap.size) := fun q hq => (hrs q hq).2
   have hw2r := HUr.out.size
   clear hT hbw hkN HBS hrs
   go_wp2_with fail
   refine HAL.out.mono ?_
   rintro e w6 ⟨A2, c2, rfl, hr2, hge2, b6⟩
   have HX6 : Hid (BldX w1.heap.size b r (Lib.byteCells (snapGs B.1)) w6) := HXr.out.keep b6
   have BW6 := Lib.hid (BW.out.trans (b6.mono hwr))
   have HR2 := Lib.hid hr2
   have HGE2 := Lib.hid hge2
   have h6r := b6.size
   have HU1w : Hid (w1.heap.size ≤ w6.heap.size) := by
    have h1 := HUr.out.size
    have h2 := b6.size
    exact Nat.le_trans hs12 (Nat.le_trans h1 h2)
   clear hr2 hge2 b6 HAL
   obtain ⟨wq, hwq⟩ : ∃ wq : World, wq = wr := ⟨_, rfl⟩
   have HWQ : Hid (∀ a, A2 = some a → wr.heap.size ≤ a.block) := HGE2.out
   obtain ⟨nq, hnq⟩ : ∃ nq, nq = wr.heap.size := ⟨_, rfl⟩
   rw [← hnq] at HGE2 HRS h6r hbr hw2r
   have HW2L : Hid (∀ k, r = some k → w6.heap.size ≤ k ∨ k < nq) := fun k e => .inr (HRS.out k e)
   clear hwq wq HWQ
   go_wp2_with fail
   go_loopw [46] (fun i wr => ∃ k : Nat, k ≤ N2 ∧ i = .int .i64 k ∧ Hid (BldS w1.heap.size b r w6 (Lib.byteCells (snapGs B.1 ++ snapLs (B.2.1.take k))) wr)) (fun i _ => N2 - (intOf i).toNat)
   case atStart => exact ⟨0, by omega, rfl, by show BldS _ _ _ _ _ _; have := BldS.start HX6.out; simpa [snapLs] using this⟩
   case round =>
    obtain ⟨k, hk, rfl, HBS⟩ := hrel
    obtain ⟨r2, HX2r, HC2r, HU2r⟩ : ∃ r2, Hid (BldX w1.heap.size b r2 (Lib.byteCells (snapGs B.1 ++ snapLs (B.2.1.take k))) wr) ∧ Hid (r2 = r ∨ ∀ k, r2 = some k → w6.heap.size ≤ k) ∧ Hid (ButX b r w6 wr) := HBS.out
    have hr1w : ∀ q, r = some q → w.heap.size ≤ q := fun q hq => by
     have h1 := (HXr.out.row q hq).1
     have h2 := B0.out.size
     omega
    have hbw : Below w.heap.size w wr := BW6.out.trans (HU2r.out.below BW6.out.size (by rw [HBE.out]; exact Nat.le_refl _) hr1w)
    have BWZ := Lib.hid hbw
    by_cases hkN : k < N2
    ·have hkx : k < B.2.1.length := by rw [← HN2.out]; exact hkN
     have hkm : k < (B.2.1.map (·.1)).length := by rw [List.length_map]; exact hkx
     obtain ⟨g, o, rfl, lg, cg⟩ := HR2.out.resolve_left (fun h => by rw [h] at hkm; simp at hkm)
     have hgn : nq ≤ g := by have := HGE2.out _ rfl; simpa using this
     have hgb : g ≠ b := by omega
     have hgr : r ≠ some g := fun e => by have := HRS.out g e; omega
     obtain ⟨x, hx⟩ : ∃ x, x = B.2.1[k] := ⟨_, rfl⟩
     have hcx := cg k hkm
     rw [List.getElem_map, ← hx] at hcx
     have hlies : Lies wr g (o + k * 4) (encLot x.1) := fun j v hv => (World.cell?_of_block (a := ⟨g, o + k * 4 + j, none⟩) (HU2r.out.block g lg hgb hgr)).trans (hcx j v hv)
     have HL := Lib.hid hlies
     have hxm : x ∈ B.2.1 := by rw [hx]; exact List.getElem_mem hkx
     obtain ⟨hx1, hx2, hx3, hx4, hx5, hx6⟩ := snapL_ok HI.out x hxm
     have HTK := Lib.hid (flat_take snapL B.2.1 k hkx)
     rw [← hx] at HTK
     have hpl : (snapGs B.1 ++ snapLs (B.2.1.take k)).length ≤ 18000 := by
      have h1 := flat_len snapL 200 (B.2.1.take k) fun y hy => (snapL_ok HI.out y (List.mem_of_mem_take hy)).2.2.2.2.2
      have h2 : (B.2.1.take k).length ≤ B.2.1.length := List.length_take_le' _ _
      have h3 := HN2.out
      have h4 := flat_len snapG 200 B.1 fun y hy => HGL.out y hy
      have h5 := HN1.out
      rw [List.length_append]
      unfold snapGs snapLs
      omega
     have HTX := Lib.hid (fun W (hb : Below wr.heap.size wr W) => textLot_any E x.1 (by omega) (by omega) W ⟨(HT.out W (hbw.trans (hb.mono hbw.size))).name, (HT.out W (hbw.trans (hb.mono hbw.size))).bound, (HT.out W (hbw.trans (hb.mono hbw.size))).tab⟩)
     have HHD := Lib.hid (fun W (hb : Below wr.heap.size wr W) => heldBk_any (HBK.out W (hbw.trans (hb.mono hbw.size))) x.1.1)
     rw [hx4] at HHD
     clear hx hcx cg hlies hxm hbw hx4 hr1w
     obtain ⟨⟨a1, a2, a3, a4⟩, nh⟩ := x
     simp only [encLot] at HL HTX
     simp only at hx1 hx2 hx3 hx5 HHD
     have hba := below_one wr (.cells #[.string ⟨#[]⟩, .string ⟨#[]⟩, .int .i64 0, .int .i64 0] 39)
     have hk0 : (0 : Int) ≤ (k : Nat) := by omega
     have hk1 : ((k : Nat) : Int) < (N2 : Nat) := by omega
     have hbr2 : b < wr.heap.size := HX2r.out.at_.lt
     have hrs2 := HX2r.out.row
     have HRS2 : Hid (∀ q, r2 = some q → q < wr.heap.size) := fun q hq => (hrs2 q hq).2
     clear hrs2
     go_upto_region 13 with (first | (refine wpList_load_at rfl 39 _ rfl g (o + k * 4) rfl [.string ⟨a1.toArray⟩, .string ⟨a2.toArray⟩, .int .i64 a3, .int .i64 a4] HL.out _ Tryz.underlying39 rfl (by kernel_rfl) ?_) | (refine wpList_store_box rfl 39 _ _ rfl wr.heap.size [.string ⟨a1.toArray⟩, .string ⟨a2.toArray⟩, .int .i64 a3, .int .i64 a4] rfl rfl _ [.string ⟨#[]⟩, .string ⟨#[]⟩, .int .i64 0, .int .i64 0] (heap_alloc_new wr _) (by kernel_rfl) rfl (by simp [Value.oneCell']) ?_; intro w7 h7 tu7))
     have b7 := hba.trans (tu7.below (Nat.le_refl _))
     have hs7 := row_lt h7
     have h7s := tu7.below (Nat.le_refl _)
     generalize hlbe : wr.heap.size = lb at h7 hs7 ⊢
     have HLB := Lib.hid hlbe
     clear hlbe
     have HTX7 : Hid (∀ W, Below w7.heap.size w7 W → Calls Tryz.prog 30 #[.agg #[.string ⟨a1.toArray⟩, .string ⟨a2.toArray⟩, .int .i64 a3, .int .i64 a4]] W fun e w' => e = .returned (.string ⟨(lotText (a1, a2, a3, a4)).toArray⟩) ∧ Below w7.heap.size w7 w' ∧ Below W.heap.size W w') := fun W hb =>
      (HTX.out W (b7.trans (hb.mono b7.size))).mono fun e w' h => ⟨h.1, hb.trans (h.2.mono hb.size), h.2⟩
     have HHD7 : Hid (∀ W, Below w7.heap.size w7 W → Calls Tryz.prog 31 #[.pointer (some ⟨p, 0, none⟩), .string ⟨a1.toArray⟩] W fun e w' => e = .returned (.int .i64 (nh : Nat)) ∧ W = w') := fun W hb => HHD.out W (b7.trans (hb.mono b7.size))
     have HWD7 : Hid (∀ W W', Below w7.heap.size w7 W → Below (W.alloc (.cells #[.int .i64 (nh : Nat)] 3)).heap.size (W.alloc (.cells #[.int .i64 (nh : Nat)] 3)) W' → Calls Tryz.prog 28 #[.slice (some ⟨W.heap.size, 0, none⟩) 1 1] W' fun e w' => e = .returned (.string ⟨(wordsT [(nh : Int)]).toArray⟩) ∧ Below w7.heap.size w7 w') := fun W W' hb hbz => by
      have hb2 : Below W.heap.size W (W.alloc (.cells #[.int .i64 (nh : Nat)] 3)) := (below_one W (.cells #[.int .i64 (nh : Nat)] 3))
      have hrow : RowAt encInt 1 W' (some ⟨W.heap.size, 0, none⟩) [(nh : Int)] := RowAt.below (w := (W.alloc (.cells #[.int .i64 (nh : Nat)] 3))) (row_ints W [(nh : Int)]) hbz
      have hb4 := hb.trans (hb2.mono hb.size)
      have hb3 := hb4.trans (hbz.mono hb4.size)
      refine (snWords_any (some ⟨W.heap.size, 0, none⟩) 1 [(nh : Int)] _ hrow (by simp) (fun n hn => ?_) (HT.out _ ?_).tab).mono fun e w' h => ⟨h.1, hb3.trans (h.2.mono hb3.size)⟩
      ·simp only [List.mem_cons, List.not_mem_nil, or_false] at hn
       subst hn
       omega
      ·have h1 := BWZ.out.trans (b7.mono BWZ.out.size)
       exact h1.trans (hb3.mono h1.size)
     have HWX7 : Hid (∀ (W : World) (s : ByteArray), Below w7.heap.size w7 W → s.size ≤ 1000 → Calls Tryz.prog 27 #[.pointer (some ⟨b, 0, none⟩), .string s] W fun e w' => e = .returned (.tuple #[.int .i64 s.size, .nilIface]) ∧ (∃ r', BldX w1.heap.size b r' (Lib.byteCells (snapGs B.1 ++ snapLs (B.2.1.take k)) ++ Lib.strCells s) w' ∧ (r' = r2 ∨ ∀ k, r' = some k → W.heap.size ≤ k)) ∧ ButX b r2 W w' ∧ Below w7.heap.size w7 W) := fun W s hb hs => by
      have hbr := b7.trans (hb.mono b7.size)
      refine (writeString_x w1.heap.size b r2 _ s W (HX2r.out.keep hbr) ?_ ?_).mono fun e w' h => ⟨h.1, h.2.1, h.2.2, hb⟩
      ·simp only [Lib.byteCells, List.length_map]
       omega
      ·have := hbr.size
       have := HX2r.out.at_.lt
       have := HU2r.out.size
       have := HU1w.out
       omega
     have HCL : Hid (∀ W : World, W.heap[lb]? = w7.heap[lb]? → W.cell? ⟨lb, 0, none⟩ = some (.string ⟨a1.toArray⟩) ∧ W.cell? ⟨lb, 1, none⟩ = some (.string ⟨a2.toArray⟩) ∧ W.cell? ⟨lb, 2, none⟩ = some (.int .i64 a3) ∧ W.cell? ⟨lb, 3, none⟩ = some (.int .i64 a4)) := fun W q =>
      ⟨(cell_of_row _ _ _ _ _ _ (q.trans h7)).trans rfl, (cell_of_row _ _ _ _ _ _ (q.trans h7)).trans rfl, (cell_of_row _ _ _ _ _ _ (q.trans h7)).trans rfl, (cell_of_row _ _ _ _ _ _ (q.trans h7)).trans rfl⟩
     have HS : Hid (∀ W, Below w7.heap.size w7 W → W.cell? ⟨lb, 0, none⟩ = some (.string ⟨a1.toArray⟩) ∧ W.cell? ⟨lb, 1, none⟩ = some (.string ⟨a2.toArray⟩) ∧ W.cell? ⟨lb, 2, none⟩ = some (.int .i64 a3) ∧ W.cell? ⟨lb, 3, none⟩ = some (.int .i64 a4)) := fun W hb => HCL.out W (hb.block lb hs7)
     have HSW : Hid (∀ W W', Below w7.heap.size w7 W → ButX b r2 W W' → W'.cell? ⟨lb, 0, none⟩ = some (.string ⟨a1.toArray⟩) ∧ W'.cell? ⟨lb, 1, none⟩ = some (.string ⟨a2.toArray⟩) ∧ W'.cell? ⟨lb, 2, none⟩ = some (.int .i64 a3) ∧ W'.cell? ⟨lb, 3, none⟩ = some (.int .i64 a4)) := fun W W' hb hu =>
      HCL.out W' ((hu.block lb (Nat.lt_of_lt_of_le hs7 hb.size) (by have := HLB.out; omega) (fun e => by have := HRS2.out lb e; have := HLB.out; omega)).trans (hb.block lb hs7))
     have hd0 : Below w7.heap.size w7 w7.drew := (Below.refl _ _).drew
     have hd1 : Below w7.heap.size w7 w7 := Below.refl _ _
     have HST : Hid (snapL ((a1, a2, a3, a4), nh) = [108, 111, 116, 32] ++ lotText (a1, a2, a3, a4) ++ wordsT [(nh : Int)] ++ [10]) := rfl
     have hwl : (wordsT [(nh : Int)]).length ≤ 200 := by
      unfold snapL at hx6
      simp only [List.length_append] at hx6
      omega
     generalize wordsT [(nh : Int)] = wt at HWD7 hwl HST
     generalize lotText (a1, a2, a3, a4) = lt at HTX7 hx3 HST
     have v1 : ¬ 9223372036854775807 < 4 + lt.length := by omega
     have v2 : ¬ 9223372036854775807 < 4 + lt.length + wt.length := by omega
     have v3 : ¬ 9223372036854775807 < 4 + lt.length + wt.length + 1 := by omega
     have B7 := Lib.hid b7
     clear h7 tu7 b7 hba HCL h7s hx6 HL HTX HHD
     go_wp2_with fail
     go_region_held3 (fun W => W.cell? ⟨lb, 0, none⟩ = some (.string ⟨a1.toArray⟩) ∧ W.cell? ⟨lb, 1, none⟩ = some (.string ⟨a2.toArray⟩) ∧ W.cell? ⟨lb, 2, none⟩ = some (.int .i64 a3) ∧ W.cell? ⟨lb, 3, none⟩ = some (.int .i64 a4))
      (first | exact HSW.out _ _ bb hU | exact HS.out _ bwd | exact HS.out _ bt | exact HS.out _ hd0 | exact HS.out _ hd1 | exact HS.out _ (below_one _ _) | exact HS.out _ (below_one _ _).drew | exact HS.out _ (bt.trans ((below_one _ _).mono bt.size)) | exact HS.out _ (bt.trans ((below_one _ _).drew.mono bt.size)) | exact HS.out _ (hd0.trans ((below_one _ _).mono hd0.size)) | exact HS.out _ bt.drew | go_keep)
      (first | (go_at_call 30; refine (HTX7.out _ (by first | exact hd0 | exact hd1 | exact bwd | exact below_one _ _ | exact (below_one _ _).drew | exact hd0.trans ((below_one _ _).mono hd0.size))).mono ?_; rintro e wt1 ⟨rfl, bt, bt2⟩) | (go_at_call 31; refine (HHD7.out _ (by first | exact hd0 | exact hd1 | exact bt | exact bt.drew | exact below_one _ _ | exact (below_one _ _).drew)).mono ?_; rintro e wh ⟨rfl, rfl⟩) | (go_at_call 28; refine (HWD7.out _ _ (by first | exact bt | exact hd1 | exact hd0) (by first | exact Below.refl _ _ | exact (Below.refl _ _).drew | exact bt2 | exact (Below.refl _ _).drew.trans bt2)).mono ?_; rintro e wv ⟨rfl, bwd⟩) | (go_at_call 27; refine (HWX7.out _ _ (by first | exact bwd | exact bt) (by simp [ByteArray.size]; omega)).mono ?_; rintro e v ⟨rfl, hX, hU, bb⟩))
     all_goals
      have hb1 : Below wr.heap.size wr _ := B7.out.trans (bb.mono B7.out.size)
      have u1 := HU2r.out.trans (r' := none) (ButX.of_below hb1) (.inr fun k e => by cases e)
      have u2 : ButX b r w6 v := u1.trans hU HC2r.out
      have HBN : Hid (BldS w1.heap.size b r w6 (Lib.byteCells (snapGs B.1 ++ snapLs (B.2.1.take (k + 1)))) v) := by
       obtain ⟨r', hx', hc'⟩ := hX
       refine ⟨r', ?_, ?_, u2⟩
       ·have e : snapLs (B.2.1.take (k + 1)) = snapLs (B.2.1.take k) ++ ([108, 111, 116, 32] ++ lt ++ wt ++ [10]) := by
         rw [← HST.out]
         exact HTK.out
        rw [e, ← List.append_assoc (snapGs B.1), ← snap_cells]
        exact hx'
       ·rcases hc' with e | e
        ·rw [e]
         exact HC2r.out
        ·refine .inr fun q hq => ?_
         have h1 := e q hq
         have h2 := hb1.size
         have h3 := HU2r.out.size
         omega
      clear hX hU u1 u2 hb1 bb HS HSW
      go_wp2_with fail
      go_roundw
      case rel => exact ⟨k + 1, by omega, by go_num, HBN.out⟩
      case measure => simp [intOf]; omega
    ·obtain rfl : k = N2 := by omega
     have hT : B.2.1.take k = B.2.1 := List.take_of_length_le (by rw [← HN2.out]; exact Nat.le_refl _)
     rw [hT] at HX2r
     have HSTK := Lib.hid (stockBk_any (HBK.out wr BWZ.out))
     have HLN := Lib.hid (fun W q c (h : StkP W q c B.2.2) => linesStk_P HI.out.stk W h)
     have HWL := Lib.hid HI.out.stk.well.lines
     have hs200 := HI.out.stk.well.few
     have hn3 := linesM_len B.2.2
     obtain ⟨N3, hN3⟩ : ∃ N, N = B.2.2.length := ⟨_, rfl⟩
     rw [← hN3] at HLN hs200 hn3
     have HN3 := Lib.hid hn3
     have hpl : (snapGs B.1 ++ snapLs B.2.1).length ≤ 18000 := by
      have h1 := flat_len snapL 200 B.2.1 fun y hy => (snapL_ok HI.out y hy).2.2.2.2.2
      have h3 := HN2.out
      have h4 := flat_len snapG 200 B.1 fun y hy => HGL.out y hy
      have h5 := HN1.out
      rw [List.length_append]
      unfold snapGs snapLs
      omega
     have HSM : Hid (snapT B = (snapGs B.1 ++ snapLs B.2.1) ++ snapSs (linesM B.2.2)) := rfl
     have HRW := Lib.hid HX2r.out.row
     have hbr3 : b < wr.heap.size := HX2r.out.at_.lt
     clear hn3 hN3 hT hkN HBS hbw hr1w
     generalize snapGs B.1 ++ snapLs B.2.1 = pre at HX2r HSM hpl
     generalize linesM B.2.2 = L at HLN HWL HN3 HSM
     go_wp2_with fail
     refine HSTK.out.mono ?_
     rintro e w7 ⟨q7, c7, rfl, -, -, hs7, b7⟩
     have HS7 := Lib.hid hs7
     have B7 := Lib.hid b7
     clear hs7 b7 HSTK
     go_wp2_with fail
     refine (HLN.out w7 q7 c7 HS7.out).mono ?_
     rintro e w8 ⟨A3, c3, rfl, hr3, hge3, b8⟩
     have B78 := Lib.hid (B7.out.trans (b8.mono B7.out.size))
     have HX8 : Hid (BldX w1.heap.size b r2 (Lib.byteCells pre) w8) := HX2r.out.keep B78.out
     have BW8 := Lib.hid (BWZ.out.trans (B78.out.mono BWZ.out.size))
     have HR3 := Lib.hid hr3
     have HGE3 : Hid (∀ a, A3 = some a → wr.heap.size ≤ a.block) := fun a ha => Nat.le_trans B7.out.size (hge3 a ha)
     have HU1y : Hid (w1.heap.size ≤ w8.heap.size) := Nat.le_trans (Nat.le_trans HU1w.out HU2r.out.size) B78.out.size
     obtain ⟨nq3, hnq3⟩ : ∃ nq, nq = wr.heap.size := ⟨_, rfl⟩
     rw [← hnq3] at HGE3 HRW hbr3
     clear hr3 hge3 b8 hnq3 HLN
     go_wp2_with fail
     go_loopw [67] (fun i wr => ∃ k : Nat, k ≤ N3 ∧ i = .int .i64 k ∧ Hid (BldS w1.heap.size b r2 w8 (Lib.byteCells (pre ++ snapSs (L.take k))) wr)) (fun i _ => N3 - (intOf i).toNat)
     case atStart => exact ⟨0, by omega, rfl, by show BldS _ _ _ _ _ _; have := BldS.start HX8.out; simpa [snapSs] using this⟩
     case round =>
      obtain ⟨k, hk, rfl, HBS⟩ := hrel
      obtain ⟨r3, HX3r, HC3r, HU3r⟩ : ∃ r3, Hid (BldX w1.heap.size b r3 (Lib.byteCells (pre ++ snapSs (L.take k))) wr) ∧ Hid (r3 = r2 ∨ ∀ k, r3 = some k → w8.heap.size ≤ k) ∧ Hid (ButX b r2 w8 wr) := HBS.out
      have hr2w : ∀ q, r2 = some q → w.heap.size ≤ q := fun q hq => by
       have h1 := (HRW.out q hq).1
       have h2 := B0.out.size
       omega
      have hbw : Below w.heap.size w wr := BW8.out.trans (HU3r.out.below BW8.out.size (by rw [HBE.out]; exact Nat.le_refl _) hr2w)
      have BWY := Lib.hid hbw
      by_cases hkN : k < N3
      ·have hkx : k < L.length := by rw [HN3.out]; exact hkN
       obtain ⟨g, o, rfl, lg, cg⟩ := HR3.out.resolve_left (fun h => by rw [h] at hkx; simp at hkx)
       have hgn : nq3 ≤ g := by have := HGE3.out _ rfl; simpa using this
       have hgb : g ≠ b := by omega
       have hgr : r2 ≠ some g := fun e => by have := (HRW.out g e).2; omega
       obtain ⟨x, hx⟩ : ∃ x, x = L[k] := ⟨_, rfl⟩
       have hcx := cg k hkx
       rw [← hx] at hcx
       have hlies : Lies wr g (o + k * 5) (encLine x) := fun j v hv => (World.cell?_of_block (a := ⟨g, o + k * 5 + j, none⟩) (HU3r.out.block g lg hgb hgr)).trans (hcx j v hv)
       have HL := Lib.hid hlies
       have hwx : WellL x := by rw [hx]; exact HWL.out _ (List.getElem_mem hkx)
       have hx1 := lineText_len hwx
       have HTK := Lib.hid (flat_take snapS L k hkx)
       rw [← hx] at HTK
       have hpl3 : (pre ++ snapSs (L.take k)).length ≤ 60000 := by
        have h1 := flat_len snapS 104 (L.take k) fun y hy => by
         have h := lineText_len (HWL.out y (List.mem_of_mem_take hy))
         unfold snapS
         simp
         omega
        have h2 : (L.take k).length ≤ L.length := List.length_take_le' _ _
        have h3 := HN3.out
        rw [List.length_append]
        unfold snapSs
        omega
       have HTX := Lib.hid (fun W (hb : Below wr.heap.size wr W) => textLine_any E x W (HT.out W (hbw.trans (hb.mono hbw.size))) (by have := (nameB_len hwx.2.1).2; omega) (by have := hwx.2.2.1; omega) (by have := hwx.2.2.2; omega))
       clear hx hcx cg hlies hbw hwx hr2w
       have HST : Hid (snapS x = [97, 116, 32] ++ lineText x ++ [10]) := rfl
       generalize lineText x = lt at HTX HST hx1
       obtain ⟨⟨a1, a2, a3⟩, a4, a5⟩ := x
       simp only [encLine] at HL HTX
       have hba := below_one wr (.cells #[.string ⟨#[]⟩, .int .i64 0, .int .i64 0, .string ⟨#[]⟩, .int .i64 0] 90)
       have hk0 : (0 : Int) ≤ (k : Nat) := by omega
       have hk1 : ((k : Nat) : Int) < (N3 : Nat) := by omega
       have v1 : ¬ 9223372036854775807 < 3 + lt.length := by omega
       have v2 : ¬ 9223372036854775807 < 3 + lt.length + 1 := by omega
       go_upto_region 18 with (first | (refine wpList_load_at rfl 90 _ rfl g (o + k * 5) rfl [.string ⟨a1.toArray⟩, .int .i64 a2, .int .i64 a3, .string ⟨a4.toArray⟩, .int .i64 a5] HL.out _ Tryz.underlying90 rfl (by kernel_rfl) ?_) | (refine wpList_store_box rfl 90 _ _ rfl wr.heap.size [.string ⟨a1.toArray⟩, .int .i64 a2, .int .i64 a3, .string ⟨a4.toArray⟩, .int .i64 a5] rfl rfl _ [.string ⟨#[]⟩, .int .i64 0, .int .i64 0, .string ⟨#[]⟩, .int .i64 0] (heap_alloc_new wr _) (by kernel_rfl) rfl (by simp [Value.oneCell']) ?_; intro w9 h9 tu9))
       have b9 := hba.trans (tu9.below (Nat.le_refl _))
       generalize hlbe : wr.heap.size = lb at h9 ⊢
       have HLB := Lib.hid hlbe
       clear hlbe
       have e0 : w9.cell? ⟨lb, 0, none⟩ = some (.string ⟨a1.toArray⟩) := (cell_of_row _ _ _ _ _ _ h9).trans rfl
       have e1 : w9.cell? ⟨lb, 1, none⟩ = some (.int .i64 a2) := (cell_of_row _ _ _ _ _ _ h9).trans rfl
       have e2 : w9.cell? ⟨lb, 2, none⟩ = some (.int .i64 a3) := (cell_of_row _ _ _ _ _ _ h9).trans rfl
       have e3 : w9.cell? ⟨lb, 3, none⟩ = some (.string ⟨a4.toArray⟩) := (cell_of_row _ _ _ _ _ _ h9).trans rfl
       have e4 : w9.cell? ⟨lb, 4, none⟩ = some (.int .i64 a5) := (cell_of_row _ _ _ _ _ _ h9).trans rfl
       have B9 := Lib.hid b9
       clear h9 tu9 b9 hba HL lg
       go_wp2_with fail
       refine (HTX.out w9 B9.out).mono ?_
       rintro e w10 ⟨rfl, b10⟩
       have B10 := Lib.hid (B9.out.trans (b10.mono B9.out.size))
       clear b10 e0 e1 e2 e3 e4 HTX B9
       have HWX : Hid (∀ s : ByteArray, s.size ≤ 1000 → Calls Tryz.prog 27 #[.pointer (some ⟨b, 0, none⟩), .string s] w10 fun e w' => e = .returned (.tuple #[.int .i64 s.size, .nilIface]) ∧ (∃ r', BldX w1.heap.size b r' (Lib.byteCells (pre ++ snapSs (L.take k)) ++ Lib.strCells s) w' ∧ (r' = r3 ∨ ∀ k, r' = some k → w10.heap.size ≤ k)) ∧ ButX b r3 w10 w') := fun s hs => by
        refine writeString_x w1.heap.size b r3 _ s w10 (HX3r.out.keep B10.out) ?_ ?_
        ·simp only [Lib.byteCells, List.length_map]
         omega
        ·have := B10.out.size
         have := HU3r.out.size
         have := HU1y.out
         omega
       go_wp2_with fail
       refine (HWX.out _ (by simp [ByteArray.size]; omega)).mono ?_
       rintro e v ⟨rfl, hX, hU⟩
       have u1 := HU3r.out.trans (r' := none) (ButX.of_below B10.out) (.inr fun k e => by cases e)
       have u2 : ButX b r2 w8 v := u1.trans hU HC3r.out
       have HBN : Hid (BldS w1.heap.size b r2 w8 (Lib.byteCells (pre ++ snapSs (L.take (k + 1)))) v) := by
        obtain ⟨r', hx', hc'⟩ := hX
        refine ⟨r', ?_, ?_, u2⟩
        ·have e : snapSs (L.take (k + 1)) = snapSs (L.take k) ++ ([97, 116, 32] ++ lt ++ [10]) := by
          rw [← HST.out]
          exact HTK.out
         have e2 : Lib.byteCells (pre ++ snapSs (L.take (k + 1))) = Lib.byteCells (pre ++ snapSs (L.take k)) ++ Lib.strCells (((⟨[97, 116, 32].toArray⟩ : ByteArray) ++ ⟨lt.toArray⟩) ++ (⟨#[10]⟩ : ByteArray)) := by
          rw [e, show (⟨#[10]⟩ : ByteArray) = ⟨[10].toArray⟩ from rfl, mk_app, mk_app]
          simp [Lib.byteCells, Lib.strCells]
         rw [e2]
         exact hx'
        ·rcases hc' with e | e
         ·rw [e]
          exact HC3r.out
         ·refine .inr fun q hq => ?_
          have h1 := e q hq
          have h2 := B10.out.size
          have h3 := HU3r.out.size
          omega
       clear hX hU u1 u2 HWX
       go_wp2_with fail
       go_roundw
       case rel => exact ⟨k + 1, by omega, by go_num, HBN.out⟩
       case measure => simp [intOf]; omega
      ·obtain rfl : k = N3 := by omega
       have hT : L.take k = L := List.take_of_length_le (by rw [HN3.out]; exact Nat.le_refl _)
       rw [hT, ← HSM.out] at HX3r
       clear hbw hr2w hT HBS hkN
       obtain ⟨T, hT0⟩ : ∃ T, T = snapT B := ⟨_, rfl⟩
       rw [← hT0] at HX3r
       have HTB := Lib.hid hT0
       clear hT0
       have hbb : w.heap.size ≤ b := by rw [HBE.out]; exact Nat.le_refl _
       by_cases hT : T = []
       ·subst hT
        have hq : b ≤ wr.heap.size := Nat.le_of_lt HX3r.out.at_.lt
        go_wp2_with fail
        refine (Tryz.Builder_String_empty b b wr HX3r.out.at_.is hq).mono ?_
        rintro e w4 ⟨rfl, b4⟩
        go_wp2_with fail
        go_ret
        exact ⟨by rw [← HTB.out]; rfl, BWY.out.trans (b4.mono hbb)⟩
       ·go_wp2_with fail
        refine (Tryz.Builder_String b b T wr HX3r.out.at_.is hT).mono ?_
        rintro e w4 ⟨rfl, b4⟩
        go_wp2_with fail
        go_ret
        exact ⟨by rw [← HTB.out]; rfl, BWY.out.trans (b4.mono hbb)⟩
end Go.Proofs.YteaalifehokgoaaGreatDoor
