/- Counts: Diff. What walks over a book and its text lean on. -/
import Derived.Deep.CutBlock
import Derived.Deep.RegionHeld3
import Derived.Test.YtchiojiicehpeaaGreatDoorM09
import Derived.Test.YtchiojiicehpeaaGreatDoorM23
import Derived.Test.YtchiojiicehpeaaGreatDoorM24
import Derived.Test.YtchiojiicehpeaaGreatDoorM25
import Derived.Test.YtchiojiicehpeaaGreatDoorM27
namespace Go.Proofs.YtchiojiicehpeaaGreatDoor
open Go.RowKit Go.Sort Go.Proofs
theorem noLot_step (B : BkV) (l : List LineV) (k : Nat) (h : k < l.length) : noLot B (l.drop k) k = if (fL B l[k].2.1).isSome = true then noLot B (l.drop (k + 1)) (k + 1) else some (6, k) := by
 rw [List.drop_eq_getElem_cons h]
 rfl
theorem diffL_take (m : StkV) (l : List LineV) (k : Nat) (h : k < l.length) : diffL m (l.take (k + 1)) = diffL m (l.take k) ++ diffX m l[k] := by
 unfold diffL
 rw [List.take_succ_eq_append_getElem h, List.flatMap_append]
 simp
theorem diffX_len (m : StkV) (x : LineV) : (diffX m x).length ≤ 1 := by
 unfold diffX
 repeat' split
 all_goals simp
theorem diffL_len (m : StkV) (l : List LineV) : (diffL m l).length ≤ l.length := by
 induction l with
 |nil => simp [diffL]
 |cons x r ih =>
  have e : diffL m (x :: r) = diffX m x ++ diffL m r := rfl
  have := diffX_len m x
  rw [e, List.length_append, List.length_cons]
  omega
def diffN (B : BkV) (l : List LineV) (o : Option (Nat × Nat)) : List EntV ⊕ (Nat × Nat) := match o with | some e => .inr e | none => .inl (diffL B.2.2 l)
def DiffAt (E : Nat → Addr) (n : Nat) (r : List EntV ⊕ (Nat × Nat)) (e : Ending) (w' : World) : Prop :=
 match r with
 |.inr f => ∃ v, e = .returned (.tuple #[.slice none 0 0, v]) ∧ FltAt E (some f) v w'
 |.inl out => ∃ A cap, e = .returned (.tuple #[.slice A out.length cap, .nilIface]) ∧ RowAt encEnt 14 w' A out ∧ ∀ a, A = some a → n ≤ a.block
theorem entInfo : (Tryz.prog.info? 67).map (fun i => (i.zero, i.size, i.bytes)) = some (some (.agg #[.string ⟨#[]⟩, .string ⟨#[]⟩, .int .i64 0, .string ⟨#[]⟩, .string ⟨#[]⟩, .int .i64 0, .int .i64 0, .string ⟨#[]⟩, .int .i64 0, .int .i64 0, .string ⟨#[]⟩, .int .i64 0, .int .i64 0, .int .i64 0]), 14, 160) := by kernel_rfl
set_option maxHeartbeats 3200000 in
set_option maxRecDepth 100000 in
theorem cntDiff_any (E : Nat → Addr) {p : Nat} {F : List Nat} {B : BkV} (A : Option Addr) (cap : Nat) (l : List LineV) {w : World} (H : BookIs w p F B) (hI : BkI B) (hrow : RowAt encLine 5 w A l) (hl : l.length ≤ 100000) (hcap : l.length ≤ cap) (hG : BkG E w) :
  Calls Tryz.prog 56 #[.pointer (some ⟨p, 0, none⟩), .slice A l.length cap] w fun e w' => DiffAt E w.heap.size (diffB B l) e w' ∧ Below w.heap.size w w' := by
 obtain ⟨i0, hi, hz0, hz1, hz2⟩ := info_parts entInfo
 have HR := Lib.hid (fun W (h : Below w.heap.size w W) => hrow.below h)
 have HG := Lib.hid (fun W (h : Below w.heap.size w W) => hG.below h)
 have HBK := Lib.hid (fun W (h : Below w.heap.size w W) => H.below h)
 have HCK := Lib.hid (cntCheck_any E A cap l w hrow hl hcap hG)
 have HSN := Lib.hid (fun h => (sheet_none l [] h).1)
 have HNS := Lib.hid (noLot_step B l)
 have HDT := Lib.hid (diffL_take B.2.2 l)
 have HDL := Lib.hid (fun k => diffL_len B.2.2 (l.take k))
 have HAT := Lib.hid (fun pl lot q c W h => atStock_P (q := q) (c := c) hI.stk pl lot W h)
 have HAL := Lib.hid (fun pl lot => by have h1 := atM_le B.2.2 pl lot; have h2 := hI.stk.few lot; exact (show atM B.2.2 (pl, lot) ≤ 1099511627776 by omega))
 obtain ⟨r, hr⟩ : ∃ r, r = diffB B l := ⟨_, rfl⟩
 rw [← hr]
 unfold diffB at hr
 have HRR := Lib.hid hr
 obtain ⟨N, hN⟩ : ∃ N, N = l.length := ⟨_, rfl⟩
 have HN := Lib.hid hN
 rw [← hN] at HCK hl ⊢
 clear hr hrow hG hcap hN H hI
 go_enter Tryz.func56, Tryz.ntmps56
 go_wp2_with fail
 refine HCK.out.mono ?_
 rintro e w1 ⟨v, rfl, hv, b1⟩
 have B1 := Lib.hid b1
 clear b1 HCK
 cases hs : sheetF [] l with
 |some f =>
  obtain ⟨fk, fi⟩ := f
  have HT : Hid (r = .inr (fk, fi)) := HRR.out.trans (by simp only [hs])
  rw [hs] at hv
  have HV := Lib.hid hv
  obtain ⟨hk0, b, rfl, hb⟩ := hv
  clear hk0 hb hs HRR
  go_wp2_with fail
  go_ret2
  exact ⟨by rw [HT.out]; exact ⟨_, rfl, HV.out⟩, B1.out⟩
 |none =>
  have HT : Hid (r = diffN B l (noLot B l 0)) := HRR.out.trans (by simp only [hs]; rfl)
  have HWL := Lib.hid (HSN.out hs)
  rw [hs] at hv
  have hv' : v = .nilIface := hv
  subst hv'
  clear hv hs HRR HSN
  have HST := Lib.hid (stockBk_any (HBK.out _ B1.out))
  go_wp2_with fail
  refine HST.out.mono ?_
  rintro e w2 ⟨q, c, rfl, h1, h2, h3, b2⟩
  have HSK := Lib.hid (fun W (h : Below w2.heap.size w2 W) => h3.below h)
  have B2 := Lib.hid (B1.out.trans (b2.mono B1.out.size))
  clear h1 h2 h3 b2 HST B1
  go_wp2_with fail
  go_loopw [8, 27] (fun v i wr => ∃ k : Nat, k ≤ N ∧ i = .int .i64 k ∧ Hid (r = diffN B l (noLot B (l.drop k) k)) ∧ Hid (wr.ownsRow w2.heap.size 67 14 v (diffL B.2.2 (l.take k)).length (flatL encEnt (diffL B.2.2 (l.take k)))) ∧ Hid (Below w2.heap.size w2 wr)) (fun _ i _ => N - (intOf i).toNat)
  case atStart => exact ⟨0, by omega, rfl, HT.out, World.ownsRow_nil _ _ _ _, Below.refl _ _⟩
  case round =>
   obtain ⟨k, hk, rfl, HRK, HOWN, HB⟩ := hrel
   by_cases hkN : k < N
   ·have hkx : k < l.length := by rw [← HN.out]; exact hkN
    obtain ⟨g, o, rfl, lg, cg⟩ := HR.out w (Below.refl _ _) |>.resolve_left (fun h => by rw [h] at hkx; simp at hkx)
    obtain ⟨x, hx⟩ : ∃ x, x = l[k] := ⟨_, rfl⟩
    have HBW := Lib.hid (B2.out.trans (HB.out.mono B2.out.size))
    have hlies : Lies wr g (o + k * 5) (encLine x) := fun j v hv =>
     (HBW.out.cell (p := ⟨g, o + k * 5 + j, none⟩) lg).trans (cg k hkx j v (by rw [← hx]; exact hv))
    obtain ⟨-, -, hx0, hx1⟩ := HWL.out x (by rw [hx]; exact List.getElem_mem hkx)
    have hns := HNS.out k hkx
    have hdt := HDT.out k hkx
    rw [← hx] at hns hdt
    have HDT1 := Lib.hid hdt
    have HNS1 := Lib.hid hns
    have hdl : (diffL B.2.2 (l.take k)).length ≤ 100000 := by
     have h1 := HDL.out k
     have h2 : (l.take k).length ≤ l.length := List.length_take_le' _ _
     have h3 := HN.out
     omega
    have HL := Lib.hid hlies
    have HLT := Lib.hid (fun W h => lotBk_any (HBK.out W h) x.2.1)
    have HIS : Hid ((lotsF B x.2.1).isSome = (fL B x.2.1).isSome) := by
     show _ = _
     unfold lotsF
     rw [Option.isSome_map]
    have HA1 := Lib.hid (HAT.out x.1 x.2.1 q c)
    have hal := HAL.out x.1 x.2.1
    have HDX : Hid (diffX B.2.2 x = if x.2.2 - (atM B.2.2 (x.1, x.2.1) : Nat) > 0 then [(kMore, zeroGoods, (x.2.1, [], 0, 0), zeroPlace, x.1, x.2.2 - (atM B.2.2 (x.1, x.2.1) : Nat))]
     else if x.2.2 - (atM B.2.2 (x.1, x.2.1) : Nat) < 0 then [(kLess, zeroGoods, (x.2.1, [], 0, 0), x.1, zeroPlace, - (x.2.2 - (atM B.2.2 (x.1, x.2.1) : Nat)))] else []) := rfl
    have H51 := Lib.hid (show ∀ v ∈ encLine x, v.oneCell' = true from encLine_one x)
    clear hx cg hlies hns hdt
    rw [HIS.out] at HLT
    have hz4 : (encLot ((lotsF B x.2.1).getD zeroLot)).length = 4 := rfl
    have HZ1 := Lib.hid (encLot_one ((lotsF B x.2.1).getD zeroLot))
    generalize encLot ((lotsF B x.2.1).getD zeroLot) = LZ at HLT hz4 HZ1
    generalize (fL B x.2.1).isSome = is at HLT HNS1
    generalize atM B.2.2 (x.1, x.2.1) = am at HA1 hal HDX
    obtain ⟨⟨p1, p2, p3⟩, xl, xn⟩ := x
    simp only [encLine, encPlace] at HL HLT HA1 HDX H51 hx0 hx1
    have HE1 := Lib.hid (show ∀ v ∈ [Value.string ⟨#[]⟩, .string ⟨#[]⟩, .int .i64 0, .string ⟨xl.toArray⟩, .string ⟨#[]⟩, .int .i64 0, .int .i64 0, .string ⟨#[]⟩, .int .i64 0, .int .i64 0, .string ⟨#[]⟩, .int .i64 0, .int .i64 0, .int .i64 0], v.oneCell' = true from encEnt_one ([], zeroGoods, (xl, [], 0, 0), zeroPlace, zeroPlace, 0))
    have bx := below_one wr (.cells #[.string ⟨#[]⟩, .int .i64 0, .int .i64 0, .string ⟨#[]⟩, .int .i64 0] 60)
    go_upto_region 11 with (first | (refine wpList_load_at rfl 60 _ rfl g (o + k * 5) rfl [.string ⟨p1.toArray⟩, .int .i64 p2, .int .i64 p3, .string ⟨xl.toArray⟩, .int .i64 xn] HL.out _ Tryz.underlying60 rfl (by kernel_rfl) ?_) | (refine wpList_store_box rfl 60 _ _ rfl wr.heap.size [.string ⟨p1.toArray⟩, .int .i64 p2, .int .i64 p3, .string ⟨xl.toArray⟩, .int .i64 xn] rfl rfl _ [.string ⟨#[]⟩, .int .i64 0, .int .i64 0, .string ⟨#[]⟩, .int .i64 0] (heap_alloc_new wr _) (by kernel_rfl) rfl H51.out ?_; intro w4 h4 tu4))
    have bw4 := bx.trans (tu4.below (Nat.le_refl _))
    have B4 := Lib.hid (HB.out.trans (bw4.mono HB.out.size))
    have HO4 := Lib.hid (own_bl HOWN.out bw4)
    have z4 := row_lt h4
    have HOL := Lib.hid (fun g hg => (HOWN.out.lt g hg).2)
    obtain ⟨⟨e0, e1, e2, e3, e4⟩, -⟩ := row5f h4
    clear bx bw4 tu4 HL H51 HOWN HBW
    go_wp2_with fail
    refine (HLT.out w4 (B2.out.trans (B4.out.mono B2.out.size))).mono ?_
    rintro e w5 ⟨rfl, b5⟩
    have h5 := (b5.block _ z4).trans h4
    have B5 := Lib.hid (B4.out.trans (b5.mono B4.out.size))
    have HO5 := Lib.hid (own_bl HO4.out b5)
    have z5 := row_lt h5
    have by5 := below_one w5 (.cells #[.string ⟨#[]⟩, .string ⟨#[]⟩, .int .i64 0, .int .i64 0] 65)
    clear b5 h4 e0 e1 e2 e3 e4 B4 HO4 z4 HLT
    cases is with
    |false =>
     have HT2 : Hid (r = .inr (6, k)) := by
      show _ = _
      rw [HRK.out, HNS1.out]
      rfl
     go_upto_region 13 with (refine wpList_store_box rfl 65 _ _ rfl w5.heap.size LZ rfl rfl _ [.string ⟨#[]⟩, .string ⟨#[]⟩, .int .i64 0, .int .i64 0] (heap_alloc_new w5 _) (by rw [hz4]; kernel_rfl) (by rw [hz4]; rfl) HZ1.out ?_; intro w6 h6 tu6)
     have B6 := Lib.hid (B5.out.trans ((by5.trans (tu6.below (Nat.le_refl _))).mono B5.out.size))
     have her := (HG.out _ (B2.out.trans (B6.out.mono B2.out.size))).none
     unfold ErrAt at her
     clear h6 tu6 by5 h5
     go_region
     all_goals
      have hb := Lib.hid (heap_alloc_new w6 (.cells #[.int .i64 (k : Nat), .iface 373 (.pointer (some (E 6)))] 182))
      have bb := Lib.hid (below_one w6 (.cells #[.int .i64 (k : Nat), .iface 373 (.pointer (some (E 6)))] 182))
      clear her
      go_wp2_with fail
      go_ret2
      refine ⟨?_, (B2.out.trans ((B6.out.trans (bb.out.mono B6.out.size)).mono B2.out.size)).drew⟩
      rw [HT2.out]
      exact ⟨_, rfl, by decide, _, rfl, hb.out⟩
    |true =>
     have HRK2 : Hid (r = diffN B l (noLot B (l.drop (k + 1)) (k + 1))) := by
      show _ = _
      rw [HRK.out, HNS1.out]
      rfl
     obtain ⟨⟨e0, e1, e2, e3, e4⟩, -⟩ := row5f h5
     have e3' := (by5.cell (p := ⟨wr.heap.size, 3, none⟩) z5).trans e3
     go_upto_region 14 with (refine wpList_store_box rfl 65 _ _ rfl w5.heap.size LZ rfl rfl _ [.string ⟨#[]⟩, .string ⟨#[]⟩, .int .i64 0, .int .i64 0] (heap_alloc_new w5 _) (by rw [hz4]; kernel_rfl) (by rw [hz4]; rfl) HZ1.out ?_; intro w6 h6 tu6)
     have b56 := by5.trans (tu6.below (Nat.le_refl _))
     have h6' := (b56.block _ z5).trans h5
     have B6 := Lib.hid (B5.out.trans (b56.mono B5.out.size))
     have HO6 := Lib.hid (own_bl HO5.out b56)
     have z6 := row_lt h6'
     obtain ⟨⟨e0, e1, e2, e3, e4⟩, -⟩ := row5f h6'
     have by6 := below_one w6 (.cells #[.string ⟨#[]⟩, .string ⟨#[]⟩, .int .i64 0, .string ⟨#[]⟩, .string ⟨#[]⟩, .int .i64 0, .int .i64 0, .string ⟨#[]⟩, .int .i64 0, .int .i64 0, .string ⟨#[]⟩, .int .i64 0, .int .i64 0, .int .i64 0] 67)
     clear b56 tu6 h6 by5 h5 z5 B5 HO5 e3'
     go_upto_region 15 with (refine wpList_store_box rfl 67 _ _ rfl w6.heap.size [.string ⟨#[]⟩, .string ⟨#[]⟩, .int .i64 0, .string ⟨xl.toArray⟩, .string ⟨#[]⟩, .int .i64 0, .int .i64 0, .string ⟨#[]⟩, .int .i64 0, .int .i64 0, .string ⟨#[]⟩, .int .i64 0, .int .i64 0, .int .i64 0] rfl rfl _ [.string ⟨#[]⟩, .string ⟨#[]⟩, .int .i64 0, .string ⟨#[]⟩, .string ⟨#[]⟩, .int .i64 0, .int .i64 0, .string ⟨#[]⟩, .int .i64 0, .int .i64 0, .string ⟨#[]⟩, .int .i64 0, .int .i64 0, .int .i64 0] (heap_alloc_new w6 _) (by kernel_rfl) rfl HE1.out ?_; intro w7 h7 tu7)
     have b67 := by6.trans (tu7.below (Nat.le_refl _))
     have h7' := (b67.block _ z6).trans h6'
     have B7 := Lib.hid (B6.out.trans (b67.mono B6.out.size))
     have HO7 := Lib.hid (own_bl HO6.out b67)
     have HUP : Hid (∀ W : World, Below w7.heap.size w7 W → W.cell? ⟨wr.heap.size, 0, none⟩ = some (.string ⟨p1.toArray⟩) ∧ W.cell? ⟨wr.heap.size, 1, none⟩ = some (.int .i64 p2) ∧ W.cell? ⟨wr.heap.size, 2, none⟩ = some (.int .i64 p3) ∧ W.cell? ⟨wr.heap.size, 3, none⟩ = some (.string ⟨xl.toArray⟩) ∧ W.cell? ⟨wr.heap.size, 4, none⟩ = some (.int .i64 xn)) := fun W hb => (row5f ((hb.block _ (row_lt h7')).trans h7')).1
     have HSW := Lib.hid (HSK.out w7.drew B7.out.drew)
     have HXR := Lib.hid h7'
     have HER := Lib.hid h7
     have hd := (Below.refl w7.heap.size w7).drew
     have lz : wr.heap.size < w6.heap.size := z6
     have lz7 := row_lt h7
     obtain ⟨d, hd0⟩ : ∃ d, d = xn - ((am : Nat) : Int) := ⟨_, rfl⟩
     have hw : IntKind.i64.wrap (xn - ((am : Nat) : Int)) = d := by rw [hd0]; exact wrap_small (by omega) (by omega)
     have hdb : -1099511627776 ≤ d ∧ d ≤ 1099511627776 := by omega
     rw [← hd0] at HDX
     clear b67 tu7 h7 by6 h6' z6 B6 HO6 e0 e1 e2 e3 e4 h7' hd0
     go_wp2_with fail
     go_region_held3 (fun W => W.cell? ⟨wr.heap.size, 0, none⟩ = some (.string ⟨p1.toArray⟩) ∧ W.cell? ⟨wr.heap.size, 1, none⟩ = some (.int .i64 p2) ∧ W.cell? ⟨wr.heap.size, 2, none⟩ = some (.int .i64 p3) ∧ W.cell? ⟨wr.heap.size, 3, none⟩ = some (.string ⟨xl.toArray⟩) ∧ W.cell? ⟨wr.heap.size, 4, none⟩ = some (.int .i64 xn))
      (first | exact HUP.out _ hd | exact HUP.out _ kk | go_keep)
      (first | (go_at_call 25; refine (HA1.out _ HSW.out).mono ?_; rintro e v ⟨rfl, bb⟩; have kk := hd.trans (bb.mono hd.size)))
     all_goals
      have B8 := Lib.hid (B7.out.trans (kk.mono B7.out.size))
      have HO8 := Lib.hid (own_bl HO7.out kk)
      have hx8 := (kk.block _ (by omega)).trans HXR.out
      have he8 := (kk.block _ lz7).trans HER.out
      clear kk bb hd HUP HSW HXR HER HO7 B7
      obtain ⟨⟨e0, e1, e2, e3, e4⟩, -⟩ := row5f hx8
      rcases (show 0 < d ∨ d = 0 ∨ d < 0 by omega) with hp | h0 | hn
      ·have HDX1 := Lib.hid (HDX.out.trans (if_pos hp))
       have z0 := cell_of_row _ _ 0 _ _ _ he8
       have f0 := frozen_of_row v w6.heap.size 0 _ _ he8
       have z10 := cell_of_row _ _ 10 _ _ _ he8
       have f10 := frozen_of_row v w6.heap.size 10 _ _ he8
       have z11 := cell_of_row _ _ 11 _ _ _ he8
       have f11 := frozen_of_row v w6.heap.size 11 _ _ he8
       have z12 := cell_of_row _ _ 12 _ _ _ he8
       have f12 := frozen_of_row v w6.heap.size 12 _ _ he8
       have z13 := cell_of_row _ _ 13 _ _ _ he8
       have f13 := frozen_of_row v w6.heap.size 13 _ _ he8
       simp only [List.getElem?_toArray, List.getElem?_cons_succ, List.getElem?_cons_zero] at z0 z10 z11 z12 z13
       have hr9 : (sets v w6.heap.size [(0, .string ⟨#[109, 111, 114, 101]⟩), (10, .string ⟨p1.toArray⟩), (11, .int .i64 p2), (12, .int .i64 p3), (13, .int .i64 d)]).drew.heap[w6.heap.size]? = _ := sets_row [(0, .string ⟨#[109, 111, 114, 101]⟩), (10, .string ⟨p1.toArray⟩), (11, .int .i64 p2), (12, .int .i64 p3), (13, .int .i64 d)] he8
       have tu9 := (sets_turned (b := w6.heap.size) [(0, .string ⟨#[109, 111, 114, 101]⟩), (10, .string ⟨p1.toArray⟩), (11, .int .i64 p2), (12, .int .i64 p3), (13, .int .i64 d)] v).drew
       have HS1 := Lib.hid (show ∀ x ∈ [Value.string ⟨#[109, 111, 114, 101]⟩, .string ⟨#[]⟩, .int .i64 0, .string ⟨xl.toArray⟩, .string ⟨#[]⟩, .int .i64 0, .int .i64 0, .string ⟨#[]⟩, .int .i64 0, .int .i64 0, .string ⟨p1.toArray⟩, .int .i64 p2, .int .i64 p3, .int .i64 d], x.oneCell' = true from encEnt_one (kMore, zeroGoods, (xl, [], 0, 0), zeroPlace, (p1, p2, p3), d))
       clear HDX
       go_wp2_with fail
       go_region
       all_goals
        have hW : (((((v.setCell ⟨w6.heap.size, 0, none⟩ (.string ⟨#[109, 111, 114, 101]⟩)).setCell ⟨w6.heap.size, 10, none⟩ (.string ⟨p1.toArray⟩)).setCell ⟨w6.heap.size, 11, none⟩ (.int .i64 p2)).setCell ⟨w6.heap.size, 12, none⟩ (.int .i64 p3)).setCell ⟨w6.heap.size, 13, none⟩ (.int .i64 d)) = sets v w6.heap.size [(0, .string ⟨#[109, 111, 114, 101]⟩), (10, .string ⟨p1.toArray⟩), (11, .int .i64 p2), (12, .int .i64 p3), (13, .int .i64 d)] := rfl
        rw [hW]
        clear hW z0 z10 z11 z12 z13 f0 f10 f11 f12 f13 e0 e1 e2 e3 e4 hx8
        generalize (sets v w6.heap.size [(0, .string ⟨#[109, 111, 114, 101]⟩), (10, .string ⟨p1.toArray⟩), (11, .int .i64 p2), (12, .int .i64 p3), (13, .int .i64 d)]).drew = W9 at hr9 tu9 ⊢
        have h9 : W9.heap[w6.heap.size]? = some (.cells [Value.string ⟨#[109, 111, 114, 101]⟩, .string ⟨#[]⟩, .int .i64 0, .string ⟨xl.toArray⟩, .string ⟨#[]⟩, .int .i64 0, .int .i64 0, .string ⟨#[]⟩, .int .i64 0, .int .i64 0, .string ⟨p1.toArray⟩, .int .i64 p2, .int .i64 p3, .int .i64 d].toArray 67 (0, 0)) := hr9
        have B9 := Lib.hid (B8.out.trans (tu9.below (by have := HB.out.size; omega)))
        have HO9 := Lib.hid (own_kept HO8.out fun g hg => tu9.block g (by have := HOL.out g hg; omega))
        clear hr9 tu9 he8
        go_wp2_with (first | (refine wpList_load_at rfl 67 _ rfl w6.heap.size 0 rfl [Value.string ⟨#[109, 111, 114, 101]⟩, .string ⟨#[]⟩, .int .i64 0, .string ⟨xl.toArray⟩, .string ⟨#[]⟩, .int .i64 0, .int .i64 0, .string ⟨#[]⟩, .int .i64 0, .int .i64 0, .string ⟨p1.toArray⟩, .int .i64 p2, .int .i64 p3, .int .i64 d] (Lies.row _ h9) _ Tryz.underlying67 rfl (by kernel_rfl) ?_) | (at_builtin; refine wpList_append_rows _ rfl (.tmp 78) (.tmp 80) 22 rfl w2.heap.size 67 i0 _ 160 Tryz.underlying22 hi hz0 hz1 hz2 rfl encEnt_len (by decide) encEnt_one u8 (diffL B.2.2 (l.take k)).length (flatL encEnt (diffL B.2.2 (l.take k))) rfl (own_bl HO9.out (below_one _ _)) (some ⟨W9.heap.size, 0, none⟩) 1 [(kMore, zeroGoods, (xl, [], 0, 0), zeroPlace, (p1, p2, p3), d)] rfl (row_one (heap_alloc_new _ _)) (by simp; omega) (by decide) (by have := B9.out.size; simp; omega) ?_; intro v3 w3 HO3 hb3; have HB3 := Lib.hid hb3; clear hb3))
        go_roundw
        case rel =>
         refine ⟨k + 1, by omega, by go_num, HRK2.out, ?_, ((B9.out.trans ((below_one W9 _).mono B9.out.size)).trans HB3.out)⟩
         show World.ownsRow _ _ _ _ _ _ _
         rw [HDT1.out, HDX1.out, List.length_append, flatL_append]
         exact HO3.out
        case measure => simp [intOf]; omega
      ·have HDX1 := Lib.hid (HDX.out.trans ((if_neg (by omega)).trans (if_neg (by omega))))
       have hnp : ¬ 0 < d := by omega
       have hnn : ¬ d < 0 := by omega
       clear HDX
       go_wp2_with fail
       go_roundw
       case rel =>
        refine ⟨k + 1, by omega, by go_num, HRK2.out, ?_, B8.out⟩
        show World.ownsRow _ _ _ _ _ _ _
        rw [HDT1.out, HDX1.out, List.append_nil]
        exact HO8.out
       case measure => simp [intOf]; omega
      ·have HDX1 := Lib.hid (HDX.out.trans ((if_neg (by omega)).trans (if_pos hn)))
       have z0 := cell_of_row _ _ 0 _ _ _ he8
       have f0 := frozen_of_row v w6.heap.size 0 _ _ he8
       have z7 := cell_of_row _ _ 7 _ _ _ he8
       have f7 := frozen_of_row v w6.heap.size 7 _ _ he8
       have z8 := cell_of_row _ _ 8 _ _ _ he8
       have f8 := frozen_of_row v w6.heap.size 8 _ _ he8
       have z9 := cell_of_row _ _ 9 _ _ _ he8
       have f9 := frozen_of_row v w6.heap.size 9 _ _ he8
       have z13 := cell_of_row _ _ 13 _ _ _ he8
       have f13 := frozen_of_row v w6.heap.size 13 _ _ he8
       simp only [List.getElem?_toArray, List.getElem?_cons_succ, List.getElem?_cons_zero] at z0 z7 z8 z9 z13
       have hr9 : (sets v w6.heap.size [(0, .string ⟨#[108, 101, 115, 115]⟩), (7, .string ⟨p1.toArray⟩), (8, .int .i64 p2), (9, .int .i64 p3), (13, .int .i64 (-d))]).drew.heap[w6.heap.size]? = _ := sets_row [(0, .string ⟨#[108, 101, 115, 115]⟩), (7, .string ⟨p1.toArray⟩), (8, .int .i64 p2), (9, .int .i64 p3), (13, .int .i64 (-d))] he8
       have tu9 := (sets_turned (b := w6.heap.size) [(0, .string ⟨#[108, 101, 115, 115]⟩), (7, .string ⟨p1.toArray⟩), (8, .int .i64 p2), (9, .int .i64 p3), (13, .int .i64 (-d))] v).drew
       have HS1 := Lib.hid (show ∀ x ∈ [Value.string ⟨#[108, 101, 115, 115]⟩, .string ⟨#[]⟩, .int .i64 0, .string ⟨xl.toArray⟩, .string ⟨#[]⟩, .int .i64 0, .int .i64 0, .string ⟨p1.toArray⟩, .int .i64 p2, .int .i64 p3, .string ⟨#[]⟩, .int .i64 0, .int .i64 0, .int .i64 (-d)], x.oneCell' = true from encEnt_one (kLess, zeroGoods, (xl, [], 0, 0), (p1, p2, p3), zeroPlace, -d))
       clear HDX
       have hw2 : IntKind.i64.wrap (-d) = -d := wrap_small (by omega) (by omega)
       have hnp : ¬ 0 < d := by omega
       go_wp2_with fail
       go_region
       all_goals
        have hW : (((((v.setCell ⟨w6.heap.size, 0, none⟩ (.string ⟨#[108, 101, 115, 115]⟩)).setCell ⟨w6.heap.size, 7, none⟩ (.string ⟨p1.toArray⟩)).setCell ⟨w6.heap.size, 8, none⟩ (.int .i64 p2)).setCell ⟨w6.heap.size, 9, none⟩ (.int .i64 p3)).setCell ⟨w6.heap.size, 13, none⟩ (.int .i64 (-d))) = sets v w6.heap.size [(0, .string ⟨#[108, 101, 115, 115]⟩), (7, .string ⟨p1.toArray⟩), (8, .int .i64 p2), (9, .int .i64 p3), (13, .int .i64 (-d))] := rfl
        rw [hW]
        clear hW z0 z7 z8 z9 z13 f0 f7 f8 f9 f13 e0 e1 e2 e3 e4 hx8
        generalize (sets v w6.heap.size [(0, .string ⟨#[108, 101, 115, 115]⟩), (7, .string ⟨p1.toArray⟩), (8, .int .i64 p2), (9, .int .i64 p3), (13, .int .i64 (-d))]).drew = W9 at hr9 tu9 ⊢
        have h9 : W9.heap[w6.heap.size]? = some (.cells [Value.string ⟨#[108, 101, 115, 115]⟩, .string ⟨#[]⟩, .int .i64 0, .string ⟨xl.toArray⟩, .string ⟨#[]⟩, .int .i64 0, .int .i64 0, .string ⟨p1.toArray⟩, .int .i64 p2, .int .i64 p3, .string ⟨#[]⟩, .int .i64 0, .int .i64 0, .int .i64 (-d)].toArray 67 (0, 0)) := hr9
        have B9 := Lib.hid (B8.out.trans (tu9.below (by have := HB.out.size; omega)))
        have HO9 := Lib.hid (own_kept HO8.out fun g hg => tu9.block g (by have := HOL.out g hg; omega))
        clear hr9 tu9 he8
        go_wp2_with (first | (refine wpList_load_at rfl 67 _ rfl w6.heap.size 0 rfl [Value.string ⟨#[108, 101, 115, 115]⟩, .string ⟨#[]⟩, .int .i64 0, .string ⟨xl.toArray⟩, .string ⟨#[]⟩, .int .i64 0, .int .i64 0, .string ⟨p1.toArray⟩, .int .i64 p2, .int .i64 p3, .string ⟨#[]⟩, .int .i64 0, .int .i64 0, .int .i64 (-d)] (Lies.row _ h9) _ Tryz.underlying67 rfl (by kernel_rfl) ?_) | (at_builtin; refine wpList_append_rows _ rfl (.tmp 78) (.tmp 80) 22 rfl w2.heap.size 67 i0 _ 160 Tryz.underlying22 hi hz0 hz1 hz2 rfl encEnt_len (by decide) encEnt_one u8 (diffL B.2.2 (l.take k)).length (flatL encEnt (diffL B.2.2 (l.take k))) rfl (own_bl HO9.out (below_one _ _)) (some ⟨W9.heap.size, 0, none⟩) 1 [(kLess, zeroGoods, (xl, [], 0, 0), (p1, p2, p3), zeroPlace, -d)] rfl (row_one (heap_alloc_new _ _)) (by simp; omega) (by decide) (by have := B9.out.size; simp; omega) ?_; intro v3 w3 HO3 hb3; have HB3 := Lib.hid hb3; clear hb3))
        go_roundw
        case rel =>
         refine ⟨k + 1, by omega, by go_num, HRK2.out, ?_, ((B9.out.trans ((below_one W9 _).mono B9.out.size)).trans HB3.out)⟩
         show World.ownsRow _ _ _ _ _ _ _
         rw [HDT1.out, HDX1.out, List.length_append, flatL_append]
         exact HO3.out
        case measure => simp [intOf]; omega
   ·obtain rfl : k = N := by omega
    have hT : l.take k = l := List.take_of_length_le (by rw [← HN.out]; exact Nat.le_refl _)
    have HE : Hid (r = .inl (diffL B.2.2 l)) := HRK.out.trans (by rw [HN.out, List.drop_length]; rfl)
    rw [hT] at HOWN
    obtain ⟨A', c', rfl, hra, hge⟩ := RowAt.of_own encEnt_len HOWN.out
    have HRA := Lib.hid hra
    have HGE := Lib.hid hge
    clear hT hra hge HOWN
    go_wp2_with fail
    go_ret2
    refine ⟨?_, B2.out.trans (HB.out.mono B2.out.size)⟩
    rw [HE.out]
    exact ⟨A', c', rfl, HRA.out, fun a ha => by have := HGE.out a ha; have := B2.out.size; omega⟩
end Go.Proofs.YtchiojiicehpeaaGreatDoor
namespace Go.Proofs.YtchiojiicehpeaaGreatDoor
open Go.RowKit Go.Sort Go.Proofs
structure BkTxG (E : Nat → Addr) (w : World) : Prop where
 bk : BkG E w
 tab : TabG w
theorem BkTxG.below {E : Nat → Addr} {w w' : World} (h : BkTxG E w) (hb : Below w.heap.size w w') : BkTxG E w' := ⟨h.bk.below hb, h.tab.below hb⟩
theorem BkTxG.text {E : Nat → Addr} {w : World} (h : BkTxG E w) : PlaceG E w := ⟨h.bk.stk.place.name, h.bk.stk.place.bound, h.tab⟩
end Go.Proofs.YtchiojiicehpeaaGreatDoor
