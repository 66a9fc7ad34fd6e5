/- A map's keys, sorted: slices.Sorted of maps.Keys, at maps of goods and of lots. The program's book: Stock, Lot. The program's book: Sums, Held, Has. A stable sort, plainly: two runs merged by a symmetric search; blocks that double. No program in sight. slices.SortStableFunc at tithebarn/api.Lot: its parts, walked. slices.SortStableFunc at tithebarn/api.Lot: the rotation, walked. slices.SortStableFunc at tithebarn/api.Lot: two runs merged, walked. slices.SortStableFunc at tithebarn/api.Lot: one element put into the run ahead of it. slices.SortStableFunc at tithebarn/api.Lot: two runs merged by a symmetric search, walked. slices.SortStableFunc at tithebarn/api.Lot: walked whole. Lots: Sorted. The program's book: Goods. The program's book: Lots. -/
import Derived.Deep.CutBlock
import Derived.Shelf.SlSortCmp.KitK
import Derived.Deep.LoopGhost
import Derived.Sort.WalkB2
import Derived.Sort.WalkB12
import Derived.Test.YteaalifehokgoaaGreatDoorM01
import Derived.Test.YteaalifehokgoaaGreatDoorM07
import Derived.Test.YteaalifehokgoaaGreatDoorM11
import Derived.Test.YteaalifehokgoaaGreatDoorM14
import Derived.Test.YteaalifehokgoaaGreatDoorM18
import Derived.Test.YteaalifehokgoaaGreatDoorM19
import Derived.Test.YteaalifehokgoaaGreatDoorM20
import Derived.Test.YteaalifehokgoaaGreatDoorM21
import Derived.Test.YteaalifehokgoaaGreatDoorM26
import Derived.Test.YteaalifehokgoaaGreatDoorM36
import Derived.Test.YteaalifehokgoaaGreatDoorM38
namespace Go.Proofs.YteaalifehokgoaaGreatDoor
open Go.RowKit Go.Sort Go.Proofs Go.Maps Go.MapKept
theorem insert_perm {H : Type} (x : Lit × DataW H) : ∀ l : List (Lit × DataW H), (DataW.insert x l).Perm (x :: l)
 |[] => List.Perm.refl _
 |y :: r => by
  unfold DataW.insert
  split
  ·exact List.Perm.refl _
  ·exact ((insert_perm x r).cons y).trans (List.Perm.swap x y r)
theorem foldr_perm {H : Type} : ∀ l : List (Lit × DataW H), (l.foldr DataW.insert []).Perm l
 |[] => List.Perm.refl _
 |x :: r => (insert_perm x _).trans ((foldr_perm r).cons x)
theorem own_of_mapIs {ν : Type} {eV : ν → Value} {w : World} {b : Nat} {m : List (List UInt8 × ν)} (h : MapIs eStr eV w b m) (hk : ∀ p ∈ m, p.1.length ≤ 1000000) (hn : m.length ≤ 1000000) :
  ∃ D0 : DataW Unit, w.ownsMap Tryz.prog 9 (fun _ => some (DataW.nil, [])) b m.length D0 ∧ (strKeys D0).Perm (m.map (·.1)) ∧ Maps.size D0 = m.length := by
 obtain ⟨es, clock, h1, h2, h3⟩ := h
 obtain ⟨hl, hz⟩ := zipped h3
 have hkey : ∀ e ∈ es.toList, ∃ p ∈ m, e.key = eStr p.1 := fun e he => by
  obtain ⟨j, hj, rfl⟩ := List.mem_iff_getElem.1 he
  obtain ⟨p, hp, hq, -⟩ := hz j _ (List.getElem?_eq_getElem hj)
  exact ⟨p, List.mem_of_getElem? hp, hq⟩
 have hrd : ∀ e ∈ es.toList, ∀ p, p.1.length ≤ 1000000 → e.key = eStr p.1 → WideElems.rd (H := Unit) Tryz.prog 9 (fun _ => some (DataW.nil, [])) e = some (Lit.string (p : List UInt8 × ν).1, DataW.nil) := fun e _ p hp hq => by
  unfold WideElems.rd
  rw [hq]
  unfold eStr
  rw [WideMaps.keyOf_string_mk Tryz.underlying9 (by unfold maxLen; simp [ByteArray.size]; omega)]
  rfl
 refine ⟨.map ((es.toList.map (WideElems.rg Tryz.prog 9 (fun _ => some (DataW.nil, [])))).foldr DataW.insert []), ⟨es, clock, h1, ⟨?_, h2, fun e he => ?_⟩, ?_, rfl⟩, ?_, ?_⟩
 ·have : es.toList.length = es.size := by simp
  unfold maxLen
  omega
 ·obtain ⟨p, hp, hq⟩ := hkey e he
  exact ⟨_, hrd e he p (hk p hp) hq⟩
 ·have : es.toList.length = es.size := by simp
  omega
 ·unfold strKeys
  refine ((foldr_perm _).map _).trans (List.Perm.of_eq ?_)
  rw [List.map_map]
  refine List.ext_getElem (by simpa using hl) fun i q1 q2 => ?_
  have hi : i < es.toList.length := by simpa using q1
  obtain ⟨p, hp, hq, -⟩ := hz i _ (List.getElem?_eq_getElem hi)
  have hm := List.mem_of_getElem? hp
  rw [List.getElem_map, List.getElem_map]
  obtain ⟨hi', hp'⟩ := List.getElem?_eq_some_iff.1 hp
  rw [hp']
  simp only [Function.comp_apply]
  rw [WideElems.rg_of (hrd _ (List.getElem_mem hi) p (hk p hm) hq)]
  rfl
 ·show List.length _ = _
  rw [(foldr_perm _).length_eq, List.length_map]
  exact hl
theorem ltB_lt (a b : List UInt8) : ltB a b = decide (a < b) := bytesLess_eq a b
theorem leL_of_ltB {a b : List UInt8} (h : ltB a b = true) : decide (a ≤ b) = true := by
 have h1 := ltB_asym h
 rw [ltB_lt] at h1
 rw [decide_eq_true_eq, ← List.not_lt]
 simpa using h1
theorem sort_keys {ss ks : List (List UInt8)} (hp : ss.Perm ks) (hs : ks.Pairwise fun x y => ltB x y = true) : ss.mergeSort (fun x y => decide (x ≤ y)) = ks := by
 have hle : ∀ a b : List UInt8, decide (a ≤ b) = !ltB b a := fun a b => by
  rw [ltB_lt, Bool.eq_iff_iff]
  simp [← List.not_lt]
 refine List.Perm.eq_of_pairwise (le := fun x y => decide (x ≤ y) = true) (fun a b _ _ h1 h2 => ?_) ?_ (hs.imp leL_of_ltB) ((List.mergeSort_perm _ _).trans hp)
 ·rw [hle] at h1 h2
  cases hab : ltB a b with
  |true => rw [hab] at h2; cases h2
  |false =>
   by_cases e : a = b
   ·exact e
   ·have := ltB_total hab e
    rw [this] at h1
    cases h1
 ·refine List.pairwise_mergeSort (fun a b c h1 h2 => ?_) (fun a b => ?_) _
  ·rw [hle] at *
   cases hca : ltB c a with
   |false => rfl
   |true =>
    by_cases e : a = b
    ·subst e; rw [hca] at h2; cases h2
    ·have h3 := ltB_total (by simpa using h1) (fun e' => e e'.symm)
     rw [ltB_trans hca h3] at h2
     cases h2
  ·rw [hle, hle]
   cases hab : ltB a b with
   |false => simp
   |true => rw [ltB_asym hab]; rfl
section
variable {w : World} {b : Nat} {ks : List (List UInt8)}
theorem keysGoods_any {ν : Type} {eV : ν → Value} {m : List (List UInt8 × ν)} (h : MapIs eStr eV w b m) (hp : (m.map (·.1)).Perm ks) (hs : ks.Pairwise fun x y => ltB x y = true) (hk : ∀ k ∈ ks, k.length ≤ 1000000) (hn : ks.length ≤ 1000000) :
  Calls Tryz.prog 70 #[.func (.func 117) #[] #[.pointer (some ⟨w.heap.size, 0, none⟩)]] (w.alloc (.cells #[.map (some b)] 102)) fun e w' =>
   ∃ A cap, e = .returned (.slice A ks.length cap) ∧ StrsAt w' A ks ∧ Below (w.alloc (.cells #[.map (some b)] 102)).heap.size (w.alloc (.cells #[.map (some b)] 102)) w' := by
 have hl := hp.length_eq
 rw [List.length_map] at hl
 obtain ⟨D0, h1, h2, h3⟩ := own_of_mapIs h (fun p hq => hk p.1 (hp.mem_iff.1 (List.mem_map_of_mem hq))) (by omega)
 refine (callsIn_wide.1 (Tryz.slices_Sorted_keys_70_71 b m.length D0 _ w h1 (by rw [h3]; unfold maxLen; omega) (by rw [h3]; omega))).mono ?_
 rintro e w' ⟨v, ss, rfl, h4, h5, -, h6⟩
 have e1 := sort_keys ((h4.trans h2).trans hp) hs
 have e2 : ss.length = ks.length := ((h4.trans h2).trans hp).length_eq
 rw [e1, e2] at h5
 obtain ⟨A, cap, rfl, h7, -⟩ := StrsAt.of_own h5
 exact ⟨A, cap, rfl, h7, h6⟩
theorem keysLots_any {ν : Type} {eV : ν → Value} {m : List (List UInt8 × ν)} (h : MapIs eStr eV w b m) (hp : (m.map (·.1)).Perm ks) (hs : ks.Pairwise fun x y => ltB x y = true) (hk : ∀ k ∈ ks, k.length ≤ 1000000) (hn : ks.length ≤ 1000000) :
  Calls Tryz.prog 70 #[.func (.func 128) #[] #[.pointer (some ⟨w.heap.size, 0, none⟩)]] (w.alloc (.cells #[.map (some b)] 103)) fun e w' =>
   ∃ A cap, e = .returned (.slice A ks.length cap) ∧ StrsAt w' A ks ∧ Below (w.alloc (.cells #[.map (some b)] 103)).heap.size (w.alloc (.cells #[.map (some b)] 103)) w' := by
 have hl := hp.length_eq
 rw [List.length_map] at hl
 obtain ⟨D0, h1, h2, h3⟩ := own_of_mapIs h (fun p hq => hk p.1 (hp.mem_iff.1 (List.mem_map_of_mem hq))) (by omega)
 refine (callsIn_wide.1 (Tryz.slices_Sorted_keys_70_78 b m.length D0 _ w h1 (by rw [h3]; unfold maxLen; omega) (by rw [h3]; omega))).mono ?_
 rintro e w' ⟨v, ss, rfl, h4, h5, -, h6⟩
 have e1 := sort_keys ((h4.trans h2).trans hp) hs
 have e2 : ss.length = ks.length := ((h4.trans h2).trans hp).length_eq
 rw [e1, e2] at h5
 obtain ⟨A, cap, rfl, h7, -⟩ := StrsAt.of_own h5
 exact ⟨A, cap, rfl, h7, h6⟩
end
theorem mkGoods_any (mb : Option Nat) (W : World) : Calls Tryz.prog 71 #[.map mb] W fun e w' => e = .returned (.func (.func 117) #[] #[.pointer (some ⟨W.heap.size, 0, none⟩)]) ∧ w' = W.alloc (.cells #[.map mb] 102) :=
 callsIn_wide.1 (Tryz.maps_Keys_71 mb W)
theorem mkLots_any (mb : Option Nat) (W : World) : Calls Tryz.prog 78 #[.map mb] W fun e w' => e = .returned (.func (.func 128) #[] #[.pointer (some ⟨W.heap.size, 0, none⟩)]) ∧ w' = W.alloc (.cells #[.map mb] 103) :=
 callsIn_wide.1 (Tryz.maps_Keys_78 mb W)
end Go.Proofs.YteaalifehokgoaaGreatDoor
namespace Go.Proofs.YteaalifehokgoaaGreatDoor
open Go.RowKit Go.Sort Go.Proofs
set_option maxHeartbeats 400000 in
theorem stockBk_any {p : Nat} {F : List Nat} {B : BkV} {w : World} (H : BookIs w p F B) :
  Calls Tryz.prog 32 #[.pointer (some ⟨p, 0, none⟩)] w fun e w' => ∃ q c, e = .returned (.pointer (some ⟨q, 0, none⟩)) ∧ w.heap.size ≤ q ∧ w.heap.size ≤ c ∧ StkP w' q c B.2.2 ∧ Below w.heap.size w w' := by
 obtain ⟨g, l, h, s, q, c, -, -, hm⟩ := H
 obtain ⟨⟨-, -, -, -, c4⟩, -⟩ := hm.cells
 have HQ := Lib.hid (copyStock_P (w := w) hm.stk)
 clear hm
 go_enter Tryz.func32, Tryz.ntmps32
 go_wp2_with fail
 refine HQ.out.mono ?_
 rintro e w1 ⟨q', c', rfl, h1, h2, h3, h4⟩
 have H3 := Lib.hid h3
 have H4 := Lib.hid h4
 clear h3 h4 HQ
 go_wp2_with fail
 go_ret
 exact ⟨q', c', rfl, h1, h2, H3.out, H4.out⟩
end Go.Proofs.YteaalifehokgoaaGreatDoor
namespace Go.Proofs.YteaalifehokgoaaGreatDoor
open Go.RowKit Go.Sort Go.Proofs
set_option maxHeartbeats 400000 in
set_option maxRecDepth 100000 in
theorem heldBk_any {p : Nat} {F : List Nat} {B : BkV} {w : World} (H : BookIs w p F B) (id : List UInt8) :
  Calls Tryz.prog 31 #[.pointer (some ⟨p, 0, none⟩), .string ⟨id.toArray⟩] w fun e w' => e = .returned (.int .i64 (heldOf B id : Nat)) ∧ w = w' := by
 obtain ⟨g, l, h, s, q, c, -, -, hm⟩ := H
 obtain ⟨⟨-, -, c2, -, -⟩, -⟩ := hm.cells
 have hl := hm.held.look (P := Tryz.prog) (t := 104) (kt := 9) (by kernel_rfl) Tryz.underlying104 (zeroIntE _) id false
 rw [heldF_get] at hl
 clear hm
 generalize heldOf B id = z at hl ⊢
 simp only [eNat, Bool.false_eq_true, if_false] at hl
 go_enter Tryz.func31, Tryz.ntmps31
 go_wp2_with fail
 go_ret
 exact ⟨rfl, rfl⟩
set_option maxHeartbeats 400000 in
set_option maxRecDepth 100000 in
theorem sumsBk_any {p : Nat} {F : List Nat} {B : BkV} {w : World} (H : BookIs w p F B) (code : List UInt8) :
  Calls Tryz.prog 26 #[.pointer (some ⟨p, 0, none⟩), .string ⟨code.toArray⟩] w fun e w' => e = .returned (.agg (encSums (sumsOf B code)).toArray) ∧ Below w.heap.size w w' := by
 obtain ⟨g, l, h, s, q, c, -, -, hm⟩ := H
 obtain ⟨⟨-, -, -, c3, -⟩, -⟩ := hm.cells
 have b0 := below_one w (.cells #[.int .i64 0, .int .i64 0, .int .i64 0, .int .i64 0] 77)
 have c3' := (b0.cell (p := ⟨p, 3, none⟩) (lt_of_cell c3)).trans c3
 have hr := heap_alloc_new w (.cells #[.int .i64 0, .int .i64 0, .int .i64 0, .int .i64 0] 77)
 have hl := (hm.sums.below b0).look (P := Tryz.prog) (t := 93) (kt := 9) (by kernel_rfl) Tryz.underlying93 (zeroSumsV _) code false
 rw [sumsF_get] at hl
 have B0 := Lib.hid b0
 clear hm b0 c3
 generalize sumsOf B code = z at hl ⊢
 simp only [eSums, Bool.false_eq_true, if_false] at hl
 have hz4 : (encSums z).length = 4 := rfl
 have HZ1 := Lib.hid (encSums_one z)
 generalize encSums z = LZ at *
 go_enter Tryz.func26, Tryz.ntmps26
 go_upto_region 1 with fail
 generalize w.alloc (.cells #[.int .i64 0, .int .i64 0, .int .i64 0, .int .i64 0] 77) = W0 at c3' hr hl B0 ⊢
 go_wp2_with (refine wpList_store_box rfl 77 (.tmp 4) _ rfl w.heap.size LZ rfl rfl _ [.int .i64 0, .int .i64 0, .int .i64 0, .int .i64 0] hr (by rw [hz4]; kernel_rfl) (by rw [hz4]; rfl) HZ1.out ?_; intro w1 h1 tu1)
 refine bodyPost_ret (results_cell_row rfl _ _ w.heap.size 77 LZ.toArray (0, 0) _ rfl h1 Tryz.underlying77 rfl (by rw [List.size_toArray, hz4]; kernel_rfl)) rfl ?_
 exact ⟨rfl, B0.out.trans (tu1.below (Nat.le_refl _))⟩
def hasM (m : StkV) (c : List UInt8) (l : List (List UInt8 × LotV)) : Nat := (l.map fun x => if x.2.2.1 = c then ofM m x.1 else 0).sum
theorem hasM_mid (m : StkV) (c : List UInt8) (l1 l2 : List (List UInt8 × LotV)) (x : List UInt8 × LotV) : hasM m c (l1 ++ x :: l2) = (if x.2.2.1 = c then ofM m x.1 else 0) + hasM m c (l1 ++ l2) := by
 unfold hasM
 simp only [List.map_append, List.map_cons, List.sum_append, List.sum_cons]
 omega
theorem hasM_perm {m : StkV} {c : List UInt8} {l l' : List (List UInt8 × LotV)} (h : l.Perm l') : hasM m c l = hasM m c l' := by
 unfold hasM
 induction h with
 |nil => rfl
 |cons x _ ih => simp only [List.map_cons, List.sum_cons, ih]
 |swap x y l => simp only [List.map_cons, List.sum_cons]; omega
 |trans _ _ ih1 ih2 => exact ih1.trans ih2
theorem hasM_lots (m : StkV) (c : List UInt8) : ∀ l : List LoH, hasM m c (l.map fun y => (y.1.1, y.1)) = ((l.filter fun x => decide (x.1.2.1 = c)).map fun x => ofM m x.1.1).sum
 |[] => rfl
 |y :: r => by
  have ih := hasM_lots m c r
  unfold hasM at *
  by_cases h : y.1.2.1 = c
  ·rw [List.filter_cons_of_pos (by simpa using h)]
   simp only [List.map_cons, List.sum_cons, ih, if_pos h]
  ·rw [List.filter_cons_of_neg (by simpa using h)]
   simp only [List.map_cons, List.sum_cons, ih, if_neg h, Nat.zero_add]
theorem keys_lots {B : BkV} (hI : BkI B) : ((B.2.1.map fun y : LoH => (y.1.1, y.1)).map (·.1)).Nodup := by
 rw [List.map_map]
 refine (List.pairwise_map.2 (hI.ls.imp fun h => ?_))
 exact ltB_ne h
theorem lots_perm {B : BkV} (hI : BkI B) {m : List (List UInt8 × LotV)} (hn : (m.map (·.1)).Nodup) (hg : ∀ k, mget m k = lotsF B k) : m.Perm (B.2.1.map fun y : LoH => (y.1.1, y.1)) :=
 perm_mget hn (keys_lots hI) fun k => by
  rw [hg, mget_find]
  rfl
set_option maxHeartbeats 800000 in
set_option maxRecDepth 100000 in
theorem hasBk_any {p : Nat} {F : List Nat} {B : BkV} {w : World} (H : BookIs w p F B) (hI : BkI B) (code : List UInt8) (hh : hasOf B code ≤ 4611686018427387904) :
  Calls Tryz.prog 65 #[.pointer (some ⟨p, 0, none⟩), .string ⟨code.toArray⟩] w fun e w' => e = .returned (.int .i64 (hasOf B code : Nat)) ∧ Below w.heap.size w w' := by
 obtain ⟨g, l, h, s, q, c, -, -, hm⟩ := H
 obtain ⟨⟨-, c1, -, -, -⟩, -⟩ := hm.cells
 have hcell := Lib.hid (fun W (h : Below w.heap.size w W) => ((BookM.below hm h).cells).1)
 have HOF := Lib.hid (fun id W (h : Below w.heap.size w W) => ofStock_P hI.stk id W (hm.stk.below h))
 obtain ⟨m, hM, hget⟩ := hm.lots
 obtain ⟨T, hT⟩ : ∃ T, T = hasOf B code := ⟨_, rfl⟩
 have HT : Hid (hasM B.2.2 code m = T) := by
  show _ = _
  rw [hasM_perm (lots_perm hI hM.nodup hget), hasM_lots, hT]
  rfl
 rw [← hT] at hh ⊢
 clear hT hm hget hI
 generalize B.2.2 = stk at HT HOF
 go_enter Tryz.func65, Tryz.ntmps65
 go_wp2_with (first | (at_range; refine wpList_range_map _ rfl _ 103 rfl _ _ Tryz.underlying103 l m rfl hM ?_; intro w0 hrg0 hb0 hs0) | go_in)
 go_frame
 go_loopw [5] (fun n wr => ∃ (left : List (List UInt8 × LotV)) (a : Nat), Ranging eStr eLot wr l w.heap.size m left ∧ n = .int .i64 (a : Nat) ∧ Hid (a + hasM stk code left = T) ∧ Below w.heap.size w wr) (fun _ wr => wr.rangeLeft l w.heap.size)
 case atStart => exact ⟨m, 0, hrg0, rfl, (Nat.zero_add _).trans HT.out, hb0⟩
 case round =>
  obtain ⟨left, a, hrg, rfl, HA, hb⟩ := hrel
  have HB := Lib.hid hb
  have hal : a ≤ T := by have := HA.out; omega
  clear hb
  go_wp2_with (first | (at_next; refine wpList_next_map _ rfl _ rfl l w.heap.size m left rfl hrg ?_ ?_) | go_in)
  ·intro hl0
   have hfin := Lib.hid (show a = T by have := HA.out; rw [hl0] at this; exact this)
   clear hl0
   go_wp2
   go_ret
   rw [hfin.out]
   exact ⟨rfl, HB.out⟩
  ·intro l1 id x1 x2 x3 x4 l2 w1 hl hrg1 ht1 hen
   have HL := Lib.hid hl
   have HS := Lib.hid (hasM_mid stk code l1 l2 (id, (x1, x2, x3, x4)))
   have hb1 := HB.out.trans (ht1.below (Nat.le_refl _))
   have hlen := Lib.hid (show (l1 ++ l2).length < left.length by rw [hl]; simp)
   have HRG := Lib.hid hrg
   simp only [eStr, eLot, encLot] at hen
   have hb2 := hb1.alloc hb1.size (.cells #[.string ⟨x1.toArray⟩, .string ⟨x2.toArray⟩, .int .i64 x3, .int .i64 x4] 39)
   obtain ⟨-, -, -, -, c4⟩ := hcell.out _ hb2
   have B2 := Lib.hid hb2
   have hrg2 := Lib.hid (hrg1.below (below_one _ (.cells #[.string ⟨x1.toArray⟩, .string ⟨x2.toArray⟩, .int .i64 x3, .int .i64 x4] 39)))
   clear hl ht1 hrg hb1 hb2 hrg1
   by_cases hk : x2 = code
   ·have hkb : (x2 == code) = true := by simpa using hk
    have hsum : a + ofM stk id + hasM stk code (l1 ++ l2) = T := by
     have h1 := HA.out
     have h2 := HS.out
     rw [← HL.out, if_pos hk] at h2
     simp only at h2
     omega
    have HO := Lib.hid (HOF.out id _ B2.out)
    obtain ⟨v, hv⟩ : ∃ v, v = ofM stk id := ⟨_, rfl⟩
    rw [← hv] at hsum HO
    have hle : a + v ≤ T := by omega
    have HSM := Lib.hid hsum
    clear hsum hk hv
    go_wp2_with fail
    refine HO.out.mono ?_
    rintro e w2 ⟨rfl, b2⟩
    have hrg3 := hrg2.out.below b2
    have B3 := Lib.hid (B2.out.trans (b2.mono B2.out.size))
    clear b2
    go_wp2_with fail
    go_roundw
    case rel => exact ⟨l1 ++ l2, a + v, hrg3, by go_num, HSM.out, B3.out⟩
    case measure => rw [hrg3.left_eq, HRG.out.left_eq]; exact hlen.out
   ·have hkb : (x2 == code) = false := by simpa using hk
    have hsum : a + hasM stk code (l1 ++ l2) = T := by
     have h1 := HA.out
     have h2 := HS.out
     rw [← HL.out, if_neg hk] at h2
     omega
    have HSM := Lib.hid hsum
    clear hsum hk
    go_wp2_with fail
    go_roundw
    case rel => exact ⟨l1 ++ l2, a, hrg2.out, rfl, HSM.out, B2.out⟩
    case measure => rw [hrg2.out.left_eq, HRG.out.left_eq]; exact hlen.out
end Go.Proofs.YteaalifehokgoaaGreatDoor
namespace Go.Proofs.YteaalifehokgoaaGreatDoor.Stab
open Go.Sort
section
variable {α : Type} {lt : α → α → Bool}
def blk (lt : α → α → Bool) (n : Nat) : Nat → List α → List α
 |0, l => srt lt l
 |f + 1, l => if l.length ≤ n then srt lt l else srt lt (l.take n) ++ blk lt n f (l.drop n)
end
section
variable {α : Type}
end
end Go.Proofs.YteaalifehokgoaaGreatDoor.Stab
namespace Go.Proofs.YteaalifehokgoaaGreatDoor.StabLot
open Go.Sort Go.RowKit Go.Lib Go.Proofs Go.Proofs.YteaalifehokgoaaGreatDoor.Stab
variable {α : Type} [Inhabited α]
end Go.Proofs.YteaalifehokgoaaGreatDoor.StabLot
namespace Go.Proofs.YteaalifehokgoaaGreatDoor.StabLot
open Go.Sort Go.RowKit Go.Lib Go.Proofs Go.Proofs.YteaalifehokgoaaGreatDoor.Stab
variable {α : Type} [Inhabited α]
end Go.Proofs.YteaalifehokgoaaGreatDoor.StabLot
namespace Go.Proofs.YteaalifehokgoaaGreatDoor.StabLot
open Go.Sort Go.RowKit Go.Lib Go.Proofs Go.Proofs.YteaalifehokgoaaGreatDoor.Stab
variable {α : Type} [Inhabited α]
end Go.Proofs.YteaalifehokgoaaGreatDoor.StabLot
namespace Go.Proofs.YteaalifehokgoaaGreatDoor.StabLot
open Go.Sort Go.RowKit Go.Lib Go.Proofs Go.Proofs.YteaalifehokgoaaGreatDoor.Stab
variable {α : Type} [Inhabited α]
end Go.Proofs.YteaalifehokgoaaGreatDoor.StabLot
namespace Go.Proofs.YteaalifehokgoaaGreatDoor.StabLot
open Go.Sort Go.RowKit Go.Lib Go.Proofs Go.Proofs.YteaalifehokgoaaGreatDoor.Stab
variable {α : Type} [Inhabited α]
end Go.Proofs.YteaalifehokgoaaGreatDoor.StabLot
namespace Go.Proofs.YteaalifehokgoaaGreatDoor.StabLot
open Go.Sort Go.RowKit Go.Lib Go.Proofs Go.Proofs.YteaalifehokgoaaGreatDoor.Stab
variable {α : Type} [Inhabited α]
end Go.Proofs.YteaalifehokgoaaGreatDoor.StabLot
namespace Go.Proofs.YteaalifehokgoaaGreatDoor
open Go.RowKit Go.Sort Go.Proofs
theorem lotInfo : (Tryz.prog.info? 39).map (fun i => (i.zero, i.size, i.bytes)) = some (some (.agg #[.string ⟨#[]⟩, .string ⟨#[]⟩, .int .i64 0, .int .i64 0]), 4, 48) := by kernel_rfl
end Go.Proofs.YteaalifehokgoaaGreatDoor
namespace Go.Proofs.YteaalifehokgoaaGreatDoor
open Go.RowKit Go.Sort Go.Proofs
theorem goods1Info : (Tryz.prog.info? 37).map (fun i => (i.zero, i.size, i.bytes)) = some (some (.agg #[.string ⟨#[]⟩, .int .i64 0]), 2, 24) := by kernel_rfl
theorem encGoods_len (x : GoodsV) : (encGoods x).length = 2 := rfl
theorem encGoods_one (x : GoodsV) : ∀ v ∈ encGoods x, v.oneCell' = true := fun v hv => by
 simp [encGoods] at hv
 rcases hv with rfl | rfl <;> rfl
theorem keys_goods {B : BkV} (hI : BkI B) : ((B.1.map fun y : GoS => (y.1.1, y.1)).map (·.1)).Nodup := by
 rw [List.map_map]
 refine (List.pairwise_map.2 (hI.gs.imp fun h => ?_))
 exact ltB_ne h
theorem goods_perm {B : BkV} (hI : BkI B) {m : List (List UInt8 × GoodsV)} (hn : (m.map (·.1)).Nodup) (hg : ∀ k, mget m k = goodsF B k) : m.Perm (B.1.map fun y : GoS => (y.1.1, y.1)) :=
 perm_mget hn (keys_goods hI) fun k => by
  rw [hg, mget_find]
  rfl
theorem goods_len {B : BkV} (hI : BkI B) : ∀ x ∈ B.1, x.1.1.length ≤ 8 := fun x hx => by
 have h := (hI.gok x hx).1
 unfold goodsE at h
 split at h
 ·cases h
 ·rename_i h2
  exact (nameB_len (by simpa using h2)).2
set_option maxHeartbeats 1600000 in
set_option maxRecDepth 100000 in
theorem goodsBk_any {p : Nat} {F : List Nat} {B : BkV} {w : World} (H : BookIs w p F B) (hI : BkI B) :
  Calls Tryz.prog 22 #[.pointer (some ⟨p, 0, none⟩)] w fun e w' => ∃ A cap, e = .returned (.slice A B.1.length cap) ∧ RowAt encGoods 2 w' A (B.1.map (·.1)) ∧ (∀ a, A = some a → w.heap.size ≤ a.block) ∧ Below w.heap.size w w' := by
 obtain ⟨i0, hi, hz0, hz1, hz2⟩ := info_parts goods1Info
 obtain ⟨g, l, h, s, q, c, -, -, hm⟩ := H
 obtain ⟨⟨c0, -, -, -, -⟩, -⟩ := hm.cells
 have HC := Lib.hid (fun W (h : Below w.heap.size w W) => ((BookM.below hm h).cells).1.1)
 have HM := Lib.hid (fun W (h : Below w.heap.size w W) k => (hm.goods.below h).look (P := Tryz.prog) (t := 102) (kt := 9) (by kernel_rfl) Tryz.underlying102 (zeroGoodsE _) k false)
 obtain ⟨m, hM, hget⟩ := hm.goods
 obtain ⟨G, hG⟩ : ∃ G, G = B.1.map (·.1) := ⟨_, rfl⟩
 obtain ⟨ks, hks⟩ : ∃ ks, ks = B.1.map fun x : GoS => x.1.1 := ⟨_, rfl⟩
 have hl : ks.length = G.length := by rw [hks, hG]; simp
 have HG : Hid (∀ i (h : i < G.length) (h' : i < ks.length), goodsF B ks[i] = some G[i]) := fun i h h' => by
  have hi : i < B.1.length := by rw [hG] at h; simpa using h
  have e1 : ks[i] = B.1[i].1.1 := by simp [hks]
  have e2 : G[i] = B.1[i].1 := by simp [hG]
  rw [e1, e2]
  unfold goodsF
  rw [hI.fG_is (List.getElem_mem hi)]
  rfl
 have hp : (m.map (·.1)).Perm ks := by
  have := (goods_perm hI hM.nodup hget).map (·.1)
  rw [hks]
  rw [List.map_map] at this
  exact this
 have hsrt : ks.Pairwise fun x y => ltB x y = true := by rw [hks, List.pairwise_map]; exact hI.gs
 have hfew : ks.length ≤ 30 := by rw [hks, List.length_map]; exact hI.gfew
 have HK := Lib.hid (keysGoods_any hM hp hsrt (fun k hk => by rw [hks] at hk; obtain ⟨x, hx, rfl⟩ := List.mem_map.1 hk; have := goods_len hI x hx; omega) (by omega))
 have hlen : B.1.length = ks.length := by rw [hks]; simp
 rw [hlen]
 rw [← hG]
 obtain ⟨N, hN⟩ : ∃ N, N = ks.length := ⟨_, rfl⟩
 have HN := Lib.hid hN
 have HL : Hid (N = G.length) := hN.trans hl
 rw [← hN] at HK hfew ⊢
 have B0 := Lib.hid (below_one w (.cells #[.map (some g)] 102))
 clear hm hget hp hsrt hlen hl hN hks hG hI hM
 go_enter Tryz.func22, Tryz.ntmps22
 go_wp2_with fail
 refine (mkGoods_any _ _).mono ?_
 rintro e w1 ⟨rfl, rfl⟩
 clear c0
 go_wp2_with fail
 refine HK.out.mono ?_
 rintro e w2 ⟨A, cap, rfl, hst, b2⟩
 have B2 := Lib.hid (B0.out.trans (b2.mono B0.out.size))
 have HST := Lib.hid (fun W (h : Below w2.heap.size w2 W) => hst.below h)
 clear hst b2 HK B0
 go_wp2_with fail
 go_loopw [3, 13] (fun v i wr => ∃ k : Nat, k ≤ N ∧ i = .int .i64 k ∧ Hid (wr.ownsRow w2.heap.size 37 2 v k (flatL encGoods (G.take k))) ∧ Hid (Below w2.heap.size w2 wr)) (fun _ i _ => N - (intOf i).toNat)
 case atStart => exact ⟨0, by omega, rfl, World.ownsRow_nil _ _ _ _, Below.refl _ _⟩
 case round =>
  obtain ⟨k, hk, rfl, HOWN, HB⟩ := hrel
  by_cases hkN : k < N
  ·have hkx : k < ks.length := by rw [← HN.out]; exact hkN
   have hkG : k < G.length := by rw [← HL.out]; exact hkN
   have hbw := B2.out.trans (HB.out.mono B2.out.size)
   obtain ⟨bk, o, rfl, lg, cg⟩ := HST.out wr HB.out |>.resolve_left (fun h => by rw [h] at hkx; simp at hkx)
   have ck := cg k hkx
   have hlook := HM.out wr hbw ks[k]
   have c0 := HC.out wr hbw
   rw [HG.out k hkG hkx] at hlook
   have HNX : Hid (flatL encGoods (G.take (k + 1)) = flatL encGoods (G.take k) ++ flatL encGoods [G[k]]) := by
    show _ = _
    rw [List.take_succ_eq_append_getElem hkG, flatL_append]
   obtain ⟨⟨x1, x2⟩, hx⟩ : ∃ x, x = G[k] := ⟨_, rfl⟩
   rw [← hx] at hlook HNX
   simp only [Option.getD_some, eGoods, encGoods, Bool.false_eq_true, if_false] at hlook
   have hsz := HB.out.size
   generalize ks[k] = kk at ck hlook
   clear hx hbw cg
   go_wp2_with (at_builtin; refine wpList_append_rows _ rfl (.tmp 17) (.tmp 24) 62 rfl w2.heap.size 37 i0 _ 24 Tryz.underlying62 hi hz0 hz1 hz2 rfl encGoods_len (by decide) encGoods_one u3 k (flatL encGoods (G.take k)) rfl (own_bl HOWN.out (below_one _ _)) (some ⟨wr.heap.size, 0, none⟩) 1 [(x1, x2)] rfl (row_one (heap_alloc_new _ _)) (by simp; omega) (by decide) (by simp; omega) ?_; intro v3 w3 HO3 hb3; have HB3 := Lib.hid hb3; clear hb3)
   go_roundw
   case rel =>
    refine ⟨k + 1, by omega, by go_num, ?_, (HB.out.trans ((below_one wr _).mono HB.out.size)).trans HB3.out⟩
    show World.ownsRow _ _ _ _ _ _ _
    rw [HNX.out]
    exact HO3.out
   case measure => simp [intOf]; omega
  ·obtain rfl : k = N := by omega
   have hT : G.take k = G := List.take_of_length_le (by rw [← HL.out]; exact Nat.le_refl _)
   have ho := HOWN.out
   rw [hT] at ho
   have hkG := HL.out
   rw [hkG] at ho
   obtain ⟨A', c', rfl, hra, hge⟩ := RowAt.of_own encGoods_len ho
   have HRA := Lib.hid hra
   have HGE := Lib.hid hge
   have HKG := Lib.hid hkG
   clear hT hra hge HOWN ho hkG
   go_wp2_with fail
   go_ret
   refine ⟨A', c', by rw [← HKG.out]; rfl, HRA.out, fun a ha => by have := HGE.out a ha; have := B2.out.size; omega, B2.out.trans (HB.out.mono B2.out.size)⟩
end Go.Proofs.YteaalifehokgoaaGreatDoor
namespace Go.Proofs.YteaalifehokgoaaGreatDoor
open Go.RowKit Go.Sort Go.Proofs
theorem lots_len {B : BkV} (hI : BkI B) : ∀ x ∈ B.2.1, x.1.1.length ≤ 8 := fun x hx => by
 have h := (hI.lok x hx).1
 unfold lotE at h
 split at h
 ·cases h
 ·rename_i h2
  cases hn : nameB x.1.1 with
  |true => exact (nameB_len hn).2
  |false => exact absurd (by simp [hn]) h2
end Go.Proofs.YteaalifehokgoaaGreatDoor
