/- The program's book: Do. The document's book in memory: rows that it owns, and stores into them. -/
import Derived.Test.YteaalifehokgoaaGreatDoorM11
import Derived.Test.YteaalifehokgoaaGreatDoorM19
import Derived.Test.YteaalifehokgoaaGreatDoorM20
import Derived.Test.YteaalifehokgoaaGreatDoorM22
import Derived.Test.YteaalifehokgoaaGreatDoorM23
import Derived.Test.YteaalifehokgoaaGreatDoorM24
namespace Go.Proofs.YteaalifehokgoaaGreatDoor
open Go.RowKit Go.Sort Go.Proofs
theorem fL_count {B : BkV} (hI : BkI B) : ∀ m : List (List UInt8 × LotV), (m.map (·.1)).Nodup → (∀ k, mget m k = lotsF B k) → m.length = B.2.1.length := fun m h1 h2 => by
 have := map_count h1 h2 (fun y : LoH => y.1.1) (fun y : LoH => y.1) hI.ls fun k => rfl
 simpa using this.length_eq
theorem fG_count {B : BkV} (hI : BkI B) : ∀ m : List (List UInt8 × GoodsV), (m.map (·.1)).Nodup → (∀ k, mget m k = goodsF B k) → m.length = B.1.length := fun m h1 h2 => by
 have := map_count h1 h2 (fun y : GoS => y.1.1) (fun y : GoS => y.1) hI.gs fun k => rfl
 simpa using this.length_eq
theorem ent_goodsB {w : World} {b : Nat} {x : EntV} (h : Lies w b 0 (encEnt x)) : Lies w b 1 (encGoods x.2.1) := fun j v hv => by
 have hj : j < 2 := (List.getElem?_eq_some_iff.1 hv).1
 have := h (1 + j) v (by match j, hj, hv with | 0, _, hv => exact hv | 1, _, hv => exact hv)
 simpa using this
theorem piecesBk_any (E : Nat → Addr) (p g l h s q c : Nat) (B : BkV) (x : EntV) (w : World) (H : BookM w p g l h s q c B) (hd : [p, g, l, h, s, q, c].Nodup) (hI : BkI B) (hn : 0 ≤ x.2.2.2.2.2 ∧ x.2.2.2.2.2 ≤ 1099511627776) (hG : BkG E w) :
  Calls Tryz.prog 48 #[.pointer (some ⟨p, 0, none⟩), .agg (encEnt x).toArray] w fun e w' => e = .returned (errOf E (pcE B x)) ∧
   (∃ q' c', BookM w' p g l h s q' c' (if pcE B x = 0 then doP B x else B) ∧ ((q' = q ∧ c' = c) ∨ (w.heap.size ≤ q' ∧ w.heap.size ≤ c'))) ∧ ButF [p, h, s] w w' := by
 cases hfl : fL B x.2.2.1.1 with
 |none =>
  refine (pieces_none E p g l h s q c B x w H hfl hG).mono ?_
  rintro e w' ⟨he, hb⟩
  have hp : pcE B x = 6 := by unfold pcE; rw [hfl]
  refine ⟨he, ⟨q, c, ?_, .inl ⟨rfl, rfl⟩⟩, ButF.of_below hb⟩
  rw [if_neg (by rw [hp]; decide)]
  exact H.below hb
 |some y => exact pieces_some E p g l h s q c B x y w H hd hI hfl hn hG
set_option maxHeartbeats 1600000 in
set_option maxRecDepth 100000 in
theorem do_m (E : Nat → Addr) (p g l h s q c : Nat) (B : BkV) (x : EntV) (w : World) (H : BookM w p g l h s q c B) (hd : [p, g, l, h, s, q, c].Nodup) (hI : BkI B) (h1 : x.2.2.1.1.length ≤ 1000000000) (h2 : x.2.2.1.2.1.length ≤ 1000000000) (hG : BkG E w) :
  Calls Tryz.prog 12 #[.pointer (some ⟨p, 0, none⟩), .agg (encEnt x).toArray] w fun e w' => e = .returned (errOf E (doE B x)) ∧
   (∃ q' c', BookM w' p g l h s q' c' (doB B x) ∧ ((q' = q ∧ c' = c) ∨ (w.heap.size ≤ q' ∧ w.heap.size ≤ c'))) ∧ ButF [p, g, l, h, s] w w' := by
 have HCK := Lib.hid (fun W g => checkEnt_c E x h1 h2 W g)
 have HH := Lib.hid (fun W (hb : Below w.heap.size w W) => H.below hb)
 have HG := Lib.hid (fun W (hb : Below w.heap.size w W) => hG.below hb)
 have hrow := heap_alloc_new w (.cells (encEnt x).toArray 43)
 have B0 := Lib.hid (below_one w (.cells (encEnt x).toArray 43))
 have h14 : (encEnt x).length = 14 := rfl
 have hlt := H.lt
 have hps : p < w.heap.size := hlt p (by simp)
 have hgs : g < w.heap.size := hlt g (by simp)
 have hls : l < w.heap.size := hlt l (by simp)
 have hhs : h < w.heap.size := hlt h (by simp)
 have hss : s < w.heap.size := hlt s (by simp)
 have hqs : q < w.heap.size := hlt q (by simp)
 have hcs : c < w.heap.size := hlt c (by simp)
 have hnd := hd
 simp only [List.nodup_cons, List.mem_cons, List.not_mem_nil, or_false, not_or, List.nodup_nil, and_true, not_false_eq_true] at hnd
 have HND := Lib.hid hnd
 have hk0 : (encEnt x)[0]? = some (.string ⟨x.1.toArray⟩) := rfl
 have HEG := Lib.hid (fun (W : World) (b : Nat) (h : Lies W b 0 (encEnt x)) => ent_goodsB h)
 have HEL := Lib.hid (fun (W : World) (b : Nat) (h : Lies W b 0 (encEnt x)) => ent_lot h)
 have hg2 : (encGoods x.2.1).length = 2 := rfl
 have hl4 : (encLot x.2.2.1).length = 4 := rfl
 have HNG := Lib.hid (fun W cp (hf : MapF eGoods W g (goodsF B)) hG => newGoods_any E p g (goodsF B) B.1.length x.2.1 W cp hf (fG_count hI) hG)
 have HNL := Lib.hid (fun W cp cl (hg : MapF eGoods W g (goodsF B)) (hf : MapF eLot W l (lotsF B)) hG => newLot_any E p g l (goodsF B) (lotsF B) B.2.1.length x.2.2.1 W cp cl hg hf (fL_count hI) hG)
 by_cases he : ¬ entE x = 0
 ·have HDE := Lib.hid (show doE B x = entE x by unfold doE; rw [if_pos he])
  have HDB := Lib.hid (show doB B x = B by unfold doB; rw [if_pos (by rw [HDE.out]; exact he)])
  have HEN := Lib.hid he
  rw [HDE.out, HDB.out]
  clear HNG HNL he HDE HDB hG H
  generalize entE x = ee at *
  generalize encEnt x = LX at *
  go_enter Tryz.func12, Tryz.ntmps12
  go_upto_region 1 with fail
  generalize w.alloc (.cells LX.toArray 43) = W0 at hrow B0 ⊢
  have hez := row_lt hrow
  go_wp2_with (refine wpList_load_at rfl 43 _ rfl w.heap.size 0 rfl LX (Lies.row _ hrow) _ Tryz.underlying43 rfl (by rw [h14]; kernel_rfl) ?_)
  refine (HCK.out _ (HG.out _ B0.out).ent).mono ?_
  rintro e w2 ⟨rfl, b2⟩
  have B2 := Lib.hid (B0.out.trans (b2.mono B0.out.size))
  have hr2 := row_below b2 hrow hez
  have H2 := Lib.hid (HH.out _ B2.out)
  have HG2 := Lib.hid (HG.out _ B2.out)
  clear b2 hrow HH HG
  rw [errOf_pos _ _ HEN.out]
  go_wp2_with fail
  go_ret
  rw [errOf_pos _ _ HEN.out]
  exact ⟨rfl, ⟨q, c, H2.out, .inl ⟨rfl, rfl⟩⟩, ButF.of_below B2.out⟩
 have he := Classical.not_not.1 he
 rw [he] at HCK
 by_cases kg : x.1 = kGoods
 ·have HDE := Lib.hid (show doE B x = if (goodsF B x.2.1.1).isSome = true then 7 else if 30 ≤ B.1.length then 8 else 0 by
   unfold doE goodsF
   rw [if_neg (by simpa using he), if_pos kg]
   simp)
  have HDB := Lib.hid (show doB B x = if doE B x ≠ 0 then B else (insG (x.2.1, zeroSums) B.1, B.2.1, B.2.2) by unfold doB; rw [if_pos kg])
  have HIN := Lib.hid (fun hn => hI.goodsF_ins (g := x.2.1) hn)
  have HSI := Lib.hid (fun hn => hI.sumsF_ins (g := x.2.1) hn)
  have HFN := Lib.hid (show (goodsF B x.2.1.1).isSome = true ∨ fG B x.2.1.1 = none by
   unfold goodsF
   cases fG B x.2.1.1 <;> simp)
  rw [kg] at hk0
  obtain ⟨de, hde⟩ : ∃ de, de = doE B x := ⟨_, rfl⟩
  obtain ⟨Bd, hBd⟩ : ∃ Bd, Bd = doB B x := ⟨_, rfl⟩
  rw [← hde] at HDE HDB
  rw [← hBd] at HDB
  rw [← hde, ← hBd]
  clear HNL he hG H kg hde hBd hI
  generalize encGoods x.2.1 = LG at *
  obtain ⟨gc, hgc⟩ : ∃ gc, gc = x.2.1.1 := ⟨_, rfl⟩
  rw [← hgc] at HDE HIN HSI HFN HNG
  have HGC := Lib.hid hgc
  clear hgc
  generalize encEnt x = LX at *
  go_enter Tryz.func12, Tryz.ntmps12
  go_upto_region 1 with fail
  generalize w.alloc (.cells LX.toArray 43) = W0 at hrow B0 ⊢
  have hez := row_lt hrow
  go_wp2_with (refine wpList_load_at rfl 43 _ rfl w.heap.size 0 rfl LX (Lies.row _ hrow) _ Tryz.underlying43 rfl (by rw [h14]; kernel_rfl) ?_)
  refine (HCK.out _ (HG.out _ B0.out).ent).mono ?_
  rintro e w2 ⟨rfl, b2⟩
  have B2 := Lib.hid (B0.out.trans (b2.mono B0.out.size))
  have hr2 := row_below b2 hrow hez
  have H2 := Lib.hid (HH.out _ B2.out)
  have HG2 := Lib.hid (HG.out _ B2.out)
  clear b2 hrow HH HG
  have e0 : w2.cell? ⟨w.heap.size, 0, none⟩ = some (.string ⟨kGoods.toArray⟩) := (cell_of_row _ _ _ _ _ _ hr2).trans (by simpa using hk0)
  simp only [kGoods] at e0
  obtain ⟨⟨cp, -⟩, -⟩ := H2.out.cells
  rw [errOf_zero]
  go_wp2_with (refine wpList_load_at rfl 37 _ rfl w.heap.size 1 rfl LG (HEG.out w2 _ (Lies.row _ hr2)) _ Tryz.underlying37 rfl (by rw [hg2]; kernel_rfl) ?_)
  refine (HNG.out w2 cp H2.out.goods HG2.out).mono ?_
  rintro e w3 ⟨rfl, hm3, t3⟩
  have HM3 := Lib.hid hm3
  have T3 := Lib.hid t3
  clear hm3 t3 HNG
  rw [← HDE.out]
  go_wp2_with fail
  go_ret
  have hnd := HND.out
  have keep : ∀ k, k < w.heap.size → k ≠ g → w3.heap[k]? = w2.heap[k]? := fun k h1 h2 => T3.out.block k (Nat.lt_of_lt_of_le h1 B2.out.size) h2
  have hB : BookM w3 p g l h s q c Bd := by
   rw [HDB.out]
   by_cases hz : de = 0
   ·have hc : ¬ ((goodsF B gc).isSome = true ∨ 30 ≤ B.1.length) := fun e => by
     have h1 := HDE.out
     rw [hz] at h1
     rcases e with e | e
     ·rw [if_pos e] at h1; cases h1
     ·rw [if_pos e] at h1
      split at h1 <;> cases h1
    have hm := HM3.out
    rw [if_neg hc] at hm
    have hnn : fG B gc = none := HFN.out.resolve_left fun e => hc (.inl e)
    rw [if_neg (by simpa using hz)]
    exact ⟨(keep p hps (by omega)).trans H2.out.own, hm.congr (HIN.out hnn), H2.out.lots.keep (keep l hls (by omega)), H2.out.held.keep (keep h hhs (by omega)), (H2.out.sums.keep (keep s hss (by omega))).congr (HSI.out hnn), H2.out.stk.keep (keep q hqs (by omega)) (keep c hcs (by omega))⟩
   ·have hc : (goodsF B gc).isSome = true ∨ 30 ≤ B.1.length := by
     have h1 := HDE.out
     split at h1
     ·rename_i h2; exact .inl h2
     ·split at h1
      ·rename_i h2; exact .inr h2
      ·exact absurd h1 hz
    have hm := HM3.out
    rw [if_pos hc] at hm
    rw [if_pos (by simpa using hz)]
    exact ⟨(keep p hps (by omega)).trans H2.out.own, hm, H2.out.lots.keep (keep l hls (by omega)), H2.out.held.keep (keep h hhs (by omega)), H2.out.sums.keep (keep s hss (by omega)), H2.out.stk.keep (keep q hqs (by omega)) (keep c hcs (by omega))⟩
  exact ⟨rfl, ⟨q, c, hB, .inl ⟨rfl, rfl⟩⟩, (ButF.of_below B2.out).trans (ButF.of_but (F := [g]) T3.out (.inl (by simp))) (by simp)⟩
 have bg : (x.1 == [103, 111, 111, 100, 115]) = false := by simpa [kGoods] using kg
 by_cases kl : x.1 = kLot
 ·have HDE := Lib.hid (show doE B x = if (lotsF B x.2.2.1.1).isSome = true then 7 else if (goodsF B x.2.2.1.2.1).isSome = false then 6 else if 60 ≤ B.2.1.length then 8 else 0 by
   unfold doE goodsF lotsF
   rw [if_neg (by simpa using he), if_neg kg, if_pos kl]
   simp)
  have HDB := Lib.hid (show doB B x = if doE B x ≠ 0 then B else (B.1, insLo (x.2.2.1, 0) B.2.1, B.2.2) by unfold doB; rw [if_neg kg, if_pos kl])
  have HIN := Lib.hid (fun hn => hI.lotsF_ins (l := x.2.2.1) hn)
  have HSI := Lib.hid (fun hn => hI.heldF_ins (l := x.2.2.1) hn)
  have HFN := Lib.hid (show (lotsF B x.2.2.1.1).isSome = true ∨ fL B x.2.2.1.1 = none by
   unfold lotsF
   cases fL B x.2.2.1.1 <;> simp)
  rw [kl] at hk0
  obtain ⟨de, hde⟩ : ∃ de, de = doE B x := ⟨_, rfl⟩
  obtain ⟨Bd, hBd⟩ : ∃ Bd, Bd = doB B x := ⟨_, rfl⟩
  rw [← hde] at HDE HDB
  rw [← hBd] at HDB
  rw [← hde, ← hBd]
  clear HNG he hG H kg kl bg hde hBd hI
  generalize encLot x.2.2.1 = LG at *
  obtain ⟨gc, hgc⟩ : ∃ gc, gc = x.2.2.1.1 := ⟨_, rfl⟩
  rw [← hgc] at HDE HIN HSI HFN HNL
  have HGC := Lib.hid hgc
  clear hgc
  generalize encEnt x = LX at *
  go_enter Tryz.func12, Tryz.ntmps12
  go_upto_region 1 with fail
  generalize w.alloc (.cells LX.toArray 43) = W0 at hrow B0 ⊢
  have hez := row_lt hrow
  go_wp2_with (refine wpList_load_at rfl 43 _ rfl w.heap.size 0 rfl LX (Lies.row _ hrow) _ Tryz.underlying43 rfl (by rw [h14]; kernel_rfl) ?_)
  refine (HCK.out _ (HG.out _ B0.out).ent).mono ?_
  rintro e w2 ⟨rfl, b2⟩
  have B2 := Lib.hid (B0.out.trans (b2.mono B0.out.size))
  have hr2 := row_below b2 hrow hez
  have H2 := Lib.hid (HH.out _ B2.out)
  have HG2 := Lib.hid (HG.out _ B2.out)
  clear b2 hrow HH HG
  have e0 : w2.cell? ⟨w.heap.size, 0, none⟩ = some (.string ⟨kLot.toArray⟩) := (cell_of_row _ _ _ _ _ _ hr2).trans (by simpa using hk0)
  simp only [kLot] at e0
  obtain ⟨⟨cp, cl, -⟩, -⟩ := H2.out.cells
  rw [errOf_zero]
  go_wp2_with (refine wpList_load_at rfl 39 _ rfl w.heap.size 3 rfl LG (HEL.out w2 _ (Lies.row _ hr2)) _ Tryz.underlying39 rfl (by rw [hl4]; kernel_rfl) ?_)
  refine (HNL.out w2 cp cl H2.out.goods H2.out.lots HG2.out).mono ?_
  rintro e w3 ⟨rfl, hm3, t3⟩
  have HM3 := Lib.hid hm3
  have T3 := Lib.hid t3
  clear hm3 t3 HNL
  rw [← HDE.out]
  go_wp2_with fail
  go_ret
  have hnd := HND.out
  have keep : ∀ k, k < w.heap.size → k ≠ l → w3.heap[k]? = w2.heap[k]? := fun k h1 h2 => T3.out.block k (Nat.lt_of_lt_of_le h1 B2.out.size) h2
  have hB : BookM w3 p g l h s q c Bd := by
   rw [HDB.out]
   by_cases hz : de = 0
   ·have hc : ¬ ((lotsF B gc).isSome = true ∨ (goodsF B x.2.2.1.2.1).isSome = false ∨ 60 ≤ B.2.1.length) := fun e => by
     have h1 := HDE.out
     rw [hz] at h1
     rcases e with e | e | e
     ·rw [if_pos e] at h1; cases h1
     ·rw [if_pos e] at h1
      split at h1 <;> cases h1
     ·rw [if_pos e] at h1
      split at h1
      ·cases h1
      ·split at h1 <;> cases h1
    have hm := HM3.out
    rw [if_neg hc] at hm
    have hnn : fL B gc = none := HFN.out.resolve_left fun e => hc (.inl e)
    rw [if_neg (by simpa using hz)]
    exact ⟨(keep p hps (by omega)).trans H2.out.own, H2.out.goods.keep (keep g hgs (by omega)), hm.congr (HIN.out hnn), (H2.out.held.keep (keep h hhs (by omega))).congr (HSI.out hnn), H2.out.sums.keep (keep s hss (by omega)), H2.out.stk.keep (keep q hqs (by omega)) (keep c hcs (by omega))⟩
   ·have hc : (lotsF B gc).isSome = true ∨ (goodsF B x.2.2.1.2.1).isSome = false ∨ 60 ≤ B.2.1.length := by
     have h1 := HDE.out
     split at h1
     ·rename_i h2; exact .inl h2
     ·split at h1
      ·rename_i h2; exact .inr (.inl h2)
      ·split at h1
       ·rename_i h2; exact .inr (.inr h2)
       ·exact absurd h1 hz
    have hm := HM3.out
    rw [if_pos hc] at hm
    rw [if_pos (by simpa using hz)]
    exact ⟨(keep p hps (by omega)).trans H2.out.own, H2.out.goods.keep (keep g hgs (by omega)), hm, H2.out.held.keep (keep h hhs (by omega)), H2.out.sums.keep (keep s hss (by omega)), H2.out.stk.keep (keep q hqs (by omega)) (keep c hcs (by omega))⟩
  exact ⟨rfl, ⟨q, c, hB, .inl ⟨rfl, rfl⟩⟩, (ButF.of_below B2.out).trans (ButF.of_but (F := [l]) T3.out (.inl (by simp))) (by simp)⟩
 have bl : (x.1 == [108, 111, 116]) = false := by simpa [kLot] using kl
 ·have HDE := Lib.hid (show doE B x = pcE B x by unfold doE; rw [if_neg (by simpa using he), if_neg kg, if_neg kl])
  have HDB := Lib.hid (show doB B x = if pcE B x = 0 then doP B x else B by
   unfold doB
   rw [HDE.out, if_neg kg, if_neg kl]
   by_cases hz : pcE B x = 0 <;> simp [hz])
  have HPC := Lib.hid (fun W (k : BookM W p g l h s q c B) hG => piecesBk_any E p g l h s q c B x W k hd hI (pieces_n he kg kl) hG)
  rw [HDE.out]
  rw [← HDB.out] at HPC
  clear HNG HNL he hG H kg kl HDE HDB hI
  generalize pcE B x = pc at *
  generalize doB B x = Bd at *
  generalize x.1 = k at *
  generalize encEnt x = LX at *
  go_enter Tryz.func12, Tryz.ntmps12
  go_upto_region 1 with fail
  generalize w.alloc (.cells LX.toArray 43) = W0 at hrow B0 ⊢
  have hez := row_lt hrow
  go_wp2_with (refine wpList_load_at rfl 43 _ rfl w.heap.size 0 rfl LX (Lies.row _ hrow) _ Tryz.underlying43 rfl (by rw [h14]; kernel_rfl) ?_)
  refine (HCK.out _ (HG.out _ B0.out).ent).mono ?_
  rintro e w2 ⟨rfl, b2⟩
  have B2 := Lib.hid (B0.out.trans (b2.mono B0.out.size))
  have hr2 := row_below b2 hrow hez
  have H2 := Lib.hid (HH.out _ B2.out)
  have HG2 := Lib.hid (HG.out _ B2.out)
  clear b2 hrow HH HG
  have e0 : w2.cell? ⟨w.heap.size, 0, none⟩ = some (.string ⟨k.toArray⟩) := (cell_of_row _ _ _ _ _ _ hr2).trans (by simpa using hk0)
  rw [errOf_zero]
  go_wp2_with (refine wpList_load_at rfl 43 _ rfl w.heap.size 0 rfl LX (Lies.row _ hr2) _ Tryz.underlying43 rfl (by rw [h14]; kernel_rfl) ?_)
  refine (HPC.out w2 H2.out HG2.out).mono ?_
  rintro e w3 ⟨rfl, ⟨q', c', hB, hqc⟩, t3⟩
  have HB3 := Lib.hid hB
  have T3 := Lib.hid t3
  clear hB t3 HPC
  go_wp2_with fail
  go_ret
  have hz2 := B2.out.size
  exact ⟨rfl, ⟨q', c', HB3.out, by omega⟩, (ButF.of_below B2.out).trans T3.out (by simp)⟩
theorem List.mem_of_subset_app {p g l h s q c i : Nat} (hi : i ∈ [p, g, l, h, s]) : i ∈ [p, g, l, h, s, q, c] := by
 rw [show [p, g, l, h, s, q, c] = [p, g, l, h, s] ++ [q, c] from rfl]
 exact List.mem_append_left _ hi
theorem do_any (E : Nat → Addr) {p : Nat} {F : List Nat} {B : BkV} (x : EntV) {w : World} (H : BookIs w p F B) (hI : BkI B) (h1 : x.2.2.1.1.length ≤ 1000000000) (h2 : x.2.2.1.2.1.length ≤ 1000000000) (hG : BkG E w) :
  Calls Tryz.prog 12 #[.pointer (some ⟨p, 0, none⟩), .agg (encEnt x).toArray] w fun e w' => e = .returned (errOf E (doE B x)) ∧
   (∃ F', BookIs w' p F' (doB B x) ∧ ∀ k ∈ F', k ∈ F ∨ w.heap.size ≤ k) ∧ ButF F w w' := by
 obtain ⟨g, l, h, s, q, c, rfl, hd, hm⟩ := H
 have hlt := hm.lt
 refine (do_m E p g l h s q c B x w hm hd hI h1 h2 hG).mono ?_
 rintro e w' ⟨he, ⟨q', c', hB, hqc⟩, hb⟩
 refine ⟨he, ⟨[p, g, l, h, s, q', c'], ⟨g, l, h, s, q', c', rfl, ?_, hB⟩, ?_⟩, hb.mono (fun i hi => .inl (List.mem_of_subset_app hi))⟩
 ·have hne := hB.stk.ne
  rcases hqc with ⟨rfl, rfl⟩ | ⟨n1, n2⟩
  ·exact hd
  ·have n3 : ∀ k, k < w.heap.size → ¬ k = q' ∧ ¬ k = c' := fun k hk => ⟨by omega, by omega⟩
   have a1 := n3 p (hlt p (by simp))
   have a2 := n3 g (hlt g (by simp))
   have a3 := n3 l (hlt l (by simp))
   have a4 := n3 h (hlt h (by simp))
   have a5 := n3 s (hlt s (by simp))
   simp only [List.nodup_cons, List.mem_cons, List.not_mem_nil, or_false, not_or, List.nodup_nil, and_true, not_false_eq_true] at hd ⊢
   obtain ⟨⟨d1, d2, d3, d4, -, -⟩, ⟨e1, e2, e3, -, -⟩, ⟨f1, f2, -, -⟩, ⟨g1, -, -⟩, -, -⟩ := hd
   exact ⟨⟨d1, d2, d3, d4, a1.1, a1.2⟩, ⟨e1, e2, e3, a2.1, a2.2⟩, ⟨f1, f2, a3.1, a3.2⟩, ⟨g1, a4.1, a4.2⟩, ⟨a5.1, a5.2⟩, hne⟩
 ·intro k hk
  simp only [List.mem_cons, List.not_mem_nil, or_false] at hk ⊢
  rcases hk with rfl | rfl | rfl | rfl | rfl | rfl | rfl
  ·exact .inl (.inl rfl)
  ·exact .inl (.inr (.inl rfl))
  ·exact .inl (.inr (.inr (.inl rfl)))
  ·exact .inl (.inr (.inr (.inr (.inl rfl))))
  ·exact .inl (.inr (.inr (.inr (.inr (.inl rfl)))))
  ·rcases hqc with ⟨rfl, rfl⟩ | ⟨n1, n2⟩
   ·exact .inl (.inr (.inr (.inr (.inr (.inr (.inl rfl))))))
   ·exact .inr n1
  ·rcases hqc with ⟨rfl, rfl⟩ | ⟨n1, n2⟩
   ·exact .inl (.inr (.inr (.inr (.inr (.inr (.inr rfl))))))
   ·exact .inr n2
end Go.Proofs.YteaalifehokgoaaGreatDoor
namespace Go.Proofs.YteaalifehokgoaaGreatDoor
open Go.RowKit Go.Sort Go.Proofs
def encGoS (x : GoS) : List Value := [.string ⟨x.1.1.toArray⟩, .int .i64 x.1.2, .int .i64 x.2.1, .int .i64 x.2.2.1, .int .i64 x.2.2.2.1, .int .i64 x.2.2.2.2]
theorem encGoS_len (x : GoS) : (encGoS x).length = 6 := rfl
theorem encGoS_one (x : GoS) : ∀ v ∈ encGoS x, v.oneCell' = true := fun v hv => by
 simp [encGoS] at hv
 rcases hv with rfl | rfl | rfl | rfl | rfl | rfl <;> rfl
def encLoH (x : LoH) : List Value := [.string ⟨x.1.1.toArray⟩, .string ⟨x.1.2.1.toArray⟩, .int .i64 x.1.2.2.1, .int .i64 x.1.2.2.2, .int .i64 (x.2 : Nat)]
theorem encLoH_len (x : LoH) : (encLoH x).length = 5 := rfl
theorem encLoH_one (x : LoH) : ∀ v ∈ encLoH x, v.oneCell' = true := fun v hv => by
 simp [encLoH] at hv
 rcases hv with rfl | rfl | rfl | rfl | rfl <;> rfl
theorem flat_splice {α : Type} {enc : α → List Value} {k : Nat} (hk : ∀ x, (enc x).length = k) : ∀ (l : List α) (i : Nat) (hi : i < l.length) (y : α) (c : Nat) (vs : List Value), enc y = (enc l[i]).take c ++ vs ++ (enc l[i]).drop (c + vs.length) → c + vs.length ≤ k →
  flatL enc (l.set i y) = (flatL enc l).take (i * k + c) ++ vs ++ (flatL enc l).drop (i * k + c + vs.length)
 |[], i, hi, _, _, _, _, _ => by simp at hi
 |x :: r, 0, hi, y, c, vs, hy, hc => by
  have e1 : flatL enc (x :: r) = enc x ++ flatL enc r := rfl
  have e2 : flatL enc ((x :: r).set 0 y) = enc y ++ flatL enc r := rfl
  have hx : (x :: r)[0] = x := rfl
  rw [hx] at hy
  have hl := hk x
  rw [e1, e2, hy, Nat.zero_mul, Nat.zero_add, List.take_append_of_le_length (by omega), List.drop_append_of_le_length (by omega)]
  simp only [List.append_assoc]
 |x :: r, i + 1, hi, y, c, vs, hy, hc => by
  have e1 : flatL enc (x :: r) = enc x ++ flatL enc r := rfl
  have e2 : flatL enc ((x :: r).set (i + 1) y) = enc x ++ flatL enc (r.set i y) := rfl
  have hl := hk x
  have hi' : i < r.length := by simpa using hi
  have ih := flat_splice hk r i hi' y c vs (by simpa using hy) hc
  have ek : (i + 1) * k + c = (enc x).length + (i * k + c) := by rw [hl, Nat.add_mul]; omega
  rw [e1, e2, ih, ek, List.take_length_add_append, Nat.add_assoc (enc x).length, List.drop_length_add_append]
  simp only [List.append_assoc]
theorem splice_take {α : Type} (L vs : List α) (off N : Nat) (h : off + vs.length ≤ N) (hN : N ≤ L.length) : (L.take off ++ vs ++ L.drop (off + vs.length)).take N = (L.take N).take off ++ vs ++ (L.take N).drop (off + vs.length) := by
 have hl : (L.take off ++ vs).length = off + vs.length := by
  rw [List.length_append, List.length_take, Nat.min_eq_left (by omega)]
 rw [List.take_append, List.take_of_length_le (by omega), hl, List.take_take, Nat.min_eq_left (by omega), List.drop_take]
theorem own_splice {w w' : World} {B e size n g cap : Nat} {t : TypeId} {xs vs L : List Value} {off : Nat} (h : w.ownsRow B e size (.slice (some ⟨g, 0, none⟩) n cap) n xs) (hL : w.heap[g]? = some (.cells L.toArray t (0, 0)))
  (h' : w'.heap[g]? = some (.cells (L.take off ++ vs ++ L.drop (off + vs.length)).toArray t (0, 0))) (ho : off + vs.length ≤ n * size) :
  w'.ownsRow B e size (.slice (some ⟨g, 0, none⟩) n cap) n (xs.take off ++ vs ++ xs.drop (off + vs.length)) := by
 obtain ⟨h1, h2⟩ := h
 rcases h2 with ⟨h2, _⟩ | ⟨g', cap', cur, h2, h3, h4, h5, h6, h7, h8⟩
 ·cases h2
 ·cases h2
  rw [hL] at h4
  cases h4
  have hn : n * size ≤ cap * size := Nat.mul_le_mul_right _ h5
  have hsz : L.length = cap * size := by simpa using h7
  have h8' : L.take (n * size) = xs := by simpa using h8
  refine ⟨?_, .inr ⟨g, cap, _, rfl, h3, h', h5, h6, ?_, ?_⟩⟩
  ·simp only [List.length_append, List.length_take, List.length_drop]
   omega
  ·simp only [List.size_toArray, List.length_append, List.length_take, List.length_drop]
   omega
  ·rw [← h8']
   exact splice_take L vs off _ ho (by omega)
theorem own_block {w : World} {B e size n g cap : Nat} {xs : List Value} (h : w.ownsRow B e size (.slice (some ⟨g, 0, none⟩) n cap) n xs) : ∃ L : List Value, w.heap[g]? = some (.cells L.toArray e (0, 0)) ∧ n * size ≤ L.length := by
 obtain ⟨h1, h2⟩ := h
 rcases h2 with ⟨h2, _⟩ | ⟨g', cap', cur, h2, h3, h4, h5, h6, h7, h8⟩
 ·cases h2
 ·cases h2
  refine ⟨cur.toList, by simpa using h4, ?_⟩
  have : n * size ≤ cap * size := Nat.mul_le_mul_right _ h5
  simp only [Array.length_toList]
  omega
theorem own_kept {w w' : World} {B e size n : Nat} {v : Value} {xs : List Value} (h : w.ownsRow B e size v n xs) (hb : ∀ g, v.ownBlock = some g → w'.heap[g]? = w.heap[g]?) : w'.ownsRow B e size v n xs := by
 obtain ⟨h1, h2⟩ := h
 refine ⟨h1, ?_⟩
 rcases h2 with h2 | ⟨g, cap, cur, h2, h3, h4, h5⟩
 ·exact .inl h2
 ·exact .inr ⟨g, cap, cur, h2, h3, by rw [hb g (by rw [h2]; rfl)]; exact h4, h5⟩
theorem own_base {w : World} {B B' e size n : Nat} {v : Value} {xs : List Value} (h : w.ownsRow B e size v n xs) (hB : B' ≤ B) : w.ownsRow B' e size v n xs := by
 obtain ⟨h1, h2⟩ := h
 refine ⟨h1, ?_⟩
 rcases h2 with h2 | ⟨g, cap, cur, h2, h3, h4⟩
 ·exact .inl h2
 ·exact .inr ⟨g, cap, cur, h2, by omega, h4⟩
def blockL (v : Value) : List Nat := match v.ownBlock with | some g => [g] | none => []
structure MBkM (w : World) (q : Nat) (vG vL : Value) (A : Option Addr) (cap : Nat) (B : BkV) : Prop where
 own : w.heap[q]? = some (.cells #[vG, vL, .slice A B.2.2.length cap] 71 (0, 0))
 goods : w.ownsRow 0 121 6 vG B.1.length (flatL encGoS B.1)
 lots : w.ownsRow 0 124 5 vL B.2.1.length (flatL encLoH B.2.1)
 lines : RowAt encLine 5 w A (linesM B.2.2)
def rowB (A : Option Addr) (m : StkV) : List Nat := match A, m with | some a, _ :: _ => [a.block] | _, _ => []
def MBk (w : World) (q : Nat) (F R : List Nat) (B : BkV) : Prop := ∃ vG vL A cap, F = q :: (blockL vG ++ blockL vL) ∧ F.Nodup ∧ R = rowB A B.2.2 ∧ (∀ k ∈ R, k ∉ F ∧ k < w.heap.size) ∧ MBkM w q vG vL A cap B
theorem blockL_mem {v : Value} {g : Nat} (h : v.ownBlock = some g) : g ∈ blockL v := by unfold blockL; rw [h]; simp
theorem blockL_own {v : Value} {g : Nat} (h : g ∈ blockL v) : v.ownBlock = some g := by
 unfold blockL at h
 split at h
 ·rename_i k hk
  simp only [List.mem_singleton] at h
  rw [hk, h]
 ·simp at h
theorem rowB_mem {A : Option Addr} {m : StkV} {a : Addr} (h : A = some a) (hm : m ≠ []) : a.block ∈ rowB A m := by
 cases m with
 |nil => exact absurd rfl hm
 |cons x r => rw [h]; simp [rowB]
theorem rowB_own {A : Option Addr} {m : StkV} {k : Nat} (h : k ∈ rowB A m) : ∃ a, A = some a ∧ a.block = k ∧ m ≠ [] := by
 unfold rowB at h
 split at h
 ·rename_i a x r
  simp only [List.mem_singleton] at h
  exact ⟨a, rfl, h.symm, by simp⟩
 ·simp at h
theorem MBkM.lt {w : World} {q : Nat} {vG vL : Value} {A : Option Addr} {cap : Nat} {B : BkV} (H : MBkM w q vG vL A cap B) : ∀ k ∈ q :: (blockL vG ++ blockL vL), k < w.heap.size := fun k hk => by
 rcases List.mem_cons.1 hk with rfl | hk
 ·exact (Array.getElem?_eq_some_iff.1 H.own).1
 ·rcases List.mem_append.1 hk with hk | hk
  ·exact (H.goods.lt _ (blockL_own hk)).2
  ·exact (H.lots.lt _ (blockL_own hk)).2
theorem MBk.lt {w : World} {q : Nat} {F R : List Nat} {B : BkV} (H : MBk w q F R B) : (∀ k ∈ F, k < w.heap.size) ∧ ∀ k ∈ R, k < w.heap.size := by
 obtain ⟨vG, vL, A, cap, rfl, hn, rfl, hA, H⟩ := H
 exact ⟨H.lt, fun k hk => (hA k hk).2⟩
theorem linesM_ne {m : StkV} (h : linesM m ≠ []) : m ≠ [] := fun e => h (by rw [e]; rfl)
theorem lines_kept {w w' : World} {A : Option Addr} {m : StkV} (h : RowAt encLine 5 w A (linesM m)) (hs : w.heap.size ≤ w'.heap.size) (hk : ∀ k ∈ rowB A m, w'.heap[k]? = w.heap[k]?) : RowAt encLine 5 w' A (linesM m) := by
 rcases h with h | ⟨b, o, h1, h2, h3⟩
 ·exact .inl h
 ·by_cases hm : linesM m = []
  ·exact .inl hm
  ·have h4 := hk b (rowB_mem h1 (linesM_ne hm))
   exact .inr ⟨b, o, h1, Nat.lt_of_lt_of_le h2 hs, fun i hi c v hv => (World.cell?_of_block h4).trans (h3 i hi c v hv)⟩
theorem MBk.butF {w w' : World} {q : Nat} {F R X : List Nat} {B : BkV} (H : MBk w q F R B) (hb : ButF X w w') (hd : ∀ k ∈ F, k ∉ X) (hl : ∀ k ∈ R, k ∉ X) : MBk w' q F R B := by
 obtain ⟨h1, h2⟩ := H.lt
 obtain ⟨vG, vL, A, cap, rfl, hn, rfl, hA, H⟩ := H
 refine ⟨vG, vL, A, cap, rfl, hn, rfl, fun k hk => ⟨(hA k hk).1, Nat.lt_of_lt_of_le (hA k hk).2 hb.size⟩, ⟨?_, ?_, ?_, ?_⟩⟩
 ·exact (hb.block _ (h1 q (by simp)) (hd q (by simp))).trans H.own
 ·exact own_kept H.goods fun g hg => hb.block _ (H.goods.lt g hg).2 (hd g (by simp [blockL_mem hg]))
 ·exact own_kept H.lots fun g hg => hb.block _ (H.lots.lt g hg).2 (hd g (by simp [blockL_mem hg]))
 ·exact lines_kept H.lines hb.size fun k hk => hb.block k (h2 k hk) (hl k hk)
theorem MBk.below {w w' : World} {q : Nat} {F R : List Nat} {B : BkV} (H : MBk w q F R B) (hb : Below w.heap.size w w') : MBk w' q F R B := H.butF (X := []) (ButF.of_below hb) (by simp) (by simp)
theorem map_set {α : Type} (key : α → List UInt8) {l : List α} (hs : l.Pairwise fun x y => ltB (key x) (key y) = true) {k : Nat} (hk : k < l.length) (f : α → α) : (l.map fun y => if key y = key l[k] then f y else y) = l.set k (f l[k]) := by
 refine List.ext_getElem (by simp) fun i h1 h2 => ?_
 have hi : i < l.length := by simpa using h1
 have hp := List.pairwise_iff_getElem.1 hs
 rw [List.getElem_map, List.getElem_set]
 by_cases e : k = i
 ·subst e
  rw [if_pos rfl, if_pos rfl]
 ·rw [if_neg e, if_neg]
  rcases Nat.lt_or_gt_of_ne e with h | h
  ·exact fun q => ltB_ne (hp k i hk hi h) q.symm
  ·exact ltB_ne (hp i k hi hk h)
def idxK {α : Type} (key : α → List UInt8) (l : List α) (c : List UInt8) : Int := match l.findIdx? (fun x => decide (key x = c)) with | some i => (i : Int) | none => -1
theorem idxK_find {α : Type} (key : α → List UInt8) (l : List α) (c : List UInt8) :
  (l.find? (fun x => decide (key x = c)) = none ∧ idxK key l c = -1) ∨ ∃ i, ∃ h : i < l.length, l.find? (fun x => decide (key x = c)) = some l[i] ∧ idxK key l c = i ∧ key l[i] = c := by
 unfold idxK
 cases hf : l.findIdx? (fun x => decide (key x = c)) with
 |none =>
  refine .inl ⟨?_, rfl⟩
  rw [List.findIdx?_eq_none_iff] at hf
  exact List.find?_eq_none.2 fun x hx => by simpa using hf x hx
 |some i =>
  obtain ⟨h1, h2, h3⟩ := List.findIdx?_eq_some_iff_getElem.1 hf
  refine .inr ⟨i, h1, ?_, rfl, by simpa using h2⟩
  rw [List.find?_eq_some_iff_getElem]
  exact ⟨h2, i, h1, rfl, fun j hj => by simpa using h3 j hj⟩
theorem idxK_step {α : Type} (key : α → List UInt8) (l : List α) (c : List UInt8) (k : Nat) (h1 : ∀ j (h : j < l.length), j < k → key l[j] ≠ c) (h2 : ∀ h : k < l.length, key l[k] = c) : idxK key l c = if k < l.length then (k : Int) else -1 := by
 unfold idxK
 by_cases hk : k < l.length
 ·have : l.findIdx? (fun x => decide (key x = c)) = some k := List.findIdx?_eq_some_iff_getElem.2 ⟨hk, by simpa using h2 hk, fun j hj => by simpa using h1 j (by omega) hj⟩
  rw [this, if_pos hk]
 ·have : l.findIdx? (fun x => decide (key x = c)) = none := by
   rw [List.findIdx?_eq_none_iff]
   intro x hx
   obtain ⟨j, hj, rfl⟩ := List.mem_iff_getElem.1 hx
   simpa using h1 j hj (by omega)
  rw [this, if_neg hk]
end Go.Proofs.YteaalifehokgoaaGreatDoor
