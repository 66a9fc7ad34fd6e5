/- The program's book: newLot. Printed by gen/bknewl.py. How many an entry of pieces is of. The program's book: Do. -/
import Derived.Deep.CutBlock
import Derived.Test.YtchiojiicehpeaaGreatDoorM20
import Derived.Test.YtchiojiicehpeaaGreatDoorM23
import Derived.Test.YtchiojiicehpeaaGreatDoorM27
import Derived.Test.YtchiojiicehpeaaGreatDoorM35
import Derived.Test.YtchiojiicehpeaaGreatDoorM36
namespace Go.Proofs.YtchiojiicehpeaaGreatDoor
open Go.RowKit Go.Sort Go.Proofs
set_option maxHeartbeats 800000 in
set_option maxRecDepth 100000 in
theorem newLot_any (E : Nat → Addr) (p g l : Nat) (fg : List UInt8 → Option GoodsV) (f : List UInt8 → Option LotV) (N : Nat) (x : LotV) (w : World) (cp : w.cell? ⟨p, 0, none⟩ = some (.map (some g))) (cl : w.cell? ⟨p, 1, none⟩ = some (.map (some l))) (hg : MapF eGoods w g fg) (hf : MapF eLot w l f)
  (hN : ∀ m : List (List UInt8 × LotV), (m.map (·.1)).Nodup → (∀ k, mget m k = f k) → m.length = N) (hG : BkG E w) :
  Calls Tryz.prog 70 #[.pointer (some ⟨p, 0, none⟩), .agg (encLot x).toArray] w fun e w' => e = .returned (errOf E (if (f x.1).isSome = true then 7 else if (fg x.2.1).isSome = false then 6 else if 60 ≤ N then 8 else 0)) ∧
   MapF eLot w' l (if (f x.1).isSome = true ∨ (fg x.2.1).isSome = false ∨ 60 ≤ N then f else fun i => if i = x.1 then some x else f i) ∧ But l w w' := by
 obtain ⟨r, hr⟩ : ∃ r : Nat, r = if (f x.1).isSome = true then 7 else if (fg x.2.1).isSome = false then 6 else if 60 ≤ N then 8 else 0 := ⟨_, rfl⟩
 obtain ⟨f', hf'⟩ : ∃ f', f' = if (f x.1).isSome = true ∨ (fg x.2.1).isSome = false ∨ 60 ≤ N then f else fun i => if i = x.1 then some x else f i := ⟨_, rfl⟩
 rw [← hr, ← hf']
 have HR := Lib.hid hr
 have HF' := Lib.hid hf'
 have HG := Lib.hid (fun W (h : Below w.heap.size w W) => hG.below h)
 have HM := Lib.hid (fun W (hb : Below w.heap.size w W) => hf.below hb)
 have HMG := Lib.hid (fun W (hb : Below w.heap.size w W) => hg.below hb)
 have HL := Lib.hid (fun W (h : MapF eLot W l f) => h.look (P := Tryz.prog) (t := 119) (kt := 9) (by kernel_rfl) Tryz.underlying119 (zeroLotE W) x.1 true)
 have HLG := Lib.hid (fun W (h : MapF eGoods W g fg) => h.look (P := Tryz.prog) (t := 118) (kt := 9) (by kernel_rfl) Tryz.underlying118 (zeroGoodsE W) x.2.1 true)
 have HLN := Lib.hid (fun W (h : MapF eLot W l f) ty => h.len hN (P := Tryz.prog) (ty := ty) Tryz.underlying119)
 have HS := Lib.hid (fun W (h : MapF eLot W l f) => h.store (P := Tryz.prog) (t := 119) (kt := 9) (by kernel_rfl) Tryz.underlying119 x.1 x)
 have hpl := lt_of_cell cp
 have HCP := Lib.hid (fun W (hb : Below w.heap.size w W) => (hb.cell (p := ⟨p, 0, none⟩) hpl).trans cp)
 have HCL := Lib.hid (fun W (hb : Below w.heap.size w W) => (hb.cell (p := ⟨p, 1, none⟩) hpl).trans cl)
 clear hr hf' hG hf hN hg cp cl
 generalize (f x.1).getD zeroLot = y at HL
 generalize (f x.1).isSome = is at HL HR HF'
 generalize (fg x.2.1).getD zeroGoods = z at HLG
 generalize (fg x.2.1).isSome = ig at HLG HR HF'
 obtain ⟨x1, x2, x3, x4⟩ := x
 obtain ⟨y1, y2, y3, y4⟩ := y
 obtain ⟨z1, z2⟩ := z
 simp only [eGoods, encGoods, eLot, encLot] at HL HS HLG ⊢
 have b0 := Lib.hid (below_one w (.cells #[.string ⟨x1.toArray⟩, .string ⟨x2.toArray⟩, .int .i64 x3, .int .i64 x4] 65))
 have hx := heap_alloc_new w (.cells #[.string ⟨x1.toArray⟩, .string ⟨x2.toArray⟩, .int .i64 x3, .int .i64 x4] 65)
 go_enter Tryz.func70, Tryz.ntmps70
 go_wp2_with fail
 generalize w.alloc (.cells #[.string ⟨x1.toArray⟩, .string ⟨x2.toArray⟩, .int .i64 x3, .int .i64 x4] 65) = W0 at b0 hx ⊢
 have hz := row_lt hx
 have bz := below_one W0 (.cells #[.string ⟨#[]⟩, .string ⟨#[]⟩, .int .i64 0, .int .i64 0] 65)
 have bb1 := Lib.hid (b0.out.trans (bz.mono b0.out.size)).drew
 have q00 : W0.cell? ⟨w.heap.size, 0, none⟩ = some (.string ⟨x1.toArray⟩) := cell_of_row _ _ 0 _ _ _ hx
 have q10 : (W0.alloc (.cells #[.string ⟨#[]⟩, .string ⟨#[]⟩, .int .i64 0, .int .i64 0] 65)).drew.cell? ⟨w.heap.size, 0, none⟩ = some (.string ⟨x1.toArray⟩) := (bz.cell (p := ⟨w.heap.size, 0, none⟩) hz).trans q00
 have q01 := HCL.out W0 b0.out
 have q11 := HCL.out _ bb1.out
 have hl0 := HL.out _ (HM.out _ b0.out.drew)
 have hl1 := HL.out _ (HM.out _ bb1.out)
 simp only [if_true] at hl0 hl1
 go_region
 all_goals
  clear q00 q10 q01 q11 hl0 hl1 bz bb1
  have b1 := Lib.hid ((b0.out.trans ((below_one W0 (.cells #[.string ⟨y1.toArray⟩, .string ⟨y2.toArray⟩, .int .i64 y3, .int .i64 y4] 65)).mono b0.out.size)).drew)
  have hx1 : (W0.alloc (.cells #[.string ⟨y1.toArray⟩, .string ⟨y2.toArray⟩, .int .i64 y3, .int .i64 y4] 65)).drew.heap[w.heap.size]? = some (.cells #[.string ⟨x1.toArray⟩, .string ⟨x2.toArray⟩, .int .i64 x3, .int .i64 x4] 65 (0, 0)) := ((below_one W0 _).block _ hz).trans hx
  clear hz hx b0
  generalize (W0.alloc (.cells #[.string ⟨y1.toArray⟩, .string ⟨y2.toArray⟩, .int .i64 y3, .int .i64 y4] 65)).drew = W1 at b1 hx1 ⊢
  cases is with
  |true =>
   have HR0 := Lib.hid (show r = 7 from HR.out.trans (by rw [if_pos rfl]))
   have HF0 := Lib.hid (show f' = f from HF'.out.trans (if_pos (.inl rfl)))
   have her := (HG.out _ b1.out).exist
   unfold ErrAt at her
   go_wp2_with fail
   go_ret
   rw [HR0.out, HF0.out]
   exact ⟨rfl, HM.out _ b1.out, But.of_below b1.out⟩
  |false =>
   go_upto_region 4 with fail
   have hz := row_lt hx1
   have bz := below_one W1 (.cells #[.string ⟨#[]⟩, .int .i64 0] 63)
   have bb1 := Lib.hid (b1.out.trans (bz.mono b1.out.size)).drew
   have q00 : W1.cell? ⟨w.heap.size, 1, none⟩ = some (.string ⟨x2.toArray⟩) := cell_of_row _ _ 1 _ _ _ hx1
   have q10 : (W1.alloc (.cells #[.string ⟨#[]⟩, .int .i64 0] 63)).drew.cell? ⟨w.heap.size, 1, none⟩ = some (.string ⟨x2.toArray⟩) := (bz.cell (p := ⟨w.heap.size, 1, none⟩) hz).trans q00
   have q01 := HCP.out W1 b1.out
   have q11 := HCP.out _ bb1.out
   have hl0 := HLG.out _ (HMG.out _ b1.out.drew)
   have hl1 := HLG.out _ (HMG.out _ bb1.out)
   simp only [if_true] at hl0 hl1
   go_region
   all_goals
    clear q00 q10 q01 q11 hl0 hl1 bz bb1
    have b2 := Lib.hid ((b1.out.trans ((below_one W1 (.cells #[.string ⟨z1.toArray⟩, .int .i64 z2] 63)).mono b1.out.size)).drew)
    have hx2 : (W1.alloc (.cells #[.string ⟨z1.toArray⟩, .int .i64 z2] 63)).drew.heap[w.heap.size]? = some (.cells #[.string ⟨x1.toArray⟩, .string ⟨x2.toArray⟩, .int .i64 x3, .int .i64 x4] 65 (0, 0)) := ((below_one W1 _).block _ hz).trans hx1
    clear hz hx1 b1
    generalize (W1.alloc (.cells #[.string ⟨z1.toArray⟩, .int .i64 z2] 63)).drew = W2 at b2 hx2 ⊢
    cases ig with
    |false =>
     have HR0 := Lib.hid (show r = 6 from HR.out.trans (by rw [if_neg (by simp), if_pos rfl]))
     have HF0 := Lib.hid (show f' = f from HF'.out.trans (if_pos (.inr (.inl rfl))))
     have her := (HG.out _ b2.out).none
     unfold ErrAt at her
     go_wp2_with fail
     go_ret
     rw [HR0.out, HF0.out]
     exact ⟨rfl, HM.out _ b2.out, But.of_below b2.out⟩
    |true =>
     have q21 := HCL.out _ b2.out
     have hlen := fun ty => HLN.out W2 (HM.out _ b2.out) ty
     by_cases hfull : 60 ≤ N
     ·have HR0 := Lib.hid (show r = 8 from HR.out.trans (by rw [if_neg (by simp), if_neg (by simp), if_pos hfull]))
      have HF0 := Lib.hid (show f' = f from HF'.out.trans (if_pos (.inr (.inr hfull))))
      have her := (HG.out _ b2.out).stk.full
      unfold ErrAt at her
      go_wp2_with fail
      go_ret
      rw [HR0.out, HF0.out]
      exact ⟨rfl, HM.out _ b2.out, But.of_below b2.out⟩
     ·have HR0 := Lib.hid (show r = 0 from HR.out.trans (by rw [if_neg (by simp), if_neg (by simp), if_neg hfull]))
      have HF0 := Lib.hid (show f' = fun i => if i = x1 then some (x1, x2, x3, x4) else f i from HF'.out.trans (if_neg (fun e => e.elim (by simp) (fun e => e.elim (by simp) hfull))))
      have q0 : W2.cell? ⟨w.heap.size, 0, none⟩ = some (.string ⟨x1.toArray⟩) := cell_of_row _ _ 0 _ _ _ hx2
      have q1 : W2.cell? ⟨w.heap.size, 1, none⟩ = some (.string ⟨x2.toArray⟩) := cell_of_row _ _ 1 _ _ _ hx2
      have q2 : W2.cell? ⟨w.heap.size, 2, none⟩ = some (.int .i64 x3) := cell_of_row _ _ 2 _ _ _ hx2
      have q3 : W2.cell? ⟨w.heap.size, 3, none⟩ = some (.int .i64 x4) := cell_of_row _ _ 3 _ _ _ hx2
      obtain ⟨v, hS, hM, hT⟩ := HS.out W2.drew (HM.out _ b2.out.drew)
      have HM3 := Lib.hid hM
      have HT3 := Lib.hid hT
      clear hM hT hx2
      go_wp2_with fail
      go_region
      all_goals
       go_wp2_with fail
       go_ret
       rw [HR0.out, HF0.out]
       exact ⟨rfl, HM3.out, (But.of_below b2.out.drew).trans (But.of_turned HT3.out)⟩
end Go.Proofs.YtchiojiicehpeaaGreatDoor
namespace Go.Proofs.YtchiojiicehpeaaGreatDoor
open Go.RowKit Go.Sort Go.Proofs
theorem pieces_n {x : EntV} (h : entE x = 0) (h1 : x.1 ≠ kGoods) (h2 : x.1 ≠ kLot) : 0 ≤ x.2.2.2.2.2 ∧ x.2.2.2.2.2 ≤ 1099511627776 := by
 rcases ent_kinds h with ⟨h3, _⟩ | ⟨h3, _⟩ | ⟨_, _, _, hp⟩
 ·exact absurd h3 h1
 ·exact absurd h3 h2
 ·unfold piecesE at hp
  split at hp
  ·cases hp
  split at hp
  ·rename_i h4; exact absurd hp h4
  split at hp
  ·cases hp
  rename_i h5
  unfold wiB at h5
  simp only [decide_eq_false_iff_not, Classical.not_not] at h5
  omega
end Go.Proofs.YtchiojiicehpeaaGreatDoor
namespace Go.Proofs.YtchiojiicehpeaaGreatDoor
open Go.RowKit Go.Sort Go.Proofs
theorem fL_count {B : BkV} (hI : BkI B) : ∀ m : List (List UInt8 × LotV), (m.map (·.1)).Nodup → (∀ k, mget m k = lotsF B k) → m.length = B.2.1.length := fun m h1 h2 => by
 have := map_count h1 h2 (fun y : LoH => y.1.1) (fun y : LoH => y.1) hI.ls fun k => rfl
 simpa using this.length_eq
theorem fG_count {B : BkV} (hI : BkI B) : ∀ m : List (List UInt8 × GoodsV), (m.map (·.1)).Nodup → (∀ k, mget m k = goodsF B k) → m.length = B.1.length := fun m h1 h2 => by
 have := map_count h1 h2 (fun y : GoS => y.1.1) (fun y : GoS => y.1) hI.gs fun k => rfl
 simpa using this.length_eq
theorem ent_goodsB {w : World} {b : Nat} {x : EntV} (h : Lies w b 0 (encEnt x)) : Lies w b 1 (encGoods x.2.1) := fun j v hv => by
 have hj : j < 2 := (List.getElem?_eq_some_iff.1 hv).1
 have := h (1 + j) v (by match j, hj, hv with | 0, _, hv => exact hv | 1, _, hv => exact hv)
 simpa using this
theorem piecesBk_any (E : Nat → Addr) (p g l h s q c : Nat) (B : BkV) (x : EntV) (w : World) (H : BookM w p g l h s q c B) (hd : [p, g, l, h, s, q, c].Nodup) (hI : BkI B) (hn : 0 ≤ x.2.2.2.2.2 ∧ x.2.2.2.2.2 ≤ 1099511627776) (hG : BkG E w) :
  Calls Tryz.prog 71 #[.pointer (some ⟨p, 0, none⟩), .agg (encEnt x).toArray] w fun e w' => e = .returned (errOf E (pcE B x)) ∧
   (∃ q' c', BookM w' p g l h s q' c' (if pcE B x = 0 then doP B x else B) ∧ ((q' = q ∧ c' = c) ∨ (w.heap.size ≤ q' ∧ w.heap.size ≤ c'))) ∧ ButF [p, h, s] w w' := by
 cases hfl : fL B x.2.2.1.1 with
 |none =>
  refine (pieces_none E p g l h s q c B x w H hfl hG).mono ?_
  rintro e w' ⟨he, hb⟩
  have hp : pcE B x = 6 := by unfold pcE; rw [hfl]
  refine ⟨he, ⟨q, c, ?_, .inl ⟨rfl, rfl⟩⟩, ButF.of_below hb⟩
  rw [if_neg (by rw [hp]; decide)]
  exact H.below hb
 |some y => exact pieces_some E p g l h s q c B x y w H hd hI hfl hn hG
set_option maxHeartbeats 1600000 in
set_option maxRecDepth 100000 in
theorem do_m (E : Nat → Addr) (p g l h s q c : Nat) (B : BkV) (x : EntV) (w : World) (H : BookM w p g l h s q c B) (hd : [p, g, l, h, s, q, c].Nodup) (hI : BkI B) (h1 : x.2.2.1.1.length ≤ 1000000000) (h2 : x.2.2.1.2.1.length ≤ 1000000000) (hG : BkG E w) :
  Calls Tryz.prog 26 #[.pointer (some ⟨p, 0, none⟩), .agg (encEnt x).toArray] w fun e w' => e = .returned (errOf E (doE B x)) ∧
   (∃ q' c', BookM w' p g l h s q' c' (doB B x) ∧ ((q' = q ∧ c' = c) ∨ (w.heap.size ≤ q' ∧ w.heap.size ≤ c'))) ∧ ButF [p, g, l, h, s] w w' := by
 have HCK := Lib.hid (fun W g => checkEnt_c E x h1 h2 W g)
 have HH := Lib.hid (fun W (hb : Below w.heap.size w W) => H.below hb)
 have HG := Lib.hid (fun W (hb : Below w.heap.size w W) => hG.below hb)
 have hrow := heap_alloc_new w (.cells (encEnt x).toArray 67)
 have B0 := Lib.hid (below_one w (.cells (encEnt x).toArray 67))
 have h14 : (encEnt x).length = 14 := rfl
 have hlt := H.lt
 have hps : p < w.heap.size := hlt p (by simp)
 have hgs : g < w.heap.size := hlt g (by simp)
 have hls : l < w.heap.size := hlt l (by simp)
 have hhs : h < w.heap.size := hlt h (by simp)
 have hss : s < w.heap.size := hlt s (by simp)
 have hqs : q < w.heap.size := hlt q (by simp)
 have hcs : c < w.heap.size := hlt c (by simp)
 have hnd := hd
 simp only [List.nodup_cons, List.mem_cons, List.not_mem_nil, or_false, not_or, List.nodup_nil, and_true, not_false_eq_true] at hnd
 have HND := Lib.hid hnd
 have hk0 : (encEnt x)[0]? = some (.string ⟨x.1.toArray⟩) := rfl
 have HEG := Lib.hid (fun (W : World) (b : Nat) (h : Lies W b 0 (encEnt x)) => ent_goodsB h)
 have HEL := Lib.hid (fun (W : World) (b : Nat) (h : Lies W b 0 (encEnt x)) => ent_lot h)
 have hg2 : (encGoods x.2.1).length = 2 := rfl
 have hl4 : (encLot x.2.2.1).length = 4 := rfl
 have HNG := Lib.hid (fun W cp (hf : MapF eGoods W g (goodsF B)) hG => newGoods_any E p g (goodsF B) B.1.length x.2.1 W cp hf (fG_count hI) hG)
 have HNL := Lib.hid (fun W cp cl (hg : MapF eGoods W g (goodsF B)) (hf : MapF eLot W l (lotsF B)) hG => newLot_any E p g l (goodsF B) (lotsF B) B.2.1.length x.2.2.1 W cp cl hg hf (fL_count hI) hG)
 by_cases he : ¬ entE x = 0
 ·have HDE := Lib.hid (show doE B x = entE x by unfold doE; rw [if_pos he])
  have HDB := Lib.hid (show doB B x = B by unfold doB; rw [if_pos (by rw [HDE.out]; exact he)])
  have HEN := Lib.hid he
  rw [HDE.out, HDB.out]
  clear HNG HNL he HDE HDB hG H
  generalize entE x = ee at *
  generalize encEnt x = LX at *
  go_enter Tryz.func26, Tryz.ntmps26
  go_upto_region 1 with fail
  generalize w.alloc (.cells LX.toArray 67) = W0 at hrow B0 ⊢
  have hez := row_lt hrow
  go_wp2_with (refine wpList_load_at rfl 67 _ rfl w.heap.size 0 rfl LX (Lies.row _ hrow) _ Tryz.underlying67 rfl (by rw [h14]; kernel_rfl) ?_)
  refine (HCK.out _ (HG.out _ B0.out).ent).mono ?_
  rintro e w2 ⟨rfl, b2⟩
  have B2 := Lib.hid (B0.out.trans (b2.mono B0.out.size))
  have hr2 := row_below b2 hrow hez
  have H2 := Lib.hid (HH.out _ B2.out)
  have HG2 := Lib.hid (HG.out _ B2.out)
  clear b2 hrow HH HG
  rw [errOf_pos _ _ HEN.out]
  go_wp2_with fail
  go_ret
  rw [errOf_pos _ _ HEN.out]
  exact ⟨rfl, ⟨q, c, H2.out, .inl ⟨rfl, rfl⟩⟩, ButF.of_below B2.out⟩
 have he := Classical.not_not.1 he
 rw [he] at HCK
 by_cases kg : x.1 = kGoods
 ·have HDE := Lib.hid (show doE B x = if (goodsF B x.2.1.1).isSome = true then 7 else if 30 ≤ B.1.length then 8 else 0 by
   unfold doE goodsF
   rw [if_neg (by simpa using he), if_pos kg]
   simp)
  have HDB := Lib.hid (show doB B x = if doE B x ≠ 0 then B else (insG (x.2.1, zeroSums) B.1, B.2.1, B.2.2) by unfold doB; rw [if_pos kg])
  have HIN := Lib.hid (fun hn => hI.goodsF_ins (g := x.2.1) hn)
  have HSI := Lib.hid (fun hn => hI.sumsF_ins (g := x.2.1) hn)
  have HFN := Lib.hid (show (goodsF B x.2.1.1).isSome = true ∨ fG B x.2.1.1 = none by
   unfold goodsF
   cases fG B x.2.1.1 <;> simp)
  rw [kg] at hk0
  obtain ⟨de, hde⟩ : ∃ de, de = doE B x := ⟨_, rfl⟩
  obtain ⟨Bd, hBd⟩ : ∃ Bd, Bd = doB B x := ⟨_, rfl⟩
  rw [← hde] at HDE HDB
  rw [← hBd] at HDB
  rw [← hde, ← hBd]
  clear HNL he hG H kg hde hBd hI
  generalize encGoods x.2.1 = LG at *
  obtain ⟨gc, hgc⟩ : ∃ gc, gc = x.2.1.1 := ⟨_, rfl⟩
  rw [← hgc] at HDE HIN HSI HFN HNG
  have HGC := Lib.hid hgc
  clear hgc
  generalize encEnt x = LX at *
  go_enter Tryz.func26, Tryz.ntmps26
  go_upto_region 1 with fail
  generalize w.alloc (.cells LX.toArray 67) = W0 at hrow B0 ⊢
  have hez := row_lt hrow
  go_wp2_with (refine wpList_load_at rfl 67 _ rfl w.heap.size 0 rfl LX (Lies.row _ hrow) _ Tryz.underlying67 rfl (by rw [h14]; kernel_rfl) ?_)
  refine (HCK.out _ (HG.out _ B0.out).ent).mono ?_
  rintro e w2 ⟨rfl, b2⟩
  have B2 := Lib.hid (B0.out.trans (b2.mono B0.out.size))
  have hr2 := row_below b2 hrow hez
  have H2 := Lib.hid (HH.out _ B2.out)
  have HG2 := Lib.hid (HG.out _ B2.out)
  clear b2 hrow HH HG
  have e0 : w2.cell? ⟨w.heap.size, 0, none⟩ = some (.string ⟨kGoods.toArray⟩) := (cell_of_row _ _ _ _ _ _ hr2).trans (by simpa using hk0)
  simp only [kGoods] at e0
  obtain ⟨⟨cp, -⟩, -⟩ := H2.out.cells
  rw [errOf_zero]
  go_wp2_with (refine wpList_load_at rfl 63 _ rfl w.heap.size 1 rfl LG (HEG.out w2 _ (Lies.row _ hr2)) _ Tryz.underlying63 rfl (by rw [hg2]; kernel_rfl) ?_)
  refine (HNG.out w2 cp H2.out.goods HG2.out).mono ?_
  rintro e w3 ⟨rfl, hm3, t3⟩
  have HM3 := Lib.hid hm3
  have T3 := Lib.hid t3
  clear hm3 t3 HNG
  rw [← HDE.out]
  go_wp2_with fail
  go_ret
  have hnd := HND.out
  have keep : ∀ k, k < w.heap.size → k ≠ g → w3.heap[k]? = w2.heap[k]? := fun k h1 h2 => T3.out.block k (Nat.lt_of_lt_of_le h1 B2.out.size) h2
  have hB : BookM w3 p g l h s q c Bd := by
   rw [HDB.out]
   by_cases hz : de = 0
   ·have hc : ¬ ((goodsF B gc).isSome = true ∨ 30 ≤ B.1.length) := fun e => by
     have h1 := HDE.out
     rw [hz] at h1
     rcases e with e | e
     ·rw [if_pos e] at h1; cases h1
     ·rw [if_pos e] at h1
      split at h1 <;> cases h1
    have hm := HM3.out
    rw [if_neg hc] at hm
    have hnn : fG B gc = none := HFN.out.resolve_left fun e => hc (.inl e)
    rw [if_neg (by simpa using hz)]
    exact ⟨(keep p hps (by omega)).trans H2.out.own, hm.congr (HIN.out hnn), H2.out.lots.keep (keep l hls (by omega)), H2.out.held.keep (keep h hhs (by omega)), (H2.out.sums.keep (keep s hss (by omega))).congr (HSI.out hnn), H2.out.stk.keep (keep q hqs (by omega)) (keep c hcs (by omega))⟩
   ·have hc : (goodsF B gc).isSome = true ∨ 30 ≤ B.1.length := by
     have h1 := HDE.out
     split at h1
     ·rename_i h2; exact .inl h2
     ·split at h1
      ·rename_i h2; exact .inr h2
      ·exact absurd h1 hz
    have hm := HM3.out
    rw [if_pos hc] at hm
    rw [if_pos (by simpa using hz)]
    exact ⟨(keep p hps (by omega)).trans H2.out.own, hm, H2.out.lots.keep (keep l hls (by omega)), H2.out.held.keep (keep h hhs (by omega)), H2.out.sums.keep (keep s hss (by omega)), H2.out.stk.keep (keep q hqs (by omega)) (keep c hcs (by omega))⟩
  exact ⟨rfl, ⟨q, c, hB, .inl ⟨rfl, rfl⟩⟩, (ButF.of_below B2.out).trans (ButF.of_but (F := [g]) T3.out (.inl (by simp))) (by simp)⟩
 have bg : (x.1 == [103, 111, 111, 100, 115]) = false := by simpa [kGoods] using kg
 by_cases kl : x.1 = kLot
 ·have HDE := Lib.hid (show doE B x = if (lotsF B x.2.2.1.1).isSome = true then 7 else if (goodsF B x.2.2.1.2.1).isSome = false then 6 else if 60 ≤ B.2.1.length then 8 else 0 by
   unfold doE goodsF lotsF
   rw [if_neg (by simpa using he), if_neg kg, if_pos kl]
   simp)
  have HDB := Lib.hid (show doB B x = if doE B x ≠ 0 then B else (B.1, insLo (x.2.2.1, 0) B.2.1, B.2.2) by unfold doB; rw [if_neg kg, if_pos kl])
  have HIN := Lib.hid (fun hn => hI.lotsF_ins (l := x.2.2.1) hn)
  have HSI := Lib.hid (fun hn => hI.heldF_ins (l := x.2.2.1) hn)
  have HFN := Lib.hid (show (lotsF B x.2.2.1.1).isSome = true ∨ fL B x.2.2.1.1 = none by
   unfold lotsF
   cases fL B x.2.2.1.1 <;> simp)
  rw [kl] at hk0
  obtain ⟨de, hde⟩ : ∃ de, de = doE B x := ⟨_, rfl⟩
  obtain ⟨Bd, hBd⟩ : ∃ Bd, Bd = doB B x := ⟨_, rfl⟩
  rw [← hde] at HDE HDB
  rw [← hBd] at HDB
  rw [← hde, ← hBd]
  clear HNG he hG H kg kl bg hde hBd hI
  generalize encLot x.2.2.1 = LG at *
  obtain ⟨gc, hgc⟩ : ∃ gc, gc = x.2.2.1.1 := ⟨_, rfl⟩
  rw [← hgc] at HDE HIN HSI HFN HNL
  have HGC := Lib.hid hgc
  clear hgc
  generalize encEnt x = LX at *
  go_enter Tryz.func26, Tryz.ntmps26
  go_upto_region 1 with fail
  generalize w.alloc (.cells LX.toArray 67) = W0 at hrow B0 ⊢
  have hez := row_lt hrow
  go_wp2_with (refine wpList_load_at rfl 67 _ rfl w.heap.size 0 rfl LX (Lies.row _ hrow) _ Tryz.underlying67 rfl (by rw [h14]; kernel_rfl) ?_)
  refine (HCK.out _ (HG.out _ B0.out).ent).mono ?_
  rintro e w2 ⟨rfl, b2⟩
  have B2 := Lib.hid (B0.out.trans (b2.mono B0.out.size))
  have hr2 := row_below b2 hrow hez
  have H2 := Lib.hid (HH.out _ B2.out)
  have HG2 := Lib.hid (HG.out _ B2.out)
  clear b2 hrow HH HG
  have e0 : w2.cell? ⟨w.heap.size, 0, none⟩ = some (.string ⟨kLot.toArray⟩) := (cell_of_row _ _ _ _ _ _ hr2).trans (by simpa using hk0)
  simp only [kLot] at e0
  obtain ⟨⟨cp, cl, -⟩, -⟩ := H2.out.cells
  rw [errOf_zero]
  go_wp2_with (refine wpList_load_at rfl 65 _ rfl w.heap.size 3 rfl LG (HEL.out w2 _ (Lies.row _ hr2)) _ Tryz.underlying65 rfl (by rw [hl4]; kernel_rfl) ?_)
  refine (HNL.out w2 cp cl H2.out.goods H2.out.lots HG2.out).mono ?_
  rintro e w3 ⟨rfl, hm3, t3⟩
  have HM3 := Lib.hid hm3
  have T3 := Lib.hid t3
  clear hm3 t3 HNL
  rw [← HDE.out]
  go_wp2_with fail
  go_ret
  have hnd := HND.out
  have keep : ∀ k, k < w.heap.size → k ≠ l → w3.heap[k]? = w2.heap[k]? := fun k h1 h2 => T3.out.block k (Nat.lt_of_lt_of_le h1 B2.out.size) h2
  have hB : BookM w3 p g l h s q c Bd := by
   rw [HDB.out]
   by_cases hz : de = 0
   ·have hc : ¬ ((lotsF B gc).isSome = true ∨ (goodsF B x.2.2.1.2.1).isSome = false ∨ 60 ≤ B.2.1.length) := fun e => by
     have h1 := HDE.out
     rw [hz] at h1
     rcases e with e | e | e
     ·rw [if_pos e] at h1; cases h1
     ·rw [if_pos e] at h1
      split at h1 <;> cases h1
     ·rw [if_pos e] at h1
      split at h1
      ·cases h1
      ·split at h1 <;> cases h1
    have hm := HM3.out
    rw [if_neg hc] at hm
    have hnn : fL B gc = none := HFN.out.resolve_left fun e => hc (.inl e)
    rw [if_neg (by simpa using hz)]
    exact ⟨(keep p hps (by omega)).trans H2.out.own, H2.out.goods.keep (keep g hgs (by omega)), hm.congr (HIN.out hnn), (H2.out.held.keep (keep h hhs (by omega))).congr (HSI.out hnn), H2.out.sums.keep (keep s hss (by omega)), H2.out.stk.keep (keep q hqs (by omega)) (keep c hcs (by omega))⟩
   ·have hc : (lotsF B gc).isSome = true ∨ (goodsF B x.2.2.1.2.1).isSome = false ∨ 60 ≤ B.2.1.length := by
     have h1 := HDE.out
     split at h1
     ·rename_i h2; exact .inl h2
     ·split at h1
      ·rename_i h2; exact .inr (.inl h2)
      ·split at h1
       ·rename_i h2; exact .inr (.inr h2)
       ·exact absurd h1 hz
    have hm := HM3.out
    rw [if_pos hc] at hm
    rw [if_pos (by simpa using hz)]
    exact ⟨(keep p hps (by omega)).trans H2.out.own, H2.out.goods.keep (keep g hgs (by omega)), hm, H2.out.held.keep (keep h hhs (by omega)), H2.out.sums.keep (keep s hss (by omega)), H2.out.stk.keep (keep q hqs (by omega)) (keep c hcs (by omega))⟩
  exact ⟨rfl, ⟨q, c, hB, .inl ⟨rfl, rfl⟩⟩, (ButF.of_below B2.out).trans (ButF.of_but (F := [l]) T3.out (.inl (by simp))) (by simp)⟩
 have bl : (x.1 == [108, 111, 116]) = false := by simpa [kLot] using kl
 ·have HDE := Lib.hid (show doE B x = pcE B x by unfold doE; rw [if_neg (by simpa using he), if_neg kg, if_neg kl])
  have HDB := Lib.hid (show doB B x = if pcE B x = 0 then doP B x else B by
   unfold doB
   rw [HDE.out, if_neg kg, if_neg kl]
   by_cases hz : pcE B x = 0 <;> simp [hz])
  have HPC := Lib.hid (fun W (k : BookM W p g l h s q c B) hG => piecesBk_any E p g l h s q c B x W k hd hI (pieces_n he kg kl) hG)
  rw [HDE.out]
  rw [← HDB.out] at HPC
  clear HNG HNL he hG H kg kl HDE HDB hI
  generalize pcE B x = pc at *
  generalize doB B x = Bd at *
  generalize x.1 = k at *
  generalize encEnt x = LX at *
  go_enter Tryz.func26, Tryz.ntmps26
  go_upto_region 1 with fail
  generalize w.alloc (.cells LX.toArray 67) = W0 at hrow B0 ⊢
  have hez := row_lt hrow
  go_wp2_with (refine wpList_load_at rfl 67 _ rfl w.heap.size 0 rfl LX (Lies.row _ hrow) _ Tryz.underlying67 rfl (by rw [h14]; kernel_rfl) ?_)
  refine (HCK.out _ (HG.out _ B0.out).ent).mono ?_
  rintro e w2 ⟨rfl, b2⟩
  have B2 := Lib.hid (B0.out.trans (b2.mono B0.out.size))
  have hr2 := row_below b2 hrow hez
  have H2 := Lib.hid (HH.out _ B2.out)
  have HG2 := Lib.hid (HG.out _ B2.out)
  clear b2 hrow HH HG
  have e0 : w2.cell? ⟨w.heap.size, 0, none⟩ = some (.string ⟨k.toArray⟩) := (cell_of_row _ _ _ _ _ _ hr2).trans (by simpa using hk0)
  rw [errOf_zero]
  go_wp2_with (refine wpList_load_at rfl 67 _ rfl w.heap.size 0 rfl LX (Lies.row _ hr2) _ Tryz.underlying67 rfl (by rw [h14]; kernel_rfl) ?_)
  refine (HPC.out w2 H2.out HG2.out).mono ?_
  rintro e w3 ⟨rfl, ⟨q', c', hB, hqc⟩, t3⟩
  have HB3 := Lib.hid hB
  have T3 := Lib.hid t3
  clear hB t3 HPC
  go_wp2_with fail
  go_ret
  have hz2 := B2.out.size
  exact ⟨rfl, ⟨q', c', HB3.out, by omega⟩, (ButF.of_below B2.out).trans T3.out (by simp)⟩
theorem List.mem_of_subset_app {p g l h s q c i : Nat} (hi : i ∈ [p, g, l, h, s]) : i ∈ [p, g, l, h, s, q, c] := by
 rw [show [p, g, l, h, s, q, c] = [p, g, l, h, s] ++ [q, c] from rfl]
 exact List.mem_append_left _ hi
theorem do_any (E : Nat → Addr) {p : Nat} {F : List Nat} {B : BkV} (x : EntV) {w : World} (H : BookIs w p F B) (hI : BkI B) (h1 : x.2.2.1.1.length ≤ 1000000000) (h2 : x.2.2.1.2.1.length ≤ 1000000000) (hG : BkG E w) :
  Calls Tryz.prog 26 #[.pointer (some ⟨p, 0, none⟩), .agg (encEnt x).toArray] w fun e w' => e = .returned (errOf E (doE B x)) ∧
   (∃ F', BookIs w' p F' (doB B x) ∧ ∀ k ∈ F', k ∈ F ∨ w.heap.size ≤ k) ∧ ButF F w w' := by
 obtain ⟨g, l, h, s, q, c, rfl, hd, hm⟩ := H
 have hlt := hm.lt
 refine (do_m E p g l h s q c B x w hm hd hI h1 h2 hG).mono ?_
 rintro e w' ⟨he, ⟨q', c', hB, hqc⟩, hb⟩
 refine ⟨he, ⟨[p, g, l, h, s, q', c'], ⟨g, l, h, s, q', c', rfl, ?_, hB⟩, ?_⟩, hb.mono (fun i hi => .inl (List.mem_of_subset_app hi))⟩
 ·have hne := hB.stk.ne
  rcases hqc with ⟨rfl, rfl⟩ | ⟨n1, n2⟩
  ·exact hd
  ·have n3 : ∀ k, k < w.heap.size → ¬ k = q' ∧ ¬ k = c' := fun k hk => ⟨by omega, by omega⟩
   have a1 := n3 p (hlt p (by simp))
   have a2 := n3 g (hlt g (by simp))
   have a3 := n3 l (hlt l (by simp))
   have a4 := n3 h (hlt h (by simp))
   have a5 := n3 s (hlt s (by simp))
   simp only [List.nodup_cons, List.mem_cons, List.not_mem_nil, or_false, not_or, List.nodup_nil, and_true, not_false_eq_true] at hd ⊢
   obtain ⟨⟨d1, d2, d3, d4, -, -⟩, ⟨e1, e2, e3, -, -⟩, ⟨f1, f2, -, -⟩, ⟨g1, -, -⟩, -, -⟩ := hd
   exact ⟨⟨d1, d2, d3, d4, a1.1, a1.2⟩, ⟨e1, e2, e3, a2.1, a2.2⟩, ⟨f1, f2, a3.1, a3.2⟩, ⟨g1, a4.1, a4.2⟩, ⟨a5.1, a5.2⟩, hne⟩
 ·intro k hk
  simp only [List.mem_cons, List.not_mem_nil, or_false] at hk ⊢
  rcases hk with rfl | rfl | rfl | rfl | rfl | rfl | rfl
  ·exact .inl (.inl rfl)
  ·exact .inl (.inr (.inl rfl))
  ·exact .inl (.inr (.inr (.inl rfl)))
  ·exact .inl (.inr (.inr (.inr (.inl rfl))))
  ·exact .inl (.inr (.inr (.inr (.inr (.inl rfl)))))
  ·rcases hqc with ⟨rfl, rfl⟩ | ⟨n1, n2⟩
   ·exact .inl (.inr (.inr (.inr (.inr (.inr (.inl rfl))))))
   ·exact .inr n1
  ·rcases hqc with ⟨rfl, rfl⟩ | ⟨n1, n2⟩
   ·exact .inl (.inr (.inr (.inr (.inr (.inr (.inr rfl))))))
   ·exact .inr n2
end Go.Proofs.YtchiojiicehpeaaGreatDoor
