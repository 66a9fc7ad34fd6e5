/- The document's book: Do, at pieces. Printed by gen/bkrp.py. -/
import Derived.Test.YteaalifehokgoaaGreatDoorM29
import Derived.Test.YteaalifehokgoaaGreatDoorM30
import Derived.Test.YteaalifehokgoaaGreatDoorM20
import Derived.Test.YteaalifehokgoaaGreatDoorM21
import Derived.Deep.DeepCutAuto
import Derived.Deep.CutBlock
namespace Go.Proofs.YteaalifehokgoaaGreatDoor
open Go.RowKit Go.Sort Go.Proofs
theorem len3b {L : List Value} (h : L.length = 3) : ∃ a b c, L = [a, b, c] := by
 match L, h with
 |[a, b, c], _ => exact ⟨a, b, c, rfl⟩
theorem RowAt.cellK {α : Type} {enc : α → List Value} {k : Nat} {w : World} {b o : Nat} {xs : List α} (h : RowAt enc k w (some ⟨b, o, none⟩) xs) {i : Nat} (hi : i < xs.length) {c : Nat} {v : Value} (hv : (enc xs[i])[c]? = some v) : w.cell? ⟨b, o + i * k + c, none⟩ = some v ∧ b < w.heap.size := by
 rcases h with h | ⟨b', o', h1, h2, h3⟩
 ·rw [h] at hi; simp at hi
 ·cases h1
  exact ⟨h3 i hi c v hv, h2⟩
set_option maxHeartbeats 1600000 in
set_option maxRecDepth 100000 in
theorem refDo_pnone (q : Nat) (vG vL : Value) (A : Option Addr) (cap : Nat) (B : BkV) (x : EntV) (w : World) (H : MBkM w q vG vL A cap B) (hI : BkI B) (hs : ShortE x) (he : entE x = 0) (hk1 : x.1 ≠ kGoods) (hk2 : x.1 ≠ kLot) (hfl : fL B x.2.2.1.1 = none) :
  Calls Tryz.prog 25 #[.pointer (some ⟨q, 0, none⟩), .agg (encEnt x).toArray] w fun e w' => e = .returned (.int .i64 (6 : Nat)) ∧ Below w.heap.size w w' := by
 have HEE := Lib.hid (fun W => refEntE_any x W hs)
 rw [he] at HEE
 have hrow := heap_alloc_new w (.cells (encEnt x).toArray 43)
 have B0 := Lib.hid (below_one w (.cells (encEnt x).toArray 43))
 have h14 : (encEnt x).length = 14 := rfl
 have hql := (H.lt q (by simp))
 obtain ⟨AL, cL, hvL, hrL, -⟩ := RowAt.of_own encLoH_len H.lots
 have hlf := hI.lfew
 have HFL := Lib.hid (fun W c0 hr => findL_any q AL cL B.2.1 x.2.2.1.1 W c0 hr (by omega))
 have hix : idxK (fun y : LoH => y.1.1) B.2.1 x.2.2.1.1 = -1 := by
  rcases idxK_find (fun y : LoH => y.1.1) B.2.1 x.2.2.1.1 with ⟨_, f2⟩ | ⟨i, hi, f1, _⟩
  ·exact f2
  ·have : fL B x.2.2.1.1 = some B.2.1[i] := f1
   rw [hfl] at this
   cases this
 rw [hix] at HFL
 have hown := H.own
 rw [hvL] at hown
 have HQ := Lib.hid (fun W (hb : Below w.heap.size w W) => (hb.block q hql).trans hown)
 have HRL := Lib.hid (fun W (hb : Below w.heap.size w W) => hrL.below hb)
 have hc0 : (encEnt x)[0]? = some (.string ⟨x.1.toArray⟩) := rfl
 have hc3 : (encEnt x)[3]? = some (.string ⟨x.2.2.1.1.toArray⟩) := rfl
 have b1 : (x.1 == [103, 111, 111, 100, 115]) = false := by simpa [kGoods] using hk1
 have b2 : (x.1 == [108, 111, 116]) = false := by simpa [kLot] using hk2
 obtain ⟨NL, hNL⟩ : ∃ N, N = B.2.1.length := ⟨_, rfl⟩
 rw [← hNL] at HFL HQ
 clear hs he hI H hown hrL hvL hix hfl hk1 hk2 hNL hlf
 generalize B.2.2.length = NS at *
 generalize x.2.2.1.1 = id at *
 generalize encEnt x = LX at *
 generalize x.1 = k at *
 go_enter Tryz.func25, Tryz.ntmps25
 go_wp2_with (refine wpList_load_at rfl 43 _ rfl w.heap.size 0 rfl LX (Lies.row _ hrow) _ Tryz.underlying43 rfl (by rw [h14]; kernel_rfl) ?_)
 refine (HEE.out _).mono ?_
 rintro e w1 ⟨rfl, bb1⟩
 have B1 := Lib.hid (B0.out.trans (bb1.mono B0.out.size))
 have hr1 := row_below bb1 hrow (by simp)
 have e0 : w1.cell? ⟨w.heap.size, 0, none⟩ = some (.string ⟨k.toArray⟩) := (cell_of_row _ _ _ _ _ _ hr1).trans (by simpa using hc0)
 have e3 : w1.cell? ⟨w.heap.size, 3, none⟩ = some (.string ⟨id.toArray⟩) := (cell_of_row _ _ _ _ _ _ hr1).trans (by simpa using hc3)
 have cq := cell_of_row _ _ 1 _ _ _ (HQ.out _ B1.out)
 clear bb1 hrow hr1 hc0 hc3 HEE
 go_wp2_with fail
 refine (HFL.out w1 cq (HRL.out _ B1.out)).mono ?_
 rintro e w2 ⟨rfl, bb2⟩
 have B2 := Lib.hid (B1.out.trans (bb2.mono B1.out.size))
 clear bb2 HFL
 go_wp2_with fail
 go_ret
 exact ⟨rfl, B2.out⟩
set_option maxHeartbeats 8000000 in
set_option maxRecDepth 100000 in
theorem refDo_p (q : Nat) (vG vL : Value) (A : Option Addr) (cap : Nat) (B : BkV) (x : EntV) (y : LoH) (w : World) (H : MBkM w q vG vL A cap B) (hqd : (q :: (blockL vG ++ blockL vL)).Nodup) (hR : ∀ k ∈ rowB A B.2.2, k ∉ q :: (blockL vG ++ blockL vL)) (hI : BkI B) (hs : ShortE x) (he : entE x = 0) (hk1 : x.1 ≠ kGoods) (hk2 : x.1 ≠ kLot)
  (hfl : fL B x.2.2.1.1 = some y) (hn : 0 ≤ x.2.2.2.2.2 ∧ x.2.2.2.2.2 ≤ 1099511627776) :
  Calls Tryz.prog 25 #[.pointer (some ⟨q, 0, none⟩), .agg (encEnt x).toArray] w fun e w' => e = .returned (.int .i64 (pcE B x : Nat)) ∧
   ((pcE B x ≠ 0 ∧ Below w.heap.size w w') ∨ (pcE B x = 0 ∧ ∃ A' cap', MBkM w' q vG vL A' cap' (doP B x) ∧ (∀ k ∈ rowB A' (actM B.2.2 x), k ∈ rowB A B.2.2 ∨ w.heap.size ≤ k) ∧ ButF (q :: (blockL vG ++ blockL vL)) w w')) := by
 obtain ⟨hco, hho, gv, hgv, hsm, hok⟩ := hI.lot_goods hfl
 have hyi := (fL_mem hfl).2
 have hh1 : y.2 ≤ 1099511627776 := Nat.le_trans (hI.lok y (fL_mem hfl).1).2.1 (hI.stk.few _)
 have HEE := Lib.hid (fun W => refEntE_any x W hs)
 rw [he] at HEE
 have hrow := heap_alloc_new w (.cells (encEnt x).toArray 43)
 have B0 := Lib.hid (below_one w (.cells (encEnt x).toArray 43))
 have h14 : (encEnt x).length = 14 := rfl
 have hql := (H.lt q (by simp))
 have hlf := hI.lfew
 have hgf := hI.gfew
 obtain ⟨ki, hki, hyk, hixL⟩ : ∃ i, ∃ h : i < B.2.1.length, y = B.2.1[i] ∧ idxK (fun y : LoH => y.1.1) B.2.1 x.2.2.1.1 = i := by
  rcases idxK_find (fun y : LoH => y.1.1) B.2.1 x.2.2.1.1 with ⟨f1, _⟩ | ⟨i, hi, f1, f2, _⟩
  ·have : fL B x.2.2.1.1 = none := f1
   rw [hfl] at this
   cases this
  ·have : fL B x.2.2.1.1 = some B.2.1[i] := f1
   rw [hfl] at this
   exact ⟨i, hi, Option.some.inj this, f2⟩
 obtain ⟨gj, hgj, hgk, hixG⟩ : ∃ i, ∃ h : i < B.1.length, gv = B.1[i] ∧ idxK (fun y : GoS => y.1.1) B.1 y.1.2.1 = i := by
  rcases idxK_find (fun y : GoS => y.1.1) B.1 y.1.2.1 with ⟨f1, _⟩ | ⟨i, hi, f1, f2, _⟩
  ·have : fG B y.1.2.1 = none := f1
   rw [hgv] at this
   cases this
  ·have : fG B y.1.2.1 = some B.1[i] := f1
   rw [hgv] at this
   exact ⟨i, hi, Option.some.inj this, f2⟩
 obtain ⟨AG, cG, hvG, hrG, -⟩ := RowAt.of_own encGoS_len H.goods
 obtain ⟨AL, cL, hvL, hrL, -⟩ := RowAt.of_own encLoH_len H.lots
 obtain ⟨gG, rfl⟩ := (own_form H.goods hvG).resolve_left (fun e => by omega)
 obtain ⟨gL, rfl⟩ := (own_form H.lots hvL).resolve_left (fun e => by omega)
 obtain ⟨oG, hoG⟩ : ∃ z : Nat, z = 0 := ⟨_, rfl⟩
 obtain ⟨oL, hoL⟩ : ∃ z : Nat, z = 0 := ⟨_, rfl⟩
 have HO := Lib.hid (And.intro hoG hoL)
 rw [← hoG] at hvG hrG
 rw [← hoL] at hvL hrL
 have HFL := Lib.hid (fun W c0 hr => findL_any q (some ⟨gL, oL, none⟩) cL B.2.1 x.2.2.1.1 W c0 hr (by omega))
 have HFG := Lib.hid (fun W c0 hr => findG_any q (some ⟨gG, oG, none⟩) cG B.1 y.1.2.1 W c0 hr (by omega))
 rw [hixL] at HFL
 rw [hixG] at HFG
 have hown := H.own
 rw [hvL, hvG] at hown
 have HQ := Lib.hid (fun W (hb : Below w.heap.size w W) => (hb.block q hql).trans hown)
 have HRL := Lib.hid (fun W (hb : Below w.heap.size w W) => hrL.below hb)
 have HRG := Lib.hid (fun W (hb : Below w.heap.size w W) => hrG.below hb)
 have HRS := Lib.hid (fun W (hb : Below w.heap.size w W) => H.lines.below hb)
 have HL1 : Hid (∀ W, Below w.heap.size w W → W.cell? ⟨gL, oL + ki * 5 + 1, none⟩ = some (.string ⟨y.1.2.1.toArray⟩) ∧ W.cell? ⟨gL, oL + ki * 5 + 4, none⟩ = some (.int .i64 (y.2 : Nat))) := fun W hb =>
  ⟨((HRL.out W hb).cellK hki (c := 1) (by rw [← hyk]; rfl)).1, ((HRL.out W hb).cellK hki (c := 4) (by rw [← hyk]; rfl)).1⟩
 have HG2 : Hid (∀ W, Below w.heap.size w W → Lies W gG (oG + gj * 6 + 2) (encSums gv.2)) := fun W hb j v hv => by
  have hj : j < 4 := (List.getElem?_eq_some_iff.1 hv).1
  rw [Nat.add_assoc]
  exact ((HRG.out W hb).cellK hgj (c := 2 + j) (by rw [← hgk]; match j, hj, hv with | 0, _, hv => exact hv | 1, _, hv => exact hv | 2, _, hv => exact hv | 3, _, hv => exact hv)).1
 have HPT := Lib.hid (fun W (hb : Below w.heap.size w W) => (refPut_m hI.stk A cap W (H.lines.below hb) x.2.2.2.2.1 x.2.2.1.1 x.2.2.2.2.2 (by have := hs.2.2.2.2; omega) (by have := hs.2.1; omega)).mono fun _ _ h => h.len2)
 have HTK := Lib.hid (fun W (hb : Below w.heap.size w W) => (refTake_m hI.stk A cap W (H.lines.below hb) x.2.2.2.1 x.2.2.1.1 x.2.2.2.2.2).mono fun _ _ h => h.len2)
 have HMV := Lib.hid (fun W (hb : Below w.heap.size w W) => (refMove_m hI.stk A cap W (H.lines.below hb) x.2.2.2.1 x.2.2.2.2.1 x.2.2.1.1 x.2.2.2.2.2 (by have := hs.2.2.2.2; omega) (by have := hs.2.1; omega)).mono fun _ _ h => h.len2)
 have hI2 : StkI (actM B.2.2 x) := hI.stk.act x
 have HOF := Lib.hid (fun A2 c2 W (hr : RowAt encLine 5 W A2 (linesM (actM B.2.2 x))) => refOf_m hI2 A2 c2 W hr x.2.2.1.1)
 have hgc := (fG_mem hgv).2
 have HDG := Lib.hid (show (doP B x).1 = B.1.set gj (gv.1, summ gv.2 x) by
  have h1 := map_set (fun z : GoS => z.1.1) hI.gs hgj (fun z => (z.1, summ gv.2 x))
  rw [← hgk] at h1
  rw [← h1]
  show setG _ _ _ = _
  unfold setG
  rw [hco, hsm, ← hgc])
 have HDL := Lib.hid (show (doP B x).2.1 = B.2.1.set ki (y.1, (heldN y.2 x).toNat) by
  have h1 := map_set (fun z : LoH => z.1.1) hI.ls hki (fun z => (z.1, (heldN y.2 x).toNat))
  rw [← hyk] at h1
  rw [← h1]
  show setLo _ _ _ = _
  unfold setLo
  rw [hho, ← hyi])
 have HDQ := Lib.hid (show (doP B x).2.2 = actM B.2.2 x from rfl)
 have HPC := Lib.hid (show pcE B x = if actE B.2.2 x ≠ 0 then actE B.2.2 x else if heldN y.2 x < 0 ∨ (ofM (actM B.2.2 x) x.2.2.1.1 : Int) < heldN y.2 x then 9 else if overS (summ gv.2 x) = true then 2 else 0 by
  unfold pcE
  rw [hfl]
  simp only
  rw [hsm])
 have HK0 := Lib.hid (show actE B.2.2 x = if x.1 = kIn ∨ x.1 = kMore then putE B.2.2 x.2.2.2.2.1 x.2.2.1.1 x.2.2.2.2.2 else if x.1 = kOut ∨ x.1 = kLess then takeE B.2.2 x.2.2.2.1 x.2.2.1.1 x.2.2.2.2.2 else if x.1 = kMove then moveE B.2.2 x.2.2.2.1 x.2.2.2.2.1 x.2.2.1.1 x.2.2.2.2.2 else 0 from rfl)
 have HM2 := Lib.hid (show actM B.2.2 x = if x.1 = kIn ∨ x.1 = kMore then putM B.2.2 x.2.2.2.2.1 x.2.2.1.1 x.2.2.2.2.2 else if x.1 = kOut ∨ x.1 = kLess then takeM B.2.2 x.2.2.2.1 x.2.2.1.1 x.2.2.2.2.2 else if x.1 = kMove then moveM B.2.2 x.2.2.2.1 x.2.2.2.2.1 x.2.2.1.1 x.2.2.2.2.2 else B.2.2 from rfl)
 have HHN := Lib.hid (show heldN y.2 x = if x.1 = kHold then (y.2 : Int) + x.2.2.2.2.2 else if x.1 = kFree then (y.2 : Int) - x.2.2.2.2.2 else y.2 from rfl)
 have HSN := Lib.hid (show summ gv.2 x = if x.1 = kIn then (gv.2.1 + x.2.2.2.2.2, gv.2.2.1, gv.2.2.2.1, gv.2.2.2.2) else if x.1 = kOut then (gv.2.1, gv.2.2.1 + x.2.2.2.2.2, gv.2.2.2.1, gv.2.2.2.2) else if x.1 = kMore then (gv.2.1, gv.2.2.1, gv.2.2.2.1 + x.2.2.2.2.2, gv.2.2.2.2) else if x.1 = kLess then (gv.2.1, gv.2.2.1, gv.2.2.2.1, gv.2.2.2.2 + x.2.2.2.2.2) else gv.2 from rfl)
 have HOV : Hid (overS (summ gv.2 x) = (decide (mostS < (summ gv.2 x).1) || decide (mostS < (summ gv.2 x).2.1) || decide (mostS < (summ gv.2 x).2.2.1) || decide (mostS < (summ gv.2 x).2.2.2))) := rfl
 have HYK := Lib.hid (show encLoH B.2.1[ki] = encLot y.1 ++ [.int .i64 (y.2 : Nat)] by rw [← hyk]; rfl)
 have HGK := Lib.hid (show encGoS B.1[gj] = encGoods gv.1 ++ encSums gv.2 by rw [← hgk]; rfl)
 have HYN := Lib.hid (fun hv : Nat => show encLoH (y.1, hv) = encLot y.1 ++ [.int .i64 (hv : Nat)] from rfl)
 have HGN := Lib.hid (fun s : SumsV => show encGoS (gv.1, s) = encGoods gv.1 ++ encSums s from rfl)
 have HYL := Lib.hid (encLot_len y.1)
 have hgo := H.goods
 have hlo := H.lots
 rw [hvG, hoG] at hgo
 rw [hvL, hoL] at hlo
 have HGO := Lib.hid hgo
 have HLO := Lib.hid hlo
 have HQD := Lib.hid (show q ≠ gG ∧ q ≠ gL ∧ gG ≠ gL by
  rw [hvG, hvL] at hqd
  simp [blockL, Value.ownBlock] at hqd
  omega)
 have HBL := Lib.hid (show blockL vG = [gG] ∧ blockL vL = [gL] by
  rw [hvG, hvL]
  exact ⟨rfl, rfl⟩)
 have HVG := Lib.hid hvG
 have HVL := Lib.hid hvL
 have HRR := Lib.hid hR
 have hc0 : (encEnt x)[0]? = some (.string ⟨x.1.toArray⟩) := rfl
 have hc3 : (encEnt x)[3]? = some (.string ⟨x.2.2.1.1.toArray⟩) := rfl
 have hc13 : (encEnt x)[13]? = some (.int .i64 x.2.2.2.2.2) := rfl
 have HFR := Lib.hid (fun (W : World) (b : Nat) (h : Lies W b 0 (encEnt x)) => ent_from h)
 have HTO := Lib.hid (fun (W : World) (b : Nat) (h : Lies W b 0 (encEnt x)) => ent_to h)
 have h3f : (encPlace x.2.2.2.1).length = 3 := rfl
 have h3t : (encPlace x.2.2.2.2.1).length = 3 := rfl
 have b1 : (x.1 == [103, 111, 111, 100, 115]) = false := by simpa [kGoods] using hk1
 have b2 : (x.1 == [108, 111, 116]) = false := by simpa [kLot] using hk2
 have HMLN := Lib.hid (linesM_len B.2.2)
 obtain ⟨NL, hNL⟩ : ∃ N, N = B.2.1.length := ⟨_, rfl⟩
 obtain ⟨NG, hNG⟩ : ∃ N, N = B.1.length := ⟨_, rfl⟩
 obtain ⟨NS, hNS⟩ : ∃ N, N = B.2.2.length := ⟨_, rfl⟩
 have HNL := Lib.hid hNL
 have HNG := Lib.hid hNG
 have HNS := Lib.hid hNS
 have i1 : ((ki : Nat) : Int) < (NL : Nat) := by omega
 have i2 : ((gj : Nat) : Int) < (NG : Nat) := by omega
 rw [← hNL, ← hNG] at HQ
 rw [← hNL] at HFL
 rw [← hNG] at HFG
 rw [← hNS] at HQ HPT HTK HMV HMLN
 obtain ⟨q1, q2, q3, q4, q5, q6, q7, q8⟩ := hok
 have hmost : mostS = 65970697666560 := rfl
 rw [hmost] at q2 q4 q6 q8
 clear hs he hI hI2 H hown hrL hrG hvL hvG hixL hixG hfl hk1 hk2 hNL hNG hNS hlf hgf hqd hR hgo hlo hho hco hgv hsm hyi hgc hyk hgk hoG hoL hmost
 generalize putE B.2.2 x.2.2.2.2.1 x.2.2.1.1 x.2.2.2.2.2 = kp at *
 generalize putM B.2.2 x.2.2.2.2.1 x.2.2.1.1 x.2.2.2.2.2 = mp at *
 generalize takeE B.2.2 x.2.2.2.1 x.2.2.1.1 x.2.2.2.2.2 = kt at *
 generalize takeM B.2.2 x.2.2.2.1 x.2.2.1.1 x.2.2.2.2.2 = mt at *
 generalize moveE B.2.2 x.2.2.2.1 x.2.2.2.2.1 x.2.2.1.1 x.2.2.2.2.2 = kv at *
 generalize moveM B.2.2 x.2.2.2.1 x.2.2.2.2.1 x.2.2.1.1 x.2.2.2.2.2 = mv at *
 generalize actE B.2.2 x = k0 at *
 generalize actM B.2.2 x = m2 at *
 generalize heldN y.2 x = hN at *
 generalize summ gv.2 x = sN at *
 generalize gv.2 = sO at *
 generalize pcE B x = pc at *
 generalize doP B x = Bd at *
 generalize overS sN = ov at *
 generalize ofM m2 x.2.2.1.1 = oo at *
 generalize encPlace x.2.2.2.1 = LF at *
 generalize encPlace x.2.2.2.2.1 = LT at *
 generalize encEnt x = LX at *
 generalize x.1 = k at *
 generalize x.2.2.2.2.2 = n at *
 generalize x.2.2.1.1 = id at *
 generalize encLot y.1 = LY at *
 generalize encGoods gv.1 = LG1 at *
 generalize y.1.2.1 = code at *
 generalize y.2 = hO at *
 obtain ⟨t1, t2, t3, t4⟩ := sN
 obtain ⟨o1, o2, o3, o4⟩ := sO
 simp only [encSums] at HG2 HGK
 simp only at HOV HSN q1 q2 q3 q4 q5 q6 q7 q8
 obtain ⟨hn0, hn1⟩ := hn
 go_enter Tryz.func25, Tryz.ntmps25
 go_upto_region 1 with fail
 generalize w.alloc (.cells LX.toArray 43) = W0 at hrow B0 ⊢
 have hez : w.heap.size < W0.heap.size := row_lt hrow
 go_wp2_with (refine wpList_load_at rfl 43 _ rfl w.heap.size 0 rfl LX (Lies.row _ hrow) _ Tryz.underlying43 rfl (by rw [h14]; kernel_rfl) ?_)
 refine (HEE.out _).mono ?_
 rintro e w1 ⟨rfl, bb1⟩
 have B1 := Lib.hid (B0.out.trans (bb1.mono B0.out.size))
 have hr1 := row_below bb1 hrow hez
 have e0 : w1.cell? ⟨w.heap.size, 0, none⟩ = some (.string ⟨k.toArray⟩) := (cell_of_row _ _ _ _ _ _ hr1).trans (by simpa using hc0)
 have e3 : w1.cell? ⟨w.heap.size, 3, none⟩ = some (.string ⟨id.toArray⟩) := (cell_of_row _ _ _ _ _ _ hr1).trans (by simpa using hc3)
 have cq := cell_of_row _ _ 1 _ _ _ (HQ.out _ B1.out)
 clear bb1 hrow HEE hez
 go_wp2_with fail
 refine (HFL.out w1 cq (HRL.out _ B1.out)).mono ?_
 rintro e w2 ⟨rfl, bb2⟩
 have B2 := Lib.hid (B1.out.trans (bb2.mono B1.out.size))
 have hr2 := row_below bb2 hr1 (row_lt hr1)
 have cq1 := cell_of_row _ _ 1 _ _ _ (HQ.out _ B2.out)
 have cq0 := cell_of_row _ _ 0 _ _ _ (HQ.out _ B2.out)
 have hpi : ¬ ((ki : Nat) : Int) < 0 := by omega
 obtain ⟨l1, -⟩ := HL1.out _ B2.out
 clear bb2 HFL e0 e3 cq hr1 B1 B0
 go_wp2_with fail
 refine (HFG.out w2 cq0 (HRG.out _ B2.out)).mono ?_
 rintro e w3 ⟨rfl, bb3⟩
 have B3 := Lib.hid (B2.out.trans (bb3.mono B2.out.size))
 have hr3 := row_below bb3 hr2 (row_lt hr2)
 have cq0 := cell_of_row _ _ 0 _ _ _ (HQ.out _ B3.out)
 have cq1 := cell_of_row _ _ 1 _ _ _ (HQ.out _ B3.out)
 have hg2 := Lib.hid (HG2.out _ B3.out)
 have hz3 := row_lt hr3
 have bz := Lib.hid (below_one w3 (.cells #[.int .i64 0, .int .i64 0, .int .i64 0, .int .i64 0] 119))
 clear bb3 HFG hr2 B2 l1
 go_upto_region 38 with (first | (refine wpList_load_at rfl 119 _ rfl gG (oG + gj * 6 + 2) rfl [.int .i64 o1, .int .i64 o2, .int .i64 o3, .int .i64 o4] hg2.out _ Tryz.underlying119 rfl (by kernel_rfl) ?_) | (refine wpList_store_box rfl 119 _ _ rfl w3.heap.size [.int .i64 o1, .int .i64 o2, .int .i64 o3, .int .i64 o4] rfl rfl _ [.int .i64 0, .int .i64 0, .int .i64 0, .int .i64 0] (heap_alloc_new w3 _) (by kernel_rfl) rfl (encSums_one (o1, o2, o3, o4)) ?_; intro w4 h4 tu4))
 have bn4 := bz.out.trans (tu4.below (Nat.le_refl _))
 have B4 := Lib.hid (B3.out.trans (bn4.mono B3.out.size))
 have he4 := row_below bn4 hr3 hz3
 obtain ⟨mb, hmb⟩ : ∃ mb, mb = w3.heap.size := ⟨_, rfl⟩
 rw [← hmb] at h4 hz3 ⊢
 clear hmb bn4 tu4 bz hg2 cq0 cq1 hr3
 have cq1 := cell_of_row _ _ 1 _ _ _ (HQ.out _ B4.out)
 have cq2 := cell_of_row _ _ 2 _ _ _ (HQ.out _ B4.out)
 obtain ⟨-, l4⟩ := HL1.out _ B4.out
 have hz4 := row_lt h4
 have bk := below_one w4 (.cells #[.slice A NS cap] 69)
 have B5 := Lib.hid (B4.out.trans (bk.mono B4.out.size))
 have he5 := row_below bk he4 (row_lt he4)
 have hm5 := row_below bk h4 hz4
 have hk5 := heap_alloc_new w4 (.cells #[.slice A NS cap] 69)
 clear bk B3 h4 he4
 go_upto_region 40 with fail
 generalize w4.alloc (.cells #[.slice A NS cap] 69) = w5 at B5 he5 hm5 hk5 ⊢
 obtain ⟨kb, hkb⟩ : ∃ kb, kb = w4.heap.size := ⟨_, rfl⟩
 rw [← hkb] at hk5 hz4 ⊢
 clear hkb cq1 cq2 l4
 have e0 : w5.cell? ⟨w.heap.size, 0, none⟩ = some (.string ⟨k.toArray⟩) := (cell_of_row _ _ _ _ _ _ he5).trans (by simpa using hc0)
 have e13 : w5.cell? ⟨w.heap.size, 13, none⟩ = some (.int .i64 n) := (cell_of_row _ _ _ _ _ _ he5).trans (by simpa using hc13)
 have hz5 := row_lt hk5
 obtain ⟨⟨z0, z1, z2, z3⟩, -⟩ := row4f hm5
 as_aux_lemma =>
 go_upto_block 4 with fail
 go_cut [5, 14] (fun s5 s14 wx => s5 = .int .i64 (k0 : Nat) ∧ s14 = .int .i64 hN ∧ (∃ A2 c2, wx.heap[kb]? = some (.cells #[.slice A2 m2.length c2] 69 (0, 0)) ∧ (k0 = 0 → RowAt encLine 5 wx A2 (linesM m2) ∧ ((A2 = A ∧ m2 = B.2.2) ∨ ∀ a, A2 = some a → w.heap.size ≤ a.block))) ∧ wx.heap[mb]? = some (.cells #[.int .i64 t1, .int .i64 t2, .int .i64 t3, .int .i64 t4] 119 (0, 0)) ∧ Below w.heap.size w wx ∧ wx.heap[w.heap.size]? = some (.cells LX.toArray 43 (0, 0)))
 case first =>
  clear HDG HDL HDQ HPC HOV HYK HGK HYN HGN HYL HGO HLO HVG HVL HRR HOF HL1 HG2 HRG HRL HO HBL
  have hqk : q < w.heap.size := hql
  have hd := (Below.refl w5.heap.size w5).drew
  by_cases j0 : k = kIn
  ·as_aux_lemma =>
    have J0 := Lib.hid j0
    have i10 : (k == [105, 110]) = true := by rw [j0]; rfl
    clear j0
    have HKk := Lib.hid (show k0 = kp from HK0.out.trans (by rw [if_pos (.inl J0.out)]))
    have HMm := Lib.hid (show m2 = mp from HM2.out.trans (by rw [if_pos (.inl J0.out)]))
    have HHh := Lib.hid (show hN = (hO : Int) from HHN.out.trans (by rw [if_neg (by rw [J0.out]; decide), if_neg (by rw [J0.out]; decide)]))
    have hsn : ((o1 + n, o2, o3, o4) : SumsV) = (t1, t2, t3, t4) := (HSN.out.trans (by rw [if_pos J0.out])).symm
    simp only [Prod.mk.injEq] at hsn
    obtain ⟨rfl, rfl, rfl, rfl⟩ := hsn
    clear HK0 HM2 HHN HSN
    obtain ⟨ta, tb, tc, rfl⟩ := len3b h3t
    have HUP : Hid (∀ W : World, Below w5.heap.size w5 W → W.cell? ⟨q, 2, none⟩ = some (.slice A NS cap) ∧ W.cell? ⟨w.heap.size, 10, none⟩ = some ta ∧ W.cell? ⟨w.heap.size, 11, none⟩ = some tb ∧ W.cell? ⟨w.heap.size, 12, none⟩ = some tc ∧ W.cell? ⟨w.heap.size, 13, none⟩ = some (.int .i64 n)) := fun W hb => by
     have hB := B5.out.trans (hb.mono B5.out.size)
     have hr := row_below hb he5 (row_lt he5)
     exact ⟨cell_of_row _ _ 2 _ _ _ (HQ.out W hB), (HTO.out W _ (Lies.row _ hr)) 0 _ rfl, (HTO.out W _ (Lies.row _ hr)) 1 _ rfl, (HTO.out W _ (Lies.row _ hr)) 2 _ rfl, (cell_of_row _ _ _ _ _ _ hr).trans (by simpa using hc13)⟩
    have HUS : Hid (∀ (W : World) (u : Value), Below w5.heap.size w5 W → (W.setCell ⟨kb, 0, none⟩ u).cell? ⟨q, 2, none⟩ = some (.slice A NS cap) ∧ (W.setCell ⟨kb, 0, none⟩ u).cell? ⟨w.heap.size, 10, none⟩ = some ta ∧ (W.setCell ⟨kb, 0, none⟩ u).cell? ⟨w.heap.size, 11, none⟩ = some tb ∧ (W.setCell ⟨kb, 0, none⟩ u).cell? ⟨w.heap.size, 12, none⟩ = some tc ∧ (W.setCell ⟨kb, 0, none⟩ u).cell? ⟨w.heap.size, 13, none⟩ = some (.int .i64 n)) := fun W u hb => by
     obtain ⟨x0, x1, x2, x3, x4⟩ := HUP.out W hb
     exact ⟨cell_set_other x0 (by omega), cell_set_other x1 (by omega), cell_set_other x2 (by omega), cell_set_other x3 (by omega), cell_set_other x4 (by omega)⟩
    clear e0 e13
    go_wp2_with fail
    go_region_held3 (fun W => W.cell? ⟨q, 2, none⟩ = some (.slice A NS cap) ∧ W.cell? ⟨w.heap.size, 10, none⟩ = some ta ∧ W.cell? ⟨w.heap.size, 11, none⟩ = some tb ∧ W.cell? ⟨w.heap.size, 12, none⟩ = some tc ∧ W.cell? ⟨w.heap.size, 13, none⟩ = some (.int .i64 n))
     (first | exact HUP.out _ hd | exact HUP.out _ kk | exact HUS.out _ _ kk | go_keep)
     (first | (go_at_call 73; refine (HPT.out _ (B5.out.drew)).mono ?_; rintro e v ⟨A2, c2, rfl, hr2, hf2, bb⟩; have kk := hd.trans (bb.mono hd.size); have hkv := row_below kk hk5 hz5; have kc : v.cell? ⟨kb, 0, none⟩ = some (.slice A NS cap) := cell_of_row _ _ 0 _ _ _ hkv; have kf := frozen_of_row _ _ 0 _ _ hkv))
    all_goals
     have hk6 := set_row hkv (.slice A2 mp.length c2)
     have hm6 := (Below.heap_setCell v ⟨kb, 0, none⟩ (.slice A2 mp.length c2) mb (by show mb ≠ kb; omega)).trans (row_below kk hm5 (row_lt hm5))
     have he6 := (Below.heap_setCell v ⟨kb, 0, none⟩ (.slice A2 mp.length c2) w.heap.size (by show w.heap.size ≠ kb; omega)).trans (row_below kk he5 (row_lt he5))
     have B6 := Lib.hid ((B5.out.trans (kk.mono B5.out.size)).setCell (p := ⟨kb, 0, none⟩) (by show _ ≤ kb; omega) (.slice A2 mp.length c2))
     have HR2 := Lib.hid hr2
     have HF2 := Lib.hid (fun h0 a ha => Nat.le_trans hd.size (hf2 h0 a ha))
     have HB6 := Lib.hid (fun i (h : i ≠ kb) => Below.heap_setCell v ⟨kb, 0, none⟩ (.slice A2 mp.length c2) i h)
     have HZ6 := Lib.hid (show v.heap.size ≤ (v.setCell ⟨kb, 0, none⟩ (.slice A2 mp.length c2)).heap.size by simp [World.setCell])
     clear hr2 hf2 hkv kc kf bb kk hd hm5 hk5 he5 z0 z1 z2 z3 HUP HUS
     generalize v.setCell ⟨kb, 0, none⟩ (.slice A2 mp.length c2) = W6 at hk6 hm6 he6 B6 HB6 HZ6 ⊢
     have e13 : W6.cell? ⟨w.heap.size, 13, none⟩ = some (.int .i64 n) := (cell_of_row _ _ _ _ _ _ he6).trans (by simpa using hc13)
     obtain ⟨⟨z0, z1, z2, z3⟩, -⟩ := row4f hm6
     have hw : IntKind.i64.wrap (o1 + n) = o1 + n := wrap_small (by omega) (by omega)
     go_wp2_with (refine wpList_store_val rfl 3 _ _ rfl mb 0 (.int .i64 (o1 + n)) rfl rfl rfl _ [.int .i64 o1, .int .i64 o2, .int .i64 o3, .int .i64 o4] hm6 (by kernel_rfl) (Nat.le_of_ble_eq_true rfl) rfl ?_; intro w7 hm7 tu7)
     go_meet
     exact ⟨by rw [HKk.out], by rw [HHh.out], ⟨A2, c2, by rw [HMm.out]; exact tu7.heap hk6 (by omega), fun h0 => ⟨by rw [HMm.out]; exact HR2.out.keepB (Nat.le_trans HZ6.out (Nat.le_of_eq tu7.size.symm)) fun a ha => by have := HF2.out (HKk.out.symm.trans h0) a ha; exact (tu7.block _ (by omega)).trans (HB6.out _ (by omega)), .inr fun a ha => by have := HF2.out (HKk.out.symm.trans h0) a ha; have := B5.out.size; omega⟩⟩, hm7, B6.out.trans (tu7.below (by omega)), tu7.heap he6 (by omega)⟩
  have J0 := Lib.hid j0
  have i10 : (k == [105, 110]) = false := by simpa [kIn] using j0
  clear j0
  by_cases j1 : k = kMore
  ·as_aux_lemma =>
    have J1 := Lib.hid j1
    have i11 : (k == [109, 111, 114, 101]) = true := by rw [j1]; rfl
    clear j1
    have HKk := Lib.hid (show k0 = kp from HK0.out.trans (by rw [if_pos (.inr J1.out)]))
    have HMm := Lib.hid (show m2 = mp from HM2.out.trans (by rw [if_pos (.inr J1.out)]))
    have HHh := Lib.hid (show hN = (hO : Int) from HHN.out.trans (by rw [if_neg (by rw [J1.out]; decide), if_neg (by rw [J1.out]; decide)]))
    have hsn : ((o1, o2, o3 + n, o4) : SumsV) = (t1, t2, t3, t4) := (HSN.out.trans (by rw [if_neg (by rw [J1.out]; decide), if_neg (by rw [J1.out]; decide), if_pos J1.out])).symm
    simp only [Prod.mk.injEq] at hsn
    obtain ⟨rfl, rfl, rfl, rfl⟩ := hsn
    clear HK0 HM2 HHN HSN
    obtain ⟨ta, tb, tc, rfl⟩ := len3b h3t
    have HUP : Hid (∀ W : World, Below w5.heap.size w5 W → W.cell? ⟨q, 2, none⟩ = some (.slice A NS cap) ∧ W.cell? ⟨w.heap.size, 10, none⟩ = some ta ∧ W.cell? ⟨w.heap.size, 11, none⟩ = some tb ∧ W.cell? ⟨w.heap.size, 12, none⟩ = some tc ∧ W.cell? ⟨w.heap.size, 13, none⟩ = some (.int .i64 n)) := fun W hb => by
     have hB := B5.out.trans (hb.mono B5.out.size)
     have hr := row_below hb he5 (row_lt he5)
     exact ⟨cell_of_row _ _ 2 _ _ _ (HQ.out W hB), (HTO.out W _ (Lies.row _ hr)) 0 _ rfl, (HTO.out W _ (Lies.row _ hr)) 1 _ rfl, (HTO.out W _ (Lies.row _ hr)) 2 _ rfl, (cell_of_row _ _ _ _ _ _ hr).trans (by simpa using hc13)⟩
    have HUS : Hid (∀ (W : World) (u : Value), Below w5.heap.size w5 W → (W.setCell ⟨kb, 0, none⟩ u).cell? ⟨q, 2, none⟩ = some (.slice A NS cap) ∧ (W.setCell ⟨kb, 0, none⟩ u).cell? ⟨w.heap.size, 10, none⟩ = some ta ∧ (W.setCell ⟨kb, 0, none⟩ u).cell? ⟨w.heap.size, 11, none⟩ = some tb ∧ (W.setCell ⟨kb, 0, none⟩ u).cell? ⟨w.heap.size, 12, none⟩ = some tc ∧ (W.setCell ⟨kb, 0, none⟩ u).cell? ⟨w.heap.size, 13, none⟩ = some (.int .i64 n)) := fun W u hb => by
     obtain ⟨x0, x1, x2, x3, x4⟩ := HUP.out W hb
     exact ⟨cell_set_other x0 (by omega), cell_set_other x1 (by omega), cell_set_other x2 (by omega), cell_set_other x3 (by omega), cell_set_other x4 (by omega)⟩
    clear e0 e13
    go_wp2_with fail
    go_region_held3 (fun W => W.cell? ⟨q, 2, none⟩ = some (.slice A NS cap) ∧ W.cell? ⟨w.heap.size, 10, none⟩ = some ta ∧ W.cell? ⟨w.heap.size, 11, none⟩ = some tb ∧ W.cell? ⟨w.heap.size, 12, none⟩ = some tc ∧ W.cell? ⟨w.heap.size, 13, none⟩ = some (.int .i64 n))
     (first | exact HUP.out _ hd | exact HUP.out _ kk | exact HUS.out _ _ kk | go_keep)
     (first | (go_at_call 73; refine (HPT.out _ (B5.out.drew)).mono ?_; rintro e v ⟨A2, c2, rfl, hr2, hf2, bb⟩; have kk := hd.trans (bb.mono hd.size); have hkv := row_below kk hk5 hz5; have kc : v.cell? ⟨kb, 0, none⟩ = some (.slice A NS cap) := cell_of_row _ _ 0 _ _ _ hkv; have kf := frozen_of_row _ _ 0 _ _ hkv))
    all_goals
     have hk6 := set_row hkv (.slice A2 mp.length c2)
     have hm6 := (Below.heap_setCell v ⟨kb, 0, none⟩ (.slice A2 mp.length c2) mb (by show mb ≠ kb; omega)).trans (row_below kk hm5 (row_lt hm5))
     have he6 := (Below.heap_setCell v ⟨kb, 0, none⟩ (.slice A2 mp.length c2) w.heap.size (by show w.heap.size ≠ kb; omega)).trans (row_below kk he5 (row_lt he5))
     have B6 := Lib.hid ((B5.out.trans (kk.mono B5.out.size)).setCell (p := ⟨kb, 0, none⟩) (by show _ ≤ kb; omega) (.slice A2 mp.length c2))
     have HR2 := Lib.hid hr2
     have HF2 := Lib.hid (fun h0 a ha => Nat.le_trans hd.size (hf2 h0 a ha))
     have HB6 := Lib.hid (fun i (h : i ≠ kb) => Below.heap_setCell v ⟨kb, 0, none⟩ (.slice A2 mp.length c2) i h)
     have HZ6 := Lib.hid (show v.heap.size ≤ (v.setCell ⟨kb, 0, none⟩ (.slice A2 mp.length c2)).heap.size by simp [World.setCell])
     clear hr2 hf2 hkv kc kf bb kk hd hm5 hk5 he5 z0 z1 z2 z3 HUP HUS
     generalize v.setCell ⟨kb, 0, none⟩ (.slice A2 mp.length c2) = W6 at hk6 hm6 he6 B6 HB6 HZ6 ⊢
     have e13 : W6.cell? ⟨w.heap.size, 13, none⟩ = some (.int .i64 n) := (cell_of_row _ _ _ _ _ _ he6).trans (by simpa using hc13)
     obtain ⟨⟨z0, z1, z2, z3⟩, -⟩ := row4f hm6
     have hw : IntKind.i64.wrap (o3 + n) = o3 + n := wrap_small (by omega) (by omega)
     go_wp2_with (refine wpList_store_val rfl 3 _ _ rfl mb 2 (.int .i64 (o3 + n)) rfl rfl rfl _ [.int .i64 o1, .int .i64 o2, .int .i64 o3, .int .i64 o4] hm6 (by kernel_rfl) (Nat.le_of_ble_eq_true rfl) rfl ?_; intro w7 hm7 tu7)
     go_meet
     exact ⟨by rw [HKk.out], by rw [HHh.out], ⟨A2, c2, by rw [HMm.out]; exact tu7.heap hk6 (by omega), fun h0 => ⟨by rw [HMm.out]; exact HR2.out.keepB (Nat.le_trans HZ6.out (Nat.le_of_eq tu7.size.symm)) fun a ha => by have := HF2.out (HKk.out.symm.trans h0) a ha; exact (tu7.block _ (by omega)).trans (HB6.out _ (by omega)), .inr fun a ha => by have := HF2.out (HKk.out.symm.trans h0) a ha; have := B5.out.size; omega⟩⟩, hm7, B6.out.trans (tu7.below (by omega)), tu7.heap he6 (by omega)⟩
  have J1 := Lib.hid j1
  have i11 : (k == [109, 111, 114, 101]) = false := by simpa [kMore] using j1
  clear j1
  by_cases j2 : k = kOut
  ·as_aux_lemma =>
    have J2 := Lib.hid j2
    have i12 : (k == [111, 117, 116]) = true := by rw [j2]; rfl
    clear j2
    have HKk := Lib.hid (show k0 = kt from HK0.out.trans (by rw [if_neg (fun e => e.elim J0.out J1.out), if_pos (.inl J2.out)]))
    have HMm := Lib.hid (show m2 = mt from HM2.out.trans (by rw [if_neg (fun e => e.elim J0.out J1.out), if_pos (.inl J2.out)]))
    have HHh := Lib.hid (show hN = (hO : Int) from HHN.out.trans (by rw [if_neg (by rw [J2.out]; decide), if_neg (by rw [J2.out]; decide)]))
    have hsn : ((o1, o2 + n, o3, o4) : SumsV) = (t1, t2, t3, t4) := (HSN.out.trans (by rw [if_neg (by rw [J2.out]; decide), if_pos J2.out])).symm
    simp only [Prod.mk.injEq] at hsn
    obtain ⟨rfl, rfl, rfl, rfl⟩ := hsn
    clear HK0 HM2 HHN HSN
    obtain ⟨fa, fb, fc, rfl⟩ := len3b h3f
    have HUP : Hid (∀ W : World, Below w5.heap.size w5 W → W.cell? ⟨q, 2, none⟩ = some (.slice A NS cap) ∧ W.cell? ⟨w.heap.size, 7, none⟩ = some fa ∧ W.cell? ⟨w.heap.size, 8, none⟩ = some fb ∧ W.cell? ⟨w.heap.size, 9, none⟩ = some fc ∧ W.cell? ⟨w.heap.size, 13, none⟩ = some (.int .i64 n)) := fun W hb => by
     have hB := B5.out.trans (hb.mono B5.out.size)
     have hr := row_below hb he5 (row_lt he5)
     exact ⟨cell_of_row _ _ 2 _ _ _ (HQ.out W hB), (HFR.out W _ (Lies.row _ hr)) 0 _ rfl, (HFR.out W _ (Lies.row _ hr)) 1 _ rfl, (HFR.out W _ (Lies.row _ hr)) 2 _ rfl, (cell_of_row _ _ _ _ _ _ hr).trans (by simpa using hc13)⟩
    have HUS : Hid (∀ (W : World) (u : Value), Below w5.heap.size w5 W → (W.setCell ⟨kb, 0, none⟩ u).cell? ⟨q, 2, none⟩ = some (.slice A NS cap) ∧ (W.setCell ⟨kb, 0, none⟩ u).cell? ⟨w.heap.size, 7, none⟩ = some fa ∧ (W.setCell ⟨kb, 0, none⟩ u).cell? ⟨w.heap.size, 8, none⟩ = some fb ∧ (W.setCell ⟨kb, 0, none⟩ u).cell? ⟨w.heap.size, 9, none⟩ = some fc ∧ (W.setCell ⟨kb, 0, none⟩ u).cell? ⟨w.heap.size, 13, none⟩ = some (.int .i64 n)) := fun W u hb => by
     obtain ⟨x0, x1, x2, x3, x4⟩ := HUP.out W hb
     exact ⟨cell_set_other x0 (by omega), cell_set_other x1 (by omega), cell_set_other x2 (by omega), cell_set_other x3 (by omega), cell_set_other x4 (by omega)⟩
    clear e0 e13
    go_wp2_with fail
    go_region_held3 (fun W => W.cell? ⟨q, 2, none⟩ = some (.slice A NS cap) ∧ W.cell? ⟨w.heap.size, 7, none⟩ = some fa ∧ W.cell? ⟨w.heap.size, 8, none⟩ = some fb ∧ W.cell? ⟨w.heap.size, 9, none⟩ = some fc ∧ W.cell? ⟨w.heap.size, 13, none⟩ = some (.int .i64 n))
     (first | exact HUP.out _ hd | exact HUP.out _ kk | exact HUS.out _ _ kk | go_keep)
     (first | (go_at_call 74; refine (HTK.out _ (B5.out.drew)).mono ?_; rintro e v ⟨A2, c2, rfl, hr2, hf2, bb⟩; have kk := hd.trans (bb.mono hd.size); have hkv := row_below kk hk5 hz5; have kc : v.cell? ⟨kb, 0, none⟩ = some (.slice A NS cap) := cell_of_row _ _ 0 _ _ _ hkv; have kf := frozen_of_row _ _ 0 _ _ hkv))
    all_goals
     have hk6 := set_row hkv (.slice A2 mt.length c2)
     have hm6 := (Below.heap_setCell v ⟨kb, 0, none⟩ (.slice A2 mt.length c2) mb (by show mb ≠ kb; omega)).trans (row_below kk hm5 (row_lt hm5))
     have he6 := (Below.heap_setCell v ⟨kb, 0, none⟩ (.slice A2 mt.length c2) w.heap.size (by show w.heap.size ≠ kb; omega)).trans (row_below kk he5 (row_lt he5))
     have B6 := Lib.hid ((B5.out.trans (kk.mono B5.out.size)).setCell (p := ⟨kb, 0, none⟩) (by show _ ≤ kb; omega) (.slice A2 mt.length c2))
     have HR2 := Lib.hid hr2
     have HF2 := Lib.hid (fun h0 a ha => Nat.le_trans hd.size (hf2 h0 a ha))
     have HB6 := Lib.hid (fun i (h : i ≠ kb) => Below.heap_setCell v ⟨kb, 0, none⟩ (.slice A2 mt.length c2) i h)
     have HZ6 := Lib.hid (show v.heap.size ≤ (v.setCell ⟨kb, 0, none⟩ (.slice A2 mt.length c2)).heap.size by simp [World.setCell])
     clear hr2 hf2 hkv kc kf bb kk hd hm5 hk5 he5 z0 z1 z2 z3 HUP HUS
     generalize v.setCell ⟨kb, 0, none⟩ (.slice A2 mt.length c2) = W6 at hk6 hm6 he6 B6 HB6 HZ6 ⊢
     have e13 : W6.cell? ⟨w.heap.size, 13, none⟩ = some (.int .i64 n) := (cell_of_row _ _ _ _ _ _ he6).trans (by simpa using hc13)
     obtain ⟨⟨z0, z1, z2, z3⟩, -⟩ := row4f hm6
     have hw : IntKind.i64.wrap (o2 + n) = o2 + n := wrap_small (by omega) (by omega)
     go_wp2_with (refine wpList_store_val rfl 3 _ _ rfl mb 1 (.int .i64 (o2 + n)) rfl rfl rfl _ [.int .i64 o1, .int .i64 o2, .int .i64 o3, .int .i64 o4] hm6 (by kernel_rfl) (Nat.le_of_ble_eq_true rfl) rfl ?_; intro w7 hm7 tu7)
     go_meet
     exact ⟨by rw [HKk.out], by rw [HHh.out], ⟨A2, c2, by rw [HMm.out]; exact tu7.heap hk6 (by omega), fun h0 => ⟨by rw [HMm.out]; exact HR2.out.keepB (Nat.le_trans HZ6.out (Nat.le_of_eq tu7.size.symm)) fun a ha => by have := HF2.out (HKk.out.symm.trans h0) a ha; exact (tu7.block _ (by omega)).trans (HB6.out _ (by omega)), .inr fun a ha => by have := HF2.out (HKk.out.symm.trans h0) a ha; have := B5.out.size; omega⟩⟩, hm7, B6.out.trans (tu7.below (by omega)), tu7.heap he6 (by omega)⟩
  have J2 := Lib.hid j2
  have i12 : (k == [111, 117, 116]) = false := by simpa [kOut] using j2
  clear j2
  by_cases j3 : k = kLess
  ·as_aux_lemma =>
    have J3 := Lib.hid j3
    have i13 : (k == [108, 101, 115, 115]) = true := by rw [j3]; rfl
    clear j3
    have HKk := Lib.hid (show k0 = kt from HK0.out.trans (by rw [if_neg (fun e => e.elim J0.out J1.out), if_pos (.inr J3.out)]))
    have HMm := Lib.hid (show m2 = mt from HM2.out.trans (by rw [if_neg (fun e => e.elim J0.out J1.out), if_pos (.inr J3.out)]))
    have HHh := Lib.hid (show hN = (hO : Int) from HHN.out.trans (by rw [if_neg (by rw [J3.out]; decide), if_neg (by rw [J3.out]; decide)]))
    have hsn : ((o1, o2, o3, o4 + n) : SumsV) = (t1, t2, t3, t4) := (HSN.out.trans (by rw [if_neg (by rw [J3.out]; decide), if_neg (by rw [J3.out]; decide), if_neg (by rw [J3.out]; decide), if_pos J3.out])).symm
    simp only [Prod.mk.injEq] at hsn
    obtain ⟨rfl, rfl, rfl, rfl⟩ := hsn
    clear HK0 HM2 HHN HSN
    obtain ⟨fa, fb, fc, rfl⟩ := len3b h3f
    have HUP : Hid (∀ W : World, Below w5.heap.size w5 W → W.cell? ⟨q, 2, none⟩ = some (.slice A NS cap) ∧ W.cell? ⟨w.heap.size, 7, none⟩ = some fa ∧ W.cell? ⟨w.heap.size, 8, none⟩ = some fb ∧ W.cell? ⟨w.heap.size, 9, none⟩ = some fc ∧ W.cell? ⟨w.heap.size, 13, none⟩ = some (.int .i64 n)) := fun W hb => by
     have hB := B5.out.trans (hb.mono B5.out.size)
     have hr := row_below hb he5 (row_lt he5)
     exact ⟨cell_of_row _ _ 2 _ _ _ (HQ.out W hB), (HFR.out W _ (Lies.row _ hr)) 0 _ rfl, (HFR.out W _ (Lies.row _ hr)) 1 _ rfl, (HFR.out W _ (Lies.row _ hr)) 2 _ rfl, (cell_of_row _ _ _ _ _ _ hr).trans (by simpa using hc13)⟩
    have HUS : Hid (∀ (W : World) (u : Value), Below w5.heap.size w5 W → (W.setCell ⟨kb, 0, none⟩ u).cell? ⟨q, 2, none⟩ = some (.slice A NS cap) ∧ (W.setCell ⟨kb, 0, none⟩ u).cell? ⟨w.heap.size, 7, none⟩ = some fa ∧ (W.setCell ⟨kb, 0, none⟩ u).cell? ⟨w.heap.size, 8, none⟩ = some fb ∧ (W.setCell ⟨kb, 0, none⟩ u).cell? ⟨w.heap.size, 9, none⟩ = some fc ∧ (W.setCell ⟨kb, 0, none⟩ u).cell? ⟨w.heap.size, 13, none⟩ = some (.int .i64 n)) := fun W u hb => by
     obtain ⟨x0, x1, x2, x3, x4⟩ := HUP.out W hb
     exact ⟨cell_set_other x0 (by omega), cell_set_other x1 (by omega), cell_set_other x2 (by omega), cell_set_other x3 (by omega), cell_set_other x4 (by omega)⟩
    clear e0 e13
    go_wp2_with fail
    go_region_held3 (fun W => W.cell? ⟨q, 2, none⟩ = some (.slice A NS cap) ∧ W.cell? ⟨w.heap.size, 7, none⟩ = some fa ∧ W.cell? ⟨w.heap.size, 8, none⟩ = some fb ∧ W.cell? ⟨w.heap.size, 9, none⟩ = some fc ∧ W.cell? ⟨w.heap.size, 13, none⟩ = some (.int .i64 n))
     (first | exact HUP.out _ hd | exact HUP.out _ kk | exact HUS.out _ _ kk | go_keep)
     (first | (go_at_call 74; refine (HTK.out _ (B5.out.drew)).mono ?_; rintro e v ⟨A2, c2, rfl, hr2, hf2, bb⟩; have kk := hd.trans (bb.mono hd.size); have hkv := row_below kk hk5 hz5; have kc : v.cell? ⟨kb, 0, none⟩ = some (.slice A NS cap) := cell_of_row _ _ 0 _ _ _ hkv; have kf := frozen_of_row _ _ 0 _ _ hkv))
    all_goals
     have hk6 := set_row hkv (.slice A2 mt.length c2)
     have hm6 := (Below.heap_setCell v ⟨kb, 0, none⟩ (.slice A2 mt.length c2) mb (by show mb ≠ kb; omega)).trans (row_below kk hm5 (row_lt hm5))
     have he6 := (Below.heap_setCell v ⟨kb, 0, none⟩ (.slice A2 mt.length c2) w.heap.size (by show w.heap.size ≠ kb; omega)).trans (row_below kk he5 (row_lt he5))
     have B6 := Lib.hid ((B5.out.trans (kk.mono B5.out.size)).setCell (p := ⟨kb, 0, none⟩) (by show _ ≤ kb; omega) (.slice A2 mt.length c2))
     have HR2 := Lib.hid hr2
     have HF2 := Lib.hid (fun h0 a ha => Nat.le_trans hd.size (hf2 h0 a ha))
     have HB6 := Lib.hid (fun i (h : i ≠ kb) => Below.heap_setCell v ⟨kb, 0, none⟩ (.slice A2 mt.length c2) i h)
     have HZ6 := Lib.hid (show v.heap.size ≤ (v.setCell ⟨kb, 0, none⟩ (.slice A2 mt.length c2)).heap.size by simp [World.setCell])
     clear hr2 hf2 hkv kc kf bb kk hd hm5 hk5 he5 z0 z1 z2 z3 HUP HUS
     generalize v.setCell ⟨kb, 0, none⟩ (.slice A2 mt.length c2) = W6 at hk6 hm6 he6 B6 HB6 HZ6 ⊢
     have e13 : W6.cell? ⟨w.heap.size, 13, none⟩ = some (.int .i64 n) := (cell_of_row _ _ _ _ _ _ he6).trans (by simpa using hc13)
     obtain ⟨⟨z0, z1, z2, z3⟩, -⟩ := row4f hm6
     have hw : IntKind.i64.wrap (o4 + n) = o4 + n := wrap_small (by omega) (by omega)
     go_wp2_with (refine wpList_store_val rfl 3 _ _ rfl mb 3 (.int .i64 (o4 + n)) rfl rfl rfl _ [.int .i64 o1, .int .i64 o2, .int .i64 o3, .int .i64 o4] hm6 (by kernel_rfl) (Nat.le_of_ble_eq_true rfl) rfl ?_; intro w7 hm7 tu7)
     go_meet
     exact ⟨by rw [HKk.out], by rw [HHh.out], ⟨A2, c2, by rw [HMm.out]; exact tu7.heap hk6 (by omega), fun h0 => ⟨by rw [HMm.out]; exact HR2.out.keepB (Nat.le_trans HZ6.out (Nat.le_of_eq tu7.size.symm)) fun a ha => by have := HF2.out (HKk.out.symm.trans h0) a ha; exact (tu7.block _ (by omega)).trans (HB6.out _ (by omega)), .inr fun a ha => by have := HF2.out (HKk.out.symm.trans h0) a ha; have := B5.out.size; omega⟩⟩, hm7, B6.out.trans (tu7.below (by omega)), tu7.heap he6 (by omega)⟩
  have J3 := Lib.hid j3
  have i13 : (k == [108, 101, 115, 115]) = false := by simpa [kLess] using j3
  clear j3
  by_cases j4 : k = kMove
  ·as_aux_lemma =>
    have J4 := Lib.hid j4
    have i14 : (k == [109, 111, 118, 101]) = true := by rw [j4]; rfl
    clear j4
    have HKk := Lib.hid (show k0 = kv from HK0.out.trans (by rw [if_neg (fun e => e.elim J0.out J1.out), if_neg (fun e => e.elim J2.out J3.out), if_pos J4.out]))
    have HMm := Lib.hid (show m2 = mv from HM2.out.trans (by rw [if_neg (fun e => e.elim J0.out J1.out), if_neg (fun e => e.elim J2.out J3.out), if_pos J4.out]))
    have HHh := Lib.hid (show hN = (hO : Int) from HHN.out.trans (by rw [if_neg (by rw [J4.out]; decide), if_neg (by rw [J4.out]; decide)]))
    have hsn : ((o1, o2, o3, o4) : SumsV) = (t1, t2, t3, t4) := (HSN.out.trans (by rw [if_neg (by rw [J4.out]; decide), if_neg (by rw [J4.out]; decide), if_neg (by rw [J4.out]; decide), if_neg (by rw [J4.out]; decide)])).symm
    simp only [Prod.mk.injEq] at hsn
    obtain ⟨rfl, rfl, rfl, rfl⟩ := hsn
    clear HK0 HM2 HHN HSN
    obtain ⟨fa, fb, fc, rfl⟩ := len3b h3f
    obtain ⟨ta, tb, tc, rfl⟩ := len3b h3t
    have HUP : Hid (∀ W : World, Below w5.heap.size w5 W → W.cell? ⟨q, 2, none⟩ = some (.slice A NS cap) ∧ W.cell? ⟨w.heap.size, 7, none⟩ = some fa ∧ W.cell? ⟨w.heap.size, 8, none⟩ = some fb ∧ W.cell? ⟨w.heap.size, 9, none⟩ = some fc ∧ W.cell? ⟨w.heap.size, 10, none⟩ = some ta ∧ W.cell? ⟨w.heap.size, 11, none⟩ = some tb ∧ W.cell? ⟨w.heap.size, 12, none⟩ = some tc ∧ W.cell? ⟨w.heap.size, 13, none⟩ = some (.int .i64 n)) := fun W hb => by
     have hB := B5.out.trans (hb.mono B5.out.size)
     have hr := row_below hb he5 (row_lt he5)
     exact ⟨cell_of_row _ _ 2 _ _ _ (HQ.out W hB), (HFR.out W _ (Lies.row _ hr)) 0 _ rfl, (HFR.out W _ (Lies.row _ hr)) 1 _ rfl, (HFR.out W _ (Lies.row _ hr)) 2 _ rfl, (HTO.out W _ (Lies.row _ hr)) 0 _ rfl, (HTO.out W _ (Lies.row _ hr)) 1 _ rfl, (HTO.out W _ (Lies.row _ hr)) 2 _ rfl, (cell_of_row _ _ _ _ _ _ hr).trans (by simpa using hc13)⟩
    have HUS : Hid (∀ (W : World) (u : Value), Below w5.heap.size w5 W → (W.setCell ⟨kb, 0, none⟩ u).cell? ⟨q, 2, none⟩ = some (.slice A NS cap) ∧ (W.setCell ⟨kb, 0, none⟩ u).cell? ⟨w.heap.size, 7, none⟩ = some fa ∧ (W.setCell ⟨kb, 0, none⟩ u).cell? ⟨w.heap.size, 8, none⟩ = some fb ∧ (W.setCell ⟨kb, 0, none⟩ u).cell? ⟨w.heap.size, 9, none⟩ = some fc ∧ (W.setCell ⟨kb, 0, none⟩ u).cell? ⟨w.heap.size, 10, none⟩ = some ta ∧ (W.setCell ⟨kb, 0, none⟩ u).cell? ⟨w.heap.size, 11, none⟩ = some tb ∧ (W.setCell ⟨kb, 0, none⟩ u).cell? ⟨w.heap.size, 12, none⟩ = some tc ∧ (W.setCell ⟨kb, 0, none⟩ u).cell? ⟨w.heap.size, 13, none⟩ = some (.int .i64 n)) := fun W u hb => by
     obtain ⟨x0, x1, x2, x3, x4, x5, x6, x7⟩ := HUP.out W hb
     exact ⟨cell_set_other x0 (by omega), cell_set_other x1 (by omega), cell_set_other x2 (by omega), cell_set_other x3 (by omega), cell_set_other x4 (by omega), cell_set_other x5 (by omega), cell_set_other x6 (by omega), cell_set_other x7 (by omega)⟩
    clear e0 e13
    go_wp2_with fail
    go_region_held3 (fun W => W.cell? ⟨q, 2, none⟩ = some (.slice A NS cap) ∧ W.cell? ⟨w.heap.size, 7, none⟩ = some fa ∧ W.cell? ⟨w.heap.size, 8, none⟩ = some fb ∧ W.cell? ⟨w.heap.size, 9, none⟩ = some fc ∧ W.cell? ⟨w.heap.size, 10, none⟩ = some ta ∧ W.cell? ⟨w.heap.size, 11, none⟩ = some tb ∧ W.cell? ⟨w.heap.size, 12, none⟩ = some tc ∧ W.cell? ⟨w.heap.size, 13, none⟩ = some (.int .i64 n))
     (first | exact HUP.out _ hd | exact HUP.out _ kk | exact HUS.out _ _ kk | go_keep)
     (first | (go_at_call 75; refine (HMV.out _ (B5.out.drew)).mono ?_; rintro e v ⟨A2, c2, rfl, hr2, hf2, bb⟩; have kk := hd.trans (bb.mono hd.size); have hkv := row_below kk hk5 hz5; have kc : v.cell? ⟨kb, 0, none⟩ = some (.slice A NS cap) := cell_of_row _ _ 0 _ _ _ hkv; have kf := frozen_of_row _ _ 0 _ _ hkv))
    all_goals
     have hk6 := set_row hkv (.slice A2 mv.length c2)
     have hm6 := (Below.heap_setCell v ⟨kb, 0, none⟩ (.slice A2 mv.length c2) mb (by show mb ≠ kb; omega)).trans (row_below kk hm5 (row_lt hm5))
     have he6 := (Below.heap_setCell v ⟨kb, 0, none⟩ (.slice A2 mv.length c2) w.heap.size (by show w.heap.size ≠ kb; omega)).trans (row_below kk he5 (row_lt he5))
     have B6 := Lib.hid ((B5.out.trans (kk.mono B5.out.size)).setCell (p := ⟨kb, 0, none⟩) (by show _ ≤ kb; omega) (.slice A2 mv.length c2))
     have HR2 := Lib.hid hr2
     have HF2 := Lib.hid (fun h0 a ha => Nat.le_trans hd.size (hf2 h0 a ha))
     have HB6 := Lib.hid (fun i (h : i ≠ kb) => Below.heap_setCell v ⟨kb, 0, none⟩ (.slice A2 mv.length c2) i h)
     have HZ6 := Lib.hid (show v.heap.size ≤ (v.setCell ⟨kb, 0, none⟩ (.slice A2 mv.length c2)).heap.size by simp [World.setCell])
     clear hr2 hf2 hkv kc kf bb kk hd hm5 hk5 he5 z0 z1 z2 z3 HUP HUS
     generalize v.setCell ⟨kb, 0, none⟩ (.slice A2 mv.length c2) = W6 at hk6 hm6 he6 B6 HB6 HZ6 ⊢
     have e13 : W6.cell? ⟨w.heap.size, 13, none⟩ = some (.int .i64 n) := (cell_of_row _ _ _ _ _ _ he6).trans (by simpa using hc13)
     go_wp2_with fail
     go_meet
     exact ⟨by rw [HKk.out], by rw [HHh.out], ⟨A2, c2, by rw [HMm.out]; exact hk6, fun h0 => ⟨by rw [HMm.out]; exact HR2.out.keepB HZ6.out fun a ha => HB6.out _ (by have := HF2.out (HKk.out.symm.trans h0) a ha; omega), .inr fun a ha => by have := HF2.out (HKk.out.symm.trans h0) a ha; have := B5.out.size; omega⟩⟩, hm6, B6.out, he6⟩
  have J4 := Lib.hid j4
  have i14 : (k == [109, 111, 118, 101]) = false := by simpa [kMove] using j4
  clear j4
  by_cases j5 : k = kHold
  ·as_aux_lemma =>
    have J5 := Lib.hid j5
    have i15 : (k == [104, 111, 108, 100]) = true := by rw [j5]; rfl
    clear j5
    have HKk := Lib.hid (show k0 = 0 from HK0.out.trans (by rw [if_neg (fun e => e.elim J0.out J1.out), if_neg (fun e => e.elim J2.out J3.out), if_neg J4.out]))
    have HMm := Lib.hid (show m2 = B.2.2 from HM2.out.trans (by rw [if_neg (fun e => e.elim J0.out J1.out), if_neg (fun e => e.elim J2.out J3.out), if_neg J4.out]))
    have HHh := Lib.hid (show hN = (hO : Int) + n from HHN.out.trans (by rw [if_pos J5.out]))
    have hsn : ((o1, o2, o3, o4) : SumsV) = (t1, t2, t3, t4) := (HSN.out.trans (by rw [if_neg J0.out, if_neg J2.out, if_neg J1.out, if_neg J3.out])).symm
    simp only [Prod.mk.injEq] at hsn
    obtain ⟨rfl, rfl, rfl, rfl⟩ := hsn
    clear HK0 HM2 HHN HSN
    have hw : IntKind.i64.wrap ((hO : Int) + n) = (hO : Int) + n := wrap_small (by omega) (by omega)
    go_wp2_with fail
    go_meet
    exact ⟨by rw [HKk.out]; rfl, by rw [HHh.out], ⟨A, cap, by rw [HMm.out, ← HNS.out]; exact hk5, fun _ => ⟨by rw [HMm.out]; exact HRS.out _ B5.out, .inl ⟨rfl, HMm.out⟩⟩⟩, hm5, B5.out, he5⟩
  have J5 := Lib.hid j5
  have i15 : (k == [104, 111, 108, 100]) = false := by simpa [kHold] using j5
  clear j5
  by_cases j6 : k = kFree
  ·as_aux_lemma =>
    have J6 := Lib.hid j6
    have i16 : (k == [102, 114, 101, 101]) = true := by rw [j6]; rfl
    clear j6
    have HKk := Lib.hid (show k0 = 0 from HK0.out.trans (by rw [if_neg (fun e => e.elim J0.out J1.out), if_neg (fun e => e.elim J2.out J3.out), if_neg J4.out]))
    have HMm := Lib.hid (show m2 = B.2.2 from HM2.out.trans (by rw [if_neg (fun e => e.elim J0.out J1.out), if_neg (fun e => e.elim J2.out J3.out), if_neg J4.out]))
    have HHh := Lib.hid (show hN = (hO : Int) - n from HHN.out.trans (by rw [if_neg J5.out, if_pos J6.out]))
    have hsn : ((o1, o2, o3, o4) : SumsV) = (t1, t2, t3, t4) := (HSN.out.trans (by rw [if_neg J0.out, if_neg J2.out, if_neg J1.out, if_neg J3.out])).symm
    simp only [Prod.mk.injEq] at hsn
    obtain ⟨rfl, rfl, rfl, rfl⟩ := hsn
    clear HK0 HM2 HHN HSN
    have hw : IntKind.i64.wrap ((hO : Int) - n) = (hO : Int) - n := wrap_small (by omega) (by omega)
    go_wp2_with fail
    go_meet
    exact ⟨by rw [HKk.out]; rfl, by rw [HHh.out], ⟨A, cap, by rw [HMm.out, ← HNS.out]; exact hk5, fun _ => ⟨by rw [HMm.out]; exact HRS.out _ B5.out, .inl ⟨rfl, HMm.out⟩⟩⟩, hm5, B5.out, he5⟩
  have J6 := Lib.hid j6
  have i16 : (k == [102, 114, 101, 101]) = false := by simpa [kFree] using j6
  clear j6
  have HKk := Lib.hid (show k0 = 0 from HK0.out.trans (by rw [if_neg (fun e => e.elim J0.out J1.out), if_neg (fun e => e.elim J2.out J3.out), if_neg J4.out]))
  have HMm := Lib.hid (show m2 = B.2.2 from HM2.out.trans (by rw [if_neg (fun e => e.elim J0.out J1.out), if_neg (fun e => e.elim J2.out J3.out), if_neg J4.out]))
  have HHh := Lib.hid (show hN = (hO : Int) from HHN.out.trans (by rw [if_neg J5.out, if_neg J6.out]))
  have hsn : ((o1, o2, o3, o4) : SumsV) = (t1, t2, t3, t4) := (HSN.out.trans (by rw [if_neg J0.out, if_neg J2.out, if_neg J1.out, if_neg J3.out])).symm
  simp only [Prod.mk.injEq] at hsn
  obtain ⟨rfl, rfl, rfl, rfl⟩ := hsn
  clear HK0 HM2 HHN HSN
  go_wp2_with fail
  go_meet
  exact ⟨by rw [HKk.out]; rfl, by rw [HHh.out], ⟨A, cap, by rw [HMm.out, ← HNS.out]; exact hk5, fun _ => ⟨by rw [HMm.out]; exact HRS.out _ B5.out, .inl ⟨rfl, HMm.out⟩⟩⟩, hm5, B5.out, he5⟩
 case rest =>
  as_aux_lemma =>
  obtain ⟨rfl, rfl, ⟨A2, c2, hk6, ha2⟩, hm6, b6, he6⟩ := hcut
  have B6 := Lib.hid b6
  have HA2 := Lib.hid ha2
  obtain ⟨w6, rfl⟩ : ∃ w6, w6 = wc := ⟨_, rfl⟩
  have hmk : mb ≠ kb ∧ w.heap.size < mb ∧ w.heap.size < kb := by omega
  have HMK := Lib.hid hmk
  clear ha2 b6 B5 he5 hm5 hk5 z0 z1 z2 z3 e0 e13 HK0 HM2 HHN HSN HPT HTK HMV HFR HTO HMLN hmk he6
  obtain ⟨⟨z0, z1, z2, z3⟩, -⟩ := row4f hm6
  have ck : w6.cell? ⟨kb, 0, none⟩ = some (.slice A2 m2.length c2) := cell_of_row _ _ 0 _ _ _ hk6
  by_cases hk0 : ¬ k0 = 0
  ·have HP : Hid (pc = k0) := HPC.out.trans (if_pos hk0)
   have hp : (0 : Int) < (k0 : Nat) := by omega
   have HKZ := Lib.hid hk0
   clear hk0
   go_wp2_with fail
   go_ret
   rw [HP.out]
   exact ⟨rfl, .inl ⟨HKZ.out, B6.out⟩⟩
  have hk0 := Classical.not_not.1 hk0
  have HPC1 := Lib.hid (HPC.out.trans (if_neg (fun e => e hk0)))
  obtain ⟨hrow6, hor6⟩ := HA2.out hk0
  have HROW6 := Lib.hid hrow6
  have HOR6 := Lib.hid hor6
  rw [hk0]
  clear hk0 HPC HA2 hrow6 hor6
  by_cases hneg : hN < 0
  ·have HP : Hid (pc = 9) := HPC1.out.trans (if_pos (.inl hneg))
   go_wp2_with fail
   go_ret
   rw [HP.out]
   exact ⟨rfl, .inl ⟨by decide, B6.out⟩⟩
  obtain ⟨nN, rfl⟩ : ∃ nN : Nat, hN = (nN : Int) := ⟨hN.toNat, (Int.toNat_of_nonneg (by omega)).symm⟩
  have HNEG := Lib.hid hneg
  go_wp2_with fail
  refine (HOF.out A2 c2 w6 HROW6.out).mono ?_
  rintro e w7 ⟨rfl, bb7⟩
  have B7 := Lib.hid (B6.out.trans (bb7.mono B6.out.size))
  have hm7 := row_below bb7 hm6 (row_lt hm6)
  have hk7 := row_below bb7 hk6 (row_lt hk6)
  have HROW7 := Lib.hid (HROW6.out.below bb7)
  clear bb7 HROW6 B6 hm6 hk6 z0 z1 z2 z3 ck HOF
  obtain ⟨⟨z0, z1, z2, z3⟩, -⟩ := row4f hm7
  have ck : w7.cell? ⟨kb, 0, none⟩ = some (.slice A2 m2.length c2) := cell_of_row _ _ 0 _ _ _ hk7
  by_cases hof : (oo : Int) < (nN : Nat)
  ·have HP : Hid (pc = 9) := HPC1.out.trans (if_pos (.inr hof))
   go_wp2_with fail
   go_ret
   rw [HP.out]
   exact ⟨rfl, .inl ⟨by decide, B7.out⟩⟩
  have HPC2 := Lib.hid (HPC1.out.trans (if_neg (fun e => e.elim (fun h => by have := HNEG.out; omega) hof)))
  clear HPC1 hneg
  by_cases a1 : 65970697666560 < t1
  ·have HP : Hid (pc = 2) := HPC2.out.trans (if_pos (by rw [HOV.out]; have : mostS < t1 := a1; simp [this]))
   go_wp2_with fail
   go_ret
   rw [HP.out]
   exact ⟨rfl, .inl ⟨by decide, B7.out⟩⟩
  by_cases a2 : 65970697666560 < t2
  ·have HP : Hid (pc = 2) := HPC2.out.trans (if_pos (by rw [HOV.out]; have : mostS < t2 := a2; simp [this]))
   go_wp2_with fail
   go_ret
   rw [HP.out]
   exact ⟨rfl, .inl ⟨by decide, B7.out⟩⟩
  by_cases a3 : 65970697666560 < t3
  ·have HP : Hid (pc = 2) := HPC2.out.trans (if_pos (by rw [HOV.out]; have : mostS < t3 := a3; simp [this]))
   go_wp2_with fail
   go_ret
   rw [HP.out]
   exact ⟨rfl, .inl ⟨by decide, B7.out⟩⟩
  by_cases a4 : 65970697666560 < t4
  ·have HP : Hid (pc = 2) := HPC2.out.trans (if_pos (by rw [HOV.out]; have : mostS < t4 := a4; simp [this]))
   go_wp2_with fail
   go_ret
   rw [HP.out]
   exact ⟨rfl, .inl ⟨by decide, B7.out⟩⟩
  have HP : Hid (pc = 0) := HPC2.out.trans (if_neg (by
   have b1 : ¬ mostS < t1 := a1
   have b2 : ¬ mostS < t2 := a2
   have b3 : ¬ mostS < t3 := a3
   have b4 : ¬ mostS < t4 := a4
   rw [HOV.out]
   simp [b1, b2, b3, b4]))
  clear HPC2 HOV
  have hq7 := HQ.out _ B7.out
  have hqd := HQD.out
  have hmk := HMK.out
  have hlo7 := own_kept HLO.out (w' := w7) (fun g hg => B7.out.block _ (HLO.out.lt g hg).2)
  have hgo7 := own_kept HGO.out (w' := w7) (fun g hg => B7.out.block _ (HGO.out.lt g hg).2)
  obtain ⟨LL, hLL, hLLn⟩ := own_block hlo7
  obtain ⟨LQ, hLQ, hLQn⟩ := own_block hgo7
  have hLlt := row_lt hLL
  have hGlt : gG < w.heap.size := (HGO.out.lt gG rfl).2
  have hLlt2 : gL < w.heap.size := (HLO.out.lt gL rfl).2
  have hoo := HO.out
  have hoff : oL + ki * 5 + 4 < LL.length := by omega
  clear hoo
  have HLO7 := Lib.hid hlo7
  have HGO7 := Lib.hid hgo7
  have hqm : q ≠ mb ∧ q ≠ kb ∧ gL ≠ mb ∧ gL ≠ kb ∧ gG ≠ mb ∧ gG ≠ kb := by omega
  have HQM := Lib.hid hqm
  have hlies := HG2.out _ B7.out
  clear hlo7 hgo7
  go_upto_region 67 with (refine wpList_store_at rfl 69 _ _ rfl q 2 [.slice A2 m2.length c2] rfl rfl _ [.slice (some ⟨gG, oG, none⟩) NG cG, .slice (some ⟨gL, oL, none⟩) NL cL, .slice A NS cap] hq7 (by kernel_rfl) (Nat.le_of_ble_eq_true rfl) (fun v hv => by rw [List.mem_singleton.1 hv]; rfl) ?_; intro w8 hq8 tu8)
  have hLL8 := (tu8.block gL (by omega)).trans hLL
  have cq81 : w8.cell? ⟨q, 1, none⟩ = some (.slice (some ⟨gL, oL, none⟩) NL cL) := cell_of_row _ _ 1 _ _ _ hq8
  have hq9x := hq8
  go_upto_region 68 with (refine wpList_store_val rfl 3 _ _ rfl gL (oL + ki * 5 + 4) (.int .i64 (nN : Nat)) rfl rfl rfl _ LL hLL8 (by kernel_rfl) hoff rfl ?_; intro w9 hL9 tu9)
  have hq9 := (tu9.block q (by omega)).trans hq8
  have hm9 := (tu9.block mb (by omega)).trans ((tu8.block mb (by omega)).trans hm7)
  have hG9 := (tu9.block gG (by omega)).trans ((tu8.block gG (by omega)).trans hLQ)
  have e79 : w9.heap[gG]? = w7.heap[gG]? := (tu9.block gG (by omega)).trans (tu8.block gG (by omega))
  have f0 : w9.cell? ⟨gG, oG + gj * 6 + 2, none⟩ = some (.int .i64 o1) := (World.cell?_of_block e79).trans (hlies 0 _ rfl)
  have f1 : w9.cell? ⟨gG, oG + gj * 6 + 2 + 1, none⟩ = some (.int .i64 o2) := (World.cell?_of_block e79).trans (hlies 1 _ rfl)
  have f2 : w9.cell? ⟨gG, oG + gj * 6 + 2 + 2, none⟩ = some (.int .i64 o3) := (World.cell?_of_block e79).trans (hlies 2 _ rfl)
  have f3 : w9.cell? ⟨gG, oG + gj * 6 + 2 + 3, none⟩ = some (.int .i64 o4) := (World.cell?_of_block e79).trans (hlies 3 _ rfl)
  have f1x : w9.cell? ⟨gG, oG + gj * 6 + 3, none⟩ = some (.int .i64 o2) := f1
  have f2x : w9.cell? ⟨gG, oG + gj * 6 + 4, none⟩ = some (.int .i64 o3) := f2
  have f3x : w9.cell? ⟨gG, oG + gj * 6 + 5, none⟩ = some (.int .i64 o4) := f3
  have y1x := frozen_of_row _ _ (oG + gj * 6 + 3) _ _ hG9
  have y2x := frozen_of_row _ _ (oG + gj * 6 + 4) _ _ hG9
  have y3x := frozen_of_row _ _ (oG + gj * 6 + 5) _ _ hG9
  have y0 := frozen_of_row _ _ (oG + gj * 6 + 2) _ _ hG9
  have y1 := frozen_of_row _ _ (oG + gj * 6 + 2 + 1) _ _ hG9
  have y2 := frozen_of_row _ _ (oG + gj * 6 + 2 + 2) _ _ hG9
  have y3 := frozen_of_row _ _ (oG + gj * 6 + 2 + 3) _ _ hG9
  have cq90 : w9.cell? ⟨q, 0, none⟩ = some (.slice (some ⟨gG, oG, none⟩) NG cG) := cell_of_row _ _ 0 _ _ _ hq9
  have HQ9 := Lib.hid hq9
  have HG9 := Lib.hid hG9
  have HL9 := Lib.hid hL9
  have HLL := Lib.hid hLL
  have TU8 := Lib.hid tu8
  have TU9 := Lib.hid tu9
  have HLEN := Lib.hid hLQn
  clear z0 z1 z2 z3 ck hq9x hq8 hL9 hLL hLL8 hLQ tu8 tu9 hG9 hq9 e79 cq81 hlies hq7 hm7 hk7
  obtain ⟨⟨z0, z1, z2, z3⟩, -⟩ := row4f hm9
  clear hm9
  have hqm := HQM.out
  have hqd := HQD.out
  have HUS : Hid (∀ (W : World), (W.cell? ⟨q, 0, none⟩ = some (.slice (some ⟨gG, oG, none⟩) NG cG) ∧ W.cell? ⟨mb, 0, none⟩ = some (.int .i64 t1) ∧ W.cell? ⟨mb, 1, none⟩ = some (.int .i64 t2) ∧ W.cell? ⟨mb, 2, none⟩ = some (.int .i64 t3) ∧ W.cell? ⟨mb, 3, none⟩ = some (.int .i64 t4)) → ((((W.setCell ⟨gG, oG + gj * 6 + 2, none⟩ (.int .i64 t1)).setCell ⟨gG, oG + gj * 6 + 2 + 1, none⟩ (.int .i64 t2)).setCell ⟨gG, oG + gj * 6 + 2 + 2, none⟩ (.int .i64 t3)).setCell ⟨gG, oG + gj * 6 + 2 + 3, none⟩ (.int .i64 t4)).cell? ⟨q, 0, none⟩ = some (.slice (some ⟨gG, oG, none⟩) NG cG) ∧ ((((W.setCell ⟨gG, oG + gj * 6 + 2, none⟩ (.int .i64 t1)).setCell ⟨gG, oG + gj * 6 + 2 + 1, none⟩ (.int .i64 t2)).setCell ⟨gG, oG + gj * 6 + 2 + 2, none⟩ (.int .i64 t3)).setCell ⟨gG, oG + gj * 6 + 2 + 3, none⟩ (.int .i64 t4)).cell? ⟨mb, 0, none⟩ = some (.int .i64 t1) ∧ ((((W.setCell ⟨gG, oG + gj * 6 + 2, none⟩ (.int .i64 t1)).setCell ⟨gG, oG + gj * 6 + 2 + 1, none⟩ (.int .i64 t2)).setCell ⟨gG, oG + gj * 6 + 2 + 2, none⟩ (.int .i64 t3)).setCell ⟨gG, oG + gj * 6 + 2 + 3, none⟩ (.int .i64 t4)).cell? ⟨mb, 1, none⟩ = some (.int .i64 t2) ∧ ((((W.setCell ⟨gG, oG + gj * 6 + 2, none⟩ (.int .i64 t1)).setCell ⟨gG, oG + gj * 6 + 2 + 1, none⟩ (.int .i64 t2)).setCell ⟨gG, oG + gj * 6 + 2 + 2, none⟩ (.int .i64 t3)).setCell ⟨gG, oG + gj * 6 + 2 + 3, none⟩ (.int .i64 t4)).cell? ⟨mb, 2, none⟩ = some (.int .i64 t3) ∧ ((((W.setCell ⟨gG, oG + gj * 6 + 2, none⟩ (.int .i64 t1)).setCell ⟨gG, oG + gj * 6 + 2 + 1, none⟩ (.int .i64 t2)).setCell ⟨gG, oG + gj * 6 + 2 + 2, none⟩ (.int .i64 t3)).setCell ⟨gG, oG + gj * 6 + 2 + 3, none⟩ (.int .i64 t4)).cell? ⟨mb, 3, none⟩ = some (.int .i64 t4)) := fun W hS => by
   obtain ⟨x0, x1, x2, x3, x4⟩ := hS
   have ot : ∀ (b i : Nat) (v : Value), b ≠ gG → W.cell? ⟨b, i, none⟩ = some v → (((((W.setCell ⟨gG, oG + gj * 6 + 2, none⟩ (.int .i64 t1)).setCell ⟨gG, oG + gj * 6 + 2 + 1, none⟩ (.int .i64 t2)).setCell ⟨gG, oG + gj * 6 + 2 + 2, none⟩ (.int .i64 t3)).setCell ⟨gG, oG + gj * 6 + 2 + 3, none⟩ (.int .i64 t4))).cell? ⟨b, i, none⟩ = some v := fun b i v hb hv => cell_set_other (cell_set_other (cell_set_other (cell_set_other hv hb) hb) hb) hb
   exact ⟨ot _ _ _ (by omega) x0, ot _ _ _ (by omega) x1, ot _ _ _ (by omega) x2, ot _ _ _ (by omega) x3, ot _ _ _ (by omega) x4⟩
  have hS9 : w9.cell? ⟨q, 0, none⟩ = some (.slice (some ⟨gG, oG, none⟩) NG cG) ∧ w9.cell? ⟨mb, 0, none⟩ = some (.int .i64 t1) ∧ w9.cell? ⟨mb, 1, none⟩ = some (.int .i64 t2) ∧ w9.cell? ⟨mb, 2, none⟩ = some (.int .i64 t3) ∧ w9.cell? ⟨mb, 3, none⟩ = some (.int .i64 t4) := ⟨cq90, z0, z1, z2, z3⟩
  have HS9 := Lib.hid hS9
  clear hS9 cq90 z0 z1 z2 z3 hqm hqd hLlt hGlt hLlt2 hoff hLLn hLQn
  go_wp2_with fail
  go_region_held3 (fun W => W.cell? ⟨q, 0, none⟩ = some (.slice (some ⟨gG, oG, none⟩) NG cG) ∧ W.cell? ⟨mb, 0, none⟩ = some (.int .i64 t1) ∧ W.cell? ⟨mb, 1, none⟩ = some (.int .i64 t2) ∧ W.cell? ⟨mb, 2, none⟩ = some (.int .i64 t3) ∧ W.cell? ⟨mb, 3, none⟩ = some (.int .i64 t4))
   (first | exact HS9.out | exact HUS.out _ HS9.out)
   (fail)
  all_goals
   have HST := Lib.hid (bk_stored HO.out HNG.out HNL.out B7.out TU8.out TU9.out HQD.out HVG.out HVL.out ⟨hql, (HGO.out.lt gG rfl).2, (HLO.out.lt gL rfl).2⟩ HRR.out HLO7.out HGO7.out HLL.out HG9.out HLEN.out (by rw [← HNS.out]; exact HQ9.out) HL9.out hki hgj HYK.out HYN.out HYL.out HGK.out HGN.out HDG.out HDL.out HDQ.out HROW7.out HOR6.out)
   clear HUS HS9 f0 f1 f2 f3 f1x f2x f3x y0 y1 y2 y3 y1x y2x y3x HQ9 HG9 HL9 HLL TU8 TU9 HLEN HGO7 HLO7 HROW7 HOR6 HQM hmk hqm hqd
   go_wp2_with fail
   go_ret
   rw [HP.out]
   exact ⟨rfl, .inr ⟨rfl, A2, c2, HST.out⟩⟩
end Go.Proofs.YteaalifehokgoaaGreatDoor
