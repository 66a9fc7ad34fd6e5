/- The program's book: pieces. Printed by gen/bkpc.py. -/
import Derived.Deep.DeepCutAuto
import Derived.Deep.CutBlock
import Derived.Test.YteaalifehokgoaaGreatDoorM20
import Derived.Test.YteaalifehokgoaaGreatDoorM21
namespace Go.Proofs.YteaalifehokgoaaGreatDoor
open Go.RowKit Go.Sort Go.Proofs
theorem len14b {L : List Value} (h : L.length = 14) : ∃ ce0 ce1 ce2 ce3 ce4 ce5 ce6 ce7 ce8 ce9 ce10 ce11 ce12 ce13, L = [ce0, ce1, ce2, ce3, ce4, ce5, ce6, ce7, ce8, ce9, ce10, ce11, ce12, ce13] := by
 match L, h with
 |[ce0, ce1, ce2, ce3, ce4, ce5, ce6, ce7, ce8, ce9, ce10, ce11, ce12, ce13], _ => exact ⟨ce0, ce1, ce2, ce3, ce4, ce5, ce6, ce7, ce8, ce9, ce10, ce11, ce12, ce13, rfl⟩
set_option maxHeartbeats 1600000 in
set_option maxRecDepth 100000 in
theorem pieces_none (E : Nat → Addr) (p g l h s q c : Nat) (B : BkV) (x : EntV) (w : World) (H : BookM w p g l h s q c B) (hfl : fL B x.2.2.1.1 = none) (hG : BkG E w) :
  Calls Tryz.prog 48 #[.pointer (some ⟨p, 0, none⟩), .agg (encEnt x).toArray] w fun e w' => e = .returned (errOf E (pcE B x)) ∧ Below w.heap.size w w' := by
 have HPE := Lib.hid (show pcE B x = 6 by unfold pcE; rw [hfl])
 have HG := Lib.hid (fun W (h : Below w.heap.size w W) => hG.below h)
 have HLL := Lib.hid (fun W (k : MapF eLot W l (lotsF B)) => k.look (P := Tryz.prog) (t := 103) (kt := 9) (by kernel_rfl) Tryz.underlying103 (zeroLotE W) x.2.2.1.1 true)
 have b0 := below_one w (.cells (encEnt x).toArray 43)
 have hrow := heap_alloc_new w (.cells (encEnt x).toArray 43)
 have hk3 : (encEnt x)[3]? = some (.string ⟨x.2.2.1.1.toArray⟩) := rfl
 have B0 := Lib.hid b0
 have HH := Lib.hid (H.below b0)
 have e1 : lotsF B x.2.2.1.1 = none := by unfold lotsF; rw [hfl]; rfl
 rw [e1] at HLL
 rw [HPE.out]
 simp only [Option.isSome_none, Option.getD_none, if_true, eLot] at HLL
 obtain ⟨LZ, hLZ⟩ : ∃ L, L = encLot zeroLot := ⟨_, rfl⟩
 have hz4 : LZ.length = 4 := by rw [hLZ]; rfl
 have HZ1 := Lib.hid (show ∀ v ∈ LZ, v.oneCell' = true by rw [hLZ]; exact encLot_one _)
 rw [← hLZ] at HLL
 clear hLZ hfl e1 b0 H hG HPE
 generalize x.2.2.1.1 = id at *
 generalize encEnt x = LX at *
 go_enter Tryz.func48, Tryz.ntmps48
 go_upto_region 1 with fail
 generalize w.alloc (.cells LX.toArray 43) = W0 at hrow B0 HH ⊢
 have e3 : W0.cell? ⟨w.heap.size, 3, none⟩ = some (.string ⟨id.toArray⟩) := (cell_of_row _ _ _ _ _ _ hrow).trans (by simpa using hk3)
 obtain ⟨⟨-, cp1, -, -, -⟩, -⟩ := HH.out.cells
 have hl := HLL.out W0 HH.out.lots
 have hnn := (HG.out _ B0.out).none
 unfold ErrAt at hnn
 have hnl := lt_of_cell hnn
 have bn := Lib.hid (below_one W0 (.cells #[.string ⟨#[]⟩, .string ⟨#[]⟩, .int .i64 0, .int .i64 0] 39))
 clear hk3 hrow HH HLL
 go_wp2_with (refine wpList_store_box rfl 39 _ _ rfl W0.heap.size LZ rfl rfl _ [.string ⟨#[]⟩, .string ⟨#[]⟩, .int .i64 0, .int .i64 0] (heap_alloc_new W0 _) (by rw [hz4]; kernel_rfl) (by rw [hz4]; rfl) HZ1.out ?_; intro w1 h1 t1; have hn1 := (t1.cell ((bn.out.cell (p := ⟨_, 0, none⟩) hnl).trans hnn) (Nat.ne_of_lt hnl)))
 go_ret
 exact ⟨rfl, (B0.out.trans (bn.out.mono B0.out.size)).trans (t1.below B0.out.size)⟩
def more2 (x y : Int) : Int := if y > x then y else x
theorem run_max4 {P : Program} (ts : Array TypeId) (t : TypeId) (a b c d : Int) (w : World) : (Builtin.max_ ts t #[.int .i64 a, .int .i64 b, .int .i64 c, .int .i64 d]).run P w = .ok (.int .i64 (more2 (more2 (more2 a b) c) d)) w := by
 simp [Builtin.max_, Builtin.max2, more2]
theorem over_more (a b c d : Int) : (decide (mostS < a) || decide (mostS < b) || decide (mostS < c) || decide (mostS < d)) = decide (mostS < more2 (more2 (more2 a b) c) d) := by
 have h2 : ∀ x y : Int, (mostS < more2 x y) ↔ (mostS < x ∨ mostS < y) := fun x y => by
  unfold more2
  split <;> omega
 rw [Bool.eq_iff_iff]
 simp only [Bool.or_eq_true, decide_eq_true_eq, h2]
theorem sums_changed {s : SumsV} {x : EntV} (hs : OkS s) (hn : 0 ≤ x.2.2.2.2.2) (hc : summ s x ≠ s) : summ s x ≠ zeroSums := by
 obtain ⟨q1, -, q2, -, q3, -, q4, -⟩ := hs
 obtain ⟨s1, s2, s3, s4⟩ := s
 simp only at q1 q2 q3 q4
 unfold summ zeroSums at *
 intro e
 apply hc
 split at e
 ·rename_i h; rw [if_pos h]; simp only [Prod.mk.injEq, and_true] at e ⊢; omega
 rename_i h1; rw [if_neg h1]
 split at e
 ·rename_i h; rw [if_pos h]; simp only [Prod.mk.injEq, true_and, and_true] at e ⊢; omega
 rename_i h2; rw [if_neg h2]
 split at e
 ·rename_i h; rw [if_pos h]; simp only [Prod.mk.injEq, true_and, and_true] at e ⊢; omega
 rename_i h3; rw [if_neg h3]
 split at e
 ·rename_i h; rw [if_pos h]; simp only [Prod.mk.injEq, true_and] at e ⊢; omega
 rename_i h4; rw [if_neg h4]
set_option maxHeartbeats 8000000 in
set_option maxRecDepth 100000 in
theorem pieces_some (E : Nat → Addr) (p g l h s q c : Nat) (B : BkV) (x : EntV) (y : LoH) (w : World) (H : BookM w p g l h s q c B) (hd : [p, g, l, h, s, q, c].Nodup) (hI : BkI B) (hfl : fL B x.2.2.1.1 = some y) (hn : 0 ≤ x.2.2.2.2.2 ∧ x.2.2.2.2.2 ≤ 1099511627776) (hG : BkG E w) :
  Calls Tryz.prog 48 #[.pointer (some ⟨p, 0, none⟩), .agg (encEnt x).toArray] w fun e w' => e = .returned (errOf E (pcE B x)) ∧
   (∃ q' c', BookM w' p g l h s q' c' (if pcE B x = 0 then doP B x else B) ∧ ((q' = q ∧ c' = c) ∨ (w.heap.size ≤ q' ∧ w.heap.size ≤ c'))) ∧ ButF [p, h, s] w w' := by
 obtain ⟨hco, hho, gv, hgv, hsm, hok⟩ := hI.lot_goods hfl
 have hyl := hI.lok y (fL_mem hfl).1
 have hyi := (fL_mem hfl).2
 have hh1 : y.2 ≤ 1099511627776 := Nat.le_trans hyl.2.1 (hI.stk.few _)
 have HPC := Lib.hid (pcE_steps hfl)
 have HH := Lib.hid (fun W (hb : Below w.heap.size w W) => H.below hb)
 have HG := Lib.hid (fun W (h : Below w.heap.size w W) => hG.below h)
 have HQ := Lib.hid (fun W (k : StkP W q c B.2.2) => copyStock_P (w := W) k)
 have HLL := Lib.hid (fun W (k : MapF eLot W l (lotsF B)) => k.look (P := Tryz.prog) (t := 103) (kt := 9) (by kernel_rfl) Tryz.underlying103 (zeroLotE W) x.2.2.1.1 true)
 have HLH := Lib.hid (fun W (k : MapF eNat W h (heldF B)) => k.look (P := Tryz.prog) (t := 104) (kt := 9) (by kernel_rfl) Tryz.underlying104 (zeroIntE W) x.2.2.1.1 false)
 have HLS := Lib.hid (fun W (k : MapF eSums W s (sumsF B)) => k.look (P := Tryz.prog) (t := 93) (kt := 9) (by kernel_rfl) Tryz.underlying93 (zeroSumsV W) y.1.2.1 false)
 have HST := Lib.hid (fun W (k : MapF eSums W s (sumsF B)) => k.store (P := Tryz.prog) (t := 93) (kt := 9) (by kernel_rfl) Tryz.underlying93 y.1.2.1 (summ gv.2 x))
 have HSU := Lib.hid (fun W => summed_any gv.2 x W hok hn)
 have HPT := Lib.hid (fun q c W (k : StkP W q c B.2.2) gg => putStock_P E hI.stk x.2.2.2.2.1 x.2.2.1.1 x.2.2.2.2.2 W k gg)
 have HMV := Lib.hid (fun q c W (k : StkP W q c B.2.2) gg => moveStock_P E hI.stk x.2.2.2.1 x.2.2.2.2.1 x.2.2.1.1 x.2.2.2.2.2 W k gg)
 have HTK := Lib.hid (fun q c W cp (k1 : MapF eNat W h (heldF B)) (k2 : StkP W q c B.2.2) (h1 : p ≠ c) (h2 : h ≠ c) gg => taken_any E p h q c (heldF B) B.2.2 x W cp k1 k2 hI.stk h1 h2 gg)
 have hI2 : StkI (actM B.2.2 x) := hI.stk.act x
 have HOF := Lib.hid (fun q c W (k : StkP W q c (actM B.2.2 x)) => ofStock_P hI2 x.2.2.1.1 W k)
 have eL : lotsF B x.2.2.1.1 = some y.1 := by unfold lotsF; rw [hfl]; rfl
 have eH : (heldF B x.2.2.1.1).getD 0 = y.2 := (heldF_get B _).trans ((congrArg (heldOf B) rfl).trans hho)
 have eS : (sumsF B y.1.2.1).getD zeroSums = gv.2 := (sumsF_get B _).trans hsm
 have HDG := Lib.hid (goodsF_doP B x)
 have HDL := Lib.hid (lotsF_doP B x)
 have HDH := Lib.hid (heldF_doP hfl)
 have hgc : fG B (codeLo B x.2.2.1.1) = some gv := by rw [hco]; exact hgv
 have HDS := Lib.hid (sumsF_doP hgc)
 have HDQ := Lib.hid (show (doP B x).2.2 = actM B.2.2 x from rfl)
 have HSC := Lib.hid (fun hc => sums_changed (x := x) hok hn.1 hc)
 have HS0 := Lib.hid (show ∀ i, sumsF B i = if i = y.1.2.1 then (if gv.2 = zeroSums then none else some gv.2) else sumsF B i from fun i => by
  by_cases h : i = y.1.2.1
  ·rw [if_pos h, h]; unfold sumsF; rw [hsm]
  ·rw [if_neg h])
 rw [eL] at HLL
 rw [eH] at HLH HTK
 rw [eS] at HLS
 rw [hho] at HDH
 rw [hco, hsm] at HDS
 rw [hsm] at HPC
 unfold heldS at HPC
 have HK0 := Lib.hid (show actS B.2.2 y.2 x = if x.1 = kIn ∨ x.1 = kMore then putE B.2.2 x.2.2.2.2.1 x.2.2.1.1 x.2.2.2.2.2 else if x.1 = kOut ∨ x.1 = kLess then takenE B.2.2 y.2 x else if x.1 = kMove then moveE B.2.2 x.2.2.2.1 x.2.2.2.2.1 x.2.2.1.1 x.2.2.2.2.2 else 0 from rfl)
 have HM2 := Lib.hid (show actM B.2.2 x = if x.1 = kIn ∨ x.1 = kMore then putM B.2.2 x.2.2.2.2.1 x.2.2.1.1 x.2.2.2.2.2 else if x.1 = kOut ∨ x.1 = kLess then takeM B.2.2 x.2.2.2.1 x.2.2.1.1 x.2.2.2.2.2 else if x.1 = kMove then moveM B.2.2 x.2.2.2.1 x.2.2.2.2.1 x.2.2.1.1 x.2.2.2.2.2 else B.2.2 from rfl)
 have HHN := Lib.hid (show heldN y.2 x = if x.1 = kHold then (y.2 : Int) + x.2.2.2.2.2 else if x.1 = kFree then (y.2 : Int) - x.2.2.2.2.2 else y.2 from rfl)
 have HOV : Hid (overS (summ gv.2 x) = (decide (mostS < (summ gv.2 x).1) || decide (mostS < (summ gv.2 x).2.1) || decide (mostS < (summ gv.2 x).2.2.1) || decide (mostS < (summ gv.2 x).2.2.2))) := rfl
 have b0 := below_one w (.cells (encEnt x).toArray 43)
 have hrow := heap_alloc_new w (.cells (encEnt x).toArray 43)
 have hk0 : (encEnt x)[0]? = some (.string ⟨x.1.toArray⟩) := rfl
 have hk3 : (encEnt x)[3]? = some (.string ⟨x.2.2.1.1.toArray⟩) := rfl
 have hk13 : (encEnt x)[13]? = some (.int .i64 x.2.2.2.2.2) := rfl
 have HFR := Lib.hid (fun (W : World) (b : Nat) (h : Lies W b 0 (encEnt x)) => ent_from h)
 have HTO := Lib.hid (fun (W : World) (b : Nat) (h : Lies W b 0 (encEnt x)) => ent_to h)
 have h3f : (encPlace x.2.2.2.1).length = 3 := rfl
 have h3t : (encPlace x.2.2.2.2.1).length = 3 := rfl
 have h14 : (encEnt x).length = 14 := rfl
 have hz1c : (encLot y.1)[1]? = some (.string ⟨y.1.2.1.toArray⟩) := rfl
 have hz4 : (encLot y.1).length = 4 := rfl
 have HZ1 := Lib.hid (encLot_one y.1)
 have B0 := Lib.hid b0
 have hlt := H.lt
 have hps : p < w.heap.size := hlt p (by simp)
 have hhs : h < w.heap.size := hlt h (by simp)
 have hss : s < w.heap.size := hlt s (by simp)
 have hqs : q < w.heap.size := hlt q (by simp)
 have hcs : c < w.heap.size := hlt c (by simp)
 have HD := Lib.hid hd
 clear b0 hG hd H hI hok hyl hgv hsm hco hho eL eH eS hgc hlt hI2 hfl
 simp only [Option.isSome_some, Option.getD_some, if_true, eLot, eNat, eSums, Bool.false_eq_true, if_false] at HLL HLH HLS HST
 generalize putE B.2.2 x.2.2.2.2.1 x.2.2.1.1 x.2.2.2.2.2 = kp at *
 generalize putM B.2.2 x.2.2.2.2.1 x.2.2.1.1 x.2.2.2.2.2 = mp at *
 generalize takenE B.2.2 y.2 x = kt at *
 generalize takeM B.2.2 x.2.2.2.1 x.2.2.1.1 x.2.2.2.2.2 = mt at *
 generalize moveE B.2.2 x.2.2.2.1 x.2.2.2.2.1 x.2.2.1.1 x.2.2.2.2.2 = kv at *
 generalize moveM B.2.2 x.2.2.2.1 x.2.2.2.2.1 x.2.2.1.1 x.2.2.2.2.2 = mv at *
 generalize actS B.2.2 y.2 x = k0 at *
 generalize actM B.2.2 x = m2 at *
 generalize heldN y.2 x = hN at *
 generalize summ gv.2 x = sN at *
 generalize gv.2 = sO at *
 generalize pcE B x = pc at *
 generalize doP B x = Bd at *
 generalize overS sN = ov at *
 generalize ofM m2 x.2.2.1.1 = oo at *
 generalize encPlace x.2.2.2.1 = LF at *
 generalize encPlace x.2.2.2.2.1 = LT at *
 generalize encEnt x = LX at *
 generalize x.1 = k at *
 generalize x.2.2.2.2.2 = n at *
 generalize x.2.2.1.1 = id at *
 generalize encLot y.1 = LZ at *
 generalize y.1.2.1 = code at *
 generalize y.2 = hO at *
 obtain ⟨Bx, hBx⟩ : ∃ Bx, Bx = if pc = 0 then Bd else B := ⟨_, rfl⟩
 rw [← hBx]
 have HBX := Lib.hid hBx
 clear hBx
 obtain ⟨t1, t2, t3, t4⟩ := sN
 obtain ⟨o1, o2, o3, o4⟩ := sO
 simp only [encSums] at HLS HSU HST
 simp only at HOV
 obtain ⟨hn0, hn1⟩ := hn
 go_enter Tryz.func48, Tryz.ntmps48
 go_upto_region 1 with fail
 generalize w.alloc (.cells LX.toArray 43) = W0 at hrow B0 ⊢
 have e3 : W0.cell? ⟨w.heap.size, 3, none⟩ = some (.string ⟨id.toArray⟩) := (cell_of_row _ _ _ _ _ _ hrow).trans (by simpa using hk3)
 obtain ⟨⟨-, cp1, -, -, -⟩, -⟩ := (HH.out _ B0.out).cells
 have hl := HLL.out W0 (HH.out _ B0.out).lots
 have bn := Lib.hid (below_one W0 (.cells #[.string ⟨#[]⟩, .string ⟨#[]⟩, .int .i64 0, .int .i64 0] 39))
 have hz0 : w.heap.size < W0.heap.size := row_lt hrow
 go_upto_region 5 with (refine wpList_store_box rfl 39 _ _ rfl W0.heap.size LZ rfl rfl _ [.string ⟨#[]⟩, .string ⟨#[]⟩, .int .i64 0, .int .i64 0] (heap_alloc_new W0 _) (by rw [hz4]; kernel_rfl) (by rw [hz4]; rfl) HZ1.out ?_; intro w1 h1 tu1)
 have bn1 := bn.out.trans (tu1.below (Nat.le_refl _))
 have B1 := Lib.hid (B0.out.trans (bn1.mono B0.out.size))
 have he1 := row_below bn1 hrow hz0
 have hz1 := row_lt h1
 obtain ⟨⟨-, -, -, -, cp4⟩, -⟩ := (HH.out _ B1.out).cells
 clear bn bn1 hl cp1 e3 hrow tu1 HLL
 go_wp2_with fail
 refine (HQ.out w1 (HH.out _ B1.out).stk).mono ?_
 rintro e w2 ⟨q1, d1, rfl, hq1, hd1, hS2, b2⟩
 have B2 := Lib.hid (B1.out.trans (b2.mono B1.out.size))
 have he2 := row_below b2 he1 (row_lt he1)
 have hz2 := row_below b2 h1 (row_lt h1)
 obtain ⟨⟨-, -, cp2, -, -⟩, -⟩ := (HH.out _ B2.out).cells
 have hl := HLH.out w2 (HH.out _ B2.out).held
 have e0 : w2.cell? ⟨w.heap.size, 0, none⟩ = some (.string ⟨k.toArray⟩) := (cell_of_row _ _ _ _ _ _ he2).trans (by simpa using hk0)
 have e3 : w2.cell? ⟨w.heap.size, 3, none⟩ = some (.string ⟨id.toArray⟩) := (cell_of_row _ _ _ _ _ _ he2).trans (by simpa using hk3)
 have e13 : w2.cell? ⟨w.heap.size, 13, none⟩ = some (.int .i64 n) := (cell_of_row _ _ _ _ _ _ he2).trans (by simpa using hk13)
 have lq2 := hS2.lt
 have nq2 := hS2.ne
 obtain ⟨lb, hlb⟩ : ∃ lb, lb = W0.heap.size := ⟨_, rfl⟩
 rw [← hlb] at hz0 h1 hz1 hz2 ⊢
 clear hlb b2 he1 h1 cp4 B1 HQ B0
 go_upto_block 0 with fail
 clear hl
 go_cut [9, 10] (fun s9 s10 wx => s9 = .int .i64 hN ∧ s10 = errOf E k0 ∧ (∃ d2, StkP wx q1 d2 m2 ∧ w.heap.size ≤ d2) ∧ Below w.heap.size w wx ∧ wx.heap[w.heap.size]? = some (.cells LX.toArray 43 (0, 0)) ∧ wx.heap[lb]? = some (.cells LZ.toArray 39 (0, 0)))
 case first =>
  clear HDG HDL HDQ HDH HDS HS0 HSC HLS HST HSU HPC HOV HBX HD HOF
  by_cases j0 : k = kIn
  ·have J0 := Lib.hid j0
   have i0 : (k == [105, 110]) = true := by rw [j0]; rfl
   clear j0
   have HKk := Lib.hid (show k0 = kp from HK0.out.trans (by rw [if_pos (.inl J0.out)]))
   have HMm := Lib.hid (show m2 = mp from HM2.out.trans (by rw [if_pos (.inl J0.out)]))
   have HHh := Lib.hid (show hN = (hO : Int) from HHN.out.trans (by rw [if_neg (by rw [J0.out]; decide), if_neg (by rw [J0.out]; decide)]))
   clear HK0 HM2 HHN
   go_wp2_with (refine wpList_load_at rfl 41 _ rfl w.heap.size 10 rfl LT (HTO.out w2 _ (Lies.row _ he2)) _ Tryz.underlying41 rfl (by rw [h3t]; kernel_rfl) ?_)
   refine (HPT.out q1 d1 w2 hS2 (HG.out _ B2.out).stk).mono ?_
   rintro e w3 ⟨rfl, hS3, tu3⟩
   have B3 := But.below B2.out tu3 (by omega) B2.out.size
   have he3 := tu3.row he2 (by omega)
   have hz3 := tu3.row hz2 (by omega)
   clear e0 e3 e13 cp2
   go_wp2_with fail
   go_meet
   exact ⟨by rw [HHh.out], (by rw [HKk.out]), ⟨d1, by rw [HMm.out]; exact hS3, by omega⟩, B3, he3, hz3⟩
  have J0 := Lib.hid j0
  have i0 : (k == [105, 110]) = false := by simpa [kIn] using j0
  clear j0
  by_cases j1 : k = kMore
  ·have J1 := Lib.hid j1
   have i1 : (k == [109, 111, 114, 101]) = true := by rw [j1]; rfl
   clear j1
   have HKk := Lib.hid (show k0 = kp from HK0.out.trans (by rw [if_pos (.inr J1.out)]))
   have HMm := Lib.hid (show m2 = mp from HM2.out.trans (by rw [if_pos (.inr J1.out)]))
   have HHh := Lib.hid (show hN = (hO : Int) from HHN.out.trans (by rw [if_neg (by rw [J1.out]; decide), if_neg (by rw [J1.out]; decide)]))
   clear HK0 HM2 HHN
   go_wp2_with (refine wpList_load_at rfl 41 _ rfl w.heap.size 10 rfl LT (HTO.out w2 _ (Lies.row _ he2)) _ Tryz.underlying41 rfl (by rw [h3t]; kernel_rfl) ?_)
   refine (HPT.out q1 d1 w2 hS2 (HG.out _ B2.out).stk).mono ?_
   rintro e w3 ⟨rfl, hS3, tu3⟩
   have B3 := But.below B2.out tu3 (by omega) B2.out.size
   have he3 := tu3.row he2 (by omega)
   have hz3 := tu3.row hz2 (by omega)
   clear e0 e3 e13 cp2
   go_wp2_with fail
   go_meet
   exact ⟨by rw [HHh.out], (by rw [HKk.out]), ⟨d1, by rw [HMm.out]; exact hS3, by omega⟩, B3, he3, hz3⟩
  have J1 := Lib.hid j1
  have i1 : (k == [109, 111, 114, 101]) = false := by simpa [kMore] using j1
  clear j1
  by_cases j2 : k = kOut
  ·have J2 := Lib.hid j2
   have i2 : (k == [111, 117, 116]) = true := by rw [j2]; rfl
   clear j2
   have HKk := Lib.hid (show k0 = kt from HK0.out.trans (by rw [if_neg (fun e => e.elim J0.out J1.out), if_pos (.inl J2.out)]))
   have HMm := Lib.hid (show m2 = mt from HM2.out.trans (by rw [if_neg (fun e => e.elim J0.out J1.out), if_pos (.inl J2.out)]))
   have HHh := Lib.hid (show hN = (hO : Int) from HHN.out.trans (by rw [if_neg (by rw [J2.out]; decide), if_neg (by rw [J2.out]; decide)]))
   clear HK0 HM2 HHN
   go_wp2_with (refine wpList_load_at rfl 43 _ rfl w.heap.size 0 rfl LX (Lies.row _ he2) _ Tryz.underlying43 rfl (by rw [h14]; kernel_rfl) ?_)
   refine (HTK.out q1 d1 w2 cp2 (HH.out _ B2.out).held hS2 (by omega) (by omega) (fun W hb => (HG.out W (But.below B2.out hb (by omega) B2.out.size)).stk)).mono ?_
   rintro e w3 ⟨rfl, hS3, tu3⟩
   have B3 := But.below B2.out tu3 (by omega) B2.out.size
   have he3 := tu3.row he2 (by omega)
   have hz3 := tu3.row hz2 (by omega)
   clear e0 e3 e13 cp2
   go_wp2_with fail
   go_meet
   exact ⟨by rw [HHh.out], (by rw [HKk.out]), ⟨d1, by rw [HMm.out]; exact hS3, by omega⟩, B3, he3, hz3⟩
  have J2 := Lib.hid j2
  have i2 : (k == [111, 117, 116]) = false := by simpa [kOut] using j2
  clear j2
  by_cases j3 : k = kLess
  ·have J3 := Lib.hid j3
   have i3 : (k == [108, 101, 115, 115]) = true := by rw [j3]; rfl
   clear j3
   have HKk := Lib.hid (show k0 = kt from HK0.out.trans (by rw [if_neg (fun e => e.elim J0.out J1.out), if_pos (.inr J3.out)]))
   have HMm := Lib.hid (show m2 = mt from HM2.out.trans (by rw [if_neg (fun e => e.elim J0.out J1.out), if_pos (.inr J3.out)]))
   have HHh := Lib.hid (show hN = (hO : Int) from HHN.out.trans (by rw [if_neg (by rw [J3.out]; decide), if_neg (by rw [J3.out]; decide)]))
   clear HK0 HM2 HHN
   go_wp2_with (refine wpList_load_at rfl 43 _ rfl w.heap.size 0 rfl LX (Lies.row _ he2) _ Tryz.underlying43 rfl (by rw [h14]; kernel_rfl) ?_)
   refine (HTK.out q1 d1 w2 cp2 (HH.out _ B2.out).held hS2 (by omega) (by omega) (fun W hb => (HG.out W (But.below B2.out hb (by omega) B2.out.size)).stk)).mono ?_
   rintro e w3 ⟨rfl, hS3, tu3⟩
   have B3 := But.below B2.out tu3 (by omega) B2.out.size
   have he3 := tu3.row he2 (by omega)
   have hz3 := tu3.row hz2 (by omega)
   clear e0 e3 e13 cp2
   go_wp2_with fail
   go_meet
   exact ⟨by rw [HHh.out], (by rw [HKk.out]), ⟨d1, by rw [HMm.out]; exact hS3, by omega⟩, B3, he3, hz3⟩
  have J3 := Lib.hid j3
  have i3 : (k == [108, 101, 115, 115]) = false := by simpa [kLess] using j3
  clear j3
  by_cases j4 : k = kMove
  ·have J4 := Lib.hid j4
   have i4 : (k == [109, 111, 118, 101]) = true := by rw [j4]; rfl
   clear j4
   have HKk := Lib.hid (show k0 = kv from HK0.out.trans (by rw [if_neg (fun e => e.elim J0.out J1.out), if_neg (fun e => e.elim J2.out J3.out), if_pos J4.out]))
   have HMm := Lib.hid (show m2 = mv from HM2.out.trans (by rw [if_neg (fun e => e.elim J0.out J1.out), if_neg (fun e => e.elim J2.out J3.out), if_pos J4.out]))
   have HHh := Lib.hid (show hN = (hO : Int) from HHN.out.trans (by rw [if_neg (by rw [J4.out]; decide), if_neg (by rw [J4.out]; decide)]))
   clear HK0 HM2 HHN
   go_wp2_with (first | (refine wpList_load_at rfl 41 (.tmp 60) rfl w.heap.size 7 rfl LF (HFR.out w2 _ (Lies.row _ he2)) _ Tryz.underlying41 rfl (by rw [h3f]; kernel_rfl) ?_) | (refine wpList_load_at rfl 41 (.tmp 62) rfl w.heap.size 10 rfl LT (HTO.out w2 _ (Lies.row _ he2)) _ Tryz.underlying41 rfl (by rw [h3t]; kernel_rfl) ?_))
   refine (HMV.out q1 d1 w2 hS2 (HG.out _ B2.out).stk).mono ?_
   rintro e w3 ⟨rfl, ⟨d2, hS3, hd2⟩, tu3⟩
   have B3 := But2.below B2.out tu3 (by omega) (by omega) B2.out.size
   have he3 := tu3.row he2 (by omega) (by omega)
   have hz3 := tu3.row hz2 (by omega) (by omega)
   clear e0 e3 e13 cp2
   go_wp2_with fail
   go_meet
   exact ⟨by rw [HHh.out], (by rw [HKk.out]), ⟨d2, by rw [HMm.out]; exact hS3, by omega⟩, B3, he3, hz3⟩
  have J4 := Lib.hid j4
  have i4 : (k == [109, 111, 118, 101]) = false := by simpa [kMove] using j4
  clear j4
  by_cases j5 : k = kHold
  ·have J5 := Lib.hid j5
   have i5 : (k == [104, 111, 108, 100]) = true := by rw [j5]; rfl
   clear j5
   have HKk := Lib.hid (show k0 = 0 from HK0.out.trans (by rw [if_neg (fun e => e.elim J0.out J1.out), if_neg (fun e => e.elim J2.out J3.out), if_neg J4.out]))
   have HMm := Lib.hid (show m2 = B.2.2 from HM2.out.trans (by rw [if_neg (fun e => e.elim J0.out J1.out), if_neg (fun e => e.elim J2.out J3.out), if_neg J4.out]))
   have HHh := Lib.hid (show hN = (hO : Int) + n from HHN.out.trans (by rw [if_pos J5.out]))
   clear HK0 HM2 HHN
   have hw : IntKind.i64.wrap ((hO : Int) + n) = (hO : Int) + n := wrap_small (by omega) (by omega)
   go_wp2_with fail
   go_meet
   exact ⟨by rw [HHh.out], (by rw [HKk.out]; rfl), ⟨d1, by rw [HMm.out]; exact hS2, by omega⟩, B2.out, he2, hz2⟩
  have J5 := Lib.hid j5
  have i5 : (k == [104, 111, 108, 100]) = false := by simpa [kHold] using j5
  clear j5
  by_cases j6 : k = kFree
  ·have J6 := Lib.hid j6
   have i6 : (k == [102, 114, 101, 101]) = true := by rw [j6]; rfl
   clear j6
   have HKk := Lib.hid (show k0 = 0 from HK0.out.trans (by rw [if_neg (fun e => e.elim J0.out J1.out), if_neg (fun e => e.elim J2.out J3.out), if_neg J4.out]))
   have HMm := Lib.hid (show m2 = B.2.2 from HM2.out.trans (by rw [if_neg (fun e => e.elim J0.out J1.out), if_neg (fun e => e.elim J2.out J3.out), if_neg J4.out]))
   have HHh := Lib.hid (show hN = (hO : Int) - n from HHN.out.trans (by rw [if_neg J5.out, if_pos J6.out]))
   clear HK0 HM2 HHN
   have hw : IntKind.i64.wrap ((hO : Int) - n) = (hO : Int) - n := wrap_small (by omega) (by omega)
   go_wp2_with fail
   go_meet
   exact ⟨by rw [HHh.out], (by rw [HKk.out]; rfl), ⟨d1, by rw [HMm.out]; exact hS2, by omega⟩, B2.out, he2, hz2⟩
  have J6 := Lib.hid j6
  have i6 : (k == [102, 114, 101, 101]) = false := by simpa [kFree] using j6
  clear j6
  have HKk := Lib.hid (show k0 = 0 from HK0.out.trans (by rw [if_neg (fun e => e.elim J0.out J1.out), if_neg (fun e => e.elim J2.out J3.out), if_neg J4.out]))
  have HMm := Lib.hid (show m2 = B.2.2 from HM2.out.trans (by rw [if_neg (fun e => e.elim J0.out J1.out), if_neg (fun e => e.elim J2.out J3.out), if_neg J4.out]))
  have HHh := Lib.hid (show hN = (hO : Int) from HHN.out.trans (by rw [if_neg J5.out, if_neg J6.out]))
  clear HK0 HM2 HHN
  go_wp2_with fail
  go_meet
  exact ⟨by rw [HHh.out], (by rw [HKk.out]; rfl), ⟨d1, by rw [HMm.out]; exact hS2, by omega⟩, B2.out, he2, hz2⟩
 case rest =>
  obtain ⟨rfl, rfl, ⟨d2, hS3, hd2⟩, B3', he3, hz3⟩ := hcut
  have B3 := Lib.hid B3'
  have hqw : w.heap.size ≤ q1 := by omega
  clear B3' hS2 he2 hz2 cp2 e0 e3 e13 HK0 HM2 HHN HPT HMV HTK HFR HTO B2 HLH h3f h3t hk0 hk3 hk13 lq2 nq2 hq1 hd1
  obtain ⟨ce0, ce1, ce2, ce3, ce4, ce5, ce6, ce7, ce8, ce9, ce10, ce11, ce12, ce13, rfl⟩ := len14b h14
  clear h14
  have HWZ : Hid (∀ W : World, LZ[1]? = some (.string ⟨code.toArray⟩) → W.heap[lb]? = some (.cells LZ.toArray 39 (0, 0)) → W.cell? ⟨lb, 1, none⟩ = some (.string ⟨code.toArray⟩)) := fun W h1 h2 => (cell_of_row _ _ _ _ _ _ h2).trans (by simpa using h1)
  obtain ⟨bd, hbd⟩ : ∃ bd, bd = decide (k0 = 0 ∧ (hN < 0 ∨ (oo : Int) < hN)) := ⟨_, rfl⟩
  obtain ⟨k1, hk1⟩ : ∃ k1, k1 = if k0 = 0 ∧ (hN < 0 ∨ (oo : Int) < hN) then 9 else k0 := ⟨_, rfl⟩
  rw [← hk1] at HPC
  have HK1 : Hid (k1 = if bd = true then 9 else k0) := by
   show _ = _
   rw [hk1, hbd]
   simp only [decide_eq_true_eq]
  have HK2 := Lib.hid (show k1 = 0 → k0 = 0 ∧ 0 ≤ hN ∧ hN ≤ (oo : Int) from fun h => by
   rw [hk1] at h
   split at h
   ·cases h
   ·rename_i h1
    refine ⟨h, ?_, ?_⟩
    ·rcases Int.lt_or_le hN 0 with h2 | h2
     ·exact absurd ⟨h, .inl h2⟩ h1
     ·exact h2
    ·rcases Int.lt_or_le (oo : Int) hN with h2 | h2
     ·exact absurd ⟨h, .inr h2⟩ h1
     ·exact h2)
  have HBD := Lib.hid hbd
  clear hbd hk1
  obtain ⟨w3, rfl⟩ : ∃ w3, w3 = wc := ⟨_, rfl⟩
  go_upto_region 21 with fail
  go_cut [10, 92] (fun s10 s92 wx => s10 = errOf E k0 ∧ s92 = .bool bd ∧ Below w3.heap.size w3 wx)
  case first =>
   clear HDG HDL HDQ HDH HDS HS0 HSC HLS HST HSU HPC HOV HBX HD HK1 HK2 HWZ HH HG
   by_cases hk0 : k0 = 0
   ·have HK0 := Lib.hid hk0
    rw [hk0, errOf_zero]
    by_cases hneg : hN < 0
    ·have HT : Hid (bd = true) := HBD.out.trans (decide_eq_true ⟨hk0, .inl hneg⟩)
     clear hk0
     go_wp2_with fail
     go_meet
     exact ⟨by rw [HK0.out]; rfl, by rw [HT.out], Below.refl _ _⟩
    ·have HNG := Lib.hid hneg
     clear hk0
     go_wp2_with fail
     refine (HOF.out q1 d2 w3 hS3).mono ?_
     rintro e w4 ⟨rfl, b4⟩
     have B4 := Lib.hid b4
     clear b4
     by_cases hof : (oo : Int) < hN
     ·have HT : Hid (bd = true) := HBD.out.trans (decide_eq_true ⟨HK0.out, .inr hof⟩)
      go_wp2_with fail
      go_meet
      exact ⟨by rw [HK0.out]; rfl, by rw [HT.out], B4.out⟩
     ·have HT : Hid (bd = false) := HBD.out.trans (decide_eq_false fun e => e.2.elim (fun h => absurd h (Int.not_lt.2 (by have := HNG.out; omega))) hof)
      go_wp2_with fail
      go_meet
      exact ⟨by rw [HK0.out]; rfl, by rw [HT.out, decide_eq_false (show ¬ (oo : Int) < hN by omega)], B4.out⟩
   ·have HT : Hid (bd = false) := HBD.out.trans (decide_eq_false fun e => hk0 e.1)
    have HK0 := Lib.hid hk0
    rw [errOf_pos _ _ hk0]
    clear hk0
    go_wp2_with fail
    go_meet
    exact ⟨(errOf_pos _ _ HK0.out).symm, by rw [HT.out], Below.refl _ _⟩
  case rest =>
   obtain ⟨rfl, rfl, b4⟩ := hcut
   obtain ⟨w4, rfl⟩ : ∃ w4, w4 = wc := ⟨_, rfl⟩
   have B4 := Lib.hid (B3.out.trans (b4.mono B3.out.size))
   have he4 := row_below b4 he3 (row_lt he3)
   have hz4r := row_below b4 hz3 (row_lt hz3)
   have HS4 := Lib.hid (hS3.below b4)
   clear b4 hS3 he3 hz3 HOF HBD
   have hsh := (HG.out _ B4.out).stk.short
   unfold ErrAt at hsh
   go_upto_if 92 with fail
   go_cut [10] (fun s10 wx => s10 = errOf E k1 ∧ wx = w4)
   case first =>
    clear HDG HDL HDQ HDH HDS HS0 HSC HLS HST HSU HPC HOV HBX HD HK2 HWZ HH
    cases bd with
    |true =>
     have HT := Lib.hid (HK1.out.trans (if_pos rfl))
     go_wp2_with fail
     go_meet
     exact ⟨by rw [HT.out]; rfl, rfl⟩
    |false =>
     have HT := Lib.hid (HK1.out.trans (if_neg (by simp)))
     go_wp2_with fail
     go_meet
     exact ⟨by rw [HT.out], rfl⟩
   case rest =>
    obtain ⟨rfl, rfl⟩ := hcut
    obtain ⟨w4, rfl⟩ : ∃ w4, w4 = wc := ⟨_, rfl⟩
    clear hsh HK1
    go_upto_region 23 with fail
    have HUP : Hid (∀ W, Below w4.heap.size w4 W → W.cell? ⟨w.heap.size, 0, none⟩ = some ce0 ∧ W.cell? ⟨w.heap.size, 1, none⟩ = some ce1 ∧ W.cell? ⟨w.heap.size, 2, none⟩ = some ce2 ∧ W.cell? ⟨w.heap.size, 3, none⟩ = some ce3 ∧ W.cell? ⟨w.heap.size, 4, none⟩ = some ce4 ∧ W.cell? ⟨w.heap.size, 5, none⟩ = some ce5 ∧ W.cell? ⟨w.heap.size, 6, none⟩ = some ce6 ∧ W.cell? ⟨w.heap.size, 7, none⟩ = some ce7 ∧ W.cell? ⟨w.heap.size, 8, none⟩ = some ce8 ∧ W.cell? ⟨w.heap.size, 9, none⟩ = some ce9 ∧ W.cell? ⟨w.heap.size, 10, none⟩ = some ce10 ∧ W.cell? ⟨w.heap.size, 11, none⟩ = some ce11 ∧ W.cell? ⟨w.heap.size, 12, none⟩ = some ce12 ∧ W.cell? ⟨w.heap.size, 13, none⟩ = some ce13 ∧ W.cell? ⟨lb, 1, none⟩ = some (.string ⟨code.toArray⟩) ∧ W.cell? ⟨p, 3, none⟩ = some (.map (some s)) ∧ (Instr.lookup 93 (.map (some s)) (.string ⟨code.toArray⟩) false).run Tryz.prog W = .ok (.agg #[.int .i64 o1, .int .i64 o2, .int .i64 o3, .int .i64 o4]) W) := fun W hb => by
     have hr := row_below hb he4 (row_lt he4)
     have hz := row_below hb hz4r (row_lt hz4r)
     have hB := HH.out W (B4.out.trans (hb.mono B4.out.size))
     exact ⟨cell_of_row _ _ 0 _ _ _ hr, cell_of_row _ _ 1 _ _ _ hr, cell_of_row _ _ 2 _ _ _ hr, cell_of_row _ _ 3 _ _ _ hr, cell_of_row _ _ 4 _ _ _ hr, cell_of_row _ _ 5 _ _ _ hr, cell_of_row _ _ 6 _ _ _ hr, cell_of_row _ _ 7 _ _ _ hr, cell_of_row _ _ 8 _ _ _ hr, cell_of_row _ _ 9 _ _ _ hr, cell_of_row _ _ 10 _ _ _ hr, cell_of_row _ _ 11 _ _ _ hr, cell_of_row _ _ 12 _ _ _ hr, cell_of_row _ _ 13 _ _ _ hr, HWZ.out W hz1c hz, hB.cells.1.2.2.2.1, HLS.out W hB.sums⟩
    have hd := (Below.refl w4.heap.size w4).drew
    have ha : Below w4.heap.size w4 (w4.alloc (.cells #[.int .i64 0, .int .i64 0, .int .i64 0, .int .i64 0] 77)).drew := (below_one w4 _).drew
    have hza : (w4.alloc (.cells #[.int .i64 0, .int .i64 0, .int .i64 0, .int .i64 0] 77)).drew.heap[w4.heap.size]? = some (.cells #[.int .i64 0, .int .i64 0, .int .i64 0, .int .i64 0] 77 (0, 0)) := heap_alloc_new w4 _
    have hzl := row_lt hza
    have HC4 := Lib.hid (fun v (k : Below w4.heap.size w4 v) => (((k.setCell (p := ⟨w4.heap.size, 0, none⟩) (Nat.le_refl _) (.int .i64 t1)).setCell (p := ⟨w4.heap.size, 1, none⟩) (Nat.le_refl _) (.int .i64 t2)).setCell (p := ⟨w4.heap.size, 2, none⟩) (Nat.le_refl _) (.int .i64 t3)).setCell (p := ⟨w4.heap.size, 3, none⟩) (Nat.le_refl _) (.int .i64 t4))
    go_cut [11] (fun s11 wx => (∃ sb, s11 = .pointer (some ⟨sb, 0, none⟩) ∧ wx.heap[sb]? = some (.cells #[.int .i64 t1, .int .i64 t2, .int .i64 t3, .int .i64 t4] 77 (0, 0)) ∧ w4.heap.size ≤ sb) ∧ Below w4.heap.size w4 wx)
    case first =>
     clear HDG HDL HDQ HDH HDS HS0 HSC HST HPC HOV HBX HD HK2 HWZ HG HS4 he4 hz4r
     go_region_held3 (fun W => W.cell? ⟨w.heap.size, 0, none⟩ = some ce0 ∧ W.cell? ⟨w.heap.size, 1, none⟩ = some ce1 ∧ W.cell? ⟨w.heap.size, 2, none⟩ = some ce2 ∧ W.cell? ⟨w.heap.size, 3, none⟩ = some ce3 ∧ W.cell? ⟨w.heap.size, 4, none⟩ = some ce4 ∧ W.cell? ⟨w.heap.size, 5, none⟩ = some ce5 ∧ W.cell? ⟨w.heap.size, 6, none⟩ = some ce6 ∧ W.cell? ⟨w.heap.size, 7, none⟩ = some ce7 ∧ W.cell? ⟨w.heap.size, 8, none⟩ = some ce8 ∧ W.cell? ⟨w.heap.size, 9, none⟩ = some ce9 ∧ W.cell? ⟨w.heap.size, 10, none⟩ = some ce10 ∧ W.cell? ⟨w.heap.size, 11, none⟩ = some ce11 ∧ W.cell? ⟨w.heap.size, 12, none⟩ = some ce12 ∧ W.cell? ⟨w.heap.size, 13, none⟩ = some ce13 ∧ W.cell? ⟨lb, 1, none⟩ = some (.string ⟨code.toArray⟩) ∧ W.cell? ⟨p, 3, none⟩ = some (.map (some s)) ∧ (Instr.lookup 93 (.map (some s)) (.string ⟨code.toArray⟩) false).run Tryz.prog W = .ok (.agg #[.int .i64 o1, .int .i64 o2, .int .i64 o3, .int .i64 o4]) W)
      (first | exact HUP.out _ hd | exact HUP.out _ ha | exact HUP.out _ k1 | exact HUP.out _ (k1.alloc k1.size _) | exact HUP.out _ (HC4.out v k1) | go_keep)
      (first | (go_at_call 99; refine (HSU.out _).mono ?_; rintro e v ⟨rfl, bb⟩; (first | (have k1 := hd.trans (bb.mono hd.size)) | (have k1 := ha.trans (bb.mono ha.size); have hsb := row_below bb hza hzl; obtain ⟨⟨z0, z1, z2, z3⟩, y0, y1, y2, y3⟩ := row4f hsb))))
     all_goals
      go_wp2_with fail
      go_meet
      (first | exact ⟨⟨v.heap.size, rfl, heap_alloc_new v _, k1.size⟩, k1.alloc k1.size _⟩ | exact ⟨⟨w4.heap.size, rfl, puts_row [.int .i64 t1, .int .i64 t2, .int .i64 t3, .int .i64 t4] hsb rfl, Nat.le_refl _⟩, HC4.out v k1⟩)
    case rest =>
     obtain ⟨⟨sb, rfl, hsb, hsw⟩, b5⟩ := hcut
     have B5 := Lib.hid (B4.out.trans (b5.mono B4.out.size))
     obtain ⟨⟨z0, z1, z2, z3⟩, -⟩ := row4f hsb
     have HSK := Lib.hid (HS4.out.below b5)
     have hz5 := row_below b5 hz4r (row_lt hz4r)
     have hbd := (HG.out _ B5.out).stk.place.bound
     unfold ErrAt at hbd
     have hsb2 : w.heap.size ≤ sb := Nat.le_trans B4.out.size hsw
     clear b5 HUP hd ha hza hzl HC4 he4 hz4r HS4 B4 HSU
     by_cases hk1 : ¬ k1 = 0
     ·have HP : Hid (pc = k1) := HPC.out.trans (if_pos hk1)
      rw [errOf_pos _ _ hk1]
      have HK1 := Lib.hid hk1
      clear hk1
      go_wp2_with fail
      go_ret
      rw [HP.out, HBX.out, HP.out, if_neg HK1.out, errOf_pos _ _ HK1.out]
      exact ⟨rfl, ⟨q, c, HH.out _ B5.out, .inl ⟨rfl, rfl⟩⟩, ButF.of_below B5.out⟩
     have hk1 := Classical.not_not.1 hk1
     have HP : Hid (pc = if ov = true then 2 else 0) := HPC.out.trans (if_neg (fun e => e hk1))
     have HNG := Lib.hid (HK2.out hk1).2.1
     rw [hk1, errOf_zero]
     clear hk1 HPC HK2
     have HOV1 := Lib.hid (HOV.out.trans (over_more t1 t2 t3 t4))
     have hmax := fun ty => run_max4 (P := Tryz.prog) #[3, 3, 3, 3] ty t1 t2 t3 t4 wc
     generalize more2 (more2 (more2 t1 t2) t3) t4 = mx at hmax HOV1
     clear HOV
     by_cases hmx : 65970697666560 < mx
     ·have HP2 : Hid (pc = 2) := by
       show _ = _
       rw [HP.out, HOV1.out, if_pos]
       exact decide_eq_true hmx
      clear HOV1 HP
      go_wp2_with fail
      go_ret
      rw [HP2.out, HBX.out, HP2.out, if_neg (by decide)]
      exact ⟨rfl, ⟨q, c, HH.out _ B5.out, .inl ⟨rfl, rfl⟩⟩, ButF.of_below B5.out⟩
     ·have HP2 : Hid (pc = 0) := by
       show _ = _
       rw [HP.out, HOV1.out, if_neg]
       exact Bool.eq_false_iff.1 (decide_eq_false hmx)
      clear HOV1 HP
      obtain ⟨nN, rfl⟩ : ∃ nN : Nat, hN = (nN : Int) := ⟨hN.toNat, (Int.toNat_of_nonneg (by have := HNG.out; omega)).symm⟩
      have hnd := HD.out
      simp only [List.nodup_cons, List.mem_cons, List.not_mem_nil, or_false, not_or, List.nodup_nil, and_true, not_false_eq_true] at hnd
      have HB5 := Lib.hid (HH.out _ B5.out)
      have hown5 := HB5.out.own
      go_wp2_with (refine wpList_store_val rfl 86 _ _ rfl p 4 (.pointer (some ⟨q1, 0, none⟩)) rfl rfl rfl _ [.map (some g), .map (some l), .map (some h), .map (some s), .pointer (some ⟨q, 0, none⟩)] hown5 (by kernel_rfl) (Nat.le_of_ble_eq_true rfl) rfl ?_; intro w6 h6 tu6)
      have hp6 : w6.heap[p]? = some (.cells #[.map (some g), .map (some l), .map (some h), .map (some s), .pointer (some ⟨q1, 0, none⟩)] 106 (0, 0)) := h6
      refine (setHeld_any p h id nN (heldF B) w6 (cell_of_row _ _ 2 _ _ _ hp6) (HB5.out.held.keep (tu6.block h (by omega)))).mono ?_
      rintro e w7 ⟨rfl, hh7, tu7⟩
      have keep7 : ∀ k, k ≠ p → k ≠ h → w7.heap[k]? = wc.heap[k]? := fun k h1 h2 => (tu7.block k h2).trans (tu6.block k h1)
      have hp7 := (tu7.block p (by omega)).trans hp6
      have hsb7 := (keep7 sb (by omega) (by omega)).trans hsb
      have hz7 := (keep7 lb (by omega) (by omega)).trans hz5
      have hs7 := HB5.out.sums.keep (keep7 s (by omega) (by omega))
      have hg7 := HB5.out.goods.keep (keep7 g (by omega) (by omega))
      have hl7 := HB5.out.lots.keep (keep7 l (by omega) (by omega))
      have HSK7 := Lib.hid (HSK.out.keep (keep7 q1 (by omega) (by omega)) (keep7 d2 (by omega) (by omega)))
      have B7 := Lib.hid (((ButF.of_below (F := [p, h, s]) B5.out).step (ButF.of_turned tu6 (.inl (by simp)))).step (ButF.of_turned tu7 (.inl (by simp))))
      have HH7 := Lib.hid hh7
      have HG7 := Lib.hid hg7
      have HL7 := Lib.hid hl7
      have HS7 := Lib.hid hs7
      have HP7 := Lib.hid hp7
      have HSB7 := Lib.hid hsb7
      have HZ7 := Lib.hid hz7
      have HND := Lib.hid hnd
      obtain ⟨⟨r0, r1, r2, r3⟩, -⟩ := row4f hsb7
      have rp : w7.cell? ⟨p, 3, none⟩ = some (.map (some s)) := cell_of_row _ _ 3 _ _ _ hp7
      have rl := HWZ.out w7 hz1c hz7
      have hl := HLS.out w7.drew hs7
      have hq := fun W => neqSums (t1, t2, t3, t4) (o1, o2, o3, o4) W
      simp only [encSums] at hq
      obtain ⟨dq, hdq⟩ : ∃ dq, dq = decide (((t1, t2, t3, t4) : SumsV) = (o1, o2, o3, o4)) := ⟨_, rfl⟩
      rw [← hdq] at hq
      have HDQ2 := Lib.hid hdq
      clear hdq hnd hown5 h6 hp6 tu6 hh7 tu7 keep7 hp7 hsb7 hz7 hs7 hg7 hl7 hsb hz5 z0 z1 z2 z3 hbd hmax
      go_wp2_with fail
      go_region
      all_goals
       cases dq with
       |true =>
        go_wp2_with fail
        go_ret
        rw [HP2.out, HBX.out, HP2.out, if_pos rfl]
        refine ⟨rfl, ⟨q1, d2, ⟨HP7.out, HG7.out.congr HDG.out, HL7.out.congr HDL.out, HH7.out.congr fun i => ?_, HS7.out.congr fun i => ?_, HDQ.out ▸ HSK7.out⟩, .inr ⟨hqw, hd2⟩⟩, B7.out.drew⟩
        ·have := HDH.out i
         rw [Int.toNat_natCast] at this
         exact this
        ·rw [HS0.out i, ← of_decide_eq_true HDQ2.out.symm]
         exact HDS.out i
       |false =>
        have hne := of_decide_eq_false HDQ2.out.symm
        have hnz := HSC.out hne
        have HNZ := Lib.hid hnz
        obtain ⟨w8, hS8, hM8, hT8⟩ := HST.out w7.drew.drew HS7.out
        have HM8 := Lib.hid hM8
        have HT8 := Lib.hid hT8
        clear hne hnz hM8 hT8 hl hq
        go_wp2_with fail
        go_region
        all_goals
         go_wp2_with fail
         go_ret
         rw [HP2.out, HBX.out, HP2.out, if_pos rfl]
         have hnd := HND.out
         have hb := HT8.out.block
         refine ⟨rfl, ⟨q1, d2, ⟨(hb p (by omega)).trans HP7.out, (HG7.out.keep (hb g (by omega))).congr HDG.out, (HL7.out.keep (hb l (by omega))).congr HDL.out, (HH7.out.keep (hb h (by omega))).congr fun i => ?_, HM8.out.congr fun i => ?_, HDQ.out ▸ HSK7.out.keep (hb q1 (by omega)) (hb d2 (by omega))⟩, .inr ⟨hqw, hd2⟩⟩, (B7.out.drew.drew).step (ButF.of_turned HT8.out (.inl (by simp)))⟩
         ·have := HDH.out i
          rw [Int.toNat_natCast] at this
          exact this
         ·have := HDS.out i
          rw [if_neg HNZ.out] at this
          exact this
end Go.Proofs.YteaalifehokgoaaGreatDoor
