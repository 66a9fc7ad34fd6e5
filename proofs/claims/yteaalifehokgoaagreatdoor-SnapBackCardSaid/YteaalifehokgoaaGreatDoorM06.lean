/- Stock: Take. Stock: Move. Plain facts: three-way compares, one behind the other, and the strict orders that they make. Places: their compare; Ahead. A world with more blocks than one. -/
import Derived.IntWalk
import Derived.Test.YteaalifehokgoaaGreatDoorM04
import Derived.Test.YteaalifehokgoaaGreatDoorM05
namespace Go.Proofs.YteaalifehokgoaaGreatDoor
open Go.RowKit Go.Sort Go.Proofs
theorem mget_put {κ ν : Type} [DecidableEq κ] : ∀ (m : List (κ × ν)) (k : κ) (v : ν), mget (mput m k v) k = some v
 |[], k, v => by simp [mput, mget]
 |p :: r, k, v => by
  unfold mput
  by_cases h : p.1 = k
  ·rw [if_pos h]; simp [mget]
  ·rw [if_neg h]
   unfold mget
   rw [if_neg h]
   exact mget_put r k v
def takeE (m : StkV) (pl : PlaceV) (lot : List UInt8) (n : Int) : Nat := if wiB n 1 1099511627776 = false then 2 else if (atM m (pl, lot) : Int) < n then 9 else 0
def takeM (m : StkV) (pl : PlaceV) (lot : List UInt8) (n : Int) : StkV :=
 if takeE m pl lot n = 0 then (if atM m (pl, lot) - n.toNat = 0 then mdel (mput m (pl, lot) (atM m (pl, lot) - n.toNat)) (pl, lot) else mput m (pl, lot) (atM m (pl, lot) - n.toNat)) else m
set_option maxHeartbeats 1600000 in
set_option maxRecDepth 100000 in
theorem takeStock_any (E : Nat → Addr) (p b : Nat) (m : StkV) (pl : PlaceV) (lot : List UInt8) (n : Int) (w : World) (h : StkAt w p b m) (ha : atM m (pl, lot) ≤ 4611686018427387904) (hG : StkG E w) :
  Calls Tryz.prog 149 #[.pointer (some ⟨p, 0, none⟩), .agg (encPlace pl).toArray, .string ⟨lot.toArray⟩, .int .i64 n] w fun e w' => e = .returned (errOf E (takeE m pl lot n)) ∧ StkAt w' p b (takeM m pl lot n) ∧ But b w w' := by
 have HWI := Lib.hid (within_any n 1 1099511627776)
 have HG := Lib.hid (fun W (h : Below w.heap.size w W) => hG.below h)
 have HS := Lib.hid (fun W (hb : Below w.heap.size w W) => h.below hb)
 obtain ⟨r, hr⟩ : ∃ r, r = takeE m pl lot n := ⟨_, rfl⟩
 obtain ⟨m', hm'⟩ : ∃ m', m' = takeM m pl lot n := ⟨_, rfl⟩
 rw [← hr, ← hm']
 have HR := Lib.hid (show r = if wiB n 1 1099511627776 = false then 2 else if (atM m (pl, lot) : Int) < n then 9 else 0 from hr)
 obtain ⟨m1, hm1⟩ : ∃ m1, m1 = mput m (pl, lot) (atM m (pl, lot) - n.toNat) := ⟨_, rfl⟩
 have HM : Hid (m' = if r = 0 then (if atM m (pl, lot) - n.toNat = 0 then mdel m1 (pl, lot) else m1) else m) := by
  show _ = _
  rw [hm', hr, hm1]
  rfl
 have HE := Lib.hid (fun W (h : MapIs eKey eNat W b m) => h.entry keyOk Tryz.underlying145 zeroNat (pl, lot))
 have HL := Lib.hid (fun W (h : StkAt W p b m) => look_stk h pl lot)
 have HM1 : Hid (mput m (pl, lot) (atM m (pl, lot) - n.toNat) = m1) := hm1.symm
 have hg1 : atM m1 (pl, lot) = atM m (pl, lot) - n.toNat := by
  unfold atM
  rw [hm1, mget_put]
  rfl
 have HL1 := Lib.hid (fun W (h : StkAt W p b m1) => look_stk h pl lot)
 have HD1 := Lib.hid (fun W (h : MapIs eKey eNat W b m1) => h.drop keyOk Tryz.underlying145 (pl, lot))
 have hlb := h.lt
 have hpb := h.ne
 have b0 := Lib.hid (below_two w (.cells (encPlace pl).toArray 41) (.cells (encPlace pl ++ [Value.string ⟨lot.toArray⟩]).toArray 149))
 rw [hg1] at HL1
 clear hr hm' hm1 hg1 h hG
 rw [show (mget m (pl, lot)).getD 0 = atM m (pl, lot) from rfl] at HE
 generalize atM m (pl, lot) = a at *
 generalize hwi : wiB n 1 1099511627776 = wi at HWI HR
 generalize mdel m1 (pl, lot) = m2 at HM HD1
 obtain ⟨a1, a2, a3⟩ := pl
 simp only [encPlace, eKey, encKey, List.cons_append, List.nil_append] at HE HL HL1 HD1 b0 ⊢
 go_enter Tryz.func149, Tryz.ntmps149
 go_wp2_with fail
 have hk3 : ((w.alloc (.cells #[.string ⟨a1.toArray⟩, .int .i64 a2, .int .i64 a3] 41)).alloc (.cells #[.string ⟨a1.toArray⟩, .int .i64 a2, .int .i64 a3, .string ⟨lot.toArray⟩] 149)).heap[w.heap.size + 1]? = some (.cells #[.string ⟨a1.toArray⟩, .int .i64 a2, .int .i64 a3, .string ⟨lot.toArray⟩] 149 (0, 0)) := by
  have := heap_alloc_new (w.alloc (.cells #[.string ⟨a1.toArray⟩, .int .i64 a2, .int .i64 a3] 41)) (.cells #[.string ⟨a1.toArray⟩, .int .i64 a2, .int .i64 a3, .string ⟨lot.toArray⟩] 149)
  simpa using this
 generalize (w.alloc (.cells #[.string ⟨a1.toArray⟩, .int .i64 a2, .int .i64 a3] 41)).alloc (.cells #[.string ⟨a1.toArray⟩, .int .i64 a2, .int .i64 a3, .string ⟨lot.toArray⟩] 149) = W3 at b0 hk3 ⊢
 obtain ⟨kb, hkb⟩ : ∃ kb, kb = w.heap.size + 1 := ⟨_, rfl⟩
 rw [← hkb] at hk3 ⊢
 have hkne : kb ≠ b := by omega
 clear hkb
 refine (HWI.out W3).mono ?_
 rintro e w5 ⟨rfl, rfl⟩
 have hbd := (HG.out _ b0.out).place.bound
 have hsh := (HG.out _ b0.out).short
 unfold ErrAt at hbd hsh
 cases wi with
 |false =>
  have HR0 := Lib.hid (show r = 2 from HR.out.trans (if_pos rfl))
  have HM0 := Lib.hid (HM.out.trans (if_neg (by rw [HR0.out]; decide)))
  go_wp2_with fail
  go_ret
  rw [HR0.out, HM0.out]
  exact ⟨rfl, HS.out _ b0.out, But.of_below b0.out⟩
 |true =>
  unfold wiB at hwi
  simp only [decide_eq_true_eq] at hwi
  obtain ⟨hn1, hn2⟩ := hwi
  have hS3 := HS.out _ b0.out
  have hl3 := HL.out _ hS3
  have hl3d := HL.out W3.drew hS3
  have cp3 := hS3.cell
  have q0 : W3.cell? ⟨kb, 0, none⟩ = some (.string ⟨a1.toArray⟩) := cell_of_row _ _ _ _ _ _ hk3
  have q1 : W3.cell? ⟨kb, 1, none⟩ = some (.int .i64 a2) := cell_of_row _ _ _ _ _ _ hk3
  have q2 : W3.cell? ⟨kb, 2, none⟩ = some (.int .i64 a3) := cell_of_row _ _ _ _ _ _ hk3
  have q3 : W3.cell? ⟨kb, 3, none⟩ = some (.string ⟨lot.toArray⟩) := cell_of_row _ _ _ _ _ _ hk3
  go_wp2_with fail
  go_region
  all_goals
   by_cases han : (a : Int) < n
   ·have HR0 := Lib.hid (show r = 9 from HR.out.trans (by rw [if_neg (by simp), if_pos han]))
    have HM0 := Lib.hid (HM.out.trans (if_neg (by rw [HR0.out]; decide)))
    go_wp2_with fail
    go_ret
    rw [HR0.out, HM0.out]
    exact ⟨rfl, HS.out _ b0.out.drew, But.of_below b0.out.drew⟩
   ·have HR0 := Lib.hid (show r = 0 from HR.out.trans (by rw [if_neg (by simp), if_neg han]))
    have HM0 := Lib.hid (HM.out.trans (if_pos HR0.out))
    go_wp2_with fail
    have hw : IntKind.i64.wrap ((a : Int) - n) = (a : Int) - n := wrap_small (by omega) (by omega)
    obtain ⟨v1, s, hE, hT1, hL1, hS⟩ := HE.out W3.drew.drew hS3.2
    obtain ⟨v2, hS2, hM2, hT2⟩ := hS (a - n.toNat)
    have hv : (((a - n.toNat : Nat) : Int)) = (a : Int) - n := by omega
    rw [HM1.out] at hM2
    simp only [eNat] at hE hL1 hS2
    rw [hv] at hS2
    have hLL := hL1 false
    simp only [Bool.false_eq_true, if_false] at hLL
    have hl5 := HL.out W3.drew.drew hS3
    have z0 : v1.cell? ⟨kb, 0, none⟩ = _ := hT1.cell (w := W3.drew.drew) q0 hkne
    have z1 : v1.cell? ⟨kb, 1, none⟩ = _ := hT1.cell (w := W3.drew.drew) q1 hkne
    have z2 : v1.cell? ⟨kb, 2, none⟩ = _ := hT1.cell (w := W3.drew.drew) q2 hkne
    have z3 : v1.cell? ⟨kb, 3, none⟩ = _ := hT1.cell (w := W3.drew.drew) q3 hkne
    have zp : v1.cell? ⟨p, 0, none⟩ = _ := hT1.cell (w := W3.drew.drew) cp3 hpb
    have y0 : v2.cell? ⟨kb, 0, none⟩ = _ := hT2.cell (w := W3.drew.drew) q0 hkne
    have y1 : v2.cell? ⟨kb, 1, none⟩ = _ := hT2.cell (w := W3.drew.drew) q1 hkne
    have y2 : v2.cell? ⟨kb, 2, none⟩ = _ := hT2.cell (w := W3.drew.drew) q2 hkne
    have y3 : v2.cell? ⟨kb, 3, none⟩ = _ := hT2.cell (w := W3.drew.drew) q3 hkne
    have yp : v2.cell? ⟨p, 0, none⟩ = _ := hT2.cell (w := W3.drew.drew) cp3 hpb
    have hS4 : StkAt v2 p b m1 := ⟨hT2.heap hS3.1 hpb, hM2⟩
    have HS4 := Lib.hid hS4
    have HB2 := Lib.hid ((But.of_below b0.out).drew.drew.trans (But.of_turned hT2))
    have HX3 := Lib.hid hS3
    clear hS hT2 hM2 hS3 hL1 hT1 hl3 hl3d hS4
    go_region
    all_goals
     have hl6 := HL1.out v2.drew HS4.out
     clear z0 z1 z2 z3 zp hE hS2 hLL hl5 q0 q1 q2 q3 cp3
     by_cases hz : a - n.toNat = 0
     ·have HM3 := Lib.hid (HM0.out.trans (if_pos hz))
      obtain ⟨v3, hD, hM4, hT4⟩ := HD1.out v2.drew.drew HS4.out.2
      rw [hz] at hl6
      have HM4 := Lib.hid hM4
      have HT4 := Lib.hid hT4
      clear hM4 hT4 hz
      go_wp2_with fail
      go_region
      all_goals
       go_wp2_with fail
       go_region
       all_goals
        go_wp2_with fail
        go_ret
        rw [HR0.out, HM3.out]
        exact ⟨rfl, ⟨HT4.out.heap HS4.out.1 hpb, HM4.out⟩, HB2.out.drew.drew.trans (But.of_turned HT4.out)⟩
     ·have HM3 := Lib.hid (HM0.out.trans (if_neg hz))
      have hz0 : ¬ ((a - n.toNat : Nat) : Int) = 0 := by omega
      generalize a - n.toNat = q at hl6 hz0
      go_wp2_with fail
      go_region
      all_goals
       go_wp2_with fail
       go_ret
       rw [HR0.out, HM3.out]
       exact ⟨rfl, HS4.out, HB2.out.drew⟩
end Go.Proofs.YteaalifehokgoaaGreatDoor
namespace Go.Proofs.YteaalifehokgoaaGreatDoor
open Go.RowKit Go.Sort Go.Proofs
structure But2 (p b : Nat) (w w' : World) : Prop where
 os : w'.os = w.os
 tape : w'.tape = w.tape
 output : w'.output = w.output
 size : w.heap.size ≤ w'.heap.size
 block : ∀ k, k < w.heap.size → k ≠ p → k ≠ b → w'.heap[k]? = w.heap[k]?
theorem But.two {p b : Nat} {w w' : World} (h : But b w w') : But2 p b w w' := ⟨h.os, h.tape, h.output, h.size, fun k hk _ h2 => h.block k hk h2⟩
theorem But2.refl (p b : Nat) (w : World) : But2 p b w w := (But.refl b w).two
theorem But2.trans {p b c : Nat} {w1 w2 w3 : World} (h : But2 p b w1 w2) (k : But2 p c w2 w3) (hc : c = b ∨ w1.heap.size ≤ c) : But2 p b w1 w3 :=
 ⟨k.os.trans h.os, k.tape.trans h.tape, k.output.trans h.output, Nat.le_trans h.size k.size, fun i hi h1 h2 => (k.block i (Nat.lt_of_lt_of_le hi h.size) h1 (by omega)).trans (h.block i hi h1 h2)⟩
theorem But2.below {B p b : Nat} {a w w' : World} (h : Below B a w) (k : But2 p b w w') (hp : B ≤ p) (hb : B ≤ b) (hB : B ≤ w.heap.size) : Below B a w' :=
 h.trans ⟨k.os, k.tape, k.output, k.size, fun i hi => k.block i (by omega) (by omega) (by omega)⟩
theorem ofM_put (m : StkV) (pl : PlaceV) (lot : List UInt8) (v : Nat) : ofM (mput m (pl, lot) v) lot + atM m (pl, lot) = ofM m lot + v := by
 induction m with
 |nil => simp [mput, ofM_cons, ofM_nil, atM, mget]
 |cons x r ih =>
  unfold mput
  by_cases h : x.1 = (pl, lot)
  ·rw [if_pos h, ofM_cons, ofM_cons]
   have : atM (x :: r) (pl, lot) = x.2 := by unfold atM mget; rw [if_pos h]; rfl
   rw [this, if_pos rfl, if_pos (by rw [h])]
   omega
  ·rw [if_neg h, ofM_cons, ofM_cons]
   have : atM (x :: r) (pl, lot) = atM r (pl, lot) := by unfold atM; rw [mget, if_neg h]
   rw [this]
   omega
theorem ofM_put_other (m : StkV) (pl : PlaceV) (lot l2 : List UInt8) (v : Nat) (hne : l2 ≠ lot) : ofM (mput m (pl, lot) v) l2 = ofM m l2 := by
 induction m with
 |nil => simp [mput, ofM_cons, ofM_nil, Ne.symm hne]
 |cons x r ih =>
  unfold mput
  by_cases h : x.1 = (pl, lot)
  ·rw [if_pos h, ofM_cons, ofM_cons, if_neg (Ne.symm hne), if_neg (by rw [h]; exact Ne.symm hne)]
  ·rw [if_neg h, ofM_cons, ofM_cons, ih]
theorem ofM_del_le (m : StkV) (k : KeyV) (lot : List UInt8) : ofM (mdel m k) lot ≤ ofM m lot := by
 unfold mdel
 induction m with
 |nil => simp
 |cons x r ih =>
  rw [ofM_cons]
  by_cases h : x.1 ≠ k
  ·rw [List.filter_cons_of_pos (by simpa using h), ofM_cons]
   omega
  ·rw [List.filter_cons_of_neg (by simpa using h)]
   omega
theorem ofM_take_le (m : StkV) (pl : PlaceV) (lot : List UInt8) (n : Int) (l2 : List UInt8) : ofM (takeM m pl lot n) l2 ≤ ofM m l2 := by
 have hp : ofM (mput m (pl, lot) (atM m (pl, lot) - n.toNat)) l2 ≤ ofM m l2 := by
  by_cases h : l2 = lot
  ·subst h
   have := ofM_put m pl l2 (atM m (pl, l2) - n.toNat)
   omega
  ·rw [ofM_put_other _ _ _ _ _ h]
   exact Nat.le_refl _
 unfold takeM
 split
 ·split
  ·exact Nat.le_trans (ofM_del_le _ _ _) hp
  ·exact hp
 ·exact Nat.le_refl _
def moveE (m : StkV) (pf pt : PlaceV) (lot : List UInt8) (n : Int) : Nat :=
 if takeE m pf lot n ≠ 0 then takeE m pf lot n else if placeE pt ≠ 0 then placeE pt else if pf = pt then 3 else putE (takeM m pf lot n) pt lot n
def moveM (m : StkV) (pf pt : PlaceV) (lot : List UInt8) (n : Int) : StkV := if moveE m pf pt lot n = 0 then putM (takeM m pf lot n) pt lot n else m
set_option maxHeartbeats 1600000 in
set_option maxRecDepth 100000 in
theorem moveStock_any (E : Nat → Addr) (p b : Nat) (m : StkV) (pf pt : PlaceV) (lot : List UInt8) (n : Int) (w : World) (h : StkAt w p b m) (hs : ofM m lot ≤ 1099511627776) (hG : StkG E w) :
  Calls Tryz.prog 97 #[.pointer (some ⟨p, 0, none⟩), .agg (encPlace pf).toArray, .agg (encPlace pt).toArray, .string ⟨lot.toArray⟩, .int .i64 n] w fun e w' => e = .returned (errOf E (moveE m pf pt lot n)) ∧ (∃ c, StkAt w' p c (moveM m pf pt lot n) ∧ (c = b ∨ w.heap.size ≤ c)) ∧ But2 p b w w' := by
 have HCP := Lib.hid (fun W (h : StkAt W p b m) => copyStock_any p b m W h)
 have hat : atM m (pf, lot) ≤ 4611686018427387904 := by have := atM_le m pf lot; omega
 have hle := ofM_take_le m pf lot n lot
 have HTK := Lib.hid (fun q c W (h : StkAt W q c m) hg => takeStock_any E q c m pf lot n W h hat hg)
 have HPT := Lib.hid (fun q c W (h : StkAt W q c (takeM m pf lot n)) hg => putStock_any E q c (takeM m pf lot n) pt lot n W h (by omega) hg)
 have HCK := Lib.hid (fun W h => checkPlace_c E pt W h)
 have HEQ := Lib.hid (fun W => eqPlace pf pt W)
 have HG := Lib.hid (fun W (h : Below w.heap.size w W) => hG.below h)
 have HS := Lib.hid (fun W (hb : Below w.heap.size w W) => h.below hb)
 obtain ⟨r, hr⟩ : ∃ r, r = moveE m pf pt lot n := ⟨_, rfl⟩
 obtain ⟨m', hm'⟩ : ∃ m', m' = moveM m pf pt lot n := ⟨_, rfl⟩
 rw [← hr, ← hm']
 have HR := Lib.hid (show r = if takeE m pf lot n ≠ 0 then takeE m pf lot n else if placeE pt ≠ 0 then placeE pt else if pf = pt then 3 else putE (takeM m pf lot n) pt lot n from hr)
 have HM : Hid (m' = if r = 0 then putM (takeM m pf lot n) pt lot n else m) := by
  show _ = _
  rw [hm', hr]
  rfl
 have hlt := h.lt
 have hpb := h.ne
 have b0 := Lib.hid (below_two w (.cells (encPlace pf).toArray 41) (.cells (encPlace pt).toArray 41))
 have hx : ((w.alloc (.cells (encPlace pf).toArray 41)).alloc (.cells (encPlace pt).toArray 41)).heap[w.heap.size]? = some (.cells (encPlace pf).toArray 41 (0, 0)) := ((below_one (w.alloc (.cells (encPlace pf).toArray 41)) _).block _ (by simp)).trans (heap_alloc_new _ _)
 have hy : ((w.alloc (.cells (encPlace pf).toArray 41)).alloc (.cells (encPlace pt).toArray 41)).heap[w.heap.size + 1]? = some (.cells (encPlace pt).toArray 41 (0, 0)) := by
  have := heap_alloc_new (w.alloc (.cells (encPlace pf).toArray 41)) (.cells (encPlace pt).toArray 41)
  simpa using this
 clear hr hm' h hG
 generalize takeM m pf lot n = m1 at *
 generalize takeE m pf lot n = te at *
 generalize placeE pt = pe at *
 generalize putE m1 pt lot n = ue at *
 generalize putM m1 pt lot n = m2 at *
 obtain ⟨dq, hdq⟩ : ∃ dq, dq = decide (pf = pt) := ⟨_, rfl⟩
 rw [← hdq] at HEQ
 have HDQ := Lib.hid hdq
 clear hdq
 have hlf : (encPlace pf).length = 3 := rfl
 have hlt3 : (encPlace pt).length = 3 := rfl
 generalize encPlace pf = LF at *
 generalize encPlace pt = LT at *
 go_enter Tryz.func97, Tryz.ntmps97
 go_wp2_with fail
 generalize (w.alloc (.cells LF.toArray 41)).alloc (.cells LT.toArray 41) = W2 at b0 hx hy ⊢
 refine (HCP.out W2 (HS.out _ b0.out)).mono ?_
 rintro e w3 ⟨q, c, rfl, hq, hc, hS3, b3⟩
 have B3 := Lib.hid (b0.out.trans (b3.mono b0.out.size))
 have hx3 := (b3.block _ (row_lt hx)).trans hx
 have hy3 := (b3.block _ (row_lt hy)).trans hy
 have hsz := row_lt hy
 have hqw : w.heap.size + 1 < q := Nat.lt_of_lt_of_le hsz hq
 have hcw : w.heap.size + 1 < c := Nat.lt_of_lt_of_le hsz hc
 have hqc := hS3.ne
 have hlq := hS3.lt
 clear b3 hx hy hq hc HCP
 go_wp2_with (refine wpList_load_at rfl 41 _ rfl w.heap.size 0 rfl LF (Lies.row _ hx3) _ Tryz.underlying41 rfl (by rw [hlf]; kernel_rfl) ?_)
 refine (HTK.out q c w3 hS3 (HG.out _ B3.out)).mono ?_
 rintro e w4 ⟨rfl, hS4, t4⟩
 have B4 := Lib.hid (t4.below B3.out (by omega) B3.out.size)
 have hx4 := (t4.block w.heap.size (row_lt hx3) (by omega)).trans hx3
 have hy4 := (t4.block (w.heap.size + 1) (row_lt hy3) (by omega)).trans hy3
 have hz4 := t4.size
 clear t4 hx3 hy3 hS3 HTK B3
 by_cases hte : te = 0
 ·subst hte
  rw [errOf_zero]
  go_wp2_with (refine wpList_load_at rfl 41 _ rfl (w.heap.size + 1) 0 rfl LT (Lies.row _ hy4) _ Tryz.underlying41 rfl (by rw [hlt3]; kernel_rfl) ?_)
  refine (HCK.out w4 (HG.out _ B4.out).place).mono ?_
  rintro e w5 ⟨rfl, b5⟩
  have B5 := Lib.hid (B4.out.trans (b5.mono B4.out.size))
  have hx5 := (b5.block _ (row_lt hx4)).trans hx4
  have hy5 := (b5.block _ (row_lt hy4)).trans hy4
  have hS5 := hS4.below b5
  clear b5 hx4 hy4 hS4 HCK B4
  by_cases hpe : pe = 0
  ·subst hpe
   rw [errOf_zero]
   have heq := HEQ.out
   have hsh := (HG.out _ B5.out).shape
   unfold ErrAt at hsh
   cases dq with
   |true =>
    have HR0 := Lib.hid (show r = 3 from HR.out.trans (by rw [if_neg (by simp), if_neg (by simp), if_pos (of_decide_eq_true HDQ.out.symm)]))
    have HM0 := Lib.hid (HM.out.trans (if_neg (by rw [HR0.out]; decide)))
    go_wp2_with (first | (refine wpList_load_at rfl 41 (.tmp 6) rfl w.heap.size 0 rfl LF (Lies.row _ hx5) _ Tryz.underlying41 rfl (by rw [hlf]; kernel_rfl) ?_) | (refine wpList_load_at rfl 41 (.tmp 7) rfl (w.heap.size + 1) 0 rfl LT (Lies.row _ hy5) _ Tryz.underlying41 rfl (by rw [hlt3]; kernel_rfl) ?_))
    go_ret
    rw [HR0.out, HM0.out]
    exact ⟨rfl, ⟨b, HS.out _ B5.out, .inl rfl⟩, (But.of_below B5.out).two⟩
   |false =>
    have HR0 := Lib.hid (show r = ue from HR.out.trans (by rw [if_neg (by simp), if_neg (by simp), if_neg (of_decide_eq_false HDQ.out.symm)]))
    go_wp2_with (first | (refine wpList_load_at rfl 41 (.tmp 6) rfl w.heap.size 0 rfl LF (Lies.row _ hx5) _ Tryz.underlying41 rfl (by rw [hlf]; kernel_rfl) ?_) | (refine wpList_load_at rfl 41 (.tmp 7) rfl (w.heap.size + 1) 0 rfl LT (Lies.row _ hy5) _ Tryz.underlying41 rfl (by rw [hlt3]; kernel_rfl) ?_))
    refine (HPT.out q c w5 hS5 (HG.out _ B5.out)).mono ?_
    rintro e w6 ⟨rfl, hS6, t6⟩
    have B6 := Lib.hid (t6.below B5.out (by omega) B5.out.size)
    clear t6 heq hsh hx5 hy5 hS5 HPT B5
    by_cases hue : ue = 0
    ·have HM0 := Lib.hid (HM.out.trans (if_pos (by rw [HR0.out]; exact hue)))
     subst hue
     rw [errOf_zero]
     have cq := hS6.cell
     have hSp := HS.out _ B6.out
     have hpp := hSp.1
     have HS6 := Lib.hid hS6
     have hsc := But2.refl p b w6
     go_wp2_with (refine wpList_store_val rfl 145 _ _ rfl p 0 (.map (some c)) rfl rfl rfl _ [.map (some b)] hpp (by kernel_rfl) (by simp) rfl ?_; intro w7 h7 t7)
     go_ret
     rw [HR0.out, HM0.out, errOf_zero]
     refine ⟨rfl, ⟨c, ⟨h7, HS6.out.2.keep (t7.block _ (by omega))⟩, .inr (by omega)⟩, ?_⟩
     exact ⟨t7.os.trans B6.out.os, t7.tape.trans B6.out.tape, t7.output.trans B6.out.output, by rw [t7.size]; exact B6.out.size, fun k hk h1 _ => (t7.block k h1).trans (B6.out.block k hk)⟩
    ·have HM0 := Lib.hid (HM.out.trans (if_neg (by rw [HR0.out]; exact hue)))
     rw [errOf_pos _ _ hue]
     go_wp2_with fail
     go_ret
     rw [HR0.out, HM0.out, errOf_pos _ _ hue]
     exact ⟨rfl, ⟨b, HS.out _ B6.out, .inl rfl⟩, (But.of_below B6.out).two⟩
  ·have HR0 := Lib.hid (show r = pe from HR.out.trans (by rw [if_neg (by simp), if_pos hpe]))
   have HM0 := Lib.hid (HM.out.trans (if_neg (by rw [HR0.out]; exact hpe)))
   rw [errOf_pos _ _ hpe]
   go_wp2_with fail
   go_ret
   rw [HR0.out, HM0.out, errOf_pos _ _ hpe]
   exact ⟨rfl, ⟨b, HS.out _ B5.out, .inl rfl⟩, (But.of_below B5.out).two⟩
 ·have HR0 := Lib.hid (show r = te from HR.out.trans (if_pos hte))
  have HM0 := Lib.hid (HM.out.trans (if_neg (by rw [HR0.out]; exact hte)))
  rw [errOf_pos _ _ hte]
  go_wp2_with fail
  go_ret
  rw [HR0.out, HM0.out, errOf_pos _ _ hte]
  exact ⟨rfl, ⟨b, HS.out _ B4.out, .inl rfl⟩, (But.of_below B4.out).two⟩
end Go.Proofs.YteaalifehokgoaaGreatDoor
namespace Go.Proofs.YteaalifehokgoaaGreatDoor
open Go.RowKit Go.Sort Go.Proofs
structure CmpLike {α : Type} (c : α → α → Int) : Prop where
 swap : ∀ x y, c y x < 0 ↔ 0 < c x y
 trans : ∀ x y z, c x y ≤ 0 → c y z ≤ 0 → c x z ≤ 0
theorem CmpLike.zero {α : Type} {c : α → α → Int} (h : CmpLike c) {x y : α} (h0 : c x y = 0) : c y x = 0 := by
 have a := h.swap x y
 have b := h.swap y x
 omega
theorem CmpLike.refl {α : Type} {c : α → α → Int} (h : CmpLike c) (x : α) : c x x = 0 := by
 have a := h.swap x x
 omega
theorem CmpLike.then_ {α : Type} {c d : α → α → Int} (h : CmpLike c) (k : CmpLike d) : CmpLike fun x y => if c x y = 0 then d x y else c x y where
 swap x y := by
  have a := h.swap x y
  have b := h.swap y x
  have p := k.swap x y
  by_cases h0 : c x y = 0
  ·rw [if_pos h0, if_pos (h.zero h0)]; exact p
  ·rw [if_neg h0, if_neg (by omega)]; exact a
 trans x y z h1 h2 := by
  have t1 : c x y ≤ 0 := by
   by_cases h0 : c x y = 0
   ·omega
   ·rwa [if_neg h0] at h1
  have t2 : c y z ≤ 0 := by
   by_cases h0 : c y z = 0
   ·omega
   ·rwa [if_neg h0] at h2
  have t3 := h.trans x y z t1 t2
  by_cases h0 : c x z = 0
  ·have h0' := h.zero h0
   have u1 := h.trans y z x t2 (by omega)
   have u2 := h.trans z x y (by omega) t1
   have s1 := h.swap y x
   have s2 := h.swap z y
   have e1 : c x y = 0 := by omega
   have e2 : c y z = 0 := by omega
   rw [if_pos e1] at h1
   rw [if_pos e2] at h2
   rw [if_pos h0]
   exact k.trans x y z h1 h2
  ·rw [if_neg h0]; exact t3
theorem CmpLike.swo {α : Type} {c : α → α → Int} (h : CmpLike c) : SWO (ltOf c) where
 irrefl x := by
  have := h.refl x
  unfold ltOf
  simp [this]
 trans x y z h1 h2 := by
  unfold ltOf at *
  rw [decide_eq_true_iff] at *
  have t := h.trans x y z (by omega) (by omega)
  have s := h.swap x y
  have s3 := h.swap x z
  have s3' := h.swap z x
  by_cases h0 : c x z = 0
  ·have u := h.trans y z x (by omega) (by have := h.zero h0; omega)
   have s2 := h.swap y x
   omega
  ·omega
 ntrans x y z h1 h2 := by
  unfold ltOf at *
  rw [decide_eq_false_iff_not] at *
  have a1 := h.swap x y
  have a2 := h.swap y x
  have b1 := h.swap y z
  have b2 := h.swap z y
  have t := h.trans z y x (by omega) (by omega)
  have c1 := h.swap x z
  have c2 := h.swap z x
  omega
theorem CmpLike.sub {α : Type} (f : α → Int) : CmpLike fun x y => f x - f y where
 swap x y := by constructor <;> intro h <;> omega
 trans x y z h1 h2 := by omega
theorem CmpLike.bytes {α : Type} (f : α → List UInt8) : CmpLike fun x y => Lib.compareBytes (f x) (f y) where
 swap x y := by rw [cmpB_swap (f x) (f y)]; omega
 trans x y z h1 h2 := by
  by_cases e1 : Lib.compareBytes (f x) (f y) = 0
  ·rw [(cmpB_eq _ _).1 e1]; exact h2
  ·by_cases e2 : Lib.compareBytes (f y) (f z) = 0
   ·rw [← (cmpB_eq _ _).1 e2]; exact h1
   ·have := cmpB_trans (f x) (f y) (f z) (by omega) (by omega)
    omega
theorem CmpLike.on {α β : Type} {c : α → α → Int} (h : CmpLike c) (f : β → α) : CmpLike fun x y => c (f x) (f y) where
 swap _ _ := h.swap _ _
 trans _ _ _ := h.trans _ _ _
theorem CmpLike.congr {α : Type} {c d : α → α → Int} (h : CmpLike c) (e : ∀ x y, d x y = c x y) : CmpLike d := by
 have : d = c := funext fun x => funext fun y => e x y
 rw [this]; exact h
end Go.Proofs.YteaalifehokgoaaGreatDoor
namespace Go.Proofs.YteaalifehokgoaaGreatDoor
open Go.RowKit Go.Sort Go.Proofs
def cfPlace (x y : PlaceV) : Int := orL [Lib.compareBytes x.1 y.1, x.2.1 - y.2.1, if x.2.1 % 2 = 0 then -(x.2.2 - y.2.2) else x.2.2 - y.2.2]
def sbP (x : PlaceV) : Int := if x.2.1 % 2 = 0 then -x.2.2 else x.2.2
theorem likePlace : CmpLike cfPlace :=
 ((CmpLike.bytes (α := PlaceV) Prod.fst).then_ ((CmpLike.sub (α := PlaceV) (fun x => x.2.1)).then_ (CmpLike.sub sbP))).congr fun x y => by
  unfold cfPlace orL orL orL orL sbP
  by_cases h1 : Lib.compareBytes x.1 y.1 = 0
  ·rw [if_pos h1, if_pos h1]
   by_cases h2 : x.2.1 - y.2.1 = 0
   ·rw [if_pos h2, if_pos h2]
    have h3 : y.2.1 = x.2.1 := by omega
    rw [h3]
    by_cases h4 : x.2.1 % 2 = 0
    ·simp only [if_pos h4]
     split <;> omega
    ·simp only [if_neg h4]
     split <;> omega
   ·rw [if_neg h2, if_neg h2]
  ·rw [if_neg h1, if_neg h1]
theorem cfPlace_zero (x y : PlaceV) : cfPlace x y = 0 ↔ x = y := by
 constructor
 ·intro h
  unfold cfPlace orL orL orL orL at h
  by_cases h1 : Lib.compareBytes x.1 y.1 = 0
  ·rw [if_pos h1] at h
   by_cases h2 : x.2.1 - y.2.1 = 0
   ·rw [if_pos h2] at h
    have e1 := (cmpB_eq _ _).1 h1
    have e2 : x.2.1 = y.2.1 := by omega
    have e3 : x.2.2 = y.2.2 := by
     by_cases h4 : x.2.1 % 2 = 0
     ·simp only [if_pos h4] at h
      split at h <;> omega
     ·simp only [if_neg h4] at h
      split at h <;> omega
    exact Prod.ext e1 (Prod.ext e2 e3)
   ·rw [if_neg h2] at h; exact absurd h h2
  ·rw [if_neg h1] at h; exact absurd h h1
 ·rintro rfl
  exact likePlace.refl x
def InP (x : PlaceV) : Prop := 1 ≤ x.2.1 ∧ x.2.1 ≤ 20 ∧ 1 ≤ x.2.2 ∧ x.2.2 ≤ 40
theorem InP.of {x : PlaceV} (h : placeE x = 0) : InP x := (placeE_zero.1 h).2
set_option maxHeartbeats 1000000 in
theorem cmpPlace_any (x y : PlaceV) (hx : InP x) (hy : InP y) (W : World) : Calls Tryz.prog 135 #[.agg (encPlace x).toArray, .agg (encPlace y).toArray] W fun e w' => e = .returned (.int .i64 (cfPlace x y)) ∧ ∃ q os', w' = grow (W.drewN q) os' := by
  obtain ⟨a1, a2, a3⟩ := x
  obtain ⟨b1, b2, b3⟩ := y
  obtain ⟨ha1, ha2, ha3, ha4⟩ : 1 ≤ a2 ∧ a2 ≤ 20 ∧ 1 ≤ a3 ∧ a3 ≤ 40 := hx
  obtain ⟨hb1, hb2, hb3, hb4⟩ : 1 ≤ b2 ∧ b2 ≤ 20 ∧ 1 ≤ b3 ∧ b3 ≤ 40 := hy
  simp only [encPlace, cfPlace]
  obtain ⟨s, hs⟩ : ∃ s : Int, s = if a2 % 2 = 0 then -(a3 - b3) else a3 - b3 := ⟨_, rfl⟩
  have HSV := Lib.hid hs
  rw [← hs]
  have hor := fun (B : Nat) (W' : World) (h0 : W'.cell? ⟨B, 0, none⟩ = some (.int .i64 (Lib.compareBytes a1 b1))) (h1 : W'.cell? ⟨B, 1, none⟩ = some (.int .i64 (a2 - b2))) (h2 : W'.cell? ⟨B, 2, none⟩ = some (.int .i64 s)) => or_any B [Lib.compareBytes a1 b1, a2 - b2, s] W' (by simp) (fun k hk => by
    have hk' : k < 3 := hk
    rcases (show k = 0 ∨ k = 1 ∨ k = 2 by omega) with rfl | rfl | rfl
    · exact h0
    · exact h1
    · exact h2)
  have HOR := Lib.hid hor
  have hw2 : IntKind.i64.wrap (a2 - b2) = a2 - b2 := IntWalk.i64_in _ (by omega)
  have HW2 := Lib.hid hw2
  clear hor hw2
  by_cases he : a2 % 2 = 0
  all_goals
    first
      | (have heq : (a2 % 2 == 0) = true := by simpa using he
         rw [if_pos he] at hs
         clear he)
      | (have heq : (a2 % 2 == 0) = false := by simpa using he
         rw [if_neg he] at hs
         clear he)
    have HS := Lib.hid hs
    clear hs HSV
    go_enter Tryz.func135, Tryz.ntmps135
    go_wp2_with fail
    rw [← HS.out]
    have hw2 := HW2.out
    go_region_held3 (fun w' => w'.cell? ⟨W.heap.size, 0, none⟩ = some (.string ⟨a1.toArray⟩) ∧ w'.cell? ⟨W.heap.size, 1, none⟩ = some (.int .i64 a2) ∧ w'.cell? ⟨W.heap.size + 1, 0, none⟩ = some (.string ⟨b1.toArray⟩) ∧ w'.cell? ⟨W.heap.size + 1, 1, none⟩ = some (.int .i64 b2))
      (go_keep)
      (first
        | (go_at_call 136; refine (Tryz.strings_Compare _ _ _).mono ?_; rintro e w' ⟨rfl, rfl⟩)
        | (go_at_call 134; refine (HOR.out _ _ (by show (World.alloc _ _).cell? _ = _; rw [World.cell?_alloc_at _ _ _ _ (by simp)]; rfl) (by show (World.alloc _ _).cell? _ = _; rw [World.cell?_alloc_at _ _ _ _ (by simp)]; rfl) (by show (World.alloc _ _).cell? _ = _; rw [World.cell?_alloc_at _ _ _ _ (by simp)]; rfl)).mono ?_; rintro e w' ⟨rfl, rfl⟩))
    all_goals
      clear HOR hw2
      go_wp2_with fail
      go_ret
      refine ⟨rfl, 1, #[.cells #[.string ⟨a1.toArray⟩, .int .i64 a2, .int .i64 a3] 41, .cells #[.string ⟨b1.toArray⟩, .int .i64 b2, .int .i64 b3] 41, .cells #[.int .i64 (Lib.compareBytes a1 b1), .int .i64 (a2 - b2), .int .i64 s] 3], ?_⟩
      rw [alloc_eq_grow, alloc_eq_grow, alloc_eq_grow, grow_grow, grow_grow]; rfl
end Go.Proofs.YteaalifehokgoaaGreatDoor
namespace Go.Proofs.YteaalifehokgoaaGreatDoor
open Go.RowKit Go.Sort Go.Proofs
def GrW (W w' : World) : Prop := ∃ q os, w' = grow (W.drewN q) os
theorem GrW.refl (W : World) : GrW W W := ⟨0, #[], by rw [grow_empty]; rfl⟩
theorem GrW.alloc {W w' : World} (h : GrW W w') (o : Obj) : GrW W (w'.alloc o) := by
 obtain ⟨q, os, rfl⟩ := h
 exact ⟨q, os ++ #[o], by rw [alloc_eq_grow, grow_grow]⟩
theorem GrW.trans {W w' w'' : World} (h : GrW W w') (h2 : GrW w' w'') : GrW W w'' := by
 obtain ⟨q, os, rfl⟩ := h
 obtain ⟨q2, os2, rfl⟩ := h2
 refine ⟨q + q2, os ++ os2, ?_⟩
 rw [← grow_grow]
 simp [grow, World.drewN, Nat.add_assoc]
theorem GrW.drew {W w' : World} (h : GrW W w') : GrW W w'.drew := h.trans ⟨1, #[], by rw [grow_empty]; rfl⟩
theorem GrW.below {W w' : World} (h : GrW W w') : Below W.heap.size W w' := by
 obtain ⟨q, os, rfl⟩ := h
 exact below_grown W q os
end Go.Proofs.YteaalifehokgoaaGreatDoor
