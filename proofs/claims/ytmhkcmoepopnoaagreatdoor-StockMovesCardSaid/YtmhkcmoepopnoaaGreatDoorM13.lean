/- Stock: Put. A stock of the document: At, Of. -/
import Derived.Test.YtmhkcmoepopnoaaGreatDoorM06
import Derived.Test.YtmhkcmoepopnoaaGreatDoorM12
namespace Go.Proofs.YtmhkcmoepopnoaaGreatDoor
open Go.RowKit Go.Sort Go.Proofs

/-- Only block b, and what is new, may have turned. -/
structure But (b : Nat) (w w' : World) : Prop where
  os : w'.os = w.os
  tape : w'.tape = w.tape
  output : w'.output = w.output
  size : w.heap.size ≤ w'.heap.size
  block : ∀ k, k < w.heap.size → k ≠ b → w'.heap[k]? = w.heap[k]?
theorem But.refl (b : Nat) (w : World) : But b w w := ⟨rfl, rfl, rfl, Nat.le_refl _, fun _ _ _ => rfl⟩
theorem But.of_below {b : Nat} {w w' : World} (h : Below w.heap.size w w') : But b w w' := ⟨h.os, h.tape, h.output, h.size, fun k hk _ => h.block k hk⟩
theorem But.of_turned {b : Nat} {w w' : World} (h : Turned b w w') : But b w w' := ⟨h.os, h.tape, h.output, Nat.le_of_eq h.size.symm, fun k _ hk => h.block k hk⟩
theorem But.trans {b : Nat} {w1 w2 w3 : World} (h : But b w1 w2) (k : But b w2 w3) : But b w1 w3 :=
  ⟨k.os.trans h.os, k.tape.trans h.tape, k.output.trans h.output, Nat.le_trans h.size k.size, fun i hi hb => (k.block i (Nat.lt_of_lt_of_le hi h.size) hb).trans (h.block i hi hb)⟩
theorem But.below {B b : Nat} {a w w' : World} (h : Below B a w) (k : But b w w') (hb : B ≤ b) (hB : B ≤ w.heap.size) : Below B a w' :=
  h.trans ⟨k.os, k.tape, k.output, k.size, fun i hi => k.block i (by omega) (by omega)⟩
theorem But.drew {b : Nat} {w w' : World} (h : But b w w') : But b w w'.drew := ⟨h.os, h.tape, h.output, h.size, h.block⟩

structure StkG (E : Nat → Addr) (w : World) : Prop where
  place : PlaceG E w
  full : ErrAt 2 (E 8) w
  short : ErrAt 3 (E 9) w
  shape : ErrAt 4 (E 3) w
theorem StkG.below {E : Nat → Addr} {w w' : World} (h : StkG E w) (hb : Below w.heap.size w w') : StkG E w' := ⟨h.place.below hb, h.full.below hb, h.short.below hb, h.shape.below hb⟩

/-- What Put answers, and makes of a stock. -/
def putE (m : StkV) (pl : PlaceV) (lot : List UInt8) (n : Int) : Nat :=
  if placeE pl ≠ 0 then placeE pl else if nameB lot = false then 5 else if wiB n 1 1099511627776 = false then 2 else if 1099511627776 - (ofM m lot : Nat) < n then 2
  else if (mget m (pl, lot)).isSome = false ∧ 200 ≤ m.length then 8 else 0
def putM (m : StkV) (pl : PlaceV) (lot : List UInt8) (n : Int) : StkV := if putE m pl lot n = 0 then mput m (pl, lot) (atM m (pl, lot) + n.toNat) else m
theorem atM_le (m : StkV) (pl : PlaceV) (lot : List UInt8) : atM m (pl, lot) ≤ ofM m lot := by
  unfold atM
  induction m with
  | nil => simp [mget]
  | cons x r ih =>
    rw [ofM_cons]
    unfold mget
    by_cases h : x.1 = (pl, lot)
    · rw [if_pos h, if_pos (by rw [h])]
      simp
    · rw [if_neg h]
      omega

theorem wrap_small {x : Int} (h1 : -9223372036854775808 ≤ x) (h2 : x ≤ 9223372036854775807) : IntKind.i64.wrap x = x := by
  rw [IntKind.wrap_i64]
  omega
set_option maxHeartbeats 1600000 in
set_option maxRecDepth 100000 in
theorem putStock_any (E : Nat → Addr) (p b : Nat) (m : StkV) (pl : PlaceV) (lot : List UInt8) (n : Int) (w : World) (h : StkAt w p b m) (hs : ofM m lot ≤ 1099511627776) (hG : StkG E w) :
    Calls Tryz.prog 10 #[.pointer (some ⟨p, 0, none⟩), .agg (encPlace pl).toArray, .string ⟨lot.toArray⟩, .int .i64 n] w fun e w' => e = .returned (errOf E (putE m pl lot n)) ∧ StkAt w' p b (putM m pl lot n) ∧ But b w w' := by
  have HCK := Lib.hid (fun W h => checkPlace_any E pl W h)
  have HN := Lib.hid (fun W => name_wide lot W)
  have HWI := Lib.hid (within_any n 1 1099511627776)
  have HOF := Lib.hid (fun W (h : StkAt W p b m) => ofStock_any p b m lot W h (by omega))
  have HG := Lib.hid (fun W (h : Below w.heap.size w W) => hG.below h)
  have HS := Lib.hid (fun W (hb : Below w.heap.size w W) => h.below hb)
  have hle := atM_le m pl lot
  obtain ⟨r, hr⟩ : ∃ r, r = putE m pl lot n := ⟨_, rfl⟩
  obtain ⟨m', hm'⟩ : ∃ m', m' = putM m pl lot n := ⟨_, rfl⟩
  rw [← hr, ← hm']
  have HR := Lib.hid (show r = if placeE pl ≠ 0 then placeE pl else if nameB lot = false then 5 else if wiB n 1 1099511627776 = false then 2 else if 1099511627776 - (ofM m lot : Nat) < n then 2 else if (mget m (pl, lot)).isSome = false ∧ 200 ≤ m.length then 8 else 0 from hr)
  have HM := Lib.hid (show m' = if r = 0 then mput m (pl, lot) (atM m (pl, lot) + n.toNat) else m by rw [hm', hr]; rfl)
  have HE := Lib.hid (fun W (h : MapIs eKey eNat W b m) => h.entry keyOk Tryz.underlying69 zeroNat (pl, lot))
  have HL := Lib.hid (fun W (h : StkAt W p b m) => look_stk h pl lot)
  have HL2 := Lib.hid (fun W (h : StkAt W p b m) => look_stk2 h pl lot)
  have hlb := h.lt
  have hpb := h.ne
  have b0 := Lib.hid (below_one w (.cells (encPlace pl).toArray 24))
  clear hr hm' h hG
  rw [show (mget m (pl, lot)).getD 0 = atM m (pl, lot) from rfl] at HE
  generalize placeE pl = pe at HCK HR
  generalize atM m (pl, lot) = a at hle HM HE HL HL2
  generalize (mget m (pl, lot)).isSome = is at HR HL2
  generalize nameB lot = nm at HN HR
  generalize ofM m lot = o at HOF HR hs hle
  generalize hwi : wiB n 1 1099511627776 = wi at HWI HR
  obtain ⟨a1, a2, a3⟩ := pl
  simp only [encPlace, eKey, encKey] at HCK HE HL HL2 b0 ⊢
  go_enter Tryz.func10, Tryz.ntmps10
  go_wp2_with fail
  refine (HCK.out _ (HG.out _ b0.out).place).mono ?_
  rintro e w2 ⟨rfl, b2⟩
  have B2 := Lib.hid (b0.out.trans (b2.mono b0.out.size))
  have c0 : w2.cell? ⟨w.heap.size, 0, none⟩ = some (.string ⟨a1.toArray⟩) := (b2.cell (p := ⟨_, _, none⟩) (by simp)).trans (cell_of_row _ _ _ _ _ _ (heap_alloc_new _ _))
  have c1 : w2.cell? ⟨w.heap.size, 1, none⟩ = some (.int .i64 a2) := (b2.cell (p := ⟨_, _, none⟩) (by simp)).trans (cell_of_row _ _ _ _ _ _ (heap_alloc_new _ _))
  have c2 : w2.cell? ⟨w.heap.size, 2, none⟩ = some (.int .i64 a3) := (b2.cell (p := ⟨_, _, none⟩) (by simp)).trans (cell_of_row _ _ _ _ _ _ (heap_alloc_new _ _))
  clear b2 HCK
  by_cases hpe : pe = 0
  · subst hpe
    rw [errOf_zero]
    have bo := below_one w2 (.cells #[.string ⟨a1.toArray⟩, .int .i64 a2, .int .i64 a3, .string ⟨lot.toArray⟩] 76)
    have B3 := Lib.hid (B2.out.trans (bo.mono B2.out.size))
    have hS3 := HS.out _ B3.out.drew
    have hl3 := HL2.out _ hS3
    have cp := hS3.cell
    have hk3 : (w2.alloc (.cells #[.string ⟨a1.toArray⟩, .int .i64 a2, .int .i64 a3, .string ⟨lot.toArray⟩] 76)).drew.heap[w2.heap.size]? = some (.cells #[.string ⟨a1.toArray⟩, .int .i64 a2, .int .i64 a3, .string ⟨lot.toArray⟩] 76 (0, 0)) := heap_alloc_new _ _
    have hKw : w.heap.size ≤ w2.heap.size := B2.out.size
    have B3 := Lib.hid B3.out.drew
    clear bo hS3
    go_wp2_with fail
    go_region
    all_goals
      clear hl3 cp c0 c1 c2
      go_wp2_with fail
      generalize (w2.alloc (.cells #[.string ⟨a1.toArray⟩, .int .i64 a2, .int .i64 a3, .string ⟨lot.toArray⟩] 76)).drew = W3 at hk3 B3 ⊢
      obtain ⟨kb, hkb⟩ : ∃ kb, kb = w2.heap.size := ⟨_, rfl⟩
      rw [← hkb] at hk3 hKw ⊢
      clear hkb
      refine (HN.out W3).mono ?_
      rintro e w4 ⟨rfl, b4⟩
      have B4 := Lib.hid (B3.out.trans (b4.mono B3.out.size))
      have hk4 := (b4.block kb (row_lt hk3)).trans hk3
      clear b4 hk3 HN B3
      cases nm with
      | false =>
        have HR0 := Lib.hid (show r = 5 from HR.out.trans (by rw [if_neg (by simp), if_pos rfl]))
        have HM0 := Lib.hid (HM.out.trans (if_neg (by rw [HR0.out]; decide)))
        have hn4 := (HG.out _ B4.out).place.name
        unfold ErrAt at hn4
        go_wp2_with fail
        go_ret
        rw [HR0.out, HM0.out]
        exact ⟨rfl, HS.out _ B4.out, But.of_below B4.out⟩
      | true =>
        go_wp2_with fail
        refine (HWI.out w4).mono ?_
        rintro e w5 ⟨rfl, rfl⟩
        have hb4 := (HG.out _ B4.out).place.bound
        unfold ErrAt at hb4
        cases wi with
        | false =>
          have HR0 := Lib.hid (show r = 2 from HR.out.trans (by rw [if_neg (by simp), if_neg (by simp), if_pos rfl]))
          have HM0 := Lib.hid (HM.out.trans (if_neg (by rw [HR0.out]; decide)))
          go_wp2_with fail
          go_ret
          rw [HR0.out, HM0.out]
          exact ⟨rfl, HS.out _ B4.out, But.of_below B4.out⟩
        | true =>
          unfold wiB at hwi
          simp only [decide_eq_true_eq] at hwi
          obtain ⟨hn1, hn2⟩ := hwi
          go_wp2_with fail
          refine (HOF.out w4 (HS.out _ B4.out)).mono ?_
          rintro e w5 ⟨rfl, b5⟩
          have B5 := Lib.hid (B4.out.trans (b5.mono B4.out.size))
          have hk5 := (b5.block kb (row_lt hk4)).trans hk4
          have hb5 := (b5.cell (p := ⟨_, _, none⟩) (lt_of_cell hb4)).trans hb4
          clear b5 hk4 hb4 B4 HOF
          by_cases ho : 1099511627776 - (o : Int) < n
          · have HR0 := Lib.hid (show r = 2 from HR.out.trans (by rw [if_neg (by simp), if_neg (by simp), if_neg (by simp), if_pos ho]))
            have HM0 := Lib.hid (HM.out.trans (if_neg (by rw [HR0.out]; decide)))
            go_wp2_with fail
            go_ret
            rw [HR0.out, HM0.out]
            exact ⟨rfl, HS.out _ B5.out, But.of_below B5.out⟩
          · have hS5 := HS.out _ B5.out
            have hM5 := hS5.2
            have cp5 := hS5.cell
            have hf5 := (HG.out _ B5.out).full
            unfold ErrAt at hf5
            cases is with
            | true =>
              have HR0 := Lib.hid (show r = 0 from HR.out.trans (by rw [if_neg (by simp), if_neg (by simp), if_neg (by simp), if_neg ho, if_neg (by simp)]))
              go_wp2_with fail
              have hw : IntKind.i64.wrap ((a : Int) + n) = (a : Int) + n := wrap_small (by omega) (by omega)
              obtain ⟨v1, s, hE, hT1, hL1, hS⟩ := HE.out w5.drew hM5
              obtain ⟨v2, hS2, hM2, hT2⟩ := hS (a + n.toNat)
              have hv : (((a + n.toNat : Nat) : Int)) = (a : Int) + n := by omega
              simp only [eNat] at hE hL1 hS2
              rw [hv] at hS2
              have hLL := hL1 false
              simp only [Bool.false_eq_true, if_false] at hLL
              have hl5 := HL.out w5.drew hS5
              have hkne : kb ≠ b := by have := B2.out.size; omega
              have q0 : w5.cell? ⟨kb, 0, none⟩ = some (.string ⟨a1.toArray⟩) := cell_of_row _ _ _ _ _ _ hk5
              have q1 : w5.cell? ⟨kb, 1, none⟩ = some (.int .i64 a2) := cell_of_row _ _ _ _ _ _ hk5
              have q2 : w5.cell? ⟨kb, 2, none⟩ = some (.int .i64 a3) := cell_of_row _ _ _ _ _ _ hk5
              have q3 : w5.cell? ⟨kb, 3, none⟩ = some (.string ⟨lot.toArray⟩) := cell_of_row _ _ _ _ _ _ hk5
              have z0 : v1.cell? ⟨kb, 0, none⟩ = _ := hT1.cell (w := w5.drew) q0 hkne
              have z1 : v1.cell? ⟨kb, 1, none⟩ = _ := hT1.cell (w := w5.drew) q1 hkne
              have z2 : v1.cell? ⟨kb, 2, none⟩ = _ := hT1.cell (w := w5.drew) q2 hkne
              have z3 : v1.cell? ⟨kb, 3, none⟩ = _ := hT1.cell (w := w5.drew) q3 hkne
              have zp : v1.cell? ⟨p, 0, none⟩ = _ := hT1.cell (w := w5.drew) cp5 hpb
              have HM0 := Lib.hid (HM.out.trans (if_pos HR0.out))
              have HT2 := Lib.hid hT2
              have HM2 := Lib.hid hM2
              have HP5 := Lib.hid hS5.1
              clear hS hT2 hM2 hS5 hM5 hL1 hk5 hT1
              go_region
              all_goals
                go_wp2_with fail
                go_ret
                rw [HR0.out, HM0.out]
                exact ⟨rfl, ⟨HT2.out.heap HP5.out hpb, HM2.out⟩, (But.of_below B5.out).drew.trans (But.of_turned HT2.out)⟩
            | false =>
              have hlen := fun ty => hM5.len (ty := ty) Tryz.underlying69
              by_cases hfl : 200 ≤ m.length
              · have HR0 := Lib.hid (show r = 8 from HR.out.trans (by rw [if_neg (by simp), if_neg (by simp), if_neg (by simp), if_neg ho, if_pos ⟨rfl, hfl⟩]))
                have HM0 := Lib.hid (HM.out.trans (if_neg (by rw [HR0.out]; decide)))
                go_wp2_with fail
                go_ret
                rw [HR0.out, HM0.out]
                exact ⟨rfl, HS.out _ B5.out, But.of_below B5.out⟩
              · have HR0 := Lib.hid (show r = 0 from HR.out.trans (by rw [if_neg (by simp), if_neg (by simp), if_neg (by simp), if_neg ho, if_neg (fun h => hfl h.2)]))
                go_wp2_with fail
                clear hlen
                have hw : IntKind.i64.wrap ((a : Int) + n) = (a : Int) + n := wrap_small (by omega) (by omega)
                obtain ⟨v1, s, hE, hT1, hL1, hS⟩ := HE.out w5.drew hM5
                obtain ⟨v2, hS2, hM2, hT2⟩ := hS (a + n.toNat)
                have hv : (((a + n.toNat : Nat) : Int)) = (a : Int) + n := by omega
                simp only [eNat] at hE hL1 hS2
                rw [hv] at hS2
                have hLL := hL1 false
                simp only [Bool.false_eq_true, if_false] at hLL
                have hl5 := HL.out w5.drew hS5
                have hkne : kb ≠ b := by have := B2.out.size; omega
                have q0 : w5.cell? ⟨kb, 0, none⟩ = some (.string ⟨a1.toArray⟩) := cell_of_row _ _ _ _ _ _ hk5
                have q1 : w5.cell? ⟨kb, 1, none⟩ = some (.int .i64 a2) := cell_of_row _ _ _ _ _ _ hk5
                have q2 : w5.cell? ⟨kb, 2, none⟩ = some (.int .i64 a3) := cell_of_row _ _ _ _ _ _ hk5
                have q3 : w5.cell? ⟨kb, 3, none⟩ = some (.string ⟨lot.toArray⟩) := cell_of_row _ _ _ _ _ _ hk5
                have z0 : v1.cell? ⟨kb, 0, none⟩ = _ := hT1.cell (w := w5.drew) q0 hkne
                have z1 : v1.cell? ⟨kb, 1, none⟩ = _ := hT1.cell (w := w5.drew) q1 hkne
                have z2 : v1.cell? ⟨kb, 2, none⟩ = _ := hT1.cell (w := w5.drew) q2 hkne
                have z3 : v1.cell? ⟨kb, 3, none⟩ = _ := hT1.cell (w := w5.drew) q3 hkne
                have zp : v1.cell? ⟨p, 0, none⟩ = _ := hT1.cell (w := w5.drew) cp5 hpb
                have HM0 := Lib.hid (HM.out.trans (if_pos HR0.out))
                have HT2 := Lib.hid hT2
                have HM2 := Lib.hid hM2
                have HP5 := Lib.hid hS5.1
                clear hS hT2 hM2 hS5 hM5 hL1 hk5 hT1
                go_region
                all_goals
                  go_wp2_with fail
                  go_ret
                  rw [HR0.out, HM0.out]
                  exact ⟨rfl, ⟨HT2.out.heap HP5.out hpb, HM2.out⟩, (But.of_below B5.out).drew.trans (But.of_turned HT2.out)⟩
  · rw [errOf_pos _ _ hpe]
    have HR0 := Lib.hid (HR.out.trans (if_pos hpe))
    have HM0 := Lib.hid (HM.out.trans (if_neg (by rw [HR0.out]; exact hpe)))
    go_wp2_with fail
    go_ret
    rw [HR0.out, HM0.out, errOf_pos _ _ hpe]
    exact ⟨rfl, HS.out _ B2.out, But.of_below B2.out⟩
end Go.Proofs.YtmhkcmoepopnoaaGreatDoor
namespace Go.Proofs.YtmhkcmoepopnoaaGreatDoor
open Go.RowKit Go.Sort Go.Proofs

def atL (l : List LineV) (p : PlaceV) (lot : List UInt8) : Int := match l.find? (isAt p lot) with | some x => x.2.2 | none => 0
theorem at_some {l : List LineV} {p : PlaceV} {lot : List UInt8} {i : Nat} (h : l.findIdx? (isAt p lot) = some i) : ∃ hi : i < l.length, fndI l p lot = i ∧ atL l p lot = l[i].2.2 := by
  obtain ⟨hi, h1, h2⟩ := List.findIdx?_eq_some_iff_getElem.1 h
  refine ⟨hi, by unfold fndI; rw [h], ?_⟩
  have : l.find? (isAt p lot) = some l[i] := List.find?_eq_some_iff_getElem.2 ⟨h1, i, hi, rfl, fun j hj => by simpa using h2 j hj⟩
  unfold atL
  rw [this]
theorem at_none {l : List LineV} {p : PlaceV} {lot : List UInt8} (h : l.findIdx? (isAt p lot) = none) : fndI l p lot = -1 ∧ atL l p lot = 0 := by
  refine ⟨by unfold fndI; rw [h], ?_⟩
  have : l.find? (isAt p lot) = none := List.find?_eq_none.2 fun x hx => by
    have := (List.findIdx?_eq_none_iff.1 h) x hx
    simpa using this
  unfold atL
  rw [this]

set_option maxHeartbeats 1600000 in
set_option maxRecDepth 100000 in
theorem refAt_any (A : Option Addr) (cap : Nat) (l : List LineV) (p : PlaceV) (lot : List UInt8) (w : World) (hrow : RowAt encLine 5 w A l) (hl : l.length ≤ 100000) :
    Calls Tryz.prog 19 #[.agg #[.slice A l.length cap], .agg (encPlace p).toArray, .string ⟨lot.toArray⟩] w fun e w' => e = .returned (.int .i64 (atL l p lot)) ∧ Below w.heap.size w w' := by
  have HFI := Lib.hid (fun W (hb : Below w.heap.size w W) => refFind_any A cap l p lot W (hrow.below hb) hl)
  obtain ⟨N, hN⟩ : ∃ N, N = l.length := ⟨_, rfl⟩
  have HN := Lib.hid hN
  have HROW := Lib.hid hrow
  have HB0 := Lib.hid (below_two w (.cells #[.slice A l.length cap] 30) (.cells (encPlace p).toArray 24))
  rw [← hN] at hl HB0 HFI ⊢
  cases hfi : l.findIdx? (isAt p lot) with
  | none =>
    obtain ⟨h1, h2⟩ := at_none hfi
    rw [h1] at HFI
    rw [h2]
    clear hfi h1 h2 hN hrow
    obtain ⟨p1, p2, p3⟩ := p
    simp only [encPlace] at HB0 HFI ⊢
    go_enter Tryz.func19, Tryz.ntmps19
    go_wp2_with fail
    refine (HFI.out _ HB0.out).mono ?_
    rintro e w1 ⟨rfl, b1⟩
    have B1 := Lib.hid (HB0.out.trans (b1.mono HB0.out.size))
    clear b1
    go_wp2_with fail
    go_ret
    exact ⟨rfl, B1.out⟩
  | some i =>
    obtain ⟨hi, h1, h2⟩ := at_some hfi
    rw [h1] at HFI
    rw [h2]
    obtain ⟨x, hx⟩ : ∃ x, x = l[i] := ⟨_, rfl⟩
    have hiN : i < N := by rw [hN]; exact hi
    obtain ⟨g, o, rfl, lg, cg⟩ := HROW.out.resolve_left (fun h => by rw [h] at hi; simp at hi)
    have hcl := cg i hi 4 (.int .i64 l[i].2.2) rfl
    rw [← hx] at hcl ⊢
    generalize x.2.2 = v at hcl ⊢
    clear hfi h1 h2 hN hrow hx x cg
    obtain ⟨p1, p2, p3⟩ := p
    simp only [encPlace] at HB0 HFI ⊢
    have hc0 := cell_of_row _ _ 0 _ _ _ (((below_one (w.alloc (.cells #[.slice (some ⟨g, o, none⟩) N cap] 30)) (.cells #[.string ⟨p1.toArray⟩, .int .i64 p2, .int .i64 p3] 24)).block w.heap.size (by simp)).trans (heap_alloc_new w (.cells #[.slice (some ⟨g, o, none⟩) N cap] 30)))
    have HC0 := Lib.hid hc0
    clear hc0
    go_enter Tryz.func19, Tryz.ntmps19
    go_wp2_with fail
    refine (HFI.out _ HB0.out).mono ?_
    rintro e w1 ⟨rfl, b1⟩
    have B1 := Lib.hid (HB0.out.trans (b1.mono HB0.out.size))
    have c0 : w1.cell? ⟨w.heap.size, 0, none⟩ = some (.slice (some ⟨g, o, none⟩) N cap) := (b1.cell (p := ⟨_, 0, none⟩) (by show w.heap.size < _; simp; omega)).trans HC0.out
    have c4 : w1.cell? ⟨g, o + i * 5 + 4, none⟩ = some (.int .i64 v) := (B1.out.cell (p := ⟨g, o + i * 5 + 4, none⟩) lg).trans hcl
    clear b1 HC0 HFI
    go_wp2_with fail
    go_ret
    exact ⟨rfl, B1.out⟩

/-- Of a lot. -/
def ofL : List LineV → List UInt8 → Int
  | [], _ => 0
  | x :: r, lot => (if x.2.1 = lot then x.2.2 else 0) + ofL r lot
theorem ofL_app (a b : List LineV) (lot : List UInt8) : ofL (a ++ b) lot = ofL a lot + ofL b lot := by
  induction a with
  | nil => simp [ofL]
  | cons x r ih => simp only [List.cons_append, ofL, ih]; omega
theorem ofL_take (l : List LineV) (k : Nat) (lot : List UInt8) (h : k < l.length) : ofL (l.take (k + 1)) lot = ofL (l.take k) lot + if l[k].2.1 = lot then l[k].2.2 else 0 := by
  rw [List.take_succ_eq_append_getElem h, ofL_app]
  simp [ofL]
theorem ofL_nonneg {l : List LineV} (h : ∀ x ∈ l, 0 ≤ x.2.2) (lot : List UInt8) : 0 ≤ ofL l lot := by
  induction l with
  | nil => simp [ofL]
  | cons x r ih =>
    have h1 := h x (by simp)
    have h2 := ih fun y hy => h y (by simp [hy])
    simp only [ofL]
    split <;> omega
theorem ofL_take_le {l : List LineV} (h : ∀ x ∈ l, 0 ≤ x.2.2) (lot : List UInt8) (k : Nat) : ofL (l.take k) lot ≤ ofL l lot := by
  have e : ofL l lot = ofL (l.take k) lot + ofL (l.drop k) lot := by rw [← ofL_app, List.take_append_drop]
  have := ofL_nonneg (l := l.drop k) (fun x hx => h x (List.mem_of_mem_drop hx)) lot
  omega

set_option maxHeartbeats 1600000 in
set_option maxRecDepth 100000 in
theorem refOf_any (A : Option Addr) (cap : Nat) (l : List LineV) (lot : List UInt8) (w : World) (hrow : RowAt encLine 5 w A l) (hl : l.length ≤ 100000) (hpos : ∀ x ∈ l, 0 ≤ x.2.2) (hs : ofL l lot ≤ 4611686018427387904) :
    Calls Tryz.prog 21 #[.agg #[.slice A l.length cap], .string ⟨lot.toArray⟩] w fun e w' => e = .returned (.int .i64 (ofL l lot)) ∧ Below w.heap.size w w' := by
  obtain ⟨N, hN⟩ : ∃ N, N = l.length := ⟨_, rfl⟩
  have HN := Lib.hid hN
  have HROW := Lib.hid hrow
  have HB0 := Lib.hid (below_one w (.cells #[.slice A l.length cap] 30))
  have HT := Lib.hid (fun k (h : k < l.length) => ofL_take l k lot h)
  have HLE := Lib.hid (fun k => ofL_take_le hpos lot k)
  have HGE := Lib.hid (fun k => ofL_nonneg (l := l.take k) (fun x hx => hpos x (List.mem_of_mem_take hx)) lot)
  rw [← hN] at hl HB0 ⊢
  have hc0 := cell_of_row _ _ 0 _ _ _ (heap_alloc_new w (.cells #[.slice A N cap] 30))
  have HC0 := Lib.hid hc0
  have HS := Lib.hid hs
  clear hc0 hN hrow hpos hs
  go_enter Tryz.func21, Tryz.ntmps21
  go_wp2_with fail
  obtain ⟨W0, hW0⟩ : ∃ W0, W0 = w.alloc (.cells #[.slice A N cap] 30) := ⟨_, rfl⟩
  rw [← hW0] at HB0 HC0 ⊢
  have hs0 : W0.heap.size = w.heap.size + 1 := by rw [hW0]; simp
  clear hW0
  go_loopw [5, 6] (fun s n wr => ∃ k : Nat, k ≤ N ∧ n = .int .i64 k ∧ s = .int .i64 (ofL (l.take k) lot) ∧ Below W0.heap.size W0 wr) (fun _ n _ => N - (intOf n).toNat)
  case atStart => exact ⟨0, by omega, rfl, rfl, Below.refl _ _⟩
  case round =>
    obtain ⟨k, hk, rfl, rfl, hb⟩ := hrel
    have HB := Lib.hid hb
    have c0 : wr.cell? ⟨w.heap.size, 0, none⟩ = some (.slice A N cap) := (hb.cell (p := ⟨_, 0, none⟩) (by show w.heap.size < _; omega)).trans HC0.out
    clear hb
    by_cases hkN : k < N
    · have hkx : k < l.length := by rw [← HN.out]; exact hkN
      obtain ⟨g, o, rfl, lg, cg⟩ := HROW.out.resolve_left (fun h => by rw [h] at hkx; simp at hkx)
      obtain ⟨x, hx⟩ : ∃ x, x = l[k] := ⟨_, rfl⟩
      have r5 := range5L (x := x) (w := wr) (b := g) (o := o + k * 5) (fun cc v hv => by
        have h1 := cg k hkx cc v (by rw [← hx]; exact hv)
        have h2 := (HB0.out.cell (p := ⟨g, o + k * 5 + cc, none⟩) lg).trans h1
        exact (HB.out.cell (p := ⟨g, o + k * 5 + cc, none⟩) (lt_of_cell h2)).trans h2)
      have hT := HT.out k hkx
      have hle := HLE.out (k + 1)
      have hge := HGE.out (k + 1)
      have hS := HS.out
      rw [← hx] at hT
      obtain ⟨s0, hs1⟩ : ∃ s0, s0 = ofL (l.take k) lot := ⟨_, rfl⟩
      obtain ⟨s1, hs2⟩ : ∃ s1, s1 = ofL (l.take (k + 1)) lot := ⟨_, rfl⟩
      rw [← hs1, ← hs2] at hT
      rw [← hs2] at hle hge
      rw [← hs1]
      have HS2 := Lib.hid hs2
      clear hs1 hs2 hx cg
      by_cases h2 : x.2.1 = lot
      · rw [if_pos h2] at hT
        obtain ⟨⟨a1, a2, a3⟩, a4, a5⟩ := x
        obtain ⟨e0, e1, e2, e3, e4⟩ := r5
        simp only at e0 e1 e2 e3 e4 hT h2
        have hb4 : (a4 == lot) = true := by simpa using h2
        have hr1 : s0 + a5 ≤ 4611686018427387904 := by omega
        have hr2 : 0 ≤ s0 + a5 := by omega
        have HT2 := Lib.hid hT
        clear h2 hT hle hge hS
        go_wp2
        go_roundw
        case rel => exact ⟨k + 1, by omega, by go_num, by rw [← HS2.out, HT2.out], HB.out⟩
        case measure => simp [intOf]; omega
      · rw [if_neg h2] at hT
        obtain ⟨⟨a1, a2, a3⟩, a4, a5⟩ := x
        obtain ⟨e0, e1, e2, e3, e4⟩ := r5
        simp only at e0 e1 e2 e3 e4 hT h2
        have hb4 : (a4 == lot) = false := by simpa using h2
        have HT2 := Lib.hid hT
        clear h2 hT hle hge hS
        go_wp2
        go_roundw
        case rel => exact ⟨k + 1, by omega, by go_num, by rw [← HS2.out, HT2.out, Int.add_zero], HB.out⟩
        case measure => simp [intOf]; omega
    · obtain rfl : k = N := by omega
      have htk : l.take k = l := List.take_of_length_le (by rw [← HN.out]; exact Nat.le_refl _)
      rw [htk]
      go_wp2_with fail
      go_ret
      exact ⟨rfl, HB0.out.trans (HB.out.mono (by omega))⟩
end Go.Proofs.YtmhkcmoepopnoaaGreatDoor
