/- Stock: Put. Stock: Take. -/
import Derived.Test.YtgllddebodfhkaaGreatDoorM05
namespace Go.Proofs.YtgllddebodfhkaaGreatDoor
open Go.RowKit Go.Sort Go.Proofs

/-- Only block b, and what is new, may have turned. -/
structure But (b : Nat) (w w' : World) : Prop where
  os : w'.os = w.os
  tape : w'.tape = w.tape
  output : w'.output = w.output
  size : w.heap.size ≤ w'.heap.size
  block : ∀ k, k < w.heap.size → k ≠ b → w'.heap[k]? = w.heap[k]?
theorem But.refl (b : Nat) (w : World) : But b w w := ⟨rfl, rfl, rfl, Nat.le_refl _, fun _ _ _ => rfl⟩
theorem But.of_below {b : Nat} {w w' : World} (h : Below w.heap.size w w') : But b w w' := ⟨h.os, h.tape, h.output, h.size, fun k hk _ => h.block k hk⟩
theorem But.of_turned {b : Nat} {w w' : World} (h : Turned b w w') : But b w w' := ⟨h.os, h.tape, h.output, Nat.le_of_eq h.size.symm, fun k _ hk => h.block k hk⟩
theorem But.trans {b : Nat} {w1 w2 w3 : World} (h : But b w1 w2) (k : But b w2 w3) : But b w1 w3 :=
  ⟨k.os.trans h.os, k.tape.trans h.tape, k.output.trans h.output, Nat.le_trans h.size k.size, fun i hi hb => (k.block i (Nat.lt_of_lt_of_le hi h.size) hb).trans (h.block i hi hb)⟩
theorem But.below {B b : Nat} {a w w' : World} (h : Below B a w) (k : But b w w') (hb : B ≤ b) (hB : B ≤ w.heap.size) : Below B a w' :=
  h.trans ⟨k.os, k.tape, k.output, k.size, fun i hi => k.block i (by omega) (by omega)⟩
theorem But.drew {b : Nat} {w w' : World} (h : But b w w') : But b w w'.drew := ⟨h.os, h.tape, h.output, h.size, h.block⟩

structure StkG (E : Nat → Addr) (w : World) : Prop where
  place : PlaceCG E w
  full : ErrAt 8 (E 8) w
  short : ErrAt 3 (E 9) w
  shape : ErrAt 0 (E 3) w
theorem StkG.below {E : Nat → Addr} {w w' : World} (h : StkG E w) (hb : Below w.heap.size w w') : StkG E w' := ⟨h.place.below hb, h.full.below hb, h.short.below hb, h.shape.below hb⟩

/-- What Put answers, and makes of a stock. -/
def putE (m : StkV) (pl : PlaceV) (lot : List UInt8) (n : Int) : Nat :=
  if placeE pl ≠ 0 then placeE pl else if nameB lot = false then 5 else if wiB n 1 1099511627776 = false then 2 else if 1099511627776 - (ofM m lot : Nat) < n then 2
  else if (mget m (pl, lot)).isSome = false ∧ 200 ≤ m.length then 8 else 0
def putM (m : StkV) (pl : PlaceV) (lot : List UInt8) (n : Int) : StkV := if putE m pl lot n = 0 then mput m (pl, lot) (atM m (pl, lot) + n.toNat) else m
theorem atM_le (m : StkV) (pl : PlaceV) (lot : List UInt8) : atM m (pl, lot) ≤ ofM m lot := by
  unfold atM
  induction m with
  | nil => simp [mget]
  | cons x r ih =>
    rw [ofM_cons]
    unfold mget
    by_cases h : x.1 = (pl, lot)
    · rw [if_pos h, if_pos (by rw [h])]
      simp
    · rw [if_neg h]
      omega

theorem wrap_small {x : Int} (h1 : -9223372036854775808 ≤ x) (h2 : x ≤ 9223372036854775807) : IntKind.i64.wrap x = x := by
  rw [IntKind.wrap_i64]
  omega
set_option maxHeartbeats 1600000 in
set_option maxRecDepth 100000 in
theorem putStock_any (E : Nat → Addr) (p b : Nat) (m : StkV) (pl : PlaceV) (lot : List UInt8) (n : Int) (w : World) (h : StkAt w p b m) (hs : ofM m lot ≤ 1099511627776) (hG : StkG E w) :
    Calls Tryz.prog 81 #[.pointer (some ⟨p, 0, none⟩), .agg (encPlace pl).toArray, .string ⟨lot.toArray⟩, .int .i64 n] w fun e w' => e = .returned (errOf E (putE m pl lot n)) ∧ StkAt w' p b (putM m pl lot n) ∧ But b w w' := by
  have HCK := Lib.hid (fun W h => checkPlace_c E pl W h)
  have HN := Lib.hid (fun W => name_wide lot W)
  have HWI := Lib.hid (within_any n 1 1099511627776)
  have HOF := Lib.hid (fun W (h : StkAt W p b m) => ofStock_any p b m lot W h (by omega))
  have HG := Lib.hid (fun W (h : Below w.heap.size w W) => hG.below h)
  have HS := Lib.hid (fun W (hb : Below w.heap.size w W) => h.below hb)
  have hle := atM_le m pl lot
  obtain ⟨r, hr⟩ : ∃ r, r = putE m pl lot n := ⟨_, rfl⟩
  obtain ⟨m', hm'⟩ : ∃ m', m' = putM m pl lot n := ⟨_, rfl⟩
  rw [← hr, ← hm']
  have HR := Lib.hid (show r = if placeE pl ≠ 0 then placeE pl else if nameB lot = false then 5 else if wiB n 1 1099511627776 = false then 2 else if 1099511627776 - (ofM m lot : Nat) < n then 2 else if (mget m (pl, lot)).isSome = false ∧ 200 ≤ m.length then 8 else 0 from hr)
  have HM := Lib.hid (show m' = if r = 0 then mput m (pl, lot) (atM m (pl, lot) + n.toNat) else m by rw [hm', hr]; rfl)
  have HE := Lib.hid (fun W (h : MapIs eKey eNat W b m) => h.entry keyOk Tryz.underlying122 zeroNat (pl, lot))
  have HL := Lib.hid (fun W (h : StkAt W p b m) => look_stk h pl lot)
  have HL2 := Lib.hid (fun W (h : StkAt W p b m) => look_stk2 h pl lot)
  have hlb := h.lt
  have hpb := h.ne
  have b0 := Lib.hid (below_one w (.cells (encPlace pl).toArray 40))
  clear hr hm' h hG
  rw [show (mget m (pl, lot)).getD 0 = atM m (pl, lot) from rfl] at HE
  generalize placeE pl = pe at HCK HR
  generalize atM m (pl, lot) = a at hle HM HE HL HL2
  generalize (mget m (pl, lot)).isSome = is at HR HL2
  generalize nameB lot = nm at HN HR
  generalize ofM m lot = o at HOF HR hs hle
  generalize hwi : wiB n 1 1099511627776 = wi at HWI HR
  obtain ⟨a1, a2, a3⟩ := pl
  simp only [encPlace, eKey, encKey] at HCK HE HL HL2 b0 ⊢
  go_enter Tryz.func81, Tryz.ntmps81
  go_wp2_with fail
  refine (HCK.out _ (HG.out _ b0.out).place).mono ?_
  rintro e w2 ⟨rfl, b2⟩
  have B2 := Lib.hid (b0.out.trans (b2.mono b0.out.size))
  have c0 : w2.cell? ⟨w.heap.size, 0, none⟩ = some (.string ⟨a1.toArray⟩) := (b2.cell (p := ⟨_, _, none⟩) (by simp)).trans (cell_of_row _ _ _ _ _ _ (heap_alloc_new _ _))
  have c1 : w2.cell? ⟨w.heap.size, 1, none⟩ = some (.int .i64 a2) := (b2.cell (p := ⟨_, _, none⟩) (by simp)).trans (cell_of_row _ _ _ _ _ _ (heap_alloc_new _ _))
  have c2 : w2.cell? ⟨w.heap.size, 2, none⟩ = some (.int .i64 a3) := (b2.cell (p := ⟨_, _, none⟩) (by simp)).trans (cell_of_row _ _ _ _ _ _ (heap_alloc_new _ _))
  clear b2 HCK
  by_cases hpe : pe = 0
  · subst hpe
    rw [errOf_zero]
    have bo := below_one w2 (.cells #[.string ⟨a1.toArray⟩, .int .i64 a2, .int .i64 a3, .string ⟨lot.toArray⟩] 126)
    have B3 := Lib.hid (B2.out.trans (bo.mono B2.out.size))
    have hS3 := HS.out _ B3.out.drew
    have hl3 := HL2.out _ hS3
    have cp := hS3.cell
    have hk3 : (w2.alloc (.cells #[.string ⟨a1.toArray⟩, .int .i64 a2, .int .i64 a3, .string ⟨lot.toArray⟩] 126)).drew.heap[w2.heap.size]? = some (.cells #[.string ⟨a1.toArray⟩, .int .i64 a2, .int .i64 a3, .string ⟨lot.toArray⟩] 126 (0, 0)) := heap_alloc_new _ _
    have hKw : w.heap.size ≤ w2.heap.size := B2.out.size
    have B3 := Lib.hid B3.out.drew
    clear bo hS3
    go_wp2_with fail
    go_region
    all_goals
      clear hl3 cp c0 c1 c2
      go_wp2_with fail
      generalize (w2.alloc (.cells #[.string ⟨a1.toArray⟩, .int .i64 a2, .int .i64 a3, .string ⟨lot.toArray⟩] 126)).drew = W3 at hk3 B3 ⊢
      obtain ⟨kb, hkb⟩ : ∃ kb, kb = w2.heap.size := ⟨_, rfl⟩
      rw [← hkb] at hk3 hKw ⊢
      clear hkb
      refine (HN.out W3).mono ?_
      rintro e w4 ⟨rfl, b4⟩
      have B4 := Lib.hid (B3.out.trans (b4.mono B3.out.size))
      have hk4 := (b4.block kb (row_lt hk3)).trans hk3
      clear b4 hk3 HN B3
      cases nm with
      | false =>
        have HR0 := Lib.hid (show r = 5 from HR.out.trans (by rw [if_neg (by simp), if_pos rfl]))
        have HM0 := Lib.hid (HM.out.trans (if_neg (by rw [HR0.out]; decide)))
        have hn4 := (HG.out _ B4.out).place.name
        unfold ErrAt at hn4
        go_wp2_with fail
        go_ret
        rw [HR0.out, HM0.out]
        exact ⟨rfl, HS.out _ B4.out, But.of_below B4.out⟩
      | true =>
        go_wp2_with fail
        refine (HWI.out w4).mono ?_
        rintro e w5 ⟨rfl, rfl⟩
        have hb4 := (HG.out _ B4.out).place.bound
        unfold ErrAt at hb4
        cases wi with
        | false =>
          have HR0 := Lib.hid (show r = 2 from HR.out.trans (by rw [if_neg (by simp), if_neg (by simp), if_pos rfl]))
          have HM0 := Lib.hid (HM.out.trans (if_neg (by rw [HR0.out]; decide)))
          go_wp2_with fail
          go_ret
          rw [HR0.out, HM0.out]
          exact ⟨rfl, HS.out _ B4.out, But.of_below B4.out⟩
        | true =>
          unfold wiB at hwi
          simp only [decide_eq_true_eq] at hwi
          obtain ⟨hn1, hn2⟩ := hwi
          go_wp2_with fail
          refine (HOF.out w4 (HS.out _ B4.out)).mono ?_
          rintro e w5 ⟨rfl, b5⟩
          have B5 := Lib.hid (B4.out.trans (b5.mono B4.out.size))
          have hk5 := (b5.block kb (row_lt hk4)).trans hk4
          have hb5 := (b5.cell (p := ⟨_, _, none⟩) (lt_of_cell hb4)).trans hb4
          clear b5 hk4 hb4 B4 HOF
          by_cases ho : 1099511627776 - (o : Int) < n
          · have HR0 := Lib.hid (show r = 2 from HR.out.trans (by rw [if_neg (by simp), if_neg (by simp), if_neg (by simp), if_pos ho]))
            have HM0 := Lib.hid (HM.out.trans (if_neg (by rw [HR0.out]; decide)))
            go_wp2_with fail
            go_ret
            rw [HR0.out, HM0.out]
            exact ⟨rfl, HS.out _ B5.out, But.of_below B5.out⟩
          · have hS5 := HS.out _ B5.out
            have hM5 := hS5.2
            have cp5 := hS5.cell
            have hf5 := (HG.out _ B5.out).full
            unfold ErrAt at hf5
            cases is with
            | true =>
              have HR0 := Lib.hid (show r = 0 from HR.out.trans (by rw [if_neg (by simp), if_neg (by simp), if_neg (by simp), if_neg ho, if_neg (by simp)]))
              go_wp2_with fail
              have hw : IntKind.i64.wrap ((a : Int) + n) = (a : Int) + n := wrap_small (by omega) (by omega)
              obtain ⟨v1, s, hE, hT1, hL1, hS⟩ := HE.out w5.drew hM5
              obtain ⟨v2, hS2, hM2, hT2⟩ := hS (a + n.toNat)
              have hv : (((a + n.toNat : Nat) : Int)) = (a : Int) + n := by omega
              simp only [eNat] at hE hL1 hS2
              rw [hv] at hS2
              have hLL := hL1 false
              simp only [Bool.false_eq_true, if_false] at hLL
              have hl5 := HL.out w5.drew hS5
              have hkne : kb ≠ b := by have := B2.out.size; omega
              have q0 : w5.cell? ⟨kb, 0, none⟩ = some (.string ⟨a1.toArray⟩) := cell_of_row _ _ _ _ _ _ hk5
              have q1 : w5.cell? ⟨kb, 1, none⟩ = some (.int .i64 a2) := cell_of_row _ _ _ _ _ _ hk5
              have q2 : w5.cell? ⟨kb, 2, none⟩ = some (.int .i64 a3) := cell_of_row _ _ _ _ _ _ hk5
              have q3 : w5.cell? ⟨kb, 3, none⟩ = some (.string ⟨lot.toArray⟩) := cell_of_row _ _ _ _ _ _ hk5
              have z0 : v1.cell? ⟨kb, 0, none⟩ = _ := hT1.cell (w := w5.drew) q0 hkne
              have z1 : v1.cell? ⟨kb, 1, none⟩ = _ := hT1.cell (w := w5.drew) q1 hkne
              have z2 : v1.cell? ⟨kb, 2, none⟩ = _ := hT1.cell (w := w5.drew) q2 hkne
              have z3 : v1.cell? ⟨kb, 3, none⟩ = _ := hT1.cell (w := w5.drew) q3 hkne
              have zp : v1.cell? ⟨p, 0, none⟩ = _ := hT1.cell (w := w5.drew) cp5 hpb
              have HM0 := Lib.hid (HM.out.trans (if_pos HR0.out))
              have HT2 := Lib.hid hT2
              have HM2 := Lib.hid hM2
              have HP5 := Lib.hid hS5.1
              clear hS hT2 hM2 hS5 hM5 hL1 hk5 hT1
              go_region
              all_goals
                go_wp2_with fail
                go_ret
                rw [HR0.out, HM0.out]
                exact ⟨rfl, ⟨HT2.out.heap HP5.out hpb, HM2.out⟩, (But.of_below B5.out).drew.trans (But.of_turned HT2.out)⟩
            | false =>
              have hlen := fun ty => hM5.len (ty := ty) Tryz.underlying122
              by_cases hfl : 200 ≤ m.length
              · have HR0 := Lib.hid (show r = 8 from HR.out.trans (by rw [if_neg (by simp), if_neg (by simp), if_neg (by simp), if_neg ho, if_pos ⟨rfl, hfl⟩]))
                have HM0 := Lib.hid (HM.out.trans (if_neg (by rw [HR0.out]; decide)))
                go_wp2_with fail
                go_ret
                rw [HR0.out, HM0.out]
                exact ⟨rfl, HS.out _ B5.out, But.of_below B5.out⟩
              · have HR0 := Lib.hid (show r = 0 from HR.out.trans (by rw [if_neg (by simp), if_neg (by simp), if_neg (by simp), if_neg ho, if_neg (fun h => hfl h.2)]))
                go_wp2_with fail
                clear hlen
                have hw : IntKind.i64.wrap ((a : Int) + n) = (a : Int) + n := wrap_small (by omega) (by omega)
                obtain ⟨v1, s, hE, hT1, hL1, hS⟩ := HE.out w5.drew hM5
                obtain ⟨v2, hS2, hM2, hT2⟩ := hS (a + n.toNat)
                have hv : (((a + n.toNat : Nat) : Int)) = (a : Int) + n := by omega
                simp only [eNat] at hE hL1 hS2
                rw [hv] at hS2
                have hLL := hL1 false
                simp only [Bool.false_eq_true, if_false] at hLL
                have hl5 := HL.out w5.drew hS5
                have hkne : kb ≠ b := by have := B2.out.size; omega
                have q0 : w5.cell? ⟨kb, 0, none⟩ = some (.string ⟨a1.toArray⟩) := cell_of_row _ _ _ _ _ _ hk5
                have q1 : w5.cell? ⟨kb, 1, none⟩ = some (.int .i64 a2) := cell_of_row _ _ _ _ _ _ hk5
                have q2 : w5.cell? ⟨kb, 2, none⟩ = some (.int .i64 a3) := cell_of_row _ _ _ _ _ _ hk5
                have q3 : w5.cell? ⟨kb, 3, none⟩ = some (.string ⟨lot.toArray⟩) := cell_of_row _ _ _ _ _ _ hk5
                have z0 : v1.cell? ⟨kb, 0, none⟩ = _ := hT1.cell (w := w5.drew) q0 hkne
                have z1 : v1.cell? ⟨kb, 1, none⟩ = _ := hT1.cell (w := w5.drew) q1 hkne
                have z2 : v1.cell? ⟨kb, 2, none⟩ = _ := hT1.cell (w := w5.drew) q2 hkne
                have z3 : v1.cell? ⟨kb, 3, none⟩ = _ := hT1.cell (w := w5.drew) q3 hkne
                have zp : v1.cell? ⟨p, 0, none⟩ = _ := hT1.cell (w := w5.drew) cp5 hpb
                have HM0 := Lib.hid (HM.out.trans (if_pos HR0.out))
                have HT2 := Lib.hid hT2
                have HM2 := Lib.hid hM2
                have HP5 := Lib.hid hS5.1
                clear hS hT2 hM2 hS5 hM5 hL1 hk5 hT1
                go_region
                all_goals
                  go_wp2_with fail
                  go_ret
                  rw [HR0.out, HM0.out]
                  exact ⟨rfl, ⟨HT2.out.heap HP5.out hpb, HM2.out⟩, (But.of_below B5.out).drew.trans (But.of_turned HT2.out)⟩
  · rw [errOf_pos _ _ hpe]
    have HR0 := Lib.hid (HR.out.trans (if_pos hpe))
    have HM0 := Lib.hid (HM.out.trans (if_neg (by rw [HR0.out]; exact hpe)))
    go_wp2_with fail
    go_ret
    rw [HR0.out, HM0.out, errOf_pos _ _ hpe]
    exact ⟨rfl, HS.out _ B2.out, But.of_below B2.out⟩
end Go.Proofs.YtgllddebodfhkaaGreatDoor
namespace Go.Proofs.YtgllddebodfhkaaGreatDoor
open Go.RowKit Go.Sort Go.Proofs

theorem mget_put {κ ν : Type} [DecidableEq κ] : ∀ (m : List (κ × ν)) (k : κ) (v : ν), mget (mput m k v) k = some v
  | [], k, v => by simp [mput, mget]
  | p :: r, k, v => by
    unfold mput
    by_cases h : p.1 = k
    · rw [if_pos h]; simp [mget]
    · rw [if_neg h]
      unfold mget
      rw [if_neg h]
      exact mget_put r k v
/-- What Take answers, and makes of a stock. -/
def takeE (m : StkV) (pl : PlaceV) (lot : List UInt8) (n : Int) : Nat := if wiB n 1 1099511627776 = false then 2 else if (atM m (pl, lot) : Int) < n then 9 else 0
def takeM (m : StkV) (pl : PlaceV) (lot : List UInt8) (n : Int) : StkV :=
  if takeE m pl lot n = 0 then (if atM m (pl, lot) - n.toNat = 0 then mdel (mput m (pl, lot) (atM m (pl, lot) - n.toNat)) (pl, lot) else mput m (pl, lot) (atM m (pl, lot) - n.toNat)) else m

set_option maxHeartbeats 1600000 in
set_option maxRecDepth 100000 in
theorem takeStock_any (E : Nat → Addr) (p b : Nat) (m : StkV) (pl : PlaceV) (lot : List UInt8) (n : Int) (w : World) (h : StkAt w p b m) (ha : atM m (pl, lot) ≤ 4611686018427387904) (hG : StkG E w) :
    Calls Tryz.prog 137 #[.pointer (some ⟨p, 0, none⟩), .agg (encPlace pl).toArray, .string ⟨lot.toArray⟩, .int .i64 n] w fun e w' => e = .returned (errOf E (takeE m pl lot n)) ∧ StkAt w' p b (takeM m pl lot n) ∧ But b w w' := by
  have HWI := Lib.hid (within_any n 1 1099511627776)
  have HG := Lib.hid (fun W (h : Below w.heap.size w W) => hG.below h)
  have HS := Lib.hid (fun W (hb : Below w.heap.size w W) => h.below hb)
  obtain ⟨r, hr⟩ : ∃ r, r = takeE m pl lot n := ⟨_, rfl⟩
  obtain ⟨m', hm'⟩ : ∃ m', m' = takeM m pl lot n := ⟨_, rfl⟩
  rw [← hr, ← hm']
  have HR := Lib.hid (show r = if wiB n 1 1099511627776 = false then 2 else if (atM m (pl, lot) : Int) < n then 9 else 0 from hr)
  obtain ⟨m1, hm1⟩ : ∃ m1, m1 = mput m (pl, lot) (atM m (pl, lot) - n.toNat) := ⟨_, rfl⟩
  have HM : Hid (m' = if r = 0 then (if atM m (pl, lot) - n.toNat = 0 then mdel m1 (pl, lot) else m1) else m) := by
    show _ = _
    rw [hm', hr, hm1]
    rfl
  have HE := Lib.hid (fun W (h : MapIs eKey eNat W b m) => h.entry keyOk Tryz.underlying122 zeroNat (pl, lot))
  have HL := Lib.hid (fun W (h : StkAt W p b m) => look_stk h pl lot)
  have HM1 : Hid (mput m (pl, lot) (atM m (pl, lot) - n.toNat) = m1) := hm1.symm
  have hg1 : atM m1 (pl, lot) = atM m (pl, lot) - n.toNat := by
    unfold atM
    rw [hm1, mget_put]
    rfl
  have HL1 := Lib.hid (fun W (h : StkAt W p b m1) => look_stk h pl lot)
  have HD1 := Lib.hid (fun W (h : MapIs eKey eNat W b m1) => h.drop keyOk Tryz.underlying122 (pl, lot))
  have hlb := h.lt
  have hpb := h.ne
  have b0 := Lib.hid (below_two w (.cells (encPlace pl).toArray 40) (.cells (encPlace pl ++ [Value.string ⟨lot.toArray⟩]).toArray 126))
  rw [hg1] at HL1
  clear hr hm' hm1 hg1 h hG
  rw [show (mget m (pl, lot)).getD 0 = atM m (pl, lot) from rfl] at HE
  generalize atM m (pl, lot) = a at *
  generalize hwi : wiB n 1 1099511627776 = wi at HWI HR
  generalize mdel m1 (pl, lot) = m2 at HM HD1
  obtain ⟨a1, a2, a3⟩ := pl
  simp only [encPlace, eKey, encKey, List.cons_append, List.nil_append] at HE HL HL1 HD1 b0 ⊢
  go_enter Tryz.func137, Tryz.ntmps137
  go_wp2_with fail
  have hk3 : ((w.alloc (.cells #[.string ⟨a1.toArray⟩, .int .i64 a2, .int .i64 a3] 40)).alloc (.cells #[.string ⟨a1.toArray⟩, .int .i64 a2, .int .i64 a3, .string ⟨lot.toArray⟩] 126)).heap[w.heap.size + 1]? = some (.cells #[.string ⟨a1.toArray⟩, .int .i64 a2, .int .i64 a3, .string ⟨lot.toArray⟩] 126 (0, 0)) := by
    have := heap_alloc_new (w.alloc (.cells #[.string ⟨a1.toArray⟩, .int .i64 a2, .int .i64 a3] 40)) (.cells #[.string ⟨a1.toArray⟩, .int .i64 a2, .int .i64 a3, .string ⟨lot.toArray⟩] 126)
    simpa using this
  generalize (w.alloc (.cells #[.string ⟨a1.toArray⟩, .int .i64 a2, .int .i64 a3] 40)).alloc (.cells #[.string ⟨a1.toArray⟩, .int .i64 a2, .int .i64 a3, .string ⟨lot.toArray⟩] 126) = W3 at b0 hk3 ⊢
  obtain ⟨kb, hkb⟩ : ∃ kb, kb = w.heap.size + 1 := ⟨_, rfl⟩
  rw [← hkb] at hk3 ⊢
  have hkne : kb ≠ b := by omega
  clear hkb
  refine (HWI.out W3).mono ?_
  rintro e w5 ⟨rfl, rfl⟩
  have hbd := (HG.out _ b0.out).place.bound
  have hsh := (HG.out _ b0.out).short
  unfold ErrAt at hbd hsh
  cases wi with
  | false =>
    have HR0 := Lib.hid (show r = 2 from HR.out.trans (if_pos rfl))
    have HM0 := Lib.hid (HM.out.trans (if_neg (by rw [HR0.out]; decide)))
    go_wp2_with fail
    go_ret
    rw [HR0.out, HM0.out]
    exact ⟨rfl, HS.out _ b0.out, But.of_below b0.out⟩
  | true =>
    unfold wiB at hwi
    simp only [decide_eq_true_eq] at hwi
    obtain ⟨hn1, hn2⟩ := hwi
    have hS3 := HS.out _ b0.out
    have hl3 := HL.out _ hS3
    have hl3d := HL.out W3.drew hS3
    have cp3 := hS3.cell
    have q0 : W3.cell? ⟨kb, 0, none⟩ = some (.string ⟨a1.toArray⟩) := cell_of_row _ _ _ _ _ _ hk3
    have q1 : W3.cell? ⟨kb, 1, none⟩ = some (.int .i64 a2) := cell_of_row _ _ _ _ _ _ hk3
    have q2 : W3.cell? ⟨kb, 2, none⟩ = some (.int .i64 a3) := cell_of_row _ _ _ _ _ _ hk3
    have q3 : W3.cell? ⟨kb, 3, none⟩ = some (.string ⟨lot.toArray⟩) := cell_of_row _ _ _ _ _ _ hk3
    go_wp2_with fail
    go_region
    all_goals
      by_cases han : (a : Int) < n
      · have HR0 := Lib.hid (show r = 9 from HR.out.trans (by rw [if_neg (by simp), if_pos han]))
        have HM0 := Lib.hid (HM.out.trans (if_neg (by rw [HR0.out]; decide)))
        go_wp2_with fail
        go_ret
        rw [HR0.out, HM0.out]
        exact ⟨rfl, HS.out _ b0.out.drew, But.of_below b0.out.drew⟩
      · have HR0 := Lib.hid (show r = 0 from HR.out.trans (by rw [if_neg (by simp), if_neg han]))
        have HM0 := Lib.hid (HM.out.trans (if_pos HR0.out))
        go_wp2_with fail
        have hw : IntKind.i64.wrap ((a : Int) - n) = (a : Int) - n := wrap_small (by omega) (by omega)
        obtain ⟨v1, s, hE, hT1, hL1, hS⟩ := HE.out W3.drew.drew hS3.2
        obtain ⟨v2, hS2, hM2, hT2⟩ := hS (a - n.toNat)
        have hv : (((a - n.toNat : Nat) : Int)) = (a : Int) - n := by omega
        rw [HM1.out] at hM2
        simp only [eNat] at hE hL1 hS2
        rw [hv] at hS2
        have hLL := hL1 false
        simp only [Bool.false_eq_true, if_false] at hLL
        have hl5 := HL.out W3.drew.drew hS3
        have z0 : v1.cell? ⟨kb, 0, none⟩ = _ := hT1.cell (w := W3.drew.drew) q0 hkne
        have z1 : v1.cell? ⟨kb, 1, none⟩ = _ := hT1.cell (w := W3.drew.drew) q1 hkne
        have z2 : v1.cell? ⟨kb, 2, none⟩ = _ := hT1.cell (w := W3.drew.drew) q2 hkne
        have z3 : v1.cell? ⟨kb, 3, none⟩ = _ := hT1.cell (w := W3.drew.drew) q3 hkne
        have zp : v1.cell? ⟨p, 0, none⟩ = _ := hT1.cell (w := W3.drew.drew) cp3 hpb
        have y0 : v2.cell? ⟨kb, 0, none⟩ = _ := hT2.cell (w := W3.drew.drew) q0 hkne
        have y1 : v2.cell? ⟨kb, 1, none⟩ = _ := hT2.cell (w := W3.drew.drew) q1 hkne
        have y2 : v2.cell? ⟨kb, 2, none⟩ = _ := hT2.cell (w := W3.drew.drew) q2 hkne
        have y3 : v2.cell? ⟨kb, 3, none⟩ = _ := hT2.cell (w := W3.drew.drew) q3 hkne
        have yp : v2.cell? ⟨p, 0, none⟩ = _ := hT2.cell (w := W3.drew.drew) cp3 hpb
        have hS4 : StkAt v2 p b m1 := ⟨hT2.heap hS3.1 hpb, hM2⟩
        have HS4 := Lib.hid hS4
        have HB2 := Lib.hid ((But.of_below b0.out).drew.drew.trans (But.of_turned hT2))
        have HX3 := Lib.hid hS3
        clear hS hT2 hM2 hS3 hL1 hT1 hl3 hl3d hS4
        go_region
        all_goals
          have hl6 := HL1.out v2.drew HS4.out
          clear z0 z1 z2 z3 zp hE hS2 hLL hl5 q0 q1 q2 q3 cp3
          by_cases hz : a - n.toNat = 0
          · have HM3 := Lib.hid (HM0.out.trans (if_pos hz))
            obtain ⟨v3, hD, hM4, hT4⟩ := HD1.out v2.drew.drew HS4.out.2
            rw [hz] at hl6
            have HM4 := Lib.hid hM4
            have HT4 := Lib.hid hT4
            clear hM4 hT4 hz
            go_wp2_with fail
            go_region
            all_goals
              go_wp2_with fail
              go_region
              all_goals
                go_wp2_with fail
                go_ret
                rw [HR0.out, HM3.out]
                exact ⟨rfl, ⟨HT4.out.heap HS4.out.1 hpb, HM4.out⟩, HB2.out.drew.drew.trans (But.of_turned HT4.out)⟩
          · have HM3 := Lib.hid (HM0.out.trans (if_neg hz))
            have hz0 : ¬ ((a - n.toNat : Nat) : Int) = 0 := by omega
            generalize a - n.toNat = q at hl6 hz0
            go_wp2_with fail
            go_region
            all_goals
              go_wp2_with fail
              go_ret
              rw [HR0.out, HM3.out]
              exact ⟨rfl, HS4.out, HB2.out.drew⟩
end Go.Proofs.YtgllddebodfhkaaGreatDoor
