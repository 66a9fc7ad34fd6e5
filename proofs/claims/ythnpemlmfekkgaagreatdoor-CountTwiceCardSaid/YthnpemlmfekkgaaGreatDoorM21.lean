/- Counts, plainly: a sheet's fault; what Diff tells; behind it the stock is what was seen. No program in sight. Counts: a line of a sheet: is one ahead of it of its place and lot? The program's book: set, and what reads it. entry.formOf, walked. Equal entries. -/
import Derived.Laws.StructEq
import Derived.Test.YthnpemlmfekkgaaGreatDoorM04
import Derived.Test.YthnpemlmfekkgaaGreatDoorM05
import Derived.Test.YthnpemlmfekkgaaGreatDoorM10
import Derived.Test.YthnpemlmfekkgaaGreatDoorM15
import Derived.Test.YthnpemlmfekkgaaGreatDoorM16
import Derived.Test.YthnpemlmfekkgaaGreatDoorM20
namespace Go.Proofs.YthnpemlmfekkgaaGreatDoor
open Go.RowKit Go.Sort Go.Proofs

/-- The error of a line of a sheet behind others; a sheet's first fault, from a line on. -/
def lineE (done : List LineV) (x : LineV) : Nat :=
  if placeE x.1 ≠ 0 then placeE x.1 else if nameB x.2.1 = false then 5 else if wiB x.2.2 0 1099511627776 = false then 2 else if done.any (fun y => isAt x.1 x.2.1 y) = true then 7 else 0
def sheetF : List LineV → List LineV → Option (Nat × Nat)
  | _, [] => none
  | done, x :: r => if lineE done x ≠ 0 then some (lineE done x, done.length) else sheetF (done ++ [x]) r
/-- What a line tells: an entry, or none; what a sheet tells: entries, or a fault. -/
def diffX (m : StkV) (x : LineV) : List EntV :=
  if x.2.2 - (atM m (x.1, x.2.1) : Nat) > 0 then [(kMore, zeroGoods, (x.2.1, [], 0, 0), zeroPlace, x.1, x.2.2 - (atM m (x.1, x.2.1) : Nat))]
  else if x.2.2 - (atM m (x.1, x.2.1) : Nat) < 0 then [(kLess, zeroGoods, (x.2.1, [], 0, 0), x.1, zeroPlace, - (x.2.2 - (atM m (x.1, x.2.1) : Nat)))] else []
def diffL (m : StkV) (l : List LineV) : List EntV := l.flatMap (diffX m)
def noLot (B : BkV) : List LineV → Nat → Option (Nat × Nat)
  | [], _ => none
  | x :: r, i => if (fL B x.2.1).isSome = true then noLot B r (i + 1) else some (6, i)
def diffB (B : BkV) (l : List LineV) : List EntV ⊕ (Nat × Nat) :=
  match sheetF [] l with
  | some e => .inr e
  | none => match noLot B l 0 with
    | some e => .inr e
    | none => .inl (diffL B.2.2 l)

/-- A sheet with no fault: its lines are well, and no two of one place and lot. -/
theorem sheet_none : ∀ (l done : List LineV), sheetF done l = none → (∀ x ∈ l, placeE x.1 = 0 ∧ nameB x.2.1 = true ∧ 0 ≤ x.2.2 ∧ x.2.2 ≤ 1099511627776) ∧ (∀ x ∈ l, ∀ y ∈ done, isAt x.1 x.2.1 y = false) ∧ l.Pairwise fun x y => (x.1, x.2.1) ≠ (y.1, y.2.1)
  | [], _, _ => ⟨by simp, by simp, List.Pairwise.nil⟩
  | x :: r, done, h => by
    unfold sheetF at h
    split at h
    · cases h
    rename_i h1
    simp only [ne_eq, Classical.not_not] at h1
    obtain ⟨i1, i2, i3⟩ := sheet_none r (done ++ [x]) h
    unfold lineE at h1
    split at h1
    · rename_i q; exact absurd h1 q
    rename_i q1
    split at h1
    · cases h1
    rename_i q2
    split at h1
    · cases h1
    rename_i q3
    split at h1
    · cases h1
    rename_i q4
    simp only [ne_eq, Classical.not_not] at q1
    unfold wiB at q3
    simp only [decide_eq_false_iff_not, Classical.not_not] at q3
    refine ⟨fun y hy => ?_, fun y hy z hz => ?_, List.pairwise_cons.2 ⟨fun y hy e => ?_, i3⟩⟩
    · rcases List.mem_cons.1 hy with rfl | hy
      · exact ⟨q1, by simpa using q2, q3.1, q3.2⟩
      · exact i1 y hy
    · rcases List.mem_cons.1 hy with rfl | hy
      · simp only [Bool.not_eq_true, List.any_eq_false] at q4
        have := q4 z hz
        simpa using this
      · exact i2 y hy z (List.mem_append_left _ hz)
    · have := i2 y hy x (by simp)
      unfold isAt at this
      have h2 := of_decide_eq_false this
      simp only [Prod.mk.injEq] at e
      exact h2 ⟨e.1, e.2⟩
/-- What such an entry makes of pieces at places. -/
theorem at_more {B : BkV} {p : PlaceV} {id : List UInt8} {n : Int} (he : doE B (kMore, zeroGoods, (id, [], 0, 0), zeroPlace, p, n) = 0) (k : KeyV) :
    atM (doB B (kMore, zeroGoods, (id, [], 0, 0), zeroPlace, p, n)).2.2 k = if k = (p, id) then atM B.2.2 k + n.toNat else atM B.2.2 k := by
  have hm : (doB B (kMore, zeroGoods, (id, [], 0, 0), zeroPlace, p, n)).2.2 = putM B.2.2 p id n := by
    unfold doB
    rw [if_neg (by simpa using he), if_neg (by decide : ¬ kMore = kGoods), if_neg (by decide : ¬ kMore = kLot)]
    unfold doP
    simp only
    unfold actM
    rw [if_pos (.inr rfl)]
  have hp : putE B.2.2 p id n = 0 := by
    unfold doE at he
    split at he
    · rename_i h; exact absurd he h
    rw [if_neg (by decide : ¬ kMore = kGoods), if_neg (by decide : ¬ kMore = kLot)] at he
    obtain ⟨y, _, ha, _⟩ := pc_zero he
    unfold actE at ha
    rwa [if_pos (.inr rfl)] at ha
  rw [hm, at_put hp]
theorem at_less {B : BkV} {p : PlaceV} {id : List UInt8} {n : Int} (he : doE B (kLess, zeroGoods, (id, [], 0, 0), p, zeroPlace, n) = 0) (k : KeyV) :
    atM (doB B (kLess, zeroGoods, (id, [], 0, 0), p, zeroPlace, n)).2.2 k = if k = (p, id) then atM B.2.2 k - n.toNat else atM B.2.2 k := by
  have hm : (doB B (kLess, zeroGoods, (id, [], 0, 0), p, zeroPlace, n)).2.2 = takeM B.2.2 p id n := by
    unfold doB
    rw [if_neg (by simpa using he), if_neg (by decide : ¬ kLess = kGoods), if_neg (by decide : ¬ kLess = kLot)]
    unfold doP
    simp only
    unfold actM
    rw [if_neg (by decide : ¬ (kLess = kIn ∨ kLess = kMore)), if_pos (.inr rfl)]
  have hp : takeE B.2.2 p id n = 0 := by
    unfold doE at he
    split at he
    · rename_i h; exact absurd he h
    rw [if_neg (by decide : ¬ kLess = kGoods), if_neg (by decide : ¬ kLess = kLot)] at he
    obtain ⟨y, _, ha, _⟩ := pc_zero he
    unfold actE at ha
    rwa [if_neg (by decide : ¬ (kLess = kIn ∨ kLess = kMore)), if_pos (.inr rfl)] at ha
  rw [hm, at_take hp]
/-- Entries that are all done with no error. -/
def allOk (B : BkV) : List EntV → Prop
  | [] => True
  | x :: r => doE B x = 0 ∧ allOk (doB B x) r
theorem allOk_app : ∀ (a b : List EntV) (B : BkV), allOk B (a ++ b) ↔ allOk B a ∧ allOk (doAll B a) b
  | [], b, B => by simp [allOk, doAll]
  | x :: a, b, B => by
    have ih := allOk_app a b (doB B x)
    show (doE B x = 0 ∧ allOk (doB B x) (a ++ b)) ↔ (doE B x = 0 ∧ allOk (doB B x) a) ∧ allOk (doAll (doB B x) a) b
    rw [ih, and_assoc]
/-- Behind what Diff tells the stock is what was seen. -/
theorem diff_seen : ∀ (l : List LineV) (m : StkV) (B : BkV), (∀ x ∈ l, 0 ≤ x.2.2) → (l.Pairwise fun x y => (x.1, x.2.1) ≠ (y.1, y.2.1)) → (∀ x ∈ l, atM B.2.2 (x.1, x.2.1) = atM m (x.1, x.2.1)) → allOk B (diffL m l) →
    (∀ x ∈ l, (atM (doAll B (diffL m l)).2.2 (x.1, x.2.1) : Int) = x.2.2) ∧ ∀ k, (∀ x ∈ l, (x.1, x.2.1) ≠ k) → atM (doAll B (diffL m l)).2.2 k = atM B.2.2 k
  | [], m, B, _, _, _, _ => ⟨by simp, fun _ _ => rfl⟩
  | x :: r, m, B, h0, hp, ha, hok => by
    have hp' := List.pairwise_cons.1 hp
    have e : diffL m (x :: r) = diffX m x ++ diffL m r := rfl
    rw [e, allOk_app] at hok
    have one : (atM (doAll B (diffX m x)).2.2 (x.1, x.2.1) : Int) = x.2.2 ∧ ∀ k, (x.1, x.2.1) ≠ k → atM (doAll B (diffX m x)).2.2 k = atM B.2.2 k := by
      have hx := ha x List.mem_cons_self
      have hx0 := h0 x List.mem_cons_self
      have hok1 := hok.1
      unfold diffX at hok1 ⊢
      split at hok1
      · rename_i h1
        rw [if_pos h1]
        have hm := at_more hok1.1
        constructor
        · show (atM (doB B _).2.2 _ : Int) = _
          rw [hm, if_pos rfl]
          omega
        · intro k hk
          show atM (doB B _).2.2 _ = _
          rw [hm, if_neg (fun e => hk e.symm)]
      · rename_i h1
        rw [if_neg h1]
        split at hok1
        · rename_i h2
          rw [if_pos h2]
          have hm := at_less hok1.1
          constructor
          · show (atM (doB B _).2.2 _ : Int) = _
            rw [hm, if_pos rfl]
            omega
          · intro k hk
            show atM (doB B _).2.2 _ = _
            rw [hm, if_neg (fun e => hk e.symm)]
        · rename_i h2
          rw [if_neg h2]
          refine ⟨?_, fun _ _ => rfl⟩
          show (atM B.2.2 _ : Int) = _
          omega
    have hB : ∀ y ∈ r, atM (doAll B (diffX m x)).2.2 (y.1, y.2.1) = atM m (y.1, y.2.1) := fun y hy => (one.2 _ (hp'.1 y hy)).trans (ha y (List.mem_cons_of_mem _ hy))
    obtain ⟨i1, i2⟩ := diff_seen r m (doAll B (diffX m x)) (fun y hy => h0 y (List.mem_cons_of_mem _ hy)) hp'.2 hB hok.2
    have ea : doAll B (diffX m x ++ diffL m r) = doAll (doAll B (diffX m x)) (diffL m r) := by unfold doAll; rw [List.foldl_append]
    rw [e, ea]
    refine ⟨fun y hy => ?_, fun k hk => ?_⟩
    · rcases List.mem_cons.1 hy with rfl | hy
      · rw [i2 _ fun z hz e => hp'.1 z hz e.symm]
        exact one.1
      · exact i1 y hy
    · rw [i2 k fun z hz => hk z (List.mem_cons_of_mem _ hz), one.2 k (hk x List.mem_cons_self)]
/-- A second Diff tells nothing. -/
theorem diff_twice {l : List LineV} {m : StkV} (h : ∀ x ∈ l, (atM m (x.1, x.2.1) : Int) = x.2.2) : diffL m l = [] := by
  unfold diffL
  rw [List.flatMap_eq_nil_iff]
  intro x hx
  have := h x hx
  unfold diffX
  rw [if_neg (by omega), if_neg (by omega)]
end Go.Proofs.YthnpemlmfekkgaaGreatDoor
namespace Go.Proofs.YthnpemlmfekkgaaGreatDoor
open Go.RowKit Go.Sort Go.Proofs

set_option maxHeartbeats 800000 in
set_option maxRecDepth 100000 in
theorem lineEq_any (x y : LineV) (b : Nat) (w : World) (h : w.heap[b]? = some (.cells (encLine x).toArray 48 (0, 0))) :
    Calls Tryz.prog 89 #[.agg (encLine y).toArray, .pointer (some ⟨b, 0, none⟩)] w fun e w' => e = .returned (.bool (isAt x.1 x.2.1 y)) ∧ Below w.heap.size w w' := by
  have hq := fun W => eqPlace y.1 x.1 W
  obtain ⟨⟨x1, x2, x3⟩, x4, x5⟩ := x
  obtain ⟨⟨y1, y2, y3⟩, y4, y5⟩ := y
  obtain ⟨r, hr⟩ : ∃ r, r = isAt (x1, x2, x3) x4 ((y1, y2, y3), y4, y5) := ⟨_, rfl⟩
  simp only
  rw [← hr]
  have HR : Hid (r = decide ((y1, y2, y3) = (x1, x2, x3) ∧ y4 = x4)) := hr
  simp only [encLine, encPlace] at h hq ⊢
  have hb := row_lt h
  have b0 := Lib.hid (below_one w (.cells #[.string ⟨y1.toArray⟩, .int .i64 y2, .int .i64 y3, .string ⟨y4.toArray⟩, .int .i64 y5] 48))
  have h1 := (b0.out.block b hb).trans h
  have hy := heap_alloc_new w (.cells #[.string ⟨y1.toArray⟩, .int .i64 y2, .int .i64 y3, .string ⟨y4.toArray⟩, .int .i64 y5] 48)
  obtain ⟨⟨e0, e1, e2, e3, e4⟩, -⟩ := row5f h1
  obtain ⟨⟨f0, f1, f2, f3, f4⟩, -⟩ := row5f hy
  clear hr h h1 hy
  by_cases hp : ((y1, y2, y3) : PlaceV) = (x1, x2, x3)
  · rw [decide_eq_true hp] at hq
    have HP := Lib.hid hp
    clear hp
    by_cases h4 : y4 = x4
    · have HT : Hid (r = true) := HR.out.trans (decide_eq_true ⟨HP.out, h4⟩)
      have h4' : (y4 == x4) = true := by simpa using h4
      clear h4
      go_enter Tryz.func89, Tryz.ntmps89
      go_wp2_with fail
      go_ret
      rw [HT.out]
      exact ⟨rfl, b0.out⟩
    · have HT : Hid (r = false) := HR.out.trans (decide_eq_false fun e => h4 e.2)
      have h4' : (y4 == x4) = false := by simpa using h4
      clear h4
      go_enter Tryz.func89, Tryz.ntmps89
      go_wp2_with fail
      go_ret
      rw [HT.out]
      exact ⟨rfl, b0.out⟩
  · rw [decide_eq_false hp] at hq
    have HT : Hid (r = false) := HR.out.trans (decide_eq_false fun e => hp e.1)
    clear hp
    go_enter Tryz.func89, Tryz.ntmps89
    go_wp2_with fail
    go_ret
    rw [HT.out]
    exact ⟨rfl, b0.out⟩

theorem fndI_step (l : List LineV) (p : PlaceV) (lot : List UInt8) (k : Nat) (h1 : ∀ j (h : j < l.length), j < k → isAt p lot l[j] = false) (h2 : ∀ h : k < l.length, isAt p lot l[k] = true) : fndI l p lot = if k < l.length then (k : Int) else -1 := by
  unfold fndI
  by_cases hk : k < l.length
  · have : l.findIdx? (isAt p lot) = some k := List.findIdx?_eq_some_iff_getElem.2 ⟨hk, h2 hk, fun j hj => by simpa using h1 j (by omega) hj⟩
    rw [this, if_pos hk]
  · have : l.findIdx? (isAt p lot) = none := by
      rw [List.findIdx?_eq_none_iff]
      intro x hx
      obtain ⟨j, hj, rfl⟩ := List.mem_iff_getElem.1 hx
      exact h1 j hj (by omega)
    rw [this, if_neg hk]
set_option maxHeartbeats 1600000 in
set_option maxRecDepth 100000 in
theorem idxLine_any (A : Option Addr) (cap : Nat) (l : List LineV) (x : LineV) (b : Nat) (w : World) (hrow : RowAt encLine 5 w A l) (hl : l.length ≤ 100000) (hb : w.heap[b]? = some (.cells (encLine x).toArray 48 (0, 0))) :
    Calls Tryz.prog 117 #[.slice A l.length cap, .func (.func 89) #[] #[.pointer (some ⟨b, 0, none⟩)]] w fun e w' => e = .returned (.int .i64 (fndI l x.1 x.2.1)) ∧ Below w.heap.size w w' := by
  have HR := Lib.hid (fun W (h : Below w.heap.size w W) => hrow.below h)
  have HC := Lib.hid (fun y W (h : Below w.heap.size w W) => lineEq_any x y b W ((h.block b (row_lt hb)).trans hb))
  have HF := Lib.hid (fndI_step l x.1 x.2.1)
  obtain ⟨N, hN⟩ : ∃ N, N = l.length := ⟨_, rfl⟩
  have HN := Lib.hid hN
  rw [← hN] at hl ⊢
  clear hrow hN hb
  generalize fndI l x.1 x.2.1 = R at HF ⊢
  go_enter Tryz.func117, Tryz.ntmps117
  go_wp2_with fail
  go_loopw [8] (fun i wr => ∃ k : Nat, k ≤ N ∧ i = .int .i64 k ∧ Hid (∀ j (h : j < l.length), j < k → isAt x.1 x.2.1 l[j] = false) ∧ Hid (Below w.heap.size w wr)) (fun i _ => N - (intOf i).toNat)
  case atStart => exact ⟨0, by omega, rfl, fun j _ h => absurd h (Nat.not_lt_zero _), Below.refl _ _⟩
  case round =>
    obtain ⟨k, hk, rfl, HNO, HB⟩ := hrel
    by_cases hkN : k < N
    · have hkx : k < l.length := by rw [← HN.out]; exact hkN
      obtain ⟨g, o, rfl, lg, cg⟩ := HR.out w (Below.refl _ _) |>.resolve_left (fun h => by rw [h] at hkx; simp at hkx)
      obtain ⟨y, hy⟩ : ∃ y, y = l[k] := ⟨_, rfl⟩
      have hlies : Lies wr g (o + k * 5) (encLine y) := fun j v hv =>
        (HB.out.cell (p := ⟨g, o + k * 5 + j, none⟩) lg).trans (cg k hkx j v (by rw [← hy]; exact hv))
      have HY := Lib.hid hy
      have HL := Lib.hid hlies
      have HCY := Lib.hid (HC.out y)
      have h5 : (encLine y).length = 5 := rfl
      clear hy cg hlies HC
      obtain ⟨LY, hLY⟩ : ∃ LY, LY = encLine y := ⟨_, rfl⟩
      rw [← hLY] at HCY HL h5
      clear hLY
      obtain ⟨at1, hat⟩ : ∃ at1, at1 = isAt x.1 x.2.1 y := ⟨_, rfl⟩
      rw [← hat] at HCY
      have HAT := Lib.hid hat
      clear hat
      go_wp2_with (refine wpList_load_at rfl 48 _ rfl g (o + k * 5) rfl LY HL.out _ Tryz.underlying48 rfl (by rw [h5]; kernel_rfl) ?_)
      refine (HCY.out wr HB.out).mono ?_
      rintro e w1 ⟨rfl, b1⟩
      have B1 := Lib.hid (HB.out.trans (b1.mono HB.out.size))
      clear b1
      cases at1 with
      | true =>
        have HT : Hid (R = (k : Int)) := by
          have := HF.out k HNO.out (fun h => by rw [← HY.out]; exact HAT.out.symm)
          rw [if_pos hkx] at this
          exact this
        go_wp2_with fail
        go_ret
        rw [HT.out]
        exact ⟨rfl, B1.out⟩
      | false =>
        have HNX : Hid (∀ j (h : j < l.length), j < k + 1 → isAt x.1 x.2.1 l[j] = false) := fun j hj hjk => by
          rcases Nat.lt_succ_iff_lt_or_eq.1 hjk with h | rfl
          · exact HNO.out j hj h
          · rw [← HY.out]; exact HAT.out.symm
        go_wp2_with fail
        go_roundw
        case rel => exact ⟨k + 1, by omega, by go_num, HNX.out, B1.out⟩
        case measure => simp [intOf]; omega
    · obtain rfl : k = N := by omega
      have HT : Hid (R = -1) := by
        have := HF.out k HNO.out (fun h => by rw [← HN.out] at h; omega)
        rw [if_neg (by rw [← HN.out]; omega)] at this
        exact this
      go_wp2_with fail
      go_ret
      rw [HT.out]
      exact ⟨rfl, HB.out⟩
end Go.Proofs.YthnpemlmfekkgaaGreatDoor
namespace Go.Proofs.YthnpemlmfekkgaaGreatDoor
open Go.RowKit Go.Sort Go.Proofs

theorem zeroIntE (w : World) : (zeroValue 3).run Tryz.prog w = .ok (eNat 0) w := by kernel_rfl
/-- The cells of a book. -/
theorem BookM.cells {w : World} {p g l h s q c : Nat} {B : BkV} (H : BookM w p g l h s q c B) : (w.cell? ⟨p, 0, none⟩ = some (.map (some g)) ∧ w.cell? ⟨p, 1, none⟩ = some (.map (some l)) ∧ w.cell? ⟨p, 2, none⟩ = some (.map (some h)) ∧ w.cell? ⟨p, 3, none⟩ = some (.map (some s)) ∧ w.cell? ⟨p, 4, none⟩ = some (.pointer (some ⟨q, 0, none⟩))) ∧
    w.frozen? ⟨p, 0, none⟩ = false ∧ w.frozen? ⟨p, 1, none⟩ = false ∧ w.frozen? ⟨p, 2, none⟩ = false ∧ w.frozen? ⟨p, 3, none⟩ = false ∧ w.frozen? ⟨p, 4, none⟩ = false := row5f H.own

set_option maxHeartbeats 400000 in
set_option maxRecDepth 100000 in
theorem setHeld_any (p h : Nat) (id : List UInt8) (n : Nat) (f : List UInt8 → Option Nat) (w : World) (c0 : w.cell? ⟨p, 2, none⟩ = some (.map (some h))) (hf : MapF eNat w h f) :
    Calls Tryz.prog 69 #[.pointer (some ⟨p, 0, none⟩), .string ⟨id.toArray⟩, .int .i64 (n : Nat)] w fun e w' => e = .returned (.tuple #[]) ∧ MapF eNat w' h (fun i => if i = id then (if n = 0 then none else some n) else f i) ∧ Turned h w w' := by
  obtain ⟨f', hf'⟩ : ∃ f' : List UInt8 → Option Nat, f' = fun i => if i = id then (if n = 0 then none else some n) else f i := ⟨_, rfl⟩
  rw [← hf']
  have HF' := Lib.hid hf'
  clear hf'
  obtain ⟨w1, h1, h2, h3⟩ := hf.drop (P := Tryz.prog) (t := 82) (kt := 9) (by kernel_rfl) Tryz.underlying82 id
  obtain ⟨w2, h4, h5, h6⟩ := hf.store (P := Tryz.prog) (t := 82) (kt := 9) (by kernel_rfl) Tryz.underlying82 id n
  have H2 := Lib.hid h2
  have H3 := Lib.hid h3
  have H5 := Lib.hid h5
  have H6 := Lib.hid h6
  simp only [eNat] at h4
  clear hf h2 h3 h5 h6
  by_cases hn : n = 0
  · have HN := Lib.hid hn
    have hz : ((n : Nat) : Int) = 0 := by omega
    clear hn
    go_enter Tryz.func69, Tryz.ntmps69
    go_wp2_with fail
    refine bodyPost_end (results_none rfl _ _ _) rfl ?_
    refine ⟨rfl, ?_, H3.out⟩
    refine H2.out.congr fun i => ?_
    rw [HF'.out]
    simp only [if_pos HN.out]
  · have HN := Lib.hid hn
    have hz : ¬ ((n : Nat) : Int) = 0 := by omega
    clear hn
    go_enter Tryz.func69, Tryz.ntmps69
    go_wp2_with fail
    refine bodyPost_end (results_none rfl _ _ _) rfl ?_
    refine ⟨rfl, ?_, H6.out⟩
    refine H5.out.congr fun i => ?_
    rw [HF'.out]
    simp only [if_neg HN.out]
end Go.Proofs.YthnpemlmfekkgaaGreatDoor
namespace Go.Proofs.YthnpemlmfekkgaaGreatDoor
open Go.RowKit Go.Sort Go.Proofs

theorem kind_cases (k : List UInt8) : k = kIn ∨ k = kMore ∨ k = kOut ∨ k = kLess ∨ k = kMove ∨ k = kHold ∨ k = kFree ∨
    ((k == [105, 110]) = false ∧ (k == [109, 111, 114, 101]) = false ∧ (k == [111, 117, 116]) = false ∧ (k == [108, 101, 115, 115]) = false ∧ (k == [109, 111, 118, 101]) = false ∧ (k == [104, 111, 108, 100]) = false ∧ (k == [102, 114, 101, 101]) = false ∧ hasF k = false ∧ hasT k = false ∧ isP k = false) := by
  by_cases h1 : k = kIn
  · exact .inl h1
  by_cases h2 : k = kMore
  · exact .inr (.inl h2)
  by_cases h3 : k = kOut
  · exact .inr (.inr (.inl h3))
  by_cases h4 : k = kLess
  · exact .inr (.inr (.inr (.inl h4)))
  by_cases h5 : k = kMove
  · exact .inr (.inr (.inr (.inr (.inl h5))))
  by_cases h6 : k = kHold
  · exact .inr (.inr (.inr (.inr (.inr (.inl h6)))))
  by_cases h7 : k = kFree
  · exact .inr (.inr (.inr (.inr (.inr (.inr (.inl h7))))))
  refine .inr (.inr (.inr (.inr (.inr (.inr (.inr ⟨?_, ?_, ?_, ?_, ?_, ?_, ?_, ?_, ?_, ?_⟩))))))
  · exact beq_eq_false_iff_ne.2 h1
  · exact beq_eq_false_iff_ne.2 h2
  · exact beq_eq_false_iff_ne.2 h3
  · exact beq_eq_false_iff_ne.2 h4
  · exact beq_eq_false_iff_ne.2 h5
  · exact beq_eq_false_iff_ne.2 h6
  · exact beq_eq_false_iff_ne.2 h7
  · unfold hasF; simp [h3, h4, h5]
  · unfold hasT; simp [h1, h2, h5]
  · unfold isP; simp [h1, h2, h3, h4, h5, h6, h7]

set_option maxHeartbeats 1600000 in
theorem formOf_any (k : List UInt8) (w : World) : Calls Tryz.prog 61 #[.string ⟨k.toArray⟩] w fun e w' => e = .returned (.agg #[.bool (hasF k), .bool (hasT k), .bool (isP k)]) ∧ Below w.heap.size w w' := by
  rcases kind_cases k with rfl | rfl | rfl | rfl | rfl | rfl | rfl | ⟨h1, h2, h3, h4, h5, h6, h7, e1, e2, e3⟩
  case' inr.inr.inr.inr.inr.inr.inr =>
    rw [e1, e2, e3]
    clear e1 e2 e3
  all_goals
    go_enter Tryz.func61, Tryz.ntmps61
    go_wp2
    (try simp only [Exit.inBlock, Exit.then])
    refine bodyPost_ret (results_cell_row rfl _ _ w.heap.size 122 _ (0, 0) _ rfl (heap_alloc_new _ _) Tryz.underlying122 rfl (by kernel_rfl)) rfl ?_
    exact ⟨rfl, below_one _ _⟩
end Go.Proofs.YthnpemlmfekkgaaGreatDoor
namespace Go.Proofs.YthnpemlmfekkgaaGreatDoor
open Go.RowKit Go.Sort Go.Proofs

set_option maxHeartbeats 1600000 in
set_option maxRecDepth 100000 in
theorem eqInEnt (x y : EntV) (W : World) : (Op.equalIn 10000 43 (.agg (encEnt x).toArray) (.agg (encEnt y).toArray)).run Tryz.prog W = .ok (decide (x = y)) W := by
  have u3 := Tryz.underlying3
  have u9 := Tryz.underlying9
  have hS : Tryz.prog.underlying 43 = some (.struct (Tryz.prog.fieldsOf 43)) := by kernel_rfl
  have hp : Tryz.prog.stoodInHeld 43 = false := by kernel_rfl
  have gS : Tryz.prog.underlying 37 = some (.struct (Tryz.prog.fieldsOf 37)) := by kernel_rfl
  have gp : Tryz.prog.stoodInHeld 37 = false := by kernel_rfl
  have lS : Tryz.prog.underlying 39 = some (.struct (Tryz.prog.fieldsOf 39)) := by kernel_rfl
  have lp : Tryz.prog.stoodInHeld 39 = false := by kernel_rfl
  have pS : Tryz.prog.underlying 41 = some (.struct (Tryz.prog.fieldsOf 41)) := by kernel_rfl
  have pp : Tryz.prog.stoodInHeld 41 = false := by kernel_rfl
  have eP : ∀ (a1 b1 : List UInt8) (a2 a3 b2 b3 : Int) (W : World), (Op.equalIn 9999 41 (.agg #[.string ⟨a1.toArray⟩, .int .i64 a2, .int .i64 a3]) (.agg #[.string ⟨b1.toArray⟩, .int .i64 b2, .int .i64 b3])).run Tryz.prog W = .ok (decide (a1 = b1 ∧ a2 = b2 ∧ a3 = b3)) W := fun a1 b1 a2 a3 b2 b3 W => by
    rw [show (9999 : Nat) = 9998 + 1 from rfl, run_equalIn_agg W 9998 41 _ _ pS pp]
    simp only [Program.fieldsOf, Tryz.underlying41]
    go_simp
    by_cases h1 : a1 = b1 <;> by_cases h2 : a2 = b2 <;> by_cases h3 : a3 = b3 <;> simp [h1, h2, h3]
  have eG : ∀ (a1 b1 : List UInt8) (a2 b2 : Int) (W : World), (Op.equalIn 9999 37 (.agg #[.string ⟨a1.toArray⟩, .int .i64 a2]) (.agg #[.string ⟨b1.toArray⟩, .int .i64 b2])).run Tryz.prog W = .ok (decide (a1 = b1 ∧ a2 = b2)) W := fun a1 b1 a2 b2 W => by
    rw [show (9999 : Nat) = 9998 + 1 from rfl, run_equalIn_agg W 9998 37 _ _ gS gp]
    simp only [Program.fieldsOf, Tryz.underlying37]
    go_simp
    by_cases h1 : a1 = b1 <;> by_cases h2 : a2 = b2 <;> simp [h1, h2]
  have eL : ∀ (a1 a2 b1 b2 : List UInt8) (a3 a4 b3 b4 : Int) (W : World), (Op.equalIn 9999 39 (.agg #[.string ⟨a1.toArray⟩, .string ⟨a2.toArray⟩, .int .i64 a3, .int .i64 a4]) (.agg #[.string ⟨b1.toArray⟩, .string ⟨b2.toArray⟩, .int .i64 b3, .int .i64 b4])).run Tryz.prog W = .ok (decide (a1 = b1 ∧ a2 = b2 ∧ a3 = b3 ∧ a4 = b4)) W := fun a1 a2 b1 b2 a3 a4 b3 b4 W => by
    rw [show (9999 : Nat) = 9998 + 1 from rfl, run_equalIn_agg W 9998 39 _ _ lS lp]
    simp only [Program.fieldsOf, Tryz.underlying39]
    go_simp
    by_cases h1 : a1 = b1 <;> by_cases h2 : a2 = b2 <;> by_cases h3 : a3 = b3 <;> by_cases h4 : a4 = b4 <;> simp [h1, h2, h3, h4]
  simp only [encEnt]
  rw [show (10000 : Nat) = 9999 + 1 from rfl, run_equalIn_agg W 9999 43 _ _ hS hp]
  clear gS gp lS lp pS pp hS hp
  simp only [Program.fieldsOf, Tryz.underlying43]
  go_simp
  clear u3 u9 eP eG eL
  obtain ⟨a0, ⟨g1, g2⟩, ⟨l1, l2, l3, l4⟩, ⟨f1, f2, f3⟩, ⟨t1, t2, t3⟩, n⟩ := x
  obtain ⟨b0, ⟨h1, h2⟩, ⟨m1, m2, m3, m4⟩, ⟨i1, i2, i3⟩, ⟨u1, u2, u3⟩, k⟩ := y
  simp only [Prod.mk.injEq]
  by_cases q0 : a0 = b0
  · by_cases q1 : g1 = h1 ∧ g2 = h2
    · by_cases q2 : l1 = m1 ∧ l2 = m2 ∧ l3 = m3 ∧ l4 = m4
      · by_cases q3 : f1 = i1 ∧ f2 = i2 ∧ f3 = i3
        · by_cases q4 : t1 = u1 ∧ t2 = u2 ∧ t3 = u3
          · by_cases q5 : n = k <;> simp [q0, q1, q2, q3, q4, q5]
          · have q4' : t1 = u1 → t2 = u2 → ¬ t3 = u3 := fun a b c => q4 ⟨a, b, c⟩
            rw [if_pos q0, if_neg (fun e => e q1.1 q1.2), if_neg (fun e => e q2.1 q2.2.1 q2.2.2.1 q2.2.2.2), if_neg (fun e => e q3.1 q3.2.1 q3.2.2), if_pos q4', decide_eq_false (fun e => q4 e.2.2.2.2.1)]
        · have q3' : f1 = i1 → f2 = i2 → ¬ f3 = i3 := fun a b c => q3 ⟨a, b, c⟩
          rw [if_pos q0, if_neg (fun e => e q1.1 q1.2), if_neg (fun e => e q2.1 q2.2.1 q2.2.2.1 q2.2.2.2), if_pos q3', decide_eq_false (fun e => q3 e.2.2.2.1)]
      · have q2' : l1 = m1 → l2 = m2 → l3 = m3 → ¬ l4 = m4 := fun a b c d => q2 ⟨a, b, c, d⟩
        rw [if_pos q0, if_neg (fun e => e q1.1 q1.2), if_pos q2', decide_eq_false (fun e => q2 e.2.2.1)]
    · have q1' : g1 = h1 → ¬ g2 = h2 := fun a b => q1 ⟨a, b⟩
      rw [if_pos q0, if_pos q1', decide_eq_false (fun e => q1 e.2.1)]
  · rw [if_neg q0, decide_eq_false (fun e => q0 e.1)]
theorem neqEnt (x y : EntV) (W : World) : (binOp .neq 43 (.agg (encEnt x).toArray) (.agg (encEnt y).toArray)).run Tryz.prog W = .ok (.bool (!decide (x = y))) W := by
  rw [run_neq_struct, eqInEnt]
  rfl
theorem eqEnt (x y : EntV) (W : World) : (binOp .eql 43 (.agg (encEnt x).toArray) (.agg (encEnt y).toArray)).run Tryz.prog W = .ok (.bool (decide (x = y))) W := by
  rw [run_eql_struct, eqInEnt]
  rfl
end Go.Proofs.YthnpemlmfekkgaaGreatDoor
