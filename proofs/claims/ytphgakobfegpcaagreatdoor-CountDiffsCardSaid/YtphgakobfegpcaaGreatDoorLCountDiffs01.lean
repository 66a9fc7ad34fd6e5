/- Counts, plainly: a sheet's fault; what Diff tells; behind it the stock is what was seen. No program in sight. Counts: a line of a sheet: is one ahead of it of its place and lot? Counts: a line of a sheet. Counts: Check. -/
import Derived.Deep.CutBlock
import Derived.Test.YtphgakobfegpcaaGreatDoorM04
import Derived.Test.YtphgakobfegpcaaGreatDoorM11
import Derived.Test.YtphgakobfegpcaaGreatDoorM15
import Derived.Test.YtphgakobfegpcaaGreatDoorM20
import Derived.Test.YtphgakobfegpcaaGreatDoorM42
namespace Go.Proofs.YtphgakobfegpcaaGreatDoor
open Go.RowKit Go.Sort Go.Proofs

/-- The error of a line of a sheet behind others; a sheet's first fault, from a line on. -/
def lineE (done : List LineV) (x : LineV) : Nat :=
  if placeE x.1 ≠ 0 then placeE x.1 else if nameB x.2.1 = false then 5 else if wiB x.2.2 0 1099511627776 = false then 2 else if done.any (fun y => isAt x.1 x.2.1 y) = true then 7 else 0
def sheetF : List LineV → List LineV → Option (Nat × Nat)
  | _, [] => none
  | done, x :: r => if lineE done x ≠ 0 then some (lineE done x, done.length) else sheetF (done ++ [x]) r
/-- What a line tells: an entry, or none; what a sheet tells: entries, or a fault. -/
def diffX (m : StkV) (x : LineV) : List EntV :=
  if x.2.2 - (atM m (x.1, x.2.1) : Nat) > 0 then [(kMore, zeroGoods, (x.2.1, [], 0, 0), zeroPlace, x.1, x.2.2 - (atM m (x.1, x.2.1) : Nat))]
  else if x.2.2 - (atM m (x.1, x.2.1) : Nat) < 0 then [(kLess, zeroGoods, (x.2.1, [], 0, 0), x.1, zeroPlace, - (x.2.2 - (atM m (x.1, x.2.1) : Nat)))] else []
def diffL (m : StkV) (l : List LineV) : List EntV := l.flatMap (diffX m)
def noLot (B : BkV) : List LineV → Nat → Option (Nat × Nat)
  | [], _ => none
  | x :: r, i => if (fL B x.2.1).isSome = true then noLot B r (i + 1) else some (6, i)
def diffB (B : BkV) (l : List LineV) : List EntV ⊕ (Nat × Nat) :=
  match sheetF [] l with
  | some e => .inr e
  | none => match noLot B l 0 with
    | some e => .inr e
    | none => .inl (diffL B.2.2 l)

/-- A sheet with no fault: its lines are well, and no two of one place and lot. -/
theorem sheet_none : ∀ (l done : List LineV), sheetF done l = none → (∀ x ∈ l, placeE x.1 = 0 ∧ nameB x.2.1 = true ∧ 0 ≤ x.2.2 ∧ x.2.2 ≤ 1099511627776) ∧ (∀ x ∈ l, ∀ y ∈ done, isAt x.1 x.2.1 y = false) ∧ l.Pairwise fun x y => (x.1, x.2.1) ≠ (y.1, y.2.1)
  | [], _, _ => ⟨by simp, by simp, List.Pairwise.nil⟩
  | x :: r, done, h => by
    unfold sheetF at h
    split at h
    · cases h
    rename_i h1
    simp only [ne_eq, Classical.not_not] at h1
    obtain ⟨i1, i2, i3⟩ := sheet_none r (done ++ [x]) h
    unfold lineE at h1
    split at h1
    · rename_i q; exact absurd h1 q
    rename_i q1
    split at h1
    · cases h1
    rename_i q2
    split at h1
    · cases h1
    rename_i q3
    split at h1
    · cases h1
    rename_i q4
    simp only [ne_eq, Classical.not_not] at q1
    unfold wiB at q3
    simp only [decide_eq_false_iff_not, Classical.not_not] at q3
    refine ⟨fun y hy => ?_, fun y hy z hz => ?_, List.pairwise_cons.2 ⟨fun y hy e => ?_, i3⟩⟩
    · rcases List.mem_cons.1 hy with rfl | hy
      · exact ⟨q1, by simpa using q2, q3.1, q3.2⟩
      · exact i1 y hy
    · rcases List.mem_cons.1 hy with rfl | hy
      · simp only [Bool.not_eq_true, List.any_eq_false] at q4
        have := q4 z hz
        simpa using this
      · exact i2 y hy z (List.mem_append_left _ hz)
    · have := i2 y hy x (by simp)
      unfold isAt at this
      have h2 := of_decide_eq_false this
      simp only [Prod.mk.injEq] at e
      exact h2 ⟨e.1, e.2⟩
/-- What such an entry makes of pieces at places. -/
theorem at_more {B : BkV} {p : PlaceV} {id : List UInt8} {n : Int} (he : doE B (kMore, zeroGoods, (id, [], 0, 0), zeroPlace, p, n) = 0) (k : KeyV) :
    atM (doB B (kMore, zeroGoods, (id, [], 0, 0), zeroPlace, p, n)).2.2 k = if k = (p, id) then atM B.2.2 k + n.toNat else atM B.2.2 k := by
  have hm : (doB B (kMore, zeroGoods, (id, [], 0, 0), zeroPlace, p, n)).2.2 = putM B.2.2 p id n := by
    unfold doB
    rw [if_neg (by simpa using he), if_neg (by decide : ¬ kMore = kGoods), if_neg (by decide : ¬ kMore = kLot)]
    unfold doP
    simp only
    unfold actM
    rw [if_pos (.inr rfl)]
  have hp : putE B.2.2 p id n = 0 := by
    unfold doE at he
    split at he
    · rename_i h; exact absurd he h
    rw [if_neg (by decide : ¬ kMore = kGoods), if_neg (by decide : ¬ kMore = kLot)] at he
    obtain ⟨y, _, ha, _⟩ := pc_zero he
    unfold actE at ha
    rwa [if_pos (.inr rfl)] at ha
  rw [hm, at_put hp]
theorem at_less {B : BkV} {p : PlaceV} {id : List UInt8} {n : Int} (he : doE B (kLess, zeroGoods, (id, [], 0, 0), p, zeroPlace, n) = 0) (k : KeyV) :
    atM (doB B (kLess, zeroGoods, (id, [], 0, 0), p, zeroPlace, n)).2.2 k = if k = (p, id) then atM B.2.2 k - n.toNat else atM B.2.2 k := by
  have hm : (doB B (kLess, zeroGoods, (id, [], 0, 0), p, zeroPlace, n)).2.2 = takeM B.2.2 p id n := by
    unfold doB
    rw [if_neg (by simpa using he), if_neg (by decide : ¬ kLess = kGoods), if_neg (by decide : ¬ kLess = kLot)]
    unfold doP
    simp only
    unfold actM
    rw [if_neg (by decide : ¬ (kLess = kIn ∨ kLess = kMore)), if_pos (.inr rfl)]
  have hp : takeE B.2.2 p id n = 0 := by
    unfold doE at he
    split at he
    · rename_i h; exact absurd he h
    rw [if_neg (by decide : ¬ kLess = kGoods), if_neg (by decide : ¬ kLess = kLot)] at he
    obtain ⟨y, _, ha, _⟩ := pc_zero he
    unfold actE at ha
    rwa [if_neg (by decide : ¬ (kLess = kIn ∨ kLess = kMore)), if_pos (.inr rfl)] at ha
  rw [hm, at_take hp]
/-- Entries that are all done with no error. -/
def allOk (B : BkV) : List EntV → Prop
  | [] => True
  | x :: r => doE B x = 0 ∧ allOk (doB B x) r
theorem allOk_app : ∀ (a b : List EntV) (B : BkV), allOk B (a ++ b) ↔ allOk B a ∧ allOk (doAll B a) b
  | [], b, B => by simp [allOk, doAll]
  | x :: a, b, B => by
    have ih := allOk_app a b (doB B x)
    show (doE B x = 0 ∧ allOk (doB B x) (a ++ b)) ↔ (doE B x = 0 ∧ allOk (doB B x) a) ∧ allOk (doAll (doB B x) a) b
    rw [ih, and_assoc]
/-- Behind what Diff tells the stock is what was seen. -/
theorem diff_seen : ∀ (l : List LineV) (m : StkV) (B : BkV), (∀ x ∈ l, 0 ≤ x.2.2) → (l.Pairwise fun x y => (x.1, x.2.1) ≠ (y.1, y.2.1)) → (∀ x ∈ l, atM B.2.2 (x.1, x.2.1) = atM m (x.1, x.2.1)) → allOk B (diffL m l) →
    (∀ x ∈ l, (atM (doAll B (diffL m l)).2.2 (x.1, x.2.1) : Int) = x.2.2) ∧ ∀ k, (∀ x ∈ l, (x.1, x.2.1) ≠ k) → atM (doAll B (diffL m l)).2.2 k = atM B.2.2 k
  | [], m, B, _, _, _, _ => ⟨by simp, fun _ _ => rfl⟩
  | x :: r, m, B, h0, hp, ha, hok => by
    have hp' := List.pairwise_cons.1 hp
    have e : diffL m (x :: r) = diffX m x ++ diffL m r := rfl
    rw [e, allOk_app] at hok
    have one : (atM (doAll B (diffX m x)).2.2 (x.1, x.2.1) : Int) = x.2.2 ∧ ∀ k, (x.1, x.2.1) ≠ k → atM (doAll B (diffX m x)).2.2 k = atM B.2.2 k := by
      have hx := ha x List.mem_cons_self
      have hx0 := h0 x List.mem_cons_self
      have hok1 := hok.1
      unfold diffX at hok1 ⊢
      split at hok1
      · rename_i h1
        rw [if_pos h1]
        have hm := at_more hok1.1
        constructor
        · show (atM (doB B _).2.2 _ : Int) = _
          rw [hm, if_pos rfl]
          omega
        · intro k hk
          show atM (doB B _).2.2 _ = _
          rw [hm, if_neg (fun e => hk e.symm)]
      · rename_i h1
        rw [if_neg h1]
        split at hok1
        · rename_i h2
          rw [if_pos h2]
          have hm := at_less hok1.1
          constructor
          · show (atM (doB B _).2.2 _ : Int) = _
            rw [hm, if_pos rfl]
            omega
          · intro k hk
            show atM (doB B _).2.2 _ = _
            rw [hm, if_neg (fun e => hk e.symm)]
        · rename_i h2
          rw [if_neg h2]
          refine ⟨?_, fun _ _ => rfl⟩
          show (atM B.2.2 _ : Int) = _
          omega
    have hB : ∀ y ∈ r, atM (doAll B (diffX m x)).2.2 (y.1, y.2.1) = atM m (y.1, y.2.1) := fun y hy => (one.2 _ (hp'.1 y hy)).trans (ha y (List.mem_cons_of_mem _ hy))
    obtain ⟨i1, i2⟩ := diff_seen r m (doAll B (diffX m x)) (fun y hy => h0 y (List.mem_cons_of_mem _ hy)) hp'.2 hB hok.2
    have ea : doAll B (diffX m x ++ diffL m r) = doAll (doAll B (diffX m x)) (diffL m r) := by unfold doAll; rw [List.foldl_append]
    rw [e, ea]
    refine ⟨fun y hy => ?_, fun k hk => ?_⟩
    · rcases List.mem_cons.1 hy with rfl | hy
      · rw [i2 _ fun z hz e => hp'.1 z hz e.symm]
        exact one.1
      · exact i1 y hy
    · rw [i2 k fun z hz => hk z (List.mem_cons_of_mem _ hz), one.2 k (hk x List.mem_cons_self)]
/-- A second Diff tells nothing. -/
theorem diff_twice {l : List LineV} {m : StkV} (h : ∀ x ∈ l, (atM m (x.1, x.2.1) : Int) = x.2.2) : diffL m l = [] := by
  unfold diffL
  rw [List.flatMap_eq_nil_iff]
  intro x hx
  have := h x hx
  unfold diffX
  rw [if_neg (by omega), if_neg (by omega)]
end Go.Proofs.YtphgakobfegpcaaGreatDoor
namespace Go.Proofs.YtphgakobfegpcaaGreatDoor
open Go.RowKit Go.Sort Go.Proofs

set_option maxHeartbeats 800000 in
set_option maxRecDepth 100000 in
theorem lineEq_any (x y : LineV) (b : Nat) (w : World) (h : w.heap[b]? = some (.cells (encLine x).toArray 128 (0, 0))) :
    Calls Tryz.prog 123 #[.agg (encLine y).toArray, .pointer (some ⟨b, 0, none⟩)] w fun e w' => e = .returned (.bool (isAt x.1 x.2.1 y)) ∧ Below w.heap.size w w' := by
  have hq := fun W => eqPlace y.1 x.1 W
  obtain ⟨⟨x1, x2, x3⟩, x4, x5⟩ := x
  obtain ⟨⟨y1, y2, y3⟩, y4, y5⟩ := y
  obtain ⟨r, hr⟩ : ∃ r, r = isAt (x1, x2, x3) x4 ((y1, y2, y3), y4, y5) := ⟨_, rfl⟩
  simp only
  rw [← hr]
  have HR : Hid (r = decide ((y1, y2, y3) = (x1, x2, x3) ∧ y4 = x4)) := hr
  simp only [encLine, encPlace] at h hq ⊢
  have hb := row_lt h
  have b0 := Lib.hid (below_one w (.cells #[.string ⟨y1.toArray⟩, .int .i64 y2, .int .i64 y3, .string ⟨y4.toArray⟩, .int .i64 y5] 128))
  have h1 := (b0.out.block b hb).trans h
  have hy := heap_alloc_new w (.cells #[.string ⟨y1.toArray⟩, .int .i64 y2, .int .i64 y3, .string ⟨y4.toArray⟩, .int .i64 y5] 128)
  obtain ⟨⟨e0, e1, e2, e3, e4⟩, -⟩ := row5f h1
  obtain ⟨⟨f0, f1, f2, f3, f4⟩, -⟩ := row5f hy
  clear hr h h1 hy
  by_cases hp : ((y1, y2, y3) : PlaceV) = (x1, x2, x3)
  · rw [decide_eq_true hp] at hq
    have HP := Lib.hid hp
    clear hp
    by_cases h4 : y4 = x4
    · have HT : Hid (r = true) := HR.out.trans (decide_eq_true ⟨HP.out, h4⟩)
      have h4' : (y4 == x4) = true := by simpa using h4
      clear h4
      go_enter Tryz.func123, Tryz.ntmps123
      go_wp2_with fail
      go_ret
      rw [HT.out]
      exact ⟨rfl, b0.out⟩
    · have HT : Hid (r = false) := HR.out.trans (decide_eq_false fun e => h4 e.2)
      have h4' : (y4 == x4) = false := by simpa using h4
      clear h4
      go_enter Tryz.func123, Tryz.ntmps123
      go_wp2_with fail
      go_ret
      rw [HT.out]
      exact ⟨rfl, b0.out⟩
  · rw [decide_eq_false hp] at hq
    have HT : Hid (r = false) := HR.out.trans (decide_eq_false fun e => hp e.1)
    clear hp
    go_enter Tryz.func123, Tryz.ntmps123
    go_wp2_with fail
    go_ret
    rw [HT.out]
    exact ⟨rfl, b0.out⟩

theorem fndI_step (l : List LineV) (p : PlaceV) (lot : List UInt8) (k : Nat) (h1 : ∀ j (h : j < l.length), j < k → isAt p lot l[j] = false) (h2 : ∀ h : k < l.length, isAt p lot l[k] = true) : fndI l p lot = if k < l.length then (k : Int) else -1 := by
  unfold fndI
  by_cases hk : k < l.length
  · have : l.findIdx? (isAt p lot) = some k := List.findIdx?_eq_some_iff_getElem.2 ⟨hk, h2 hk, fun j hj => by simpa using h1 j (by omega) hj⟩
    rw [this, if_pos hk]
  · have : l.findIdx? (isAt p lot) = none := by
      rw [List.findIdx?_eq_none_iff]
      intro x hx
      obtain ⟨j, hj, rfl⟩ := List.mem_iff_getElem.1 hx
      exact h1 j hj (by omega)
    rw [this, if_neg hk]
set_option maxHeartbeats 1600000 in
set_option maxRecDepth 100000 in
theorem idxLine_any (A : Option Addr) (cap : Nat) (l : List LineV) (x : LineV) (b : Nat) (w : World) (hrow : RowAt encLine 5 w A l) (hl : l.length ≤ 100000) (hb : w.heap[b]? = some (.cells (encLine x).toArray 128 (0, 0))) :
    Calls Tryz.prog 169 #[.slice A l.length cap, .func (.func 123) #[] #[.pointer (some ⟨b, 0, none⟩)]] w fun e w' => e = .returned (.int .i64 (fndI l x.1 x.2.1)) ∧ Below w.heap.size w w' := by
  have HR := Lib.hid (fun W (h : Below w.heap.size w W) => hrow.below h)
  have HC := Lib.hid (fun y W (h : Below w.heap.size w W) => lineEq_any x y b W ((h.block b (row_lt hb)).trans hb))
  have HF := Lib.hid (fndI_step l x.1 x.2.1)
  obtain ⟨N, hN⟩ : ∃ N, N = l.length := ⟨_, rfl⟩
  have HN := Lib.hid hN
  rw [← hN] at hl ⊢
  clear hrow hN hb
  generalize fndI l x.1 x.2.1 = R at HF ⊢
  go_enter Tryz.func169, Tryz.ntmps169
  go_wp2_with fail
  go_loopw [8] (fun i wr => ∃ k : Nat, k ≤ N ∧ i = .int .i64 k ∧ Hid (∀ j (h : j < l.length), j < k → isAt x.1 x.2.1 l[j] = false) ∧ Hid (Below w.heap.size w wr)) (fun i _ => N - (intOf i).toNat)
  case atStart => exact ⟨0, by omega, rfl, fun j _ h => absurd h (Nat.not_lt_zero _), Below.refl _ _⟩
  case round =>
    obtain ⟨k, hk, rfl, HNO, HB⟩ := hrel
    by_cases hkN : k < N
    · have hkx : k < l.length := by rw [← HN.out]; exact hkN
      obtain ⟨g, o, rfl, lg, cg⟩ := HR.out w (Below.refl _ _) |>.resolve_left (fun h => by rw [h] at hkx; simp at hkx)
      obtain ⟨y, hy⟩ : ∃ y, y = l[k] := ⟨_, rfl⟩
      have hlies : Lies wr g (o + k * 5) (encLine y) := fun j v hv =>
        (HB.out.cell (p := ⟨g, o + k * 5 + j, none⟩) lg).trans (cg k hkx j v (by rw [← hy]; exact hv))
      have HY := Lib.hid hy
      have HL := Lib.hid hlies
      have HCY := Lib.hid (HC.out y)
      have h5 : (encLine y).length = 5 := rfl
      clear hy cg hlies HC
      obtain ⟨LY, hLY⟩ : ∃ LY, LY = encLine y := ⟨_, rfl⟩
      rw [← hLY] at HCY HL h5
      clear hLY
      obtain ⟨at1, hat⟩ : ∃ at1, at1 = isAt x.1 x.2.1 y := ⟨_, rfl⟩
      rw [← hat] at HCY
      have HAT := Lib.hid hat
      clear hat
      go_wp2_with (refine wpList_load_at rfl 128 _ rfl g (o + k * 5) rfl LY HL.out _ Tryz.underlying128 rfl (by rw [h5]; kernel_rfl) ?_)
      refine (HCY.out wr HB.out).mono ?_
      rintro e w1 ⟨rfl, b1⟩
      have B1 := Lib.hid (HB.out.trans (b1.mono HB.out.size))
      clear b1
      cases at1 with
      | true =>
        have HT : Hid (R = (k : Int)) := by
          have := HF.out k HNO.out (fun h => by rw [← HY.out]; exact HAT.out.symm)
          rw [if_pos hkx] at this
          exact this
        go_wp2_with fail
        go_ret
        rw [HT.out]
        exact ⟨rfl, B1.out⟩
      | false =>
        have HNX : Hid (∀ j (h : j < l.length), j < k + 1 → isAt x.1 x.2.1 l[j] = false) := fun j hj hjk => by
          rcases Nat.lt_succ_iff_lt_or_eq.1 hjk with h | rfl
          · exact HNO.out j hj h
          · rw [← HY.out]; exact HAT.out.symm
        go_wp2_with fail
        go_roundw
        case rel => exact ⟨k + 1, by omega, by go_num, HNX.out, B1.out⟩
        case measure => simp [intOf]; omega
    · obtain rfl : k = N := by omega
      have HT : Hid (R = -1) := by
        have := HF.out k HNO.out (fun h => by rw [← HN.out] at h; omega)
        rw [if_neg (by rw [← HN.out]; omega)] at this
        exact this
      go_wp2_with fail
      go_ret
      rw [HT.out]
      exact ⟨rfl, HB.out⟩
end Go.Proofs.YtphgakobfegpcaaGreatDoor
namespace Go.Proofs.YtphgakobfegpcaaGreatDoor
open Go.RowKit Go.Sort Go.Proofs

theorem fndI_any (l : List LineV) (p : PlaceV) (lot : List UInt8) : (fndI l p lot = -1 ∧ l.any (isAt p lot) = false) ∨ ∃ i : Nat, fndI l p lot = i ∧ l.any (isAt p lot) = true := by
  unfold fndI
  cases hf : l.findIdx? (isAt p lot) with
  | none =>
    refine .inl ⟨rfl, ?_⟩
    rw [List.findIdx?_eq_none_iff] at hf
    exact List.any_eq_false.2 fun x hx => by simpa using hf x hx
  | some i =>
    obtain ⟨h1, h2, -⟩ := List.findIdx?_eq_some_iff_getElem.1 hf
    exact .inr ⟨i, rfl, List.any_eq_true.2 ⟨_, List.getElem_mem h1, h2⟩⟩

set_option maxHeartbeats 800000 in
set_option maxRecDepth 100000 in
theorem containsLine_any (A : Option Addr) (cap : Nat) (l : List LineV) (x : LineV) (b : Nat) (w : World) (hrow : RowAt encLine 5 w A l) (hl : l.length ≤ 100000) (hb : w.heap[b]? = some (.cells (encLine x).toArray 128 (0, 0))) :
    Calls Tryz.prog 122 #[.slice A l.length cap, .func (.func 123) #[] #[.pointer (some ⟨b, 0, none⟩)]] w fun e w' => e = .returned (.bool (l.any (isAt x.1 x.2.1))) ∧ Below w.heap.size w w' := by
  have HX := Lib.hid (idxLine_any A cap l x b w hrow hl hb)
  have HA := Lib.hid (fndI_any l x.1 x.2.1)
  generalize l.any (isAt x.1 x.2.1) = r at HA ⊢
  generalize fndI l x.1 x.2.1 = fi at HA HX
  clear hrow hb
  go_enter Tryz.func122, Tryz.ntmps122
  go_wp2_with fail
  refine HX.out.mono ?_
  rintro e w1 ⟨rfl, b1⟩
  have B1 := Lib.hid b1
  rcases HA.out with ⟨rfl, rfl⟩ | ⟨i, rfl, rfl⟩
  · clear b1 HX HA
    go_wp2_with fail
    go_ret
    exact ⟨rfl, B1.out⟩
  · have hp : (0 : Int) ≤ (i : Nat) := by omega
    clear b1 HX HA
    go_wp2_with fail
    go_ret
    exact ⟨by simp, B1.out⟩

set_option maxHeartbeats 1600000 in
set_option maxRecDepth 100000 in
theorem cntLine_any (E : Nat → Addr) (A : Option Addr) (cap : Nat) (l : List LineV) (i : Nat) (hi : i < l.length) (w : World) (hrow : RowAt encLine 5 w A l) (hl : l.length ≤ 100000) (hcap : l.length ≤ cap) (hG : BkG E w) :
    Calls Tryz.prog 70 #[.slice A l.length cap, .int .i64 (i : Nat)] w fun e w' => e = .returned (errOf E (lineE (l.take i) l[i])) ∧ Below w.heap.size w w' := by
  obtain ⟨x, hx⟩ : ∃ x, x = l[i] := ⟨_, rfl⟩
  obtain ⟨r, hr⟩ : ∃ r, r = lineE (l.take i) l[i] := ⟨_, rfl⟩
  rw [← hr]
  rw [← hx] at hr
  unfold lineE at hr
  have HRR := Lib.hid hr
  have hmf : ∀ (fn : Fn) (first cap : Array Value) (w : World), (Instr.makeFunc fn first cap).run Tryz.prog w = .ok (.func fn first cap) w := fun _ _ _ _ => rfl
  obtain ⟨g, o, rfl, lg, cg⟩ := hrow.resolve_left (fun h => by rw [h] at hi; simp at hi)
  have hlies : Lies w g (o + i * 5) (encLine x) := fun j v hv => cg i hi j v (by rw [← hx]; exact hv)
  have hpre : RowAt encLine 5 w (some ⟨g, o, none⟩) (l.take i) := by
    refine .inr ⟨g, o, rfl, lg, fun j hj c v hv => ?_⟩
    rw [List.getElem_take] at hv
    exact cg j (by rw [List.length_take] at hj; omega) c v hv
  have HPRE := Lib.hid (fun W (h : Below w.heap.size w W) => hpre.below h)
  have htl : (l.take i).length = i := by rw [List.length_take]; omega
  have HCF := Lib.hid (fun b W (h1 : RowAt encLine 5 W (some ⟨g, o, none⟩) (l.take i)) h2 => containsLine_any (some ⟨g, o, none⟩) cap (l.take i) x b W h1 (by rw [htl]; omega) h2)
  rw [htl] at HCF
  have HG := Lib.hid (fun W (h : Below w.heap.size w W) => hG.below h)
  have HCK := Lib.hid (fun W h => checkPlace_c E x.1 W h)
  have HNM := Lib.hid (fun W => name_wide x.2.1 W)
  have HWI := Lib.hid (within_any x.2.2 0 1099511627776)
  have HL := Lib.hid hlies
  have h5 : (encLine x).length = 5 := rfl
  have h51 := Lib.hid (show ∀ v ∈ encLine x, v.oneCell' = true from encLine_one x)
  have b0 := Lib.hid (below_one w (.cells #[.string ⟨#[]⟩, .int .i64 0, .int .i64 0, .string ⟨#[]⟩, .int .i64 0] 128))
  have hxp : (encPlace x.1).length = 3 := rfl
  have HLP := Lib.hid (fun (W : World) (b : Nat) (h : Lies W b 0 (encLine x)) => (show Lies W b 0 (encPlace x.1) from fun j v hv => h j v (by
    have hj : j < 3 := (List.getElem?_eq_some_iff.1 hv).1
    match j, hj, hv with | 0, _, hv => exact hv | 1, _, hv => exact hv | 2, _, hv => exact hv)))
  have hc3 : (encLine x)[3]? = some (.string ⟨x.2.1.toArray⟩) := rfl
  have hc4 : (encLine x)[4]? = some (.int .i64 x.2.2) := rfl
  have hi0 : (0 : Int) ≤ (i : Nat) := by omega
  have hi1 : ((i : Nat) : Int) < (l.length : Nat) := by omega
  have hi2 : ((i : Nat) : Int) ≤ (cap : Nat) := by omega
  clear hr hx hG hrow hlies hpre htl cg
  generalize (l.take i).any (isAt x.1 x.2.1) = ca at HCF HRR
  generalize placeE x.1 = pe at HCK HRR
  generalize nameB x.2.1 = nm at HNM HRR
  generalize wiB x.2.2 0 1099511627776 = wi at HWI HRR
  generalize l.take i = T at HCF HPRE
  generalize l.length = N at *
  generalize encPlace x.1 = LP at *
  generalize encLine x = LX at *
  generalize x.2.1 = xl at *
  generalize x.2.2 = xn at *
  go_enter Tryz.func70, Tryz.ntmps70
  go_upto_region 2 with (first | (refine wpList_load_at rfl 128 _ rfl g (o + i * 5) rfl LX HL.out _ Tryz.underlying128 rfl (by rw [h5]; kernel_rfl) ?_) | (refine wpList_store_box rfl 128 _ _ rfl w.heap.size LX rfl rfl _ [.string ⟨#[]⟩, .int .i64 0, .int .i64 0, .string ⟨#[]⟩, .int .i64 0] (heap_alloc_new w _) (by rw [h5]; kernel_rfl) (by rw [h5]; rfl) h51.out ?_; intro w1 h1 tu1))
  have bb1 := b0.out.trans (tu1.below (Nat.le_refl _))
  have B1 := Lib.hid bb1
  have hz1 := row_lt h1
  clear bb1 tu1 b0
  go_wp2_with (refine wpList_load_at rfl 67 _ rfl w.heap.size 0 rfl LP (HLP.out w1 _ (Lies.row _ h1)) _ Tryz.underlying67 rfl (by rw [hxp]; kernel_rfl) ?_)
  refine (HCK.out w1 (HG.out _ B1.out).stk.place).mono ?_
  rintro e w2 ⟨rfl, b2⟩
  have B2 := Lib.hid (B1.out.trans (b2.mono B1.out.size))
  have h2 := (b2.block _ hz1).trans h1
  have e3 : w2.cell? ⟨w.heap.size, 3, none⟩ = some (.string ⟨xl.toArray⟩) := (cell_of_row _ _ _ _ _ _ h2).trans (by simpa using hc3)
  clear b2 h1 B1 HCK
  by_cases hpe : ¬ pe = 0
  · have HT := Lib.hid (HRR.out.trans (if_pos hpe))
    rw [errOf_pos _ _ hpe]
    have HPE := Lib.hid hpe
    clear hpe
    go_wp2_with fail
    go_ret
    rw [HT.out, errOf_pos _ _ HPE.out]
    exact ⟨rfl, B2.out⟩
  have hpe := Classical.not_not.1 hpe
  have HR1 := Lib.hid (HRR.out.trans (if_neg (fun e => e hpe)))
  rw [hpe, errOf_zero]
  clear hpe HRR
  go_wp2_with fail
  refine (HNM.out w2).mono ?_
  rintro e w3 ⟨rfl, b3⟩
  have B3 := Lib.hid (B2.out.trans (b3.mono B2.out.size))
  have h3 := (b3.block _ (row_lt h2)).trans h2
  have e4 : w3.cell? ⟨w.heap.size, 4, none⟩ = some (.int .i64 xn) := (cell_of_row _ _ _ _ _ _ h3).trans (by simpa using hc4)
  clear b3 h2 e3 B2 HNM
  cases nm with
  | false =>
    have HT := Lib.hid (show r = 5 from HR1.out.trans (if_pos rfl))
    have her := (HG.out _ B3.out).stk.place.name
    unfold ErrAt at her
    go_wp2_with fail
    go_ret
    rw [HT.out]
    exact ⟨rfl, B3.out⟩
  | true =>
    have HR2 := Lib.hid (HR1.out.trans (if_neg (by simp)))
    clear HR1
    go_wp2_with fail
    refine (HWI.out w3).mono ?_
    rintro e w4 ⟨rfl, rfl⟩
    cases wi with
    | false =>
      have HT := Lib.hid (show r = 2 from HR2.out.trans (if_pos rfl))
      have her := (HG.out _ B3.out).stk.place.bound
      unfold ErrAt at her
      go_wp2_with fail
      go_ret
      rw [HT.out]
      exact ⟨rfl, B3.out⟩
    | true =>
      have HR3 := Lib.hid (HR2.out.trans (if_neg (by simp)))
      clear HR2 e4
      go_wp2_with fail
      refine (HCF.out w.heap.size w3 (HPRE.out _ B3.out) h3).mono ?_
      rintro e w5 ⟨rfl, b5⟩
      have B5 := Lib.hid (B3.out.trans (b5.mono B3.out.size))
      clear b5 h3 B3 HCF
      cases ca with
      | true =>
        have HT := Lib.hid (show r = 7 from HR3.out.trans (if_pos rfl))
        have her := (HG.out _ B5.out).exist
        unfold ErrAt at her
        go_wp2_with fail
        go_ret
        rw [HT.out]
        exact ⟨rfl, B5.out⟩
      | false =>
        have HT := Lib.hid (show r = 0 from HR3.out.trans (if_neg (by simp)))
        go_wp2_with fail
        go_ret
        rw [HT.out]
        exact ⟨rfl, B5.out⟩
end Go.Proofs.YtphgakobfegpcaaGreatDoor
namespace Go.Proofs.YtphgakobfegpcaaGreatDoor
open Go.RowKit Go.Sort Go.Proofs

theorem sheet_step (l : List LineV) (k : Nat) (h : k < l.length) : sheetF (l.take k) (l.drop k) = if lineE (l.take k) l[k] ≠ 0 then some (lineE (l.take k) l[k], k) else sheetF (l.take (k + 1)) (l.drop (k + 1)) := by
  rw [List.drop_eq_getElem_cons h, List.take_succ_eq_append_getElem h]
  conv => lhs; unfold sheetF
  rw [List.length_take, Nat.min_eq_left (by omega)]
/-- An error with a place, in memory. -/
def FltAt (E : Nat → Addr) (f : Option (Nat × Nat)) (v : Value) (w : World) : Prop :=
  match f with
  | none => v = .nilIface
  | some (k, i) => k ≠ 0 ∧ ∃ b, v = .iface 96 (.pointer (some ⟨b, 0, none⟩)) ∧ w.heap[b]? = some (.cells #[.int .i64 (i : Nat), errOf E k] 98 (0, 0))

set_option maxHeartbeats 1600000 in
set_option maxRecDepth 100000 in
theorem cntCheck_any (E : Nat → Addr) (A : Option Addr) (cap : Nat) (l : List LineV) (w : World) (hrow : RowAt encLine 5 w A l) (hl : l.length ≤ 100000) (hcap : l.length ≤ cap) (hG : BkG E w) :
    Calls Tryz.prog 22 #[.slice A l.length cap] w fun e w' => ∃ v, e = .returned v ∧ FltAt E (sheetF [] l) v w' ∧ Below w.heap.size w w' := by
  have HR := Lib.hid (fun W (h : Below w.heap.size w W) => hrow.below h)
  have HG := Lib.hid (fun W (h : Below w.heap.size w W) => hG.below h)
  have HST := Lib.hid (sheet_step l)
  obtain ⟨r, hr⟩ : ∃ r, r = sheetF [] l := ⟨_, rfl⟩
  have HR0 := Lib.hid hr
  rw [← hr]
  obtain ⟨N, hN⟩ : ∃ N, N = l.length := ⟨_, rfl⟩
  have HN := Lib.hid hN
  have HCL : Hid (∀ k (hk : k < l.length) W, RowAt encLine 5 W A l → BkG E W → Calls Tryz.prog 70 #[.slice A N cap, .int .i64 (k : Nat)] W fun e w' => e = .returned (errOf E (lineE (l.take k) l[k])) ∧ Below W.heap.size W w') := fun k hk W h1 g => by
    rw [hN]
    exact cntLine_any E A cap l k hk W h1 hl hcap g
  rw [← hN] at hl ⊢
  clear hr hrow hG hcap hN
  go_enter Tryz.func22, Tryz.ntmps22
  go_wp2_with fail
  go_loopw [7] (fun i wr => ∃ k : Nat, k ≤ N ∧ i = .int .i64 k ∧ Hid (r = sheetF (l.take k) (l.drop k)) ∧ Hid (Below w.heap.size w wr)) (fun i _ => N - (intOf i).toNat)
  case atStart => exact ⟨0, by omega, rfl, by show _ = _; rw [HR0.out]; rfl, Below.refl _ _⟩
  case round =>
    obtain ⟨k, hk, rfl, HS, HB⟩ := hrel
    by_cases hkN : k < N
    · have hkx : k < l.length := by rw [← HN.out]; exact hkN
      have HS1 := Lib.hid (HS.out.trans (HST.out k hkx))
      have HC1 := Lib.hid (HCL.out k hkx wr (HR.out _ HB.out) (HG.out _ HB.out))
      obtain ⟨le, hle⟩ : ∃ le, le = lineE (l.take k) l[k] := ⟨_, rfl⟩
      rw [← hle] at HS1 HC1
      clear hle
      go_wp2_with fail
      refine HC1.out.mono ?_
      rintro e w1 ⟨rfl, b1⟩
      have B1 := Lib.hid (HB.out.trans (b1.mono HB.out.size))
      clear b1 HC1
      by_cases h0 : le = 0
      · have HS2 : Hid (r = sheetF (l.take (k + 1)) (l.drop (k + 1))) := by
          show _ = _
          rw [HS1.out, if_neg (by simpa using h0)]
        rw [h0, errOf_zero]
        clear h0 HS1
        go_wp2_with fail
        go_roundw
        case rel => exact ⟨k + 1, by omega, by go_num, HS2.out, B1.out⟩
        case measure => simp [intOf]; omega
      · have HS2 : Hid (r = some (le, k)) := by
          show _ = _
          rw [HS1.out, if_pos h0]
        have HZ := Lib.hid h0
        rw [errOf_pos _ _ h0]
        clear h0 HS1
        have hb := Lib.hid (heap_alloc_new w1 (.cells #[.int .i64 (k : Nat), .iface 326 (.pointer (some (E le)))] 98))
        have bb := Lib.hid (below_one w1 (.cells #[.int .i64 (k : Nat), .iface 326 (.pointer (some (E le)))] 98))
        go_wp2_with fail
        go_ret
        refine ⟨_, rfl, ?_, B1.out.trans (bb.out.mono B1.out.size)⟩
        rw [HS2.out]
        exact ⟨HZ.out, _, rfl, by rw [errOf_pos _ _ HZ.out]; exact hb.out⟩
    · obtain rfl : k = N := by omega
      have HS1 : Hid (r = none) := by
        show _ = _
        rw [HS.out, HN.out, List.drop_length]
        rfl
      go_wp2_with fail
      go_ret
      refine ⟨_, rfl, ?_, HB.out⟩
      rw [HS1.out]
      rfl
end Go.Proofs.YtphgakobfegpcaaGreatDoor
