/- Counts, plainly: a sheet's fault; what Diff tells; behind it the stock is what was seen. No program in sight. Counts: a line of a sheet: is one ahead of it of its place and lot? Counts: a line of a sheet. Counts: Check. The program's book: Replay. Printed by gen/bkrepl.py. The document's faults: Bare, Fine. The document's book: ReplayOf. Printed by gen/bkrepl.py. faulted, of tithebarnlaw2: an error's number and place. The law BookDoes, walked. Printed by gen/bdoes.py. The twelve sentinels together. -/
import Derived.Deep.CutBlock
import Derived.Deep.DeepCutAuto
import Derived.Test.YtgllddebodfhkaaGreatDoorM04
import Derived.Test.YtgllddebodfhkaaGreatDoorM05
import Derived.Test.YtgllddebodfhkaaGreatDoorM12
import Derived.Test.YtgllddebodfhkaaGreatDoorM17
import Derived.Test.YtgllddebodfhkaaGreatDoorM22
import Derived.Test.YtgllddebodfhkaaGreatDoorM29
import Derived.Test.YtgllddebodfhkaaGreatDoorM30
import Derived.Test.YtgllddebodfhkaaGreatDoorM33
import Derived.Test.YtgllddebodfhkaaGreatDoorM38
import Derived.Test.YtgllddebodfhkaaGreatDoorM39
import Derived.Test.YtgllddebodfhkaaGreatDoorM40
import Derived.Test.YtgllddebodfhkaaGreatDoorM41
import Derived.Test.YtgllddebodfhkaaGreatDoorM44
import Derived.Test.YtgllddebodfhkaaGreatDoorM46
namespace Go.Proofs.YtgllddebodfhkaaGreatDoor
open Go.RowKit Go.Sort Go.Proofs

/-- The error of a line of a sheet behind others; a sheet's first fault, from a line on. -/
def lineE (done : List LineV) (x : LineV) : Nat :=
  if placeE x.1 ≠ 0 then placeE x.1 else if nameB x.2.1 = false then 5 else if wiB x.2.2 0 1099511627776 = false then 2 else if done.any (fun y => isAt x.1 x.2.1 y) = true then 7 else 0
def sheetF : List LineV → List LineV → Option (Nat × Nat)
  | _, [] => none
  | done, x :: r => if lineE done x ≠ 0 then some (lineE done x, done.length) else sheetF (done ++ [x]) r
/-- What a line tells: an entry, or none; what a sheet tells: entries, or a fault. -/
def diffX (m : StkV) (x : LineV) : List EntV :=
  if x.2.2 - (atM m (x.1, x.2.1) : Nat) > 0 then [(kMore, zeroGoods, (x.2.1, [], 0, 0), zeroPlace, x.1, x.2.2 - (atM m (x.1, x.2.1) : Nat))]
  else if x.2.2 - (atM m (x.1, x.2.1) : Nat) < 0 then [(kLess, zeroGoods, (x.2.1, [], 0, 0), x.1, zeroPlace, - (x.2.2 - (atM m (x.1, x.2.1) : Nat)))] else []
def diffL (m : StkV) (l : List LineV) : List EntV := l.flatMap (diffX m)
def noLot (B : BkV) : List LineV → Nat → Option (Nat × Nat)
  | [], _ => none
  | x :: r, i => if (fL B x.2.1).isSome = true then noLot B r (i + 1) else some (6, i)
def diffB (B : BkV) (l : List LineV) : List EntV ⊕ (Nat × Nat) :=
  match sheetF [] l with
  | some e => .inr e
  | none => match noLot B l 0 with
    | some e => .inr e
    | none => .inl (diffL B.2.2 l)

/-- A sheet with no fault: its lines are well, and no two of one place and lot. -/
theorem sheet_none : ∀ (l done : List LineV), sheetF done l = none → (∀ x ∈ l, placeE x.1 = 0 ∧ nameB x.2.1 = true ∧ 0 ≤ x.2.2 ∧ x.2.2 ≤ 1099511627776) ∧ (∀ x ∈ l, ∀ y ∈ done, isAt x.1 x.2.1 y = false) ∧ l.Pairwise fun x y => (x.1, x.2.1) ≠ (y.1, y.2.1)
  | [], _, _ => ⟨by simp, by simp, List.Pairwise.nil⟩
  | x :: r, done, h => by
    unfold sheetF at h
    split at h
    · cases h
    rename_i h1
    simp only [ne_eq, Classical.not_not] at h1
    obtain ⟨i1, i2, i3⟩ := sheet_none r (done ++ [x]) h
    unfold lineE at h1
    split at h1
    · rename_i q; exact absurd h1 q
    rename_i q1
    split at h1
    · cases h1
    rename_i q2
    split at h1
    · cases h1
    rename_i q3
    split at h1
    · cases h1
    rename_i q4
    simp only [ne_eq, Classical.not_not] at q1
    unfold wiB at q3
    simp only [decide_eq_false_iff_not, Classical.not_not] at q3
    refine ⟨fun y hy => ?_, fun y hy z hz => ?_, List.pairwise_cons.2 ⟨fun y hy e => ?_, i3⟩⟩
    · rcases List.mem_cons.1 hy with rfl | hy
      · exact ⟨q1, by simpa using q2, q3.1, q3.2⟩
      · exact i1 y hy
    · rcases List.mem_cons.1 hy with rfl | hy
      · simp only [Bool.not_eq_true, List.any_eq_false] at q4
        have := q4 z hz
        simpa using this
      · exact i2 y hy z (List.mem_append_left _ hz)
    · have := i2 y hy x (by simp)
      unfold isAt at this
      have h2 := of_decide_eq_false this
      simp only [Prod.mk.injEq] at e
      exact h2 ⟨e.1, e.2⟩
/-- What such an entry makes of pieces at places. -/
theorem at_more {B : BkV} {p : PlaceV} {id : List UInt8} {n : Int} (he : doE B (kMore, zeroGoods, (id, [], 0, 0), zeroPlace, p, n) = 0) (k : KeyV) :
    atM (doB B (kMore, zeroGoods, (id, [], 0, 0), zeroPlace, p, n)).2.2 k = if k = (p, id) then atM B.2.2 k + n.toNat else atM B.2.2 k := by
  have hm : (doB B (kMore, zeroGoods, (id, [], 0, 0), zeroPlace, p, n)).2.2 = putM B.2.2 p id n := by
    unfold doB
    rw [if_neg (by simpa using he), if_neg (by decide : ¬ kMore = kGoods), if_neg (by decide : ¬ kMore = kLot)]
    unfold doP
    simp only
    unfold actM
    rw [if_pos (.inr rfl)]
  have hp : putE B.2.2 p id n = 0 := by
    unfold doE at he
    split at he
    · rename_i h; exact absurd he h
    rw [if_neg (by decide : ¬ kMore = kGoods), if_neg (by decide : ¬ kMore = kLot)] at he
    obtain ⟨y, _, ha, _⟩ := pc_zero he
    unfold actE at ha
    rwa [if_pos (.inr rfl)] at ha
  rw [hm, at_put hp]
theorem at_less {B : BkV} {p : PlaceV} {id : List UInt8} {n : Int} (he : doE B (kLess, zeroGoods, (id, [], 0, 0), p, zeroPlace, n) = 0) (k : KeyV) :
    atM (doB B (kLess, zeroGoods, (id, [], 0, 0), p, zeroPlace, n)).2.2 k = if k = (p, id) then atM B.2.2 k - n.toNat else atM B.2.2 k := by
  have hm : (doB B (kLess, zeroGoods, (id, [], 0, 0), p, zeroPlace, n)).2.2 = takeM B.2.2 p id n := by
    unfold doB
    rw [if_neg (by simpa using he), if_neg (by decide : ¬ kLess = kGoods), if_neg (by decide : ¬ kLess = kLot)]
    unfold doP
    simp only
    unfold actM
    rw [if_neg (by decide : ¬ (kLess = kIn ∨ kLess = kMore)), if_pos (.inr rfl)]
  have hp : takeE B.2.2 p id n = 0 := by
    unfold doE at he
    split at he
    · rename_i h; exact absurd he h
    rw [if_neg (by decide : ¬ kLess = kGoods), if_neg (by decide : ¬ kLess = kLot)] at he
    obtain ⟨y, _, ha, _⟩ := pc_zero he
    unfold actE at ha
    rwa [if_neg (by decide : ¬ (kLess = kIn ∨ kLess = kMore)), if_pos (.inr rfl)] at ha
  rw [hm, at_take hp]
/-- Entries that are all done with no error. -/
def allOk (B : BkV) : List EntV → Prop
  | [] => True
  | x :: r => doE B x = 0 ∧ allOk (doB B x) r
theorem allOk_app : ∀ (a b : List EntV) (B : BkV), allOk B (a ++ b) ↔ allOk B a ∧ allOk (doAll B a) b
  | [], b, B => by simp [allOk, doAll]
  | x :: a, b, B => by
    have ih := allOk_app a b (doB B x)
    show (doE B x = 0 ∧ allOk (doB B x) (a ++ b)) ↔ (doE B x = 0 ∧ allOk (doB B x) a) ∧ allOk (doAll (doB B x) a) b
    rw [ih, and_assoc]
/-- Behind what Diff tells the stock is what was seen. -/
theorem diff_seen : ∀ (l : List LineV) (m : StkV) (B : BkV), (∀ x ∈ l, 0 ≤ x.2.2) → (l.Pairwise fun x y => (x.1, x.2.1) ≠ (y.1, y.2.1)) → (∀ x ∈ l, atM B.2.2 (x.1, x.2.1) = atM m (x.1, x.2.1)) → allOk B (diffL m l) →
    (∀ x ∈ l, (atM (doAll B (diffL m l)).2.2 (x.1, x.2.1) : Int) = x.2.2) ∧ ∀ k, (∀ x ∈ l, (x.1, x.2.1) ≠ k) → atM (doAll B (diffL m l)).2.2 k = atM B.2.2 k
  | [], m, B, _, _, _, _ => ⟨by simp, fun _ _ => rfl⟩
  | x :: r, m, B, h0, hp, ha, hok => by
    have hp' := List.pairwise_cons.1 hp
    have e : diffL m (x :: r) = diffX m x ++ diffL m r := rfl
    rw [e, allOk_app] at hok
    have one : (atM (doAll B (diffX m x)).2.2 (x.1, x.2.1) : Int) = x.2.2 ∧ ∀ k, (x.1, x.2.1) ≠ k → atM (doAll B (diffX m x)).2.2 k = atM B.2.2 k := by
      have hx := ha x List.mem_cons_self
      have hx0 := h0 x List.mem_cons_self
      have hok1 := hok.1
      unfold diffX at hok1 ⊢
      split at hok1
      · rename_i h1
        rw [if_pos h1]
        have hm := at_more hok1.1
        constructor
        · show (atM (doB B _).2.2 _ : Int) = _
          rw [hm, if_pos rfl]
          omega
        · intro k hk
          show atM (doB B _).2.2 _ = _
          rw [hm, if_neg (fun e => hk e.symm)]
      · rename_i h1
        rw [if_neg h1]
        split at hok1
        · rename_i h2
          rw [if_pos h2]
          have hm := at_less hok1.1
          constructor
          · show (atM (doB B _).2.2 _ : Int) = _
            rw [hm, if_pos rfl]
            omega
          · intro k hk
            show atM (doB B _).2.2 _ = _
            rw [hm, if_neg (fun e => hk e.symm)]
        · rename_i h2
          rw [if_neg h2]
          refine ⟨?_, fun _ _ => rfl⟩
          show (atM B.2.2 _ : Int) = _
          omega
    have hB : ∀ y ∈ r, atM (doAll B (diffX m x)).2.2 (y.1, y.2.1) = atM m (y.1, y.2.1) := fun y hy => (one.2 _ (hp'.1 y hy)).trans (ha y (List.mem_cons_of_mem _ hy))
    obtain ⟨i1, i2⟩ := diff_seen r m (doAll B (diffX m x)) (fun y hy => h0 y (List.mem_cons_of_mem _ hy)) hp'.2 hB hok.2
    have ea : doAll B (diffX m x ++ diffL m r) = doAll (doAll B (diffX m x)) (diffL m r) := by unfold doAll; rw [List.foldl_append]
    rw [e, ea]
    refine ⟨fun y hy => ?_, fun k hk => ?_⟩
    · rcases List.mem_cons.1 hy with rfl | hy
      · rw [i2 _ fun z hz e => hp'.1 z hz e.symm]
        exact one.1
      · exact i1 y hy
    · rw [i2 k fun z hz => hk z (List.mem_cons_of_mem _ hz), one.2 k (hk x List.mem_cons_self)]
/-- A second Diff tells nothing. -/
theorem diff_twice {l : List LineV} {m : StkV} (h : ∀ x ∈ l, (atM m (x.1, x.2.1) : Int) = x.2.2) : diffL m l = [] := by
  unfold diffL
  rw [List.flatMap_eq_nil_iff]
  intro x hx
  have := h x hx
  unfold diffX
  rw [if_neg (by omega), if_neg (by omega)]
end Go.Proofs.YtgllddebodfhkaaGreatDoor
namespace Go.Proofs.YtgllddebodfhkaaGreatDoor
open Go.RowKit Go.Sort Go.Proofs

theorem fndI_step (l : List LineV) (p : PlaceV) (lot : List UInt8) (k : Nat) (h1 : ∀ j (h : j < l.length), j < k → isAt p lot l[j] = false) (h2 : ∀ h : k < l.length, isAt p lot l[k] = true) : fndI l p lot = if k < l.length then (k : Int) else -1 := by
  unfold fndI
  by_cases hk : k < l.length
  · have : l.findIdx? (isAt p lot) = some k := List.findIdx?_eq_some_iff_getElem.2 ⟨hk, h2 hk, fun j hj => by simpa using h1 j (by omega) hj⟩
    rw [this, if_pos hk]
  · have : l.findIdx? (isAt p lot) = none := by
      rw [List.findIdx?_eq_none_iff]
      intro x hx
      obtain ⟨j, hj, rfl⟩ := List.mem_iff_getElem.1 hx
      exact h1 j hj (by omega)
    rw [this, if_neg hk]
end Go.Proofs.YtgllddebodfhkaaGreatDoor
namespace Go.Proofs.YtgllddebodfhkaaGreatDoor
open Go.RowKit Go.Sort Go.Proofs

theorem fndI_any (l : List LineV) (p : PlaceV) (lot : List UInt8) : (fndI l p lot = -1 ∧ l.any (isAt p lot) = false) ∨ ∃ i : Nat, fndI l p lot = i ∧ l.any (isAt p lot) = true := by
  unfold fndI
  cases hf : l.findIdx? (isAt p lot) with
  | none =>
    refine .inl ⟨rfl, ?_⟩
    rw [List.findIdx?_eq_none_iff] at hf
    exact List.any_eq_false.2 fun x hx => by simpa using hf x hx
  | some i =>
    obtain ⟨h1, h2, -⟩ := List.findIdx?_eq_some_iff_getElem.1 hf
    exact .inr ⟨i, rfl, List.any_eq_true.2 ⟨_, List.getElem_mem h1, h2⟩⟩

end Go.Proofs.YtgllddebodfhkaaGreatDoor
namespace Go.Proofs.YtgllddebodfhkaaGreatDoor
open Go.RowKit Go.Sort Go.Proofs

theorem sheet_step (l : List LineV) (k : Nat) (h : k < l.length) : sheetF (l.take k) (l.drop k) = if lineE (l.take k) l[k] ≠ 0 then some (lineE (l.take k) l[k], k) else sheetF (l.take (k + 1)) (l.drop (k + 1)) := by
  rw [List.drop_eq_getElem_cons h, List.take_succ_eq_append_getElem h]
  conv => lhs; unfold sheetF
  rw [List.length_take, Nat.min_eq_left (by omega)]
/-- An error with a place, in memory. -/
def FltAt (E : Nat → Addr) (f : Option (Nat × Nat)) (v : Value) (w : World) : Prop :=
  match f with
  | none => v = .nilIface
  | some (k, i) => k ≠ 0 ∧ ∃ b, v = .iface 133 (.pointer (some ⟨b, 0, none⟩)) ∧ w.heap[b]? = some (.cells #[.int .i64 (i : Nat), errOf E k] 135 (0, 0))

end Go.Proofs.YtgllddebodfhkaaGreatDoor
namespace Go.Proofs.YtgllddebodfhkaaGreatDoor
open Go.RowKit Go.Sort Go.Proofs

/-- What Replay leaves. -/
def ReplAt (E : Nat → Addr) (n : Nat) (r : BkV ⊕ (Nat × Nat)) (e : Ending) (w' : World) : Prop :=
  match r with
  | .inr f => ∃ v, e = .returned (.tuple #[.pointer none, v]) ∧ FltAt E (some f) v w'
  | .inl B => ∃ p F, e = .returned (.tuple #[.pointer (some ⟨p, 0, none⟩), .nilIface]) ∧ BookIs w' p F B ∧ ∀ k ∈ F, n ≤ k
theorem repl_step (B : BkV) (l : List EntV) (k : Nat) (h : k < l.length) : repl B (l.drop k) k = if doE B l[k] ≠ 0 then .inr (doE B l[k], k) else repl (doB B l[k]) (l.drop (k + 1)) (k + 1) := by
  rw [List.drop_eq_getElem_cons h]
  rfl

set_option maxHeartbeats 3200000 in
set_option maxRecDepth 100000 in
theorem replay_any (E : Nat → Addr) (A : Option Addr) (cap : Nat) (l : List EntV) (w : World) (hrow : RowAt encEnt 14 w A l) (hl : l.length ≤ 1000) (hs : ∀ x ∈ l, ShortE x) (hG : BkG E w) :
    Calls Tryz.prog 29 #[.slice A l.length cap] w fun e w' => ReplAt E w.heap.size (repl bk0 l 0) e w' ∧ Below w.heap.size w w' := by
  have HG := Lib.hid (fun W (h : Below w.heap.size w W) => hG.below h)
  have HR := Lib.hid (fun W (h : Below w.heap.size w W) => hrow.below h)
  have HSH := Lib.hid hs
  have HST := Lib.hid (fun B k h => repl_step B l k h)
  obtain ⟨r, hr⟩ : ∃ r, r = repl bk0 l 0 := ⟨_, rfl⟩
  have HR0 := Lib.hid hr
  rw [← hr]
  obtain ⟨N, hN⟩ : ∃ N, N = l.length := ⟨_, rfl⟩
  have HN := Lib.hid hN
  rw [← hN] at hl ⊢
  clear hG hrow hs hN hr
  go_enter Tryz.func29, Tryz.ntmps29
  go_wp2_with fail
  refine (newBook_any w).mono ?_
  rintro e w1 ⟨p, F0, rfl, hB1, hF1, b1⟩
  have HB1 := Lib.hid hB1
  have HF1 := Lib.hid hF1
  have B1 := Lib.hid b1
  clear hB1 hF1 b1
  go_wp2_with fail
  go_loopw [11] (fun i wr => ∃ (k : Nat) (Bk : BkV), k ≤ N ∧ i = .int .i64 k ∧ Hid (r = repl Bk (l.drop k) k) ∧ Hid (BkI Bk) ∧ Hid (∃ F, BookIs wr p F Bk ∧ ∀ j ∈ F, w.heap.size ≤ j) ∧ Hid (Below w.heap.size w wr)) (fun i _ => N - (intOf i).toNat)
  case atStart => exact ⟨0, bk0, by omega, rfl, HR0.out, BkI.nil, ⟨F0, HB1.out, HF1.out⟩, B1.out⟩
  case round =>
    obtain ⟨k, Bk, hk, rfl, HRK, HBI, HBL, HB⟩ := hrel
    by_cases hkN : k < N
    · have hkx : k < l.length := by rw [← HN.out]; exact hkN
      obtain ⟨F, hbk, hF⟩ := HBL.out
      obtain ⟨g, o, rfl, lg, cg⟩ := HR.out wr HB.out |>.resolve_left (fun h => by rw [h] at hkx; simp at hkx)
      obtain ⟨x, hx⟩ : ∃ x, x = l[k] := ⟨_, rfl⟩
      have hlies : Lies wr g (o + k * 14) (encEnt x) := fun j v hv => cg k hkx j v (by rw [← hx]; exact hv)
      have hsx := HSH.out x (by rw [hx]; exact List.getElem_mem hkx)
      have hst := HST.out Bk k hkx
      rw [← hx] at hst
      have HRK1 := Lib.hid (HRK.out.trans hst)
      obtain ⟨_, s1, s2, _, _⟩ := hsx
      have hba := below_one wr (.cells #[.string ⟨#[]⟩, .string ⟨#[]⟩, .int .i64 0, .string ⟨#[]⟩, .string ⟨#[]⟩, .int .i64 0, .int .i64 0, .string ⟨#[]⟩, .int .i64 0, .int .i64 0, .string ⟨#[]⟩, .int .i64 0, .int .i64 0, .int .i64 0] 49)
      have HD := Lib.hid (fun W (hb : Below wr.heap.size wr W) => do_any E x (hbk.below hb) HBI.out (by omega) (by omega) (HG.out W (HB.out.trans (hb.mono HB.out.size))))
      have HBN := Lib.hid (HBI.out.do_ x)
      have HL := Lib.hid hlies
      have HF1' := Lib.hid hF
      have h14 : (encEnt x).length = 14 := rfl
      have HE1 := Lib.hid (encEnt_one x)
      clear hx cg hlies hbk hF hst HBL HRK s1 s2
      generalize doE Bk x = de at HRK1 HD
      generalize doB Bk x = Bn at HRK1 HD HBN
      generalize encEnt x = LX at HL HD h14 HE1
      go_upto_region 5 with (first | (refine wpList_load_at rfl 49 _ rfl g (o + k * 14) rfl LX HL.out _ Tryz.underlying49 rfl (by rw [h14]; kernel_rfl) ?_) | (refine wpList_store_box rfl 49 _ _ rfl wr.heap.size LX rfl rfl _ [.string ⟨#[]⟩, .string ⟨#[]⟩, .int .i64 0, .string ⟨#[]⟩, .string ⟨#[]⟩, .int .i64 0, .int .i64 0, .string ⟨#[]⟩, .int .i64 0, .int .i64 0, .string ⟨#[]⟩, .int .i64 0, .int .i64 0, .int .i64 0] (heap_alloc_new wr _) (by rw [h14]; kernel_rfl) (by rw [h14]; rfl) HE1.out ?_; intro w5 h5 tu5))
      have b5 := hba.trans (tu5.below (Nat.le_refl _))
      have B5 := Lib.hid (HB.out.trans (b5.mono HB.out.size))
      have H5 := Lib.hid h5
      have HD5 := Lib.hid (HD.out w5 b5)
      clear b5 tu5 hba HD HL HR h5
      go_upto_region 6 with (refine wpList_load_at rfl 49 _ rfl wr.heap.size 0 rfl LX (Lies.row _ H5.out) _ Tryz.underlying49 rfl (by rw [h14]; kernel_rfl) ?_)
      refine HD5.out.mono ?_
      rintro e w6 ⟨rfl, ⟨F6, hb6, hf6⟩, bf6⟩
      have B6 := Lib.hid (B5.out.trans (bf6.below B5.out.size HF1'.out))
      have HBK6 := Lib.hid hb6
      have HF6 : Hid (∀ j ∈ F6, w.heap.size ≤ j) := fun j hj => by
        have := B5.out.size
        rcases hf6 j hj with h | h
        · exact HF1'.out j h
        · omega
      clear hb6 hf6 bf6 HD5 HF1' H5 B5
      by_cases h0 : de = 0
      · subst h0
        rw [errOf_zero]
        have HRK2 := Lib.hid (HRK1.out.trans (if_neg (by simp)))
        clear HRK1
        go_wp2_with fail
        go_roundw
        case rel => exact ⟨k + 1, Bn, by omega, by go_num, HRK2.out, HBN.out, ⟨F6, HBK6.out, HF6.out⟩, B6.out⟩
        case measure => simp [intOf]; omega
      · have HRK2 := Lib.hid (HRK1.out.trans (if_pos h0))
        rw [errOf_pos _ _ h0]
        have hb := Lib.hid (heap_alloc_new w6 (.cells #[.int .i64 (k : Nat), .iface 308 (.pointer (some (E de)))] 135))
        have bb := Lib.hid (below_one w6 (.cells #[.int .i64 (k : Nat), .iface 308 (.pointer (some (E de)))] 135))
        have HZ := Lib.hid h0
        clear h0 HRK1
        go_wp2_with fail
        go_ret2
        refine ⟨?_, B6.out.trans (bb.out.mono B6.out.size)⟩
        rw [HRK2.out]
        exact ⟨_, rfl, HZ.out, _, rfl, by rw [errOf_pos _ _ HZ.out]; exact hb.out⟩
    · obtain rfl : k = N := by omega
      have HRK1 : Hid (r = .inl Bk) := by
        show _ = _
        rw [HRK.out, HN.out, List.drop_length]
        rfl
      go_wp2_with fail
      go_ret2
      refine ⟨?_, HB.out⟩
      rw [HRK1.out]
      obtain ⟨F, h1, h2⟩ := HBL.out
      exact ⟨p, F, rfl, h1, h2⟩
end Go.Proofs.YtgllddebodfhkaaGreatDoor
namespace Go.Proofs.YtgllddebodfhkaaGreatDoor
open Go.RowKit Go.Sort Go.Proofs

theorem row2f {w : World} {b : Nat} {u v : Value} {t : TypeId} (h : w.heap[b]? = some (.cells #[u, v] t (0, 0))) :
    (w.cell? ⟨b, 0, none⟩ = some u ∧ w.cell? ⟨b, 1, none⟩ = some v) ∧ w.frozen? ⟨b, 0, none⟩ = false ∧ w.frozen? ⟨b, 1, none⟩ = false :=
  ⟨⟨rowC h 0, rowC h 1⟩, rowF h 0, rowF h 1⟩
theorem fine_any (w : World) : Calls Tryz.prog 68 #[] w fun e w' => e = .returned (.agg #[.int .i64 0, .int .i64 (-1)]) ∧ Below w.heap.size w w' := by
  have b0 := below_one w (.cells #[.int .i64 0, .int .i64 0] 65)
  have hz := heap_alloc_new w (.cells #[.int .i64 0, .int .i64 0] 65)
  go_enter Tryz.func68, Tryz.ntmps68
  go_wp2_with (refine wpList_store_box rfl 65 _ _ rfl w.heap.size [.int .i64 0, .int .i64 (-1)] rfl rfl 65 [.int .i64 0, .int .i64 0] hz (by kernel_rfl) rfl (by simp [Value.oneCell']) ?_; intro wf hf tf)
  (try simp only [Exit.inBlock, Exit.then])
  refine bodyPost_ret (results_cell_row rfl _ _ w.heap.size 65 #[.int .i64 0, .int .i64 (-1)] (0, 0) _ rfl hf Tryz.underlying65 rfl (by kernel_rfl)) rfl ?_
  exact ⟨rfl, b0.trans (tf.below (Nat.le_refl _))⟩
/-- Three results, the last of them in memory. -/
theorem results_ttc {P : Program} {fn : Func} {t u p : Tmp} {ty : TypeId} (h : fn.results = #[.tmp t, .tmp u, .cell p ty]) (tmps : Array Value) (w : World) (g : Nat) (tt : TypeId) (cs : Array Value) (fr : Nat × Nat) (d : TypeDesc)
    (hp : tmps.getD p undef = .pointer (some ⟨g, 0, none⟩)) (hg : w.heap[g]? = some (.cells cs tt fr))
    (hu : P.underlying ty = some d) (hd : (match d with | .struct _ | .array _ _ => true | _ => false) = true) (hi : (P.info? ty).map (·.size) = some cs.size) :
    (results fn tmps).run P w = .ok (.tuple #[tmps.getD t undef, tmps.getD u undef, .agg cs]) w := by
  have hp' : tmps[p]?.getD undef = .pointer (some ⟨g, 0, none⟩) := by simpa using hp
  simp only [results, h]
  simp [hp', asAddr, run_loadVar_row w g tt ty cs fr d hg hu hd hi, Result.andThen]
/-- Two results, the second one in memory. -/
theorem results_tc {P : Program} {fn : Func} {t p : Tmp} {ty : TypeId} (h : fn.results = #[.tmp t, .cell p ty]) (tmps : Array Value) (w : World) (g : Nat) (tt : TypeId) (cs : Array Value) (fr : Nat × Nat) (d : TypeDesc)
    (hp : tmps.getD p undef = .pointer (some ⟨g, 0, none⟩)) (hg : w.heap[g]? = some (.cells cs tt fr))
    (hu : P.underlying ty = some d) (hd : (match d with | .struct _ | .array _ _ => true | _ => false) = true) (hi : (P.info? ty).map (·.size) = some cs.size) :
    (results fn tmps).run P w = .ok (.tuple #[tmps.getD t undef, .agg cs]) w := by
  have hp' : tmps[p]?.getD undef = .pointer (some ⟨g, 0, none⟩) := by simpa using hp
  simp only [results, h]
  simp [hp', asAddr, run_loadVar_row w g tt ty cs fr d hg hu hd hi, Result.andThen]
end Go.Proofs.YtgllddebodfhkaaGreatDoor
namespace Go.Proofs.YtgllddebodfhkaaGreatDoor
open Go.RowKit Go.Sort Go.Proofs

/-- What ReplayOf leaves. -/
def RReplAt (n : Nat) (r : BkV ⊕ (Nat × Nat)) (e : Ending) (w' : World) : Prop :=
  match r with
  | .inr f => e = .returned (.tuple #[.pointer none, .agg #[.int .i64 (f.1 : Nat), .int .i64 (f.2 : Nat)]])
  | .inl B => ∃ q G R, e = .returned (.tuple #[.pointer (some ⟨q, 0, none⟩), .agg #[.int .i64 0, .int .i64 (-1)]]) ∧ MBk w' q G R B ∧ (∀ k ∈ G, n ≤ k) ∧ ∀ k ∈ R, n ≤ k

set_option maxHeartbeats 3200000 in
set_option maxRecDepth 100000 in
theorem replayOf_any (A : Option Addr) (cap : Nat) (l : List EntV) (w : World) (hrow : RowAt encEnt 14 w A l) (hl : l.length ≤ 1000) (hs : ∀ x ∈ l, ShortE x) :
    Calls Tryz.prog 30 #[.slice A l.length cap] w fun e w' => RReplAt w.heap.size (repl bk0 l 0) e w' ∧ Below w.heap.size w w' := by
  have HR := Lib.hid (fun W (h : Below w.heap.size w W) => hrow.below h)
  have HSH := Lib.hid hs
  have HST := Lib.hid (fun B k h => repl_step B l k h)
  obtain ⟨r, hr⟩ : ∃ r, r = repl bk0 l 0 := ⟨_, rfl⟩
  have HR0 := Lib.hid hr
  rw [← hr]
  obtain ⟨N, hN⟩ : ∃ N, N = l.length := ⟨_, rfl⟩
  have HN := Lib.hid hN
  rw [← hN] at hl ⊢
  have h0' : ((w.alloc (.cells #[.int .i64 0, .int .i64 0] 65)).alloc (.cells #[.slice none 0 0, .slice none 0 0, .slice none 0 0] 96)).heap[w.heap.size]? = some (.cells #[.int .i64 0, .int .i64 0] 65 (0, 0)) := ((below_one (w.alloc (.cells #[.int .i64 0, .int .i64 0] 65)) _).block w.heap.size (by simp)).trans (heap_alloc_new w _)
  have h1 := heap_new2 w (.cells #[.int .i64 0, .int .i64 0] 65) (.cells #[.slice none 0 0, .slice none 0 0, .slice none 0 0] 96)
  have b0 := below_two w (.cells #[.int .i64 0, .int .i64 0] 65) (.cells #[.slice none 0 0, .slice none 0 0, .slice none 0 0] 96)
  have B0 := Lib.hid b0
  have HO0 := Lib.hid h0'
  have HM0 := Lib.hid (MBk.nil h1)
  clear hrow hs hN hr h0' h1 b0
  go_enter Tryz.func30, Tryz.ntmps30
  go_upto_region 2 with fail
  generalize (w.alloc (.cells #[.int .i64 0, .int .i64 0] 65)).alloc (.cells #[.slice none 0 0, .slice none 0 0, .slice none 0 0] 96) = W0 at B0 HO0 HM0 ⊢
  go_wp2_with fail
  go_loopw [5] (fun i wr => ∃ (k : Nat) (Bk : BkV), k ≤ N ∧ i = .int .i64 k ∧ Hid (r = repl Bk (l.drop k) k) ∧ Hid (BkI Bk) ∧ Hid (∃ G R, MBk wr (w.heap.size + 1) G R Bk ∧ (∀ j ∈ G, w.heap.size + 1 ≤ j) ∧ ∀ j ∈ R, w.heap.size + 1 ≤ j) ∧ Hid (wr.heap[w.heap.size]? = some (.cells #[.int .i64 0, .int .i64 0] 65 (0, 0))) ∧ Hid (Below w.heap.size w wr)) (fun i _ => N - (intOf i).toNat)
  case atStart => exact ⟨0, bk0, by omega, rfl, HR0.out, BkI.nil, ⟨_, _, HM0.out, fun j hj => by simp only [List.mem_singleton] at hj; omega, fun j hj => by simp at hj⟩, HO0.out, B0.out⟩
  case round =>
    obtain ⟨k, Bk, hk, rfl, HRK, HBI, HBL, HO, HB⟩ := hrel
    by_cases hkN : k < N
    · have hkx : k < l.length := by rw [← HN.out]; exact hkN
      obtain ⟨G, R, hbk, hG, hR⟩ := HBL.out
      obtain ⟨g, o, rfl, lg, cg⟩ := HR.out wr HB.out |>.resolve_left (fun h => by rw [h] at hkx; simp at hkx)
      obtain ⟨x, hx⟩ : ∃ x, x = l[k] := ⟨_, rfl⟩
      have hlies : Lies wr g (o + k * 14) (encEnt x) := fun j v hv => cg k hkx j v (by rw [← hx]; exact hv)
      have hsx := HSH.out x (by rw [hx]; exact List.getElem_mem hkx)
      have hst := HST.out Bk k hkx
      rw [← hx] at hst
      have HRK1 := Lib.hid (HRK.out.trans hst)
      have HD := Lib.hid (refDo_any x hbk HBI.out hsx)
      have HBN := Lib.hid (HBI.out.do_ x)
      have HL := Lib.hid hlies
      have HGG := Lib.hid (And.intro hG hR)
      have h14 : (encEnt x).length = 14 := rfl
      have hk0 : (0 : Int) ≤ (k : Nat) := by omega
      have hk1 : ((k : Nat) : Int) < (N : Nat) := by omega
      clear hx cg hlies hbk hG hR hst HBL HRK hsx
      generalize doE Bk x = de at HRK1 HD
      generalize doB Bk x = Bn at HRK1 HD HBN
      generalize encEnt x = LX at HL HD h14
      go_wp2_with (refine wpList_load_at rfl 49 _ rfl g (o + k * 14) rfl LX HL.out _ Tryz.underlying49 rfl (by rw [h14]; kernel_rfl) ?_)
      refine HD.out.mono ?_
      rintro e w6 ⟨rfl, ⟨G6, R6, hm6, hg6, hr6⟩, bf6⟩
      have B6 := Lib.hid (HB.out.trans (bf6.below HB.out.size (fun i hi => by have := HGG.out.1 i hi; omega)))
      have HO6 := Lib.hid ((bf6.block _ (row_lt HO.out) (fun h => by have := HGG.out.1 _ h; omega)).trans HO.out)
      have hltO := row_lt HO.out
      have HM6 := Lib.hid hm6
      have HG6 : Hid ((∀ j ∈ G6, w.heap.size + 1 ≤ j) ∧ ∀ j ∈ R6, w.heap.size + 1 ≤ j) := by
        refine ⟨fun j hj => ?_, fun j hj => ?_⟩
        · rcases hg6 j hj with h | h
          · exact HGG.out.1 j h
          · omega
        · rcases hr6 j hj with h | h
          · exact HGG.out.2 j h
          · omega
      clear hm6 hg6 hr6 bf6 HD HGG HL HO HB
      by_cases h0 : de = 0
      · have hdi : ((de : Nat) : Int) = 0 := by omega
        have HRK2 := Lib.hid (HRK1.out.trans (if_neg (by simpa using h0)))
        rw [hdi]
        clear HRK1 h0 hdi
        go_wp2_with fail
        go_roundw
        case rel => exact ⟨k + 1, Bn, by omega, by go_num, HRK2.out, HBN.out, ⟨G6, R6, HM6.out, HG6.out⟩, HO6.out, B6.out⟩
        case measure => simp [intOf]; omega
      · have HRK2 := Lib.hid (HRK1.out.trans (if_pos h0))
        have hpos : (0 : Int) < ((de : Nat) : Int) := by omega
        clear HRK1
        go_wp2_with (refine wpList_store_box rfl 65 _ _ rfl w.heap.size [.int .i64 (de : Nat), .int .i64 (k : Nat)] rfl rfl 65 [.int .i64 0, .int .i64 0] HO6.out (by kernel_rfl) rfl (by simp [Value.oneCell']) ?_; intro wf hf tf)
        (try simp only [Exit.inBlock, Exit.then])
        refine bodyPost_ret (results_tc rfl _ _ w.heap.size 65 #[.int .i64 (de : Nat), .int .i64 (k : Nat)] (0, 0) _ rfl hf Tryz.underlying65 rfl (by kernel_rfl)) rfl ?_
        rw [HRK2.out]
        exact ⟨rfl, B6.out.trans (tf.below (Nat.le_refl _))⟩
    · obtain rfl : k = N := by omega
      have HRK1 : Hid (r = .inl Bk) := by
        show _ = _
        rw [HRK.out, HN.out, List.drop_length]
        rfl
      obtain ⟨G, R, hbk, hG, hR⟩ := HBL.out
      have HM := Lib.hid hbk
      have HGG := Lib.hid (And.intro hG hR)
      clear hbk hG hR HBL HRK
      go_wp2_with fail
      refine (fine_any _).mono ?_
      rintro e w8 ⟨rfl, b8⟩
      have B8 := Lib.hid (HB.out.trans (b8.mono HB.out.size))
      have HO8 := Lib.hid ((b8.block _ (row_lt HO.out)).trans HO.out)
      have HM8 := Lib.hid (HM.out.below b8)
      clear b8
      go_wp2_with (refine wpList_store_box rfl 65 _ _ rfl w.heap.size [.int .i64 0, .int .i64 (-1)] rfl rfl 65 [.int .i64 0, .int .i64 0] HO8.out (by kernel_rfl) rfl (by simp [Value.oneCell']) ?_; intro wf hf tf)
      (try simp only [Exit.inBlock, Exit.then])
      refine bodyPost_ret (results_tc rfl _ _ w.heap.size 65 #[.int .i64 0, .int .i64 (-1)] (0, 0) _ rfl hf Tryz.underlying65 rfl (by kernel_rfl)) rfl ?_
      rw [HRK1.out]
      exact ⟨⟨_, G, R, rfl, HM8.out.butF (ButF.of_turned (F := [w.heap.size]) tf (.inl (by simp))) (fun j hj hm => by simp only [List.mem_singleton] at hm; have := HGG.out.1 j hj; omega) (fun j hj hm => by simp only [List.mem_singleton] at hm; have := HGG.out.2 j hj; omega), fun j hj => by have := HGG.out.1 j hj; omega, fun j hj => by have := HGG.out.2 j hj; omega⟩, B8.out.trans (tf.below (Nat.le_refl _))⟩
end Go.Proofs.YtgllddebodfhkaaGreatDoor
namespace Go.Proofs.YtgllddebodfhkaaGreatDoor
open Go.RowKit

set_option maxHeartbeats 800000 in
theorem faulted2_of (v : Value) (c n : Int) (w : World) (HC : Hid (∀ W, Below w.heap.size w W → Calls Tryz.prog 69 #[v] W fun e w' => e = .returned (.tuple #[.int .i64 c, .int .i64 n]) ∧ Below W.heap.size W w')) :
    Calls Tryz.prog 31 #[v, .agg #[.int .i64 c, .int .i64 n]] w fun e w' => e = .returned (.bool true) ∧ Below w.heap.size w w' := by
  have b0 := below_one w (.cells #[.int .i64 c, .int .i64 n] 65)
  have hx := heap_alloc_new w (.cells #[.int .i64 c, .int .i64 n] 65)
  by_cases hc0 : c = 0
  · subst hc0
    go_enter Tryz.func31, Tryz.ntmps31
    go_wp2_with fail
    refine (HC.out _ b0).mono ?_
    rintro e w1 ⟨rfl, b1⟩
    have hx1 := (b1.block _ (row_lt hx)).trans hx
    have c0 : w1.cell? ⟨w.heap.size, 0, none⟩ = some (.int .i64 0) := cell_of_row _ _ _ _ _ _ hx1
    have B1 := Lib.hid (b0.trans (b1.mono b0.size))
    clear b1 b0 hx hx1
    go_wp2
    go_ret
    exact ⟨rfl, B1.out⟩
  · have hcb : (c == 0) = false := by simpa using hc0
    go_enter Tryz.func31, Tryz.ntmps31
    go_wp2_with fail
    refine (HC.out _ b0).mono ?_
    rintro e w1 ⟨rfl, b1⟩
    have hx1 := (b1.block _ (row_lt hx)).trans hx
    have c0 : w1.cell? ⟨w.heap.size, 0, none⟩ = some (.int .i64 c) := cell_of_row _ _ _ _ _ _ hx1
    have c1 : w1.cell? ⟨w.heap.size, 1, none⟩ = some (.int .i64 n) := cell_of_row _ _ _ _ _ _ hx1
    have B1 := Lib.hid (b0.trans (b1.mono b0.size))
    clear b1 b0 hx hx1
    go_wp2
    go_ret
    exact ⟨rfl, B1.out⟩
/-- An error with a place, or none; an error without one. -/
theorem faulted2_some (E : Nat → Addr) (k i : Nat) (h2 : k ≤ 12) (v : Value) (w : World) (hG : ErrG E w) (hf : FltAt E (some (k, i)) v w) :
    Calls Tryz.prog 31 #[v, .agg #[.int .i64 (k : Nat), .int .i64 (i : Nat)]] w fun e w' => e = .returned (.bool true) ∧ Below w.heap.size w w' := by
  obtain ⟨h0, b, rfl, hb⟩ := hf
  rw [errOf_pos _ _ h0] at hb
  refine faulted2_of _ _ _ w fun W hw => ?_
  have hb' := (hw.block _ (row_lt hb)).trans hb
  have h := code_hit E ⟨b, 0, none⟩ (i : Nat) k W (hG.below hw) h2 (cell_of_row _ _ 0 _ _ _ hb') (isK_fault E b 0 k (by omega) h2 W (hG.below hw) (cell_of_row _ _ 1 _ _ _ hb'))
  rwa [show codeOf k = (k : Int) by unfold codeOf; rw [if_neg (by omega)]] at h
theorem faulted2_fine (w : World) : Calls Tryz.prog 31 #[.nilIface, .agg #[.int .i64 0, .int .i64 (-1)]] w fun e w' => e = .returned (.bool true) ∧ Below w.heap.size w w' :=
  faulted2_of _ _ _ w fun W hw => (code_nil W).mono fun e w' ⟨he, h⟩ => by
    subst he
    subst h
    exact ⟨rfl, Below.refl _ _⟩
theorem faulted2_sent (E : Nat → Addr) (c : Nat) (h1 : 1 ≤ c) (h2 : c ≤ 12) (w : World) (hG : ErrG E w) :
    Calls Tryz.prog 31 #[errOf E c, .agg #[.int .i64 (c : Nat), .int .i64 (-1)]] w fun e w' => e = .returned (.bool true) ∧ Below w.heap.size w w' := by
  rw [errOf_pos _ _ (by omega)]
  exact faulted2_of _ _ _ w fun W hb => code_sent E c h1 h2 W (hG.below hb)
end Go.Proofs.YtgllddebodfhkaaGreatDoor
namespace Go.Proofs.YtgllddebodfhkaaGreatDoor
open Go.RowKit Go.Sort Go.Proofs

theorem repl_err : ∀ (l : List EntV) (B : BkV) (n : Nat) {k i : Nat}, repl B l n = .inr (k, i) → k ≠ 0 ∧ k ≤ 12
  | [], B, n, k, i, h => by
    unfold repl at h
    cases h
  | x :: r, B, n, k, i, h => by
    unfold repl at h
    split at h
    · rename_i h0
      simp only [Sum.inr.injEq, Prod.mk.injEq] at h
      obtain ⟨rfl, -⟩ := h
      exact ⟨h0, doE_tw B x⟩
    · exact repl_err r _ _ h
theorem FltAt.later {E : Nat → Addr} {r : Option (Nat × Nat)} {v : Value} {w w' : World} (h : FltAt E r v w) (hb : Below w.heap.size w w') : FltAt E r v w' := by
  cases r with
  | none => exact h
  | some f =>
    obtain ⟨h0, b, h1, h2⟩ := h
    exact ⟨h0, b, h1, (hb.block _ (row_lt h2)).trans h2⟩
/-- What holds of goods that are not there. -/
theorem BkI.no_goods {B : BkV} (hI : BkI B) {c : List UInt8} (h : fG B c = none) : hasOf B c = 0 ∧ sumsOf B c = zeroSums ∧ lotsB B c = [] := by
  have hf : (B.2.1.filter fun x : LoH => decide (x.1.2.1 = c)) = [] := by
    rw [List.filter_eq_nil_iff]
    intro y hy hc
    have := (hI.lok y hy).2.2
    rw [show y.1.2.1 = c by simpa using hc, h] at this
    cases this
  refine ⟨?_, ?_, ?_⟩
  · unfold hasOf
    rw [hf]
    rfl
  · unfold sumsOf
    rw [h]
  · unfold lotsB
    rw [hf]
    rfl

set_option maxHeartbeats 1600000 in
set_option maxRecDepth 100000 in
theorem bookDoes_out (E : Nat → Addr) (A0 : Option Addr) (cap0 : Nat) (xs0 : List EntV) (code id : List UInt8) (w : World) (hG : BkG E w) (hX0 : RowAt encEnt 14 w A0 xs0) (h : longL xs0 50 = 1 ∨ (longL xs0 50 = 0 ∧ 30 < code.length) ∨ (longL xs0 50 = 0 ∧ code.length ≤ 30 ∧ 30 < id.length)) :
    Calls Tryz.prog 4 #[.slice A0 xs0.length cap0, .string ⟨code.toArray⟩, .string ⟨id.toArray⟩] w fun e w' => e = .returned (.bool true) ∧ Below w.heap.size w w' := by
  have HC := Lib.hid (started_any E w hG)
  have HL := Lib.hid (fun W (hb : Below w.heap.size w W) => longEntries_any A0 cap0 xs0 50 W (by decide) (hX0.below hb))
  clear hG hX0
  rcases h with h | ⟨h, hc⟩ | ⟨h, hc, hi⟩
  · rw [h] at HL
    clear h
    go_enter Tryz.func4, Tryz.ntmps4
    go_wp2_with fail
    refine HC.out.mono ?_
    rintro e w1 ⟨rfl, b1⟩
    have B1 := Lib.hid b1
    clear b1
    go_wp2_with fail
    refine (HL.out w1 B1.out).mono ?_
    rintro e w2 ⟨rfl, b2⟩
    have B2 := Lib.hid (B1.out.trans (b2.mono B1.out.size))
    clear b2
    go_wp2_with fail
    go_ret
    exact ⟨rfl, B2.out⟩
  · rw [h] at HL
    have hc1 : (30 : Int) < (code.length : Nat) := by omega
    clear h
    go_enter Tryz.func4, Tryz.ntmps4
    go_wp2_with fail
    refine HC.out.mono ?_
    rintro e w1 ⟨rfl, b1⟩
    have B1 := Lib.hid b1
    clear b1
    go_wp2_with fail
    refine (HL.out w1 B1.out).mono ?_
    rintro e w2 ⟨rfl, b2⟩
    have B2 := Lib.hid (B1.out.trans (b2.mono B1.out.size))
    clear b2
    go_wp2_with fail
    go_ret
    exact ⟨rfl, B2.out⟩
  · rw [h] at HL
    have hc1 : ¬ (30 : Int) < (code.length : Nat) := by omega
    have hi1 : (30 : Int) < (id.length : Nat) := by omega
    clear h
    go_enter Tryz.func4, Tryz.ntmps4
    go_wp2_with fail
    refine HC.out.mono ?_
    rintro e w1 ⟨rfl, b1⟩
    have B1 := Lib.hid b1
    clear b1
    go_wp2_with fail
    refine (HL.out w1 B1.out).mono ?_
    rintro e w2 ⟨rfl, b2⟩
    have B2 := Lib.hid (B1.out.trans (b2.mono B1.out.size))
    clear b2
    go_wp2_with fail
    go_ret
    exact ⟨rfl, B2.out⟩
set_option maxHeartbeats 6400000 in
set_option maxRecDepth 100000 in
theorem bookDoes_in (E : Nat → Addr) (A0 : Option Addr) (cap0 : Nat) (xs0 : List EntV) (code id : List UInt8) (w : World) (hG : BkTxG E w) (hE : ErrG E w) (hX0 : RowAt encEnt 14 w A0 xs0) (h : longL xs0 50 = 0) (hc : code.length ≤ 30) (hi : id.length ≤ 30) :
    Calls Tryz.prog 4 #[.slice A0 xs0.length cap0, .string ⟨code.toArray⟩, .string ⟨id.toArray⟩] w fun e w' => e = .returned (.bool true) ∧ Below w.heap.size w w' := by
  have HC := Lib.hid (started_any E w hG.bk)
  have HL := Lib.hid (fun W (hb : Below w.heap.size w W) => longEntries_any A0 cap0 xs0 50 W (by decide) (hX0.below hb))
  rw [h] at HL
  obtain ⟨s1, s2⟩ := longL_short h
  have hsh : ∀ x ∈ xs0, ShortE x := fun x hx => longN_ShortE (s2 x hx)
  have HBO := Lib.hid (fun W (hb : Below w.heap.size w W) => bookOf_any E A0 cap0 xs0 W (hX0.below hb) (by omega) hsh (hG.bk.below hb) (hE.below hb))
  have H1 := Lib.hid (fun W (hb : Below w.heap.size w W) => replay_any E A0 cap0 xs0 W (hX0.below hb) (by omega) hsh (hG.bk.below hb))
  have H2 := Lib.hid (fun W (hb : Below w.heap.size w W) => replayOf_any A0 cap0 xs0 W (hX0.below hb) (by omega) hsh)
  have HOK : Hid (∀ C, repl bk0 xs0 0 = .inl C → C = doAll bk0 xs0) := fun C hr => repl_ok xs0 hr
  have HER : Hid (∀ k i, repl bk0 xs0 0 = .inr (k, i) → k ≠ 0 ∧ k ≤ 12) := fun k i hr => repl_err xs0 bk0 0 hr
  have hI := BkI.all BkI.nil xs0
  generalize doAll bk0 xs0 = B at HBO HOK hI
  generalize repl bk0 xs0 0 = r at H1 H2 HOK HER
  have HAB := Lib.hid (fun p q F G R W (hb : Below w.heap.size w W) (H : BookIs W p F B) (M : MBk W q G R B) => asBook_any E H M hI (hG.below hb).text)
  have HSM : Hid (∀ p p2 F F2 W, Below w.heap.size w W → BookIs W p F B → BookIs W p2 F2 B → Calls Tryz.prog 32 #[.pointer (some ⟨p, 0, none⟩), .pointer (some ⟨p2, 0, none⟩)] W fun e w' => e = .returned (.bool true) ∧ Below W.heap.size W w') := fun p p2 F F2 W hb H K => by
    exact sameOf_any E H K hI (hG.below hb).text
  have HE := Lib.hid (fun W (hb : Below w.heap.size w W) => hE.below hb)
  have HLT := Lib.hid (fun p F W (H : BookIs W p F B) => lotBk_any H id)
  have HFL := Lib.hid (fun q G R W (H : MBk W q G R B) => refFindL H hI id)
  have HFG := Lib.hid (fun q G R W (H : MBk W q G R B) => refFindG H hI code)
  have HHE := Lib.hid (fun p F W (H : BookIs W p F B) => heldBk_any H id)
  have HHA := Lib.hid (fun p F W (H : BookIs W p F B) => hasBk_any H hI code (hI.has_any code))
  have HSU := Lib.hid (fun p F W (H : BookIs W p F B) => sumsBk_any H code)
  have HLO := Lib.hid (fun p F W (H : BookIs W p F B) => lotsBk_any H hI code)
  have HNG := Lib.hid (fun hf : fG B code = none => hI.no_goods hf)
  have HIL := Lib.hid (idxL B id)
  have HIG := Lib.hid (idxG B code)
  have hc1 : ¬ (30 : Int) < (code.length : Nat) := by omega
  have hi1 : ¬ (30 : Int) < (id.length : Nat) := by omega
  clear hG hE hX0 h s1 s2 hsh hI hc hi
  go_enter Tryz.func4, Tryz.ntmps4
  go_wp2_with fail
  refine HC.out.mono ?_
  rintro e w1 ⟨rfl, b1⟩
  have B1 := Lib.hid b1
  clear b1 HC
  go_wp2_with fail
  refine (HL.out w1 B1.out).mono ?_
  rintro e w2 ⟨rfl, b2⟩
  have B2 := Lib.hid (B1.out.trans (b2.mono B1.out.size))
  clear b2 HL B1
  go_wp2_with fail
  refine (HBO.out w2 B2.out).mono ?_
  rintro e w3 ⟨p, q, rfl, hbo, b3⟩
  have B3 := Lib.hid (B2.out.trans (b3.mono B2.out.size))
  obtain ⟨F, G, R, hbk, hmk, -, -, -⟩ := hbo
  have HBK := Lib.hid (fun W (h : Below w3.heap.size w3 W) => hbk.below h)
  have HMK := Lib.hid (fun W (h : Below w3.heap.size w3 W) => hmk.below h)
  clear b3 HBO B2 hbk hmk hc1 hi1
  /- the book, and its copy, are as the model -/
  go_wp2_with fail
  refine (HAB.out p q F G R w3 B3.out (HBK.out w3 (Below.refl _ _)) (HMK.out w3 (Below.refl _ _))).mono ?_
  rintro e w4 ⟨rfl, b4⟩
  have K4 := Lib.hid b4
  have B4 := Lib.hid (B3.out.trans (b4.mono B3.out.size))
  clear b4
  go_wp2_with fail
  refine (copyBook_any (HBK.out w4 K4.out)).mono ?_
  rintro e w5 ⟨p5, F5, rfl, hc5, -, b5⟩
  have K5 := Lib.hid (K4.out.trans (b5.mono K4.out.size))
  have B5 := Lib.hid (B4.out.trans (b5.mono B4.out.size))
  have HC5 := Lib.hid hc5
  clear b5 hc5 K4 B4
  go_wp2_with fail
  refine (HAB.out p5 q F5 G R w5 B5.out HC5.out (HMK.out w5 K5.out)).mono ?_
  rintro e w6 ⟨rfl, b6⟩
  have K6 := Lib.hid (K5.out.trans (b6.mono K5.out.size))
  have B6 := Lib.hid (B5.out.trans (b6.mono B5.out.size))
  clear b6 HC5 K5 B5
  /- a lot -/
  go_wp2_with fail
  refine (HLT.out p F w6 (HBK.out w6 K6.out)).mono ?_
  rintro e w7 ⟨rfl, b7⟩
  have K7 := Lib.hid (K6.out.trans (b7.mono K6.out.size))
  have B7 := Lib.hid (B6.out.trans (b7.mono B6.out.size))
  obtain ⟨l1, l2, l3, l4, hl⟩ : ∃ l1 l2 l3 l4, encLot ((lotsF B id).getD zeroLot) = [.string l1, .string l2, .int .i64 l3, .int .i64 l4] := ⟨_, _, _, _, rfl⟩
  have HLZ : Hid (fL B id = none → l1 = ⟨#[]⟩ ∧ l2 = ⟨#[]⟩ ∧ l3 = 0 ∧ l4 = 0) := fun hf => by
    have h0 : lotsF B id = none := by unfold lotsF; rw [hf]; rfl
    rw [h0] at hl
    have h1 : ([.string ⟨#[]⟩, .string ⟨#[]⟩, .int .i64 0, .int .i64 0] : List Value) = [.string l1, .string l2, .int .i64 l3, .int .i64 l4] := hl
    simp only [List.cons.injEq, Value.string.injEq, Value.int.injEq, and_true, true_and] at h1
    exact ⟨h1.1.symm, h1.2.1.symm, h1.2.2.1.symm, h1.2.2.2.symm⟩
  rw [hl]
  have ba := below_one w7 (.cells #[.string l1, .string l2, .int .i64 l3, .int .i64 l4] 47)
  have hx := heap_alloc_new w7 (.cells #[.string l1, .string l2, .int .i64 l3, .int .i64 l4] 47)
  have K8 := Lib.hid (K7.out.trans (ba.mono K7.out.size))
  have B8 := Lib.hid (B7.out.trans (ba.mono B7.out.size))
  have HX8 := Lib.hid hx
  have HIS : Hid ((lotsF B id).isSome = (fL B id).isSome) := by show _ = _; unfold lotsF; rw [Option.isSome_map]
  rw [HIS.out]
  clear b7 ba hx hl K6 B6 K7 B7 HLT HIS
  go_upto_region 8 with fail
  generalize w7.alloc (.cells #[.string l1, .string l2, .int .i64 l3, .int .i64 l4] 47) = w8 at HX8 K8 B8 ⊢
  go_wp2_with fail
  refine (HFL.out q G R w8 (HMK.out w8 K8.out)).mono ?_
  rintro e w9 ⟨rfl, b9⟩
  have K9 := Lib.hid (K8.out.trans (b9.mono K8.out.size))
  have B9 := Lib.hid (B8.out.trans (b9.mono B8.out.size))
  have hx9 := (b9.block _ (row_lt HX8.out)).trans HX8.out
  clear b9 HX8 K8 B8 HFL
  obtain ⟨n13, hn⟩ : ∃ n, n = idxK (fun x : LoH => x.1.1) B.2.1 id := ⟨_, rfl⟩
  obtain ⟨b12, hb⟩ : ∃ b, b = (fL B id).isSome := ⟨_, rfl⟩
  rw [← hn, ← hb]
  have HN13 := Lib.hid hn
  have HB12 := Lib.hid hb
  clear hn hb
  go_upto_region 9 with fail
  go_cut [89] from 67 to 89 (fun s wx => s = .bool false ∧ Below w9.heap.size w9 wx)
  case first =>
    rcases HIL.out with ⟨hf, hi⟩ | ⟨i, hi, hf, hj, -⟩
    · obtain ⟨rfl, rfl, rfl, rfl⟩ := HLZ.out hf
      have e13 := HN13.out
      have e12 := HB12.out
      rw [hi] at e13
      rw [hf, Option.isSome_none] at e12
      subst e13 e12
      have h0 : heldOf B id = 0 := by unfold heldOf; rw [hf]
      have hh := HHE.out p F w9 (HBK.out w9 K9.out)
      rw [h0] at hh
      have HH := Lib.hid hh
      have hneq : ∀ W, (binOp .neq 47 (.agg #[.string ⟨#[]⟩, .string ⟨#[]⟩, .int .i64 0, .int .i64 0]) (.agg #[.string ⟨#[]⟩, .string ⟨#[]⟩, .int .i64 0, .int .i64 0])).run Tryz.prog W = .ok (.bool false) W := fun W => neqLotV zeroLot zeroLot W
      have d0 : w9.cell? ⟨w7.heap.size, 0, none⟩ = some (.string ⟨#[]⟩) := cell_of_row _ _ 0 _ _ _ hx9
      have d1 : w9.cell? ⟨w7.heap.size, 1, none⟩ = some (.string ⟨#[]⟩) := cell_of_row _ _ 1 _ _ _ hx9
      have d2 : w9.cell? ⟨w7.heap.size, 2, none⟩ = some (.int .i64 0) := cell_of_row _ _ 2 _ _ _ hx9
      have d3 : w9.cell? ⟨w7.heap.size, 3, none⟩ = some (.int .i64 0) := cell_of_row _ _ 3 _ _ _ hx9
      clear hf hi h0 hh HLZ HN13 HB12
      go_wp2_with fail
      refine HH.out.mono ?_
      rintro e w10 ⟨rfl, rfl⟩
      go_wp2_with fail
      go_meet
      exact ⟨rfl, Below.refl _ _⟩
    · obtain ⟨z, hz⟩ : ∃ z, z = B.2.1[i] := ⟨_, rfl⟩
      rw [← hz] at hf
      have e13 := HN13.out
      have e12 := HB12.out
      rw [hj] at e13
      rw [hf, Option.isSome_some] at e12
      subst e13 e12
      have hi0 : (0 : Int) ≤ (i : Nat) := by omega
      have hi1 : ¬ ((i : Nat) : Int) < 0 := by omega
      clear HLZ hf hj hi hz HN13 HB12
      go_wp2_with fail
      go_meet
      exact ⟨rfl, Below.refl _ _⟩
  case rest =>
    obtain ⟨rfl, b10⟩ := hcut
    have K10 := Lib.hid (K9.out.trans (b10.mono K9.out.size))
    have B10 := Lib.hid (B9.out.trans (b10.mono B9.out.size))
    clear b10 hx9 K9 B9 HLZ HIL HHE HN13 HB12
    /- goods -/
    go_upto_region 11 with fail
    go_cut [113] from 90 to 113 (fun s wy => s = .bool false ∧ Below w3.heap.size w3 wy)
    case first =>
      go_wp2_with fail
      refine (HFG.out q G R _ (HMK.out _ K10.out)).mono ?_
      rintro e w11 ⟨rfl, b11⟩
      have K11 := Lib.hid (K10.out.trans (b11.mono K10.out.size))
      clear b11 K10
      rcases HIG.out with ⟨hf, hi⟩ | ⟨i, hi, hf, hj, -⟩
      · rw [hi]
        obtain ⟨h1, h2, h3⟩ := HNG.out hf
        have hh := HHA.out p F w11 (HBK.out w11 K11.out)
        rw [h1] at hh
        have HH := Lib.hid hh
        have hs := fun W => HSU.out p F W
        rw [h2] at hs
        have HS := Lib.hid hs
        have hl := fun W => HLO.out p F W
        rw [h3] at hl
        have HL := Lib.hid hl
        have hneq : ∀ W, (binOp .neq 60 (.agg #[.int .i64 0, .int .i64 0, .int .i64 0, .int .i64 0]) (.agg #[.int .i64 0, .int .i64 0, .int .i64 0, .int .i64 0])).run Tryz.prog W = .ok (.bool false) W := fun W => neqSums zeroSums zeroSums W
        clear hf hi h1 h2 h3 hh hs hl HHA HSU HLO HFG HNG
        go_wp2_with fail
        refine HH.out.mono ?_
        rintro e w12 ⟨rfl, b12⟩
        have K12 := Lib.hid (K11.out.trans (b12.mono K11.out.size))
        clear b12
        go_wp2_with fail
        refine (HS.out w12 (HBK.out w12 K12.out)).mono ?_
        rintro e w13 ⟨rfl, b13⟩
        have K13 := Lib.hid (K12.out.trans (b13.mono K12.out.size))
        clear b13
        rw [show (Value.agg (encSums zeroSums).toArray) = .agg #[.int .i64 0, .int .i64 0, .int .i64 0, .int .i64 0] from rfl]
        go_wp2_with fail
        refine (HL.out w13 (HBK.out w13 K13.out)).mono ?_
        rintro e w14 ⟨A14, c14, rfl, -, -, b14⟩
        have K14 := Lib.hid (K13.out.trans (b14.mono K13.out.size))
        clear b14
        rw [List.length_nil]
        go_wp2_with fail
        go_meet
        exact ⟨rfl, K14.out⟩
      · rw [hj]
        have hi0 : ¬ ((i : Nat) : Int) < 0 := by omega
        clear hj hf hi
        go_wp2_with fail
        go_meet
        exact ⟨rfl, K11.out⟩
    case rest =>
      obtain ⟨rfl, k14⟩ := hcut
      have K14 := Lib.hid k14
      have B14 := Lib.hid (B3.out.trans (k14.mono B3.out.size))
      clear k14 K10 B10 HIG HFG HHA HSU HLO HNG
      /- anew -/
      go_wp2_with fail
      refine (H1.out _ B14.out).mono ?_
      rintro e w15 ⟨h1, b15⟩
      have K15 := Lib.hid (K14.out.trans (b15.mono K14.out.size))
      have B15 := Lib.hid (B14.out.trans (b15.mono B14.out.size))
      clear b15 K14 B14 H1
      cases r with
      | inr f =>
        obtain ⟨k, i⟩ := f
        obtain ⟨h0, h12⟩ := HER.out k i rfl
        obtain ⟨v, rfl, hv⟩ := h1
        have HV := Lib.hid hv
        clear hv HER HOK HAB HSM
        go_wp2_with fail
        refine (H2.out w15 B15.out).mono ?_
        rintro e w16 ⟨h2, b16⟩
        have B16 := Lib.hid (B15.out.trans (b16.mono B15.out.size))
        have h2' : e = .returned (.tuple #[.pointer none, .agg #[.int .i64 (k : Nat), .int .i64 (i : Nat)]]) := h2
        subst h2'
        have hba := below_one w16 (.cells #[.int .i64 (k : Nat), .int .i64 (i : Nat)] 65)
        have hx := heap_alloc_new w16 (.cells #[.int .i64 (k : Nat), .int .i64 (i : Nat)] 65)
        have HV17 := Lib.hid ((HV.out.later b16).later hba)
        have B17 := Lib.hid (B16.out.trans (hba.mono B16.out.size))
        have HF := Lib.hid (faulted2_some E k i h12 v _ (HE.out _ B17.out) HV17.out)
        have hpos : (0 : Int) < ((k : Nat) : Int) := by omega
        clear b16 h2 H2 HV hba
        go_wp2_with (refine wpList_load_at rfl 65 _ rfl w16.heap.size 0 rfl [.int .i64 (k : Nat), .int .i64 (i : Nat)] (Lies.row _ hx) _ Tryz.underlying65 rfl (by kernel_rfl) ?_)
        refine HF.out.mono ?_
        rintro e w18 ⟨rfl, b18⟩
        have B18 := Lib.hid (B17.out.trans (b18.mono B17.out.size))
        clear b18
        go_wp2_with fail
        go_ret
        exact ⟨rfl, B18.out⟩
      | inl C =>
        obtain rfl : C = B := HOK.out C rfl
        obtain ⟨p5, F5, rfl, hbk5, -⟩ := h1
        have HB5 := Lib.hid hbk5
        clear hbk5 HER HOK
        go_wp2_with fail
        refine (H2.out w15 B15.out).mono ?_
        rintro e w16 ⟨h2, b16⟩
        have K16 := Lib.hid (K15.out.trans (b16.mono K15.out.size))
        have B16 := Lib.hid (B15.out.trans (b16.mono B15.out.size))
        obtain ⟨q6, G6, R6, rfl, hmk6, -, -⟩ := h2
        have hba := below_one w16 (.cells #[.int .i64 0, .int .i64 (-1)] 65)
        have hx := heap_alloc_new w16 (.cells #[.int .i64 0, .int .i64 (-1)] 65)
        have HB17 := Lib.hid ((HB5.out.below b16).below hba)
        have HM17 := Lib.hid (hmk6.below hba)
        have K17 := Lib.hid (K16.out.trans (hba.mono K16.out.size))
        have B17 := Lib.hid (B16.out.trans (hba.mono B16.out.size))
        clear b16 H2 HB5 hba hmk6 K15 B15 K16 B16
        go_upto_region 15 with fail
        generalize w16.alloc (.cells #[.int .i64 0, .int .i64 (-1)] 65) = w17 at HB17 HM17 K17 B17 hx ⊢
        have d0 : w17.cell? ⟨w16.heap.size, 0, none⟩ = some (.int .i64 0) := cell_of_row _ _ 0 _ _ _ hx
        go_wp2_with fail
        refine (HAB.out p5 q6 F5 G6 R6 w17 B17.out HB17.out HM17.out).mono ?_
        rintro e w18 ⟨rfl, b18⟩
        have K18 := Lib.hid (K17.out.trans (b18.mono K17.out.size))
        have B18 := Lib.hid (B17.out.trans (b18.mono B17.out.size))
        have HB18 := Lib.hid (HB17.out.below b18)
        clear b18 HAB HM17 HB17 K17 B17 hx d0
        go_wp2_with fail
        refine (HSM.out p5 p F5 F w18 B18.out HB18.out (HBK.out w18 K18.out)).mono ?_
        rintro e w19 ⟨rfl, b19⟩
        have B19 := Lib.hid (B18.out.trans (b19.mono B18.out.size))
        clear b19
        go_wp2_with fail
        go_ret
        exact ⟨rfl, B19.out⟩

theorem bookDoes_walk (E : Nat → Addr) (A0 : Option Addr) (cap0 : Nat) (xs0 : List EntV) (code id : List UInt8) (w : World) (hG : BkTxG E w) (hE : ErrG E w) (hX0 : RowAt encEnt 14 w A0 xs0) :
    Calls Tryz.prog 4 #[.slice A0 xs0.length cap0, .string ⟨code.toArray⟩, .string ⟨id.toArray⟩] w fun e w' => e = .returned (.bool true) ∧ Below w.heap.size w w' := by
  rcases longL_01 xs0 50 with h | h
  · by_cases hc : code.length ≤ 30
    · by_cases hi : id.length ≤ 30
      · exact bookDoes_in E A0 cap0 xs0 code id w hG hE hX0 h hc hi
      · exact bookDoes_out E A0 cap0 xs0 code id w hG.bk hX0 (.inr (.inr ⟨h, hc, by omega⟩))
    · exact bookDoes_out E A0 cap0 xs0 code id w hG.bk hX0 (.inr (.inl ⟨h, by omega⟩))
  · exact bookDoes_out E A0 cap0 xs0 code id w hG.bk hX0 (.inl h)
theorem bookDoes_walkS (E : Nat → Addr) (A0 : Option Addr) (cap0 : Nat) (xs0 : List EntV) (s t : ByteArray) (w : World) (hG : BkTxG E w) (hE : ErrG E w) (hX0 : RowAt encEnt 14 w A0 xs0) :
    Calls Tryz.prog 4 #[.slice A0 xs0.length cap0, .string s, .string t] w fun e w' => e = .returned (.bool true) ∧ Below w.heap.size w w' := by
  have h := bookDoes_walk E A0 cap0 xs0 s.data.toList t.data.toList w hG hE hX0
  rw [Array.toArray_toList, Array.toArray_toList] at h
  exact h
end Go.Proofs.YtgllddebodfhkaaGreatDoor
namespace Go.Proofs.YtgllddebodfhkaaGreatDoor
open Go.RowKit

/-- The number of a sentinel, by its text. -/
def textNo (l : List UInt8) : Nat :=
  if l = [116, 105, 116, 104, 101, 98, 97, 114, 110, 58, 32, 116, 101, 120, 116] then 1 else
  if l = [116, 105, 116, 104, 101, 98, 97, 114, 110, 58, 32, 98, 111, 117, 110, 100] then 2 else
  if l = [116, 105, 116, 104, 101, 98, 97, 114, 110, 58, 32, 115, 104, 97, 112, 101] then 3 else
  if l = [116, 105, 116, 104, 101, 98, 97, 114, 110, 58, 32, 107, 105, 110, 100] then 4 else
  if l = [116, 105, 116, 104, 101, 98, 97, 114, 110, 58, 32, 110, 97, 109, 101] then 5 else
  if l = [116, 105, 116, 104, 101, 98, 97, 114, 110, 58, 32, 110, 111, 110, 101] then 6 else
  if l = [116, 105, 116, 104, 101, 98, 97, 114, 110, 58, 32, 101, 120, 105, 115, 116] then 7 else
  if l = [116, 105, 116, 104, 101, 98, 97, 114, 110, 58, 32, 102, 117, 108, 108] then 8 else
  if l = [116, 105, 116, 104, 101, 98, 97, 114, 110, 58, 32, 115, 104, 111, 114, 116] then 9 else
  if l = [116, 105, 116, 104, 101, 98, 97, 114, 110, 58, 32, 111, 114, 100, 101, 114] then 10 else
  if l = [116, 105, 116, 104, 101, 98, 97, 114, 110, 58, 32, 115, 116, 97, 116, 101] then 11 else
  if l = [116, 105, 116, 104, 101, 98, 97, 114, 110, 58, 32, 111, 102, 102] then 12 else 0

theorem errG_of {W : World} {a1 a2 a3 a4 a5 a6 a7 a8 a9 a10 a11 a12 : Addr}
    (h1 : Sent 4 a1 [116, 105, 116, 104, 101, 98, 97, 114, 110, 58, 32, 116, 101, 120, 116] W)
    (h2 : Sent 1 a2 [116, 105, 116, 104, 101, 98, 97, 114, 110, 58, 32, 98, 111, 117, 110, 100] W)
    (h3 : Sent 0 a3 [116, 105, 116, 104, 101, 98, 97, 114, 110, 58, 32, 115, 104, 97, 112, 101] W)
    (h4 : Sent 6 a4 [116, 105, 116, 104, 101, 98, 97, 114, 110, 58, 32, 107, 105, 110, 100] W)
    (h5 : Sent 9 a5 [116, 105, 116, 104, 101, 98, 97, 114, 110, 58, 32, 110, 97, 109, 101] W)
    (h6 : Sent 2 a6 [116, 105, 116, 104, 101, 98, 97, 114, 110, 58, 32, 110, 111, 110, 101] W)
    (h7 : Sent 7 a7 [116, 105, 116, 104, 101, 98, 97, 114, 110, 58, 32, 101, 120, 105, 115, 116] W)
    (h8 : Sent 8 a8 [116, 105, 116, 104, 101, 98, 97, 114, 110, 58, 32, 102, 117, 108, 108] W)
    (h9 : Sent 3 a9 [116, 105, 116, 104, 101, 98, 97, 114, 110, 58, 32, 115, 104, 111, 114, 116] W)
    (h10 : Sent 5 a10 [116, 105, 116, 104, 101, 98, 97, 114, 110, 58, 32, 111, 114, 100, 101, 114] W)
    (h11 : Sent 10 a11 [116, 105, 116, 104, 101, 98, 97, 114, 110, 58, 32, 115, 116, 97, 116, 101] W)
    (h12 : Sent 11 a12 [116, 105, 116, 104, 101, 98, 97, 114, 110, 58, 32, 111, 102, 102] W)
    (hty : W.cell? ⟨12, 0, none⟩ = some (.iface 240 (.agg #[.pointer (some ⟨21, 31, none⟩)]))) :
    ErrG (fun k => if k = 1 then a1 else if k = 2 then a2 else if k = 3 then a3 else if k = 4 then a4 else if k = 5 then a5 else if k = 6 then a6 else if k = 7 then a7 else if k = 8 then a8 else if k = 9 then a9 else if k = 10 then a10 else if k = 11 then a11 else a12) W := by
  refine ⟨?_, ?_, ?_, hty⟩
  · intro k k1 k2
    rcases (show k = 1 ∨ k = 2 ∨ k = 3 ∨ k = 4 ∨ k = 5 ∨ k = 6 ∨ k = 7 ∨ k = 8 ∨ k = 9 ∨ k = 10 ∨ k = 11 ∨ k = 12 by omega) with rfl | rfl | rfl | rfl | rfl | rfl | rfl | rfl | rfl | rfl | rfl | rfl
    · exact h1.at_
    · exact h2.at_
    · exact h3.at_
    · exact h4.at_
    · exact h5.at_
    · exact h6.at_
    · exact h7.at_
    · exact h8.at_
    · exact h9.at_
    · exact h10.at_
    · exact h11.at_
    · exact h12.at_
  · intro k k1 k2
    rcases (show k = 1 ∨ k = 2 ∨ k = 3 ∨ k = 4 ∨ k = 5 ∨ k = 6 ∨ k = 7 ∨ k = 8 ∨ k = 9 ∨ k = 10 ∨ k = 11 ∨ k = 12 by omega) with rfl | rfl | rfl | rfl | rfl | rfl | rfl | rfl | rfl | rfl | rfl | rfl
    · exact h1.row
    · exact h2.row
    · exact h3.row
    · exact h4.row
    · exact h5.row
    · exact h6.row
    · exact h7.row
    · exact h8.row
    · exact h9.row
    · exact h10.row
    · exact h11.row
    · exact h12.row
  · have T : ∀ k, 1 ≤ k → k ≤ 12 → ∃ g l, Sent g ((fun k => if k = 1 then a1 else if k = 2 then a2 else if k = 3 then a3 else if k = 4 then a4 else if k = 5 then a5 else if k = 6 then a6 else if k = 7 then a7 else if k = 8 then a8 else if k = 9 then a9 else if k = 10 then a10 else if k = 11 then a11 else a12) k) l W ∧ textNo l = k := by
      intro k k1 k2
      rcases (show k = 1 ∨ k = 2 ∨ k = 3 ∨ k = 4 ∨ k = 5 ∨ k = 6 ∨ k = 7 ∨ k = 8 ∨ k = 9 ∨ k = 10 ∨ k = 11 ∨ k = 12 by omega) with rfl | rfl | rfl | rfl | rfl | rfl | rfl | rfl | rfl | rfl | rfl | rfl
      · exact ⟨_, _, h1, by decide⟩
      · exact ⟨_, _, h2, by decide⟩
      · exact ⟨_, _, h3, by decide⟩
      · exact ⟨_, _, h4, by decide⟩
      · exact ⟨_, _, h5, by decide⟩
      · exact ⟨_, _, h6, by decide⟩
      · exact ⟨_, _, h7, by decide⟩
      · exact ⟨_, _, h8, by decide⟩
      · exact ⟨_, _, h9, by decide⟩
      · exact ⟨_, _, h10, by decide⟩
      · exact ⟨_, _, h11, by decide⟩
      · exact ⟨_, _, h12, by decide⟩
    intro i j i1 i2 j1 j2 he
    obtain ⟨g, l, s, e⟩ := T i i1 i2
    obtain ⟨g', l', s', e'⟩ := T j j1 j2
    rcases Decidable.em (l = l') with hl | hl
    · rw [← e, ← e', hl]
    · exact absurd he (sent_ne s s' hl)
end Go.Proofs.YtgllddebodfhkaaGreatDoor
