/- Counts, plainly: a sheet's fault; what Diff tells; behind it the stock is what was seen. No program in sight. What goes by a plan, plainly. No program in sight. Of what a plan is, plainly. No program in sight. What the laws on plans ask, plainly. No program in sight. Which pieces: the entries of picks. How many may have gone behind so many entries, plainly. No program in sight. A book while entries are done to it: what else stays. -/
import Derived.Test.YtgllddebodfhkaaGreatDoorM21
import Derived.Test.YtgllddebodfhkaaGreatDoorM25
import Derived.Test.YtgllddebodfhkaaGreatDoorM30
import Derived.Test.YtgllddebodfhkaaGreatDoorM33
import Derived.Test.YtgllddebodfhkaaGreatDoorM44
import Derived.Test.YtgllddebodfhkaaGreatDoorM48
namespace Go.Proofs.YtgllddebodfhkaaGreatDoor
open Go.RowKit Go.Sort Go.Proofs

/-- The error of a line of a sheet behind others; a sheet's first fault, from a line on. -/
def lineE (done : List LineV) (x : LineV) : Nat :=
  if placeE x.1 ≠ 0 then placeE x.1 else if nameB x.2.1 = false then 5 else if wiB x.2.2 0 1099511627776 = false then 2 else if done.any (fun y => isAt x.1 x.2.1 y) = true then 7 else 0
def sheetF : List LineV → List LineV → Option (Nat × Nat)
  | _, [] => none
  | done, x :: r => if lineE done x ≠ 0 then some (lineE done x, done.length) else sheetF (done ++ [x]) r
/-- What a line tells: an entry, or none; what a sheet tells: entries, or a fault. -/
def diffX (m : StkV) (x : LineV) : List EntV :=
  if x.2.2 - (atM m (x.1, x.2.1) : Nat) > 0 then [(kMore, zeroGoods, (x.2.1, [], 0, 0), zeroPlace, x.1, x.2.2 - (atM m (x.1, x.2.1) : Nat))]
  else if x.2.2 - (atM m (x.1, x.2.1) : Nat) < 0 then [(kLess, zeroGoods, (x.2.1, [], 0, 0), x.1, zeroPlace, - (x.2.2 - (atM m (x.1, x.2.1) : Nat)))] else []
def diffL (m : StkV) (l : List LineV) : List EntV := l.flatMap (diffX m)
def noLot (B : BkV) : List LineV → Nat → Option (Nat × Nat)
  | [], _ => none
  | x :: r, i => if (fL B x.2.1).isSome = true then noLot B r (i + 1) else some (6, i)
def diffB (B : BkV) (l : List LineV) : List EntV ⊕ (Nat × Nat) :=
  match sheetF [] l with
  | some e => .inr e
  | none => match noLot B l 0 with
    | some e => .inr e
    | none => .inl (diffL B.2.2 l)

/-- A sheet with no fault: its lines are well, and no two of one place and lot. -/
theorem sheet_none : ∀ (l done : List LineV), sheetF done l = none → (∀ x ∈ l, placeE x.1 = 0 ∧ nameB x.2.1 = true ∧ 0 ≤ x.2.2 ∧ x.2.2 ≤ 1099511627776) ∧ (∀ x ∈ l, ∀ y ∈ done, isAt x.1 x.2.1 y = false) ∧ l.Pairwise fun x y => (x.1, x.2.1) ≠ (y.1, y.2.1)
  | [], _, _ => ⟨by simp, by simp, List.Pairwise.nil⟩
  | x :: r, done, h => by
    unfold sheetF at h
    split at h
    · cases h
    rename_i h1
    simp only [ne_eq, Classical.not_not] at h1
    obtain ⟨i1, i2, i3⟩ := sheet_none r (done ++ [x]) h
    unfold lineE at h1
    split at h1
    · rename_i q; exact absurd h1 q
    rename_i q1
    split at h1
    · cases h1
    rename_i q2
    split at h1
    · cases h1
    rename_i q3
    split at h1
    · cases h1
    rename_i q4
    simp only [ne_eq, Classical.not_not] at q1
    unfold wiB at q3
    simp only [decide_eq_false_iff_not, Classical.not_not] at q3
    refine ⟨fun y hy => ?_, fun y hy z hz => ?_, List.pairwise_cons.2 ⟨fun y hy e => ?_, i3⟩⟩
    · rcases List.mem_cons.1 hy with rfl | hy
      · exact ⟨q1, by simpa using q2, q3.1, q3.2⟩
      · exact i1 y hy
    · rcases List.mem_cons.1 hy with rfl | hy
      · simp only [Bool.not_eq_true, List.any_eq_false] at q4
        have := q4 z hz
        simpa using this
      · exact i2 y hy z (List.mem_append_left _ hz)
    · have := i2 y hy x (by simp)
      unfold isAt at this
      have h2 := of_decide_eq_false this
      simp only [Prod.mk.injEq] at e
      exact h2 ⟨e.1, e.2⟩
/-- What such an entry makes of pieces at places. -/
theorem at_more {B : BkV} {p : PlaceV} {id : List UInt8} {n : Int} (he : doE B (kMore, zeroGoods, (id, [], 0, 0), zeroPlace, p, n) = 0) (k : KeyV) :
    atM (doB B (kMore, zeroGoods, (id, [], 0, 0), zeroPlace, p, n)).2.2 k = if k = (p, id) then atM B.2.2 k + n.toNat else atM B.2.2 k := by
  have hm : (doB B (kMore, zeroGoods, (id, [], 0, 0), zeroPlace, p, n)).2.2 = putM B.2.2 p id n := by
    unfold doB
    rw [if_neg (by simpa using he), if_neg (by decide : ¬ kMore = kGoods), if_neg (by decide : ¬ kMore = kLot)]
    unfold doP
    simp only
    unfold actM
    rw [if_pos (.inr rfl)]
  have hp : putE B.2.2 p id n = 0 := by
    unfold doE at he
    split at he
    · rename_i h; exact absurd he h
    rw [if_neg (by decide : ¬ kMore = kGoods), if_neg (by decide : ¬ kMore = kLot)] at he
    obtain ⟨y, _, ha, _⟩ := pc_zero he
    unfold actE at ha
    rwa [if_pos (.inr rfl)] at ha
  rw [hm, at_put hp]
theorem at_less {B : BkV} {p : PlaceV} {id : List UInt8} {n : Int} (he : doE B (kLess, zeroGoods, (id, [], 0, 0), p, zeroPlace, n) = 0) (k : KeyV) :
    atM (doB B (kLess, zeroGoods, (id, [], 0, 0), p, zeroPlace, n)).2.2 k = if k = (p, id) then atM B.2.2 k - n.toNat else atM B.2.2 k := by
  have hm : (doB B (kLess, zeroGoods, (id, [], 0, 0), p, zeroPlace, n)).2.2 = takeM B.2.2 p id n := by
    unfold doB
    rw [if_neg (by simpa using he), if_neg (by decide : ¬ kLess = kGoods), if_neg (by decide : ¬ kLess = kLot)]
    unfold doP
    simp only
    unfold actM
    rw [if_neg (by decide : ¬ (kLess = kIn ∨ kLess = kMore)), if_pos (.inr rfl)]
  have hp : takeE B.2.2 p id n = 0 := by
    unfold doE at he
    split at he
    · rename_i h; exact absurd he h
    rw [if_neg (by decide : ¬ kLess = kGoods), if_neg (by decide : ¬ kLess = kLot)] at he
    obtain ⟨y, _, ha, _⟩ := pc_zero he
    unfold actE at ha
    rwa [if_neg (by decide : ¬ (kLess = kIn ∨ kLess = kMore)), if_pos (.inr rfl)] at ha
  rw [hm, at_take hp]
/-- Entries that are all done with no error. -/
def allOk (B : BkV) : List EntV → Prop
  | [] => True
  | x :: r => doE B x = 0 ∧ allOk (doB B x) r
theorem allOk_app : ∀ (a b : List EntV) (B : BkV), allOk B (a ++ b) ↔ allOk B a ∧ allOk (doAll B a) b
  | [], b, B => by simp [allOk, doAll]
  | x :: a, b, B => by
    have ih := allOk_app a b (doB B x)
    show (doE B x = 0 ∧ allOk (doB B x) (a ++ b)) ↔ (doE B x = 0 ∧ allOk (doB B x) a) ∧ allOk (doAll (doB B x) a) b
    rw [ih, and_assoc]
/-- Behind what Diff tells the stock is what was seen. -/
theorem diff_seen : ∀ (l : List LineV) (m : StkV) (B : BkV), (∀ x ∈ l, 0 ≤ x.2.2) → (l.Pairwise fun x y => (x.1, x.2.1) ≠ (y.1, y.2.1)) → (∀ x ∈ l, atM B.2.2 (x.1, x.2.1) = atM m (x.1, x.2.1)) → allOk B (diffL m l) →
    (∀ x ∈ l, (atM (doAll B (diffL m l)).2.2 (x.1, x.2.1) : Int) = x.2.2) ∧ ∀ k, (∀ x ∈ l, (x.1, x.2.1) ≠ k) → atM (doAll B (diffL m l)).2.2 k = atM B.2.2 k
  | [], m, B, _, _, _, _ => ⟨by simp, fun _ _ => rfl⟩
  | x :: r, m, B, h0, hp, ha, hok => by
    have hp' := List.pairwise_cons.1 hp
    have e : diffL m (x :: r) = diffX m x ++ diffL m r := rfl
    rw [e, allOk_app] at hok
    have one : (atM (doAll B (diffX m x)).2.2 (x.1, x.2.1) : Int) = x.2.2 ∧ ∀ k, (x.1, x.2.1) ≠ k → atM (doAll B (diffX m x)).2.2 k = atM B.2.2 k := by
      have hx := ha x List.mem_cons_self
      have hx0 := h0 x List.mem_cons_self
      have hok1 := hok.1
      unfold diffX at hok1 ⊢
      split at hok1
      · rename_i h1
        rw [if_pos h1]
        have hm := at_more hok1.1
        constructor
        · show (atM (doB B _).2.2 _ : Int) = _
          rw [hm, if_pos rfl]
          omega
        · intro k hk
          show atM (doB B _).2.2 _ = _
          rw [hm, if_neg (fun e => hk e.symm)]
      · rename_i h1
        rw [if_neg h1]
        split at hok1
        · rename_i h2
          rw [if_pos h2]
          have hm := at_less hok1.1
          constructor
          · show (atM (doB B _).2.2 _ : Int) = _
            rw [hm, if_pos rfl]
            omega
          · intro k hk
            show atM (doB B _).2.2 _ = _
            rw [hm, if_neg (fun e => hk e.symm)]
        · rename_i h2
          rw [if_neg h2]
          refine ⟨?_, fun _ _ => rfl⟩
          show (atM B.2.2 _ : Int) = _
          omega
    have hB : ∀ y ∈ r, atM (doAll B (diffX m x)).2.2 (y.1, y.2.1) = atM m (y.1, y.2.1) := fun y hy => (one.2 _ (hp'.1 y hy)).trans (ha y (List.mem_cons_of_mem _ hy))
    obtain ⟨i1, i2⟩ := diff_seen r m (doAll B (diffX m x)) (fun y hy => h0 y (List.mem_cons_of_mem _ hy)) hp'.2 hB hok.2
    have ea : doAll B (diffX m x ++ diffL m r) = doAll (doAll B (diffX m x)) (diffL m r) := by unfold doAll; rw [List.foldl_append]
    rw [e, ea]
    refine ⟨fun y hy => ?_, fun k hk => ?_⟩
    · rcases List.mem_cons.1 hy with rfl | hy
      · rw [i2 _ fun z hz e => hp'.1 z hz e.symm]
        exact one.1
      · exact i1 y hy
    · rw [i2 k fun z hz => hk z (List.mem_cons_of_mem _ hz), one.2 k (hk x List.mem_cons_self)]
/-- A second Diff tells nothing. -/
theorem diff_twice {l : List LineV} {m : StkV} (h : ∀ x ∈ l, (atM m (x.1, x.2.1) : Int) = x.2.2) : diffL m l = [] := by
  unfold diffL
  rw [List.flatMap_eq_nil_iff]
  intro x hx
  have := h x hx
  unfold diffX
  rw [if_neg (by omega), if_neg (by omega)]
end Go.Proofs.YtgllddebodfhkaaGreatDoor
namespace Go.Proofs.YtgllddebodfhkaaGreatDoor
open Go.RowKit Go.Sort Go.Proofs

/-- A pick's entry. -/
def goE (x : PickV) : EntV := (kOut, zeroGoods, (x.2.1, [], 0, 0), x.1, zeroPlace, x.2.2)
/-- Pieces of a lot among picks; of a lot at places; all of them. -/
def amtS (S : PlaceV → Bool) (id : List UInt8) : List PickV → Int
  | [] => 0
  | x :: r => (if x.2.1 = id ∧ S x.1 = true then x.2.2 else 0) + amtS S id r
def amtP (id : List UInt8) (p : List PickV) : Int := amtS (fun _ => true) id p
def amtK (k : KeyV) (p : List PickV) : Int := amtS (fun q => decide (q = k.1)) k.2 p
def allP : List PickV → Int
  | [] => 0
  | x :: r => x.2.2 + allP r
theorem amtS_app (S : PlaceV → Bool) (id : List UInt8) (r : List PickV) : ∀ p : List PickV, amtS S id (p ++ r) = amtS S id p + amtS S id r
  | [] => by simp [amtS]
  | x :: p => by
    rw [List.cons_append]
    simp only [amtS]
    rw [amtS_app S id r p]
    omega
theorem allP_app (r : List PickV) : ∀ p : List PickV, allP (p ++ r) = allP p + allP r
  | [] => by simp [allP]
  | x :: p => by
    rw [List.cons_append]
    simp only [allP]
    rw [allP_app r p]
    omega
theorem amtS_nonneg (S : PlaceV → Bool) (id : List UInt8) : ∀ p : List PickV, (∀ x ∈ p, 0 ≤ x.2.2) → 0 ≤ amtS S id p
  | [], _ => Int.le_refl _
  | x :: r, h => by
    have h1 := h x List.mem_cons_self
    have h2 := amtS_nonneg S id r fun y hy => h y (List.mem_cons_of_mem _ hy)
    simp only [amtS]
    split <;> omega
theorem amtS_zero (S : PlaceV → Bool) (id : List UInt8) : ∀ p : List PickV, (∀ x ∈ p, x.2.1 = id → S x.1 = false) → amtS S id p = 0
  | [], _ => rfl
  | x :: r, h => by
    have h1 := h x List.mem_cons_self
    have h2 := amtS_zero S id r fun y hy => h y (List.mem_cons_of_mem _ hy)
    simp only [amtS]
    rw [h2, if_neg (fun h => by rw [h1 h.1] at h; simp at h)]
    rfl
theorem amtP_own (id : List UInt8) : ∀ p : List PickV, (∀ x ∈ p, x.2.1 = id) → amtP id p = allP p
  | [], _ => rfl
  | x :: r, h => by
    have h1 := h x List.mem_cons_self
    have h2 := amtP_own id r fun y hy => h y (List.mem_cons_of_mem _ hy)
    unfold amtP at *
    simp only [amtS, allP]
    rw [h2, if_pos ⟨h1, trivial⟩]
theorem amtK_le (k : KeyV) : ∀ p : List PickV, (∀ x ∈ p, 0 ≤ x.2.2) → amtK k p ≤ amtP k.2 p
  | [], _ => Int.le_refl _
  | x :: r, h => by
    have h1 := h x List.mem_cons_self
    have h2 := amtK_le k r fun y hy => h y (List.mem_cons_of_mem _ hy)
    unfold amtK amtP at *
    simp only [amtS]
    by_cases hc : x.2.1 = k.2 ∧ decide (x.1 = k.1) = true
    · rw [if_pos hc, if_pos ⟨hc.1, trivial⟩]
      omega
    · rw [if_neg hc]
      split <;> omega

/-- Picks that may go out of a book, of goods of a code. -/
structure CanGo (B : BkV) (code : List UInt8) (p : List PickV) : Prop where
  known : ∀ x ∈ p, ∃ y ∈ B.2.1, y.1.1 = x.2.1 ∧ y.1.2.1 = code
  fits : ∀ x ∈ p, 1 ≤ x.2.2 ∧ x.2.2 ≤ (atM B.2.2 (x.1, x.2.1) : Int)
  apart : p.Pairwise fun x y => ¬ (x.1 = y.1 ∧ x.2.1 = y.2.1)
  loose : ∀ x ∈ p, amtP x.2.1 p ≤ looseB B x.2.1
  room : (sumsOf B code).2.1 + allP p ≤ mostS

theorem atM_mem {m : StkV} {k : KeyV} (h : 1 ≤ atM m k) : ∃ z ∈ m, z.1 = k ∧ z.2 = atM m k := by
  unfold atM at h ⊢
  induction m with
  | nil => simp [mget] at h
  | cons z r ih =>
    unfold mget at h ⊢
    by_cases hz : z.1 = k
    · rw [if_pos hz]
      exact ⟨z, List.mem_cons_self, hz, rfl⟩
    · rw [if_neg hz] at h ⊢
      obtain ⟨y, hy, h1, h2⟩ := ih h
      exact ⟨y, List.mem_cons_of_mem _ hy, h1, h2⟩
theorem goE_fine {x : PickV} (h1 : nameB x.2.1 = true) (h2 : placeE x.1 = 0) (h3 : 1 ≤ x.2.2 ∧ x.2.2 ≤ 1099511627776) : entE (goE x) = 0 := by
  have hp : piecesE (goE x) = 0 := by
    unfold piecesE
    rw [if_neg (show ¬ nameB (goE x).2.2.1.1 = false by show ¬ nameB x.2.1 = false; rw [h1]; simp)]
    have hpl : placesE (goE x) = 0 := by
      unfold placesE
      rw [if_neg (fun h => h.2 h2), if_neg (by show ¬ hasT kOut = true; decide)]
    rw [if_neg (by rw [hpl]; simp), if_neg (show ¬ wiB (goE x).2.2.2.2.2 1 1099511627776 = false by show ¬ wiB x.2.2 1 1099511627776 = false; unfold wiB; rw [decide_eq_true h3]; simp)]
    refine if_neg fun h => h.elim (fun h => absurd h.1 (by show ¬ kOut = kMove; decide)) fun h => h ?_
    unfold wantP goE
    simp only
    rw [if_pos (by decide), if_neg (by decide)]
  unfold entE
  rw [if_neg (by show ¬ kOut = kGoods; decide), if_neg (by show ¬ kOut = kLot; decide), if_pos (by show isP kOut = true; decide)]
  exact hp

/-- What is behind a pick that went. -/
structure Went (B C : BkV) (code : List UInt8) (n : Int) (p : List PickV) : Prop where
  goods : C.1 = setG code ((sumsOf B code).1, (sumsOf B code).2.1 + n, (sumsOf B code).2.2.1, (sumsOf B code).2.2.2) B.1
  lots : C.2.1 = B.2.1
  inv : BkI C
  at_ : ∀ k, (atM C.2.2 k : Int) = atM B.2.2 k - amtK k p
  of_ : ∀ id, (ofM C.2.2 id : Int) = ofM B.2.2 id - amtP id p
theorem setLo_same {B : BkV} (hI : BkI B) {y : LoH} (hf : fL B y.1.1 = some y) : setLo y.1.1 y.2 B.2.1 = B.2.1 := by
  unfold setLo
  refine (List.map_congr_left fun z hz => ?_).trans (List.map_id _)
  split
  · rename_i h
    have := hI.fL_is hz
    rw [h, hf] at this
    rw [Option.some.inj this]
    rfl
  · rfl
theorem setG_twice (c : List UInt8) (s t : SumsV) (l : List GoS) : setG c s (setG c t l) = setG c s l := by
  unfold setG
  rw [List.map_map]
  refine List.map_congr_left fun z _ => ?_
  show (if (if z.1.1 = c then (z.1, t) else z).1.1 = c then _ else _) = _
  by_cases h : z.1.1 = c
  · rw [if_pos h]
    simp [h]
  · rw [if_neg h]
    simp [h]
theorem setG_same {B : BkV} (hI : BkI B) (c : List UInt8) : setG c (sumsOf B c) B.1 = B.1 := by
  unfold setG
  refine (List.map_congr_left fun z hz => ?_).trans (List.map_id _)
  split
  · rename_i h
    have := hI.fG_is hz
    rw [h] at this
    unfold sumsOf
    rw [this]
    rfl
  · rfl
theorem sums_setG {B C : BkV} {c : List UInt8} {s : SumsV} (h : C.1 = setG c s B.1) (hg : (fG B c).isSome = true) : sumsOf C c = s ∧ (fG C c).isSome = true := by
  obtain ⟨g, hg⟩ := Option.isSome_iff_exists.1 hg
  have h2 : fG C c = (fG B c).map fun z => if z.1.1 = c then (z.1, s) else z := by
    unfold fG
    rw [h]
    exact find_map (fun z : GoS => z.1.1) (fun z => by rw [setG_fst]) c
  rw [hg, Option.map_some, if_pos (fG_mem hg).2] at h2
  unfold sumsOf
  rw [h2]
  exact ⟨rfl, rfl⟩
theorem CanGo.first {B : BkV} (hI : BkI B) {code : List UInt8} {x : PickV} {r : List PickV} (h : CanGo B code (x :: r)) :
    doE B (goE x) = 0 ∧ Went B (doB B (goE x)) code x.2.2 [x] ∧ (fG B code).isSome = true := by
  obtain ⟨y, hy, hy1, hy2⟩ := h.known x List.mem_cons_self
  obtain ⟨f1, f2⟩ := h.fits x List.mem_cons_self
  obtain ⟨⟨⟨zp, zl⟩, zn⟩, hz, hzk, -⟩ := atM_mem (m := B.2.2) (k := (x.1, x.2.1)) (by omega)
  simp only [Prod.mk.injEq] at hzk
  obtain ⟨rfl, rfl⟩ := hzk
  obtain ⟨w1, w2, -, -⟩ := hI.stk.well.well _ hz
  have w1 : placeE x.1 = 0 := w1
  have w2 : nameB x.2.1 = true := w2
  have hle := atM_le B.2.2 x.1 x.2.1
  have hof := hI.loose x.2.1
  have hf : fL B x.2.1 = some y := by rw [← hy1]; exact hI.fL_is hy
  have hloose := h.loose x List.mem_cons_self
  have hpos : 0 ≤ amtP x.2.1 r := amtS_nonneg _ _ r fun z hz => by have := (h.fits z (List.mem_cons_of_mem _ hz)).1; omega
  have hamt : amtP x.2.1 (x :: r) = x.2.2 + amtP x.2.1 r := by
    unfold amtP
    simp only [amtS]
    simp
  have hheld : heldOf B x.2.1 = y.2 := by unfold heldOf; rw [hf]
  have hcl : codeLo B x.2.1 = code := by unfold codeLo; rw [hf]; exact hy2
  obtain ⟨g, hg⟩ := Option.isSome_iff_exists.1 (hI.lok y hy).2.2
  rw [hy2] at hg
  have hoks : OkS (sumsOf B code) := by
    unfold sumsOf
    rw [hg]
    exact (hI.gok g (fG_mem hg).1).2
  have hent := goE_fine (x := x) w2 w1 (by omega)
  have htake : takeE B.2.2 x.1 x.2.1 x.2.2 = 0 := by
    unfold takeE wiB
    rw [if_neg (by rw [decide_eq_true (by omega)]; simp), if_neg (by omega)]
  have hactE : actE B.2.2 (goE x) = 0 := by
    unfold actE
    rw [if_neg (by show ¬ (kOut = kIn ∨ kOut = kMore); decide), if_pos (show (goE x).1 = kOut ∨ (goE x).1 = kLess from Or.inl rfl)]
    exact htake
  have hactM : actM B.2.2 (goE x) = takeM B.2.2 x.1 x.2.1 x.2.2 := by
    unfold actM
    rw [if_neg (by show ¬ (kOut = kIn ∨ kOut = kMore); decide), if_pos (show (goE x).1 = kOut ∨ (goE x).1 = kLess from Or.inl rfl)]
    rfl
  have hoft := of_take hI.stk htake
  have hheldN : ∀ v : Nat, heldN v (goE x) = (v : Int) := fun v => by
    unfold heldN
    rw [if_neg (by show ¬ kOut = kHold; decide), if_neg (by show ¬ kOut = kFree; decide)]
  have hsumm : ∀ s : SumsV, summ s (goE x) = (s.1, s.2.1 + x.2.2, s.2.2.1, s.2.2.2) := fun s => by
    unfold summ
    rw [if_neg (by show ¬ kOut = kIn; decide), if_pos (show (goE x).1 = kOut from rfl)]
    rfl
  have hroom := h.room
  have hallr : 0 ≤ allP r := by
    have : ∀ q : List PickV, (∀ z ∈ q, 0 ≤ z.2.2) → 0 ≤ allP q := by
      intro q
      induction q with
      | nil => intro _; exact Int.le_refl _
      | cons z q ih =>
        intro hq
        have h1 := hq z List.mem_cons_self
        have h2 := ih fun u hu => hq u (List.mem_cons_of_mem _ hu)
        simp only [allP]
        omega
    exact this r fun z hz => by have := (h.fits z (List.mem_cons_of_mem _ hz)).1; omega
  simp only [allP] at hroom
  have hl0 : looseB B x.2.1 = (ofM B.2.2 x.2.1 : Int) - y.2 := by unfold looseB; rw [hheld]
  have hpc : pcE B (goE x) = 0 := by
    unfold pcE
    rw [show fL B (goE x).2.2.1.1 = some y from hf]
    simp only
    rw [if_neg (by rw [hactE]; simp), hheldN, hactM]
    rw [if_neg (show ¬ ((y.2 : Int) < 0 ∨ (ofM (takeM B.2.2 x.1 x.2.1 x.2.2) (goE x).2.2.1.1 : Int) < (y.2 : Int)) by
      show ¬ ((y.2 : Int) < 0 ∨ (ofM (takeM B.2.2 x.1 x.2.1 x.2.2) x.2.1 : Int) < (y.2 : Int))
      omega)]
    rw [if_neg]
    rw [hsumm, hy2]
    unfold OkS at hoks
    unfold overS
    simp only [Bool.or_eq_true, decide_eq_true_eq]
    omega
  have hdo : doE B (goE x) = 0 := by
    unfold doE
    rw [if_neg (by rw [hent]; simp), if_neg (by show ¬ kOut = kGoods; decide), if_neg (by show ¬ kOut = kLot; decide)]
    exact hpc
  have hdb : doB B (goE x) = doP B (goE x) := by
    unfold doB
    rw [if_neg (by rw [hdo]; simp), if_neg (by show ¬ kOut = kGoods; decide), if_neg (by show ¬ kOut = kLot; decide)]
  refine ⟨hdo, ⟨?_, ?_, hI.do_ _, ?_, ?_⟩, by rw [hg]; rfl⟩
  · rw [hdb]
    show setG (codeLo B x.2.1) (summ (sumsOf B (codeLo B x.2.1)) (goE x)) B.1 = _
    rw [hcl, hsumm]
  · rw [hdb]
    show setLo x.2.1 (heldN (heldOf B x.2.1) (goE x)).toNat B.2.1 = B.2.1
    rw [hheldN, hheld, Int.toNat_natCast, ← hy1]
    exact setLo_same hI (by rw [hy1]; exact hf)
  · intro k
    rw [hdb]
    show (atM (actM B.2.2 (goE x)) k : Int) = _
    rw [hactM, at_take htake]
    unfold amtK
    simp only [amtS, decide_eq_true_eq]
    by_cases hk : k = (x.1, x.2.1)
    · rw [if_pos hk, if_pos (by rw [hk]; exact ⟨rfl, rfl⟩), hk]
      omega
    · rw [if_neg hk, if_neg (fun h => hk (Prod.ext h.2.symm h.1.symm))]
      omega
  · intro id
    rw [hdb]
    show (ofM (actM B.2.2 (goE x)) id : Int) = _
    rw [hactM]
    unfold amtP
    simp only [amtS]
    by_cases hk : x.2.1 = id
    · rw [if_pos ⟨hk, trivial⟩, ← hk]
      omega
    · rw [if_neg (fun h => hk h.1), of_take_other (Ne.symm hk)]
      omega
theorem Went.known {B C : BkV} {code : List UInt8} {n : Int} {p : List PickV} (h : Went B C code n p) : (∀ id, fL C id = fL B id) ∧ (∀ id, heldOf C id = heldOf B id) ∧ (∀ c, lotsB C c = lotsB B c) ∧ ∀ id, looseB C id = looseB B id - amtP id p := by
  have h1 : ∀ id, fL C id = fL B id := fun id => by unfold fL; rw [h.lots]
  have h2 : ∀ id, heldOf C id = heldOf B id := fun id => by unfold heldOf; rw [h1]
  refine ⟨h1, h2, fun c => by unfold lotsB; rw [h.lots], fun id => ?_⟩
  unfold looseB
  rw [h2, h.of_]
  omega
theorem CanGo.next {B C : BkV} {code : List UInt8} {x : PickV} {r : List PickV} (h : CanGo B code (x :: r)) (hg : (fG B code).isSome = true) (w : Went B C code x.2.2 [x]) : CanGo C code r := by
  obtain ⟨-, -, -, k4⟩ := w.known
  refine ⟨fun y hy => ?_, fun y hy => ?_, (List.pairwise_cons.1 h.apart).2, fun y hy => ?_, ?_⟩
  · rw [w.lots]
    exact h.known y (List.mem_cons_of_mem _ hy)
  · have h1 := h.fits y (List.mem_cons_of_mem _ hy)
    have h2 := (List.pairwise_cons.1 h.apart).1 y hy
    rw [w.at_]
    unfold amtK
    simp only [amtS, decide_eq_true_eq]
    rw [if_neg (fun h => h2 ⟨h.2, h.1⟩)]
    omega
  · have h1 := h.loose y (List.mem_cons_of_mem _ hy)
    rw [k4]
    unfold amtP at *
    simp only [amtS] at *
    omega
  · rw [(sums_setG w.goods hg).1]
    have := h.room
    simp only [allP] at this
    simp only
    omega
theorem Went.trans {B C D : BkV} {code : List UInt8} {n m : Int} {p q : List PickV} (hg : (fG B code).isSome = true) (h : Went B C code n p) (k : Went C D code m q) : Went B D code (n + m) (p ++ q) := by
  refine ⟨?_, k.lots.trans h.lots, k.inv, fun i => ?_, fun i => ?_⟩
  · rw [k.goods, (sums_setG h.goods hg).1, h.goods, setG_twice]
    simp only
    rw [Int.add_assoc]
  · rw [k.at_, h.at_]
    unfold amtK
    rw [amtS_app]
    omega
  · rw [k.of_, h.of_]
    unfold amtP
    rw [amtS_app]
    omega
theorem Went.refl {B : BkV} (hI : BkI B) (code : List UInt8) : Went B B code 0 [] := by
  refine ⟨?_, rfl, hI, fun _ => ?_, fun _ => ?_⟩
  · rw [Int.add_zero]
    exact (setG_same hI code).symm
  · show _ = _ - (0 : Int)
    omega
  · show _ = _ - (0 : Int)
    omega
/-- Picks that may go, go. -/
theorem CanGo.all : ∀ (p : List PickV) {B : BkV}, BkI B → ∀ {code : List UInt8}, CanGo B code p → allOk B (p.map goE) ∧ Went B (doAll B (p.map goE)) code (allP p) p
  | [], _, hI, code, _ => ⟨trivial, Went.refl hI code⟩
  | x :: r, B, hI, code, h => by
    obtain ⟨h1, h2, h3⟩ := h.first hI
    obtain ⟨h4, h5⟩ := CanGo.all r h2.inv (h.next h3 h2)
    exact ⟨⟨h1, h4⟩, Went.trans h3 h2 h5⟩
/-- What goods have behind it. -/
theorem Went.has {B C : BkV} {code : List UInt8} {n : Int} {p : List PickV} (hI : BkI B) (h : Went B C code n p) (hg : (fG B code).isSome = true) : (hasOf C code : Int) = hasOf B code - n := by
  obtain ⟨h1, h2⟩ := sums_setG h.goods hg
  obtain ⟨x, hx⟩ := Option.isSome_iff_exists.1 hg
  obtain ⟨y, hy⟩ := Option.isSome_iff_exists.1 h2
  have k1 := hI.pac x (fG_mem hx).1
  have k2 := h.inv.pac y (fG_mem hy).1
  rw [(fG_mem hx).2] at k1
  rw [(fG_mem hy).2] at k2
  have s1 : sumsOf B code = x.2 := by unfold sumsOf; rw [hx]
  have s2 : sumsOf C code = y.2 := by unfold sumsOf; rw [hy]
  rw [← s1] at k1
  rw [← s2, h1] at k2
  simp only at k2
  omega
/-- What is free behind it. -/
theorem freeTo_went {B C : BkV} {day : Int} {p : List PickV} (hw : ∀ id, looseB C id = looseB B id - amtP id p) : ∀ ls : List LotV, freeTo C day ls = freeTo B day ls - (ls.map fun l => if day ≤ l.2.2.1 then amtP l.1 p else 0).sum
  | [] => by simp [freeTo]
  | x :: r => by
    have ih := freeTo_went (day := day) hw r
    simp only [freeTo, List.map_cons, List.sum_cons] at *
    rw [hw]
    split <;> omega
end Go.Proofs.YtgllddebodfhkaaGreatDoor
namespace Go.Proofs.YtgllddebodfhkaaGreatDoor
open Go.RowKit Go.Sort Go.Proofs

/-! A lot's picks. -/
theorem picks_mem (id : List UInt8) : ∀ (ls : List LineV) (n : Int), (∀ y ∈ ls, 1 ≤ y.2.2) → ∀ x ∈ (picksF ls id n).1, x.2.1 = id ∧ 1 ≤ x.2.2 ∧ ∃ y ∈ ls, y.1 = x.1 ∧ y.2.1 = id ∧ x.2.2 ≤ y.2.2
  | [], _, _, x, hx => by cases hx
  | z :: r, n, h, x, hx => by
    have hz := h z List.mem_cons_self
    have hr : ∀ y ∈ r, 1 ≤ y.2.2 := fun y hy => h y (List.mem_cons_of_mem _ hy)
    rw [picksF_cons] at hx
    by_cases hc : z.2.1 = id ∧ 0 < n
    · rw [if_pos hc] at hx
      rcases List.mem_cons.1 hx with rfl | hx
      · have := hc.2
        refine ⟨rfl, ?_, z, List.mem_cons_self, rfl, hc.1, ?_⟩
        · simp only
          omega
        · simp only
          omega
      · obtain ⟨h1, h2, y, hy, h3⟩ := picks_mem id r _ hr x hx
        exact ⟨h1, h2, y, List.mem_cons_of_mem _ hy, h3⟩
    · rw [if_neg hc] at hx
      obtain ⟨h1, h2, y, hy, h3⟩ := picks_mem id r _ hr x hx
      exact ⟨h1, h2, y, List.mem_cons_of_mem _ hy, h3⟩
theorem picks_sum (id : List UInt8) : ∀ (ls : List LineV) (n : Int), allP (picksF ls id n).1 = n - (picksF ls id n).2
  | [], n => by
    show (0 : Int) = n - n
    omega
  | z :: r, n => by
    rw [picksF_cons]
    by_cases hc : z.2.1 = id ∧ 0 < n
    · rw [if_pos hc]
      simp only [allP]
      rw [picks_sum id r]
      omega
    · rw [if_neg hc]
      exact picks_sum id r n
theorem cfLine_same {x y : LineV} (h : ltOf cfLine x y = true) (e : x.2.1 = y.2.1) : ltOf cfPlace x.1 y.1 = true := by
  unfold ltOf cfLine orL orL orL at h
  unfold ltOf
  rw [e, (cmpB_eq y.2.1 y.2.1).2 rfl] at h
  by_cases h0 : cfPlace x.1 y.1 = 0
  · rw [h0] at h
    simp at h
  · simpa [h0] using h
theorem picks_up (id : List UInt8) : ∀ (ls : List LineV) (n : Int), (∀ y ∈ ls, 1 ≤ y.2.2) → (ls.Pairwise fun x y => ltOf cfLine x y = true) → (picksF ls id n).1.Pairwise fun x y => ltOf cfPlace x.1 y.1 = true
  | [], _, _, _ => List.Pairwise.nil
  | z :: r, n, h, hs => by
    have hr : ∀ y ∈ r, 1 ≤ y.2.2 := fun y hy => h y (List.mem_cons_of_mem _ hy)
    obtain ⟨hs1, hs2⟩ := List.pairwise_cons.1 hs
    rw [picksF_cons]
    by_cases hc : z.2.1 = id ∧ 0 < n
    · rw [if_pos hc]
      refine List.pairwise_cons.2 ⟨fun x hx => ?_, picks_up id r _ hr hs2⟩
      obtain ⟨-, -, y, hy, h3, h4, -⟩ := picks_mem id r _ hr x hx
      have := cfLine_same (hs1 y hy) (hc.1.trans h4.symm)
      rw [h3] at this
      exact this
    · rw [if_neg hc]
      exact picks_up id r _ hr hs2
theorem StkI.strict {m : StkV} (h : StkI m) : (linesM m).Pairwise fun x y => ltOf cfLine x y = true := by
  have hnd : (linesM m).Nodup := by
    have hn2 : (m.map lineOf).Nodup := by
      have := h.nodup
      rw [List.Nodup, List.pairwise_map] at this ⊢
      refine this.imp fun {a b} hne e => hne ?_
      have h1 : a.1.1 = b.1.1 := congrArg (fun x : LineV => x.1) e
      have h2 : a.1.2 = b.1.2 := congrArg (fun x : LineV => x.2.1) e
      exact Prod.ext h1 h2
    exact (lines_perm m).nodup_iff.2 hn2
  refine List.Pairwise.imp_of_mem ?_ ((lines_sorted m).and hnd)
  rintro a b ha hb ⟨h1, h2⟩
  cases hab : ltOf cfLine a b with
  | true => rfl
  | false => exact absurd (apart_m h.nodup ((lines_perm m).mem_iff.1 ha) ((lines_perm m).mem_iff.1 hb) (ltOf_both likeLine hab h1)) h2
theorem StkI.line_at {m : StkV} (h : StkI m) {y : LineV} (hy : y ∈ linesM m) : (atM m (y.1, y.2.1) : Int) = y.2.2 ∧ 1 ≤ y.2.2 := by
  refine ⟨?_, (h.well.lines y hy).2.2.1⟩
  obtain ⟨⟨⟨p, l⟩, n⟩, ha, rfl⟩ := mem_lines.1 hy
  have := (mem_mget h.nodup).1 ha
  show (atM m (p, l) : Int) = (n : Int)
  unfold atM
  rw [this]
  rfl
theorem StkI.ones {m : StkV} (h : StkI m) : ∀ y ∈ linesM m, 1 ≤ y.2.2 := fun _ hy => (h.line_at hy).2

/-! Lot by lot. -/
theorem plan_head {B : BkV} (hI : BkI B) (day n : Int) (hn : 0 ≤ n) (S : PlaceV → Bool) (x : LotV) (r : List LotV) (hd : ∀ y ∈ r, y.1 ≠ x.1) (hr : ∀ z ∈ (planTo B day (if day ≤ x.2.2.1 then n - min n (looseB B x.1) else n) r).1, ∃ l ∈ r, l.1 = z.2.1) :
    amtS S x.1 (planTo B day n (x :: r)).1 = if day ≤ x.2.2.1 then amtS S x.1 (picksF (linesM B.2.2) x.1 (min n (looseB B x.1))).1 else 0 := by
  have h0 : amtS S x.1 (planTo B day (if day ≤ x.2.2.1 then n - min n (looseB B x.1) else n) r).1 = 0 := amtS_zero S x.1 _ fun z hz h => by
    obtain ⟨l, hl, h1⟩ := hr z hz
    exact absurd (h1.trans h) (hd l hl)
  rw [planTo_cons B hI day n hn]
  split
  · rename_i hg
    rw [if_pos hg] at h0
    simp only
    rw [amtS_app, h0, Int.add_zero]
  · rename_i hg
    rw [if_neg hg] at h0
    exact h0
theorem plan_tail {B : BkV} (hI : BkI B) (day n : Int) (hn : 0 ≤ n) (S : PlaceV → Bool) (x : LotV) (r : List LotV) (id : List UInt8) (h : id ≠ x.1) :
    amtS S id (planTo B day n (x :: r)).1 = amtS S id (planTo B day (if day ≤ x.2.2.1 then n - min n (looseB B x.1) else n) r).1 := by
  have h0 : amtS S id (picksF (linesM B.2.2) x.1 (min n (looseB B x.1))).1 = 0 := amtS_zero S id _ fun z hz he => by
    have := (picks_mem x.1 (linesM B.2.2) _ hI.stk.ones z hz).1
    exact absurd (he.symm.trans this) h
  rw [planTo_cons B hI day n hn]
  split
  · simp only
    rw [amtS_app, h0, Int.zero_add]
  · rfl
theorem plan_mem {B : BkV} (hI : BkI B) (day : Int) : ∀ (ls : List LotV) (n : Int), 0 ≤ n → ∀ x ∈ (planTo B day n ls).1, 1 ≤ x.2.2 ∧ x.2.2 ≤ (atM B.2.2 (x.1, x.2.1) : Int) ∧ ∃ l ∈ ls, l.1 = x.2.1 ∧ day ≤ l.2.2.1
  | [], _, _, x, hx => by cases hx
  | l :: r, n, hn, x, hx => by
    have h1 := hI.loose l.1
    rw [planTo_cons B hI day n hn] at hx
    split at hx
    · rename_i hg
      rcases List.mem_append.1 hx with hx | hx
      · obtain ⟨h1, h2, y, hy, h3, h4, h5⟩ := picks_mem l.1 (linesM B.2.2) _ hI.stk.ones x hx
        have h6 := (hI.stk.line_at hy).1
        rw [h3, h4, ← h1] at h6
        exact ⟨h2, by omega, l, List.mem_cons_self, h1.symm, hg⟩
      · obtain ⟨a, b, l', hl', c⟩ := plan_mem hI day r _ (by omega) x hx
        exact ⟨a, b, l', List.mem_cons_of_mem _ hl', c⟩
    · obtain ⟨a, b, l', hl', c⟩ := plan_mem hI day r _ hn x hx
      exact ⟨a, b, l', List.mem_cons_of_mem _ hl', c⟩
theorem plan_sum {B : BkV} (hI : BkI B) (day : Int) : ∀ (ls : List LotV) (n : Int), 0 ≤ n → allP (planTo B day n ls).1 = n - (planTo B day n ls).2
  | [], n, _ => by
    show (0 : Int) = n - n
    omega
  | l :: r, n, hn => by
    have h1 := hI.loose l.1
    rw [planTo_cons B hI day n hn]
    split
    · simp only
      rw [allP_app, picks_sum, hI.left0 l.1 _ (by omega) (by omega), plan_sum hI day r _ (by omega)]
      omega
    · exact plan_sum hI day r n hn
/-- What a plan takes of a lot: as picks of it alone. -/
theorem plan_lot {B : BkV} (hI : BkI B) (day : Int) : ∀ (ls : List LotV) (n : Int), 0 ≤ n → (ls.Pairwise fun a b : LotV => a.1 ≠ b.1) → ∀ l ∈ ls,
    ∃ k, 0 ≤ k ∧ k ≤ looseB B l.1 ∧ amtP l.1 (planTo B day n ls).1 = k ∧ ∀ S, amtS S l.1 (planTo B day n ls).1 = amtS S l.1 (picksF (linesM B.2.2) l.1 k).1
  | [], _, _, _, l, hl => by cases hl
  | x :: r, n, hn, hd, l, hl => by
    have h1 := hI.loose x.1
    obtain ⟨hd1, hd2⟩ := List.pairwise_cons.1 hd
    have hm : 0 ≤ (if day ≤ x.2.2.1 then n - min n (looseB B x.1) else n) := by split <;> omega
    have hmem : ∀ z ∈ (planTo B day (if day ≤ x.2.2.1 then n - min n (looseB B x.1) else n) r).1, ∃ l ∈ r, l.1 = z.2.1 := fun z hz => by
      obtain ⟨-, -, l', hl', c, -⟩ := plan_mem hI day r _ hm z hz
      exact ⟨l', hl', c⟩
    rcases List.mem_cons.1 hl with rfl | hl
    · have hh := fun S => plan_head hI day n hn S l r (fun y hy => Ne.symm (hd1 y hy)) hmem
      by_cases hg : day ≤ l.2.2.1
      · simp only [if_pos hg] at hh
        refine ⟨min n (looseB B l.1), by omega, by omega, ?_, hh⟩
        have h2 := hh fun _ => true
        unfold amtP
        rw [h2]
        refine (amtP_own l.1 _ fun z hz => (picks_mem l.1 (linesM B.2.2) _ hI.stk.ones z hz).1).trans ?_
        rw [picks_sum, hI.left0 l.1 _ (by omega) (by omega), Int.sub_zero]
      · simp only [if_neg hg] at hh
        refine ⟨0, Int.le_refl _, h1.1, hh fun _ => true, fun S => ?_⟩
        rw [hh, picksF_none _ _ (Int.le_refl _)]
        rfl
    · obtain ⟨k, h2, h3, h4, h5⟩ := plan_lot hI day r _ hm hd2 l hl
      have ht := fun S => plan_tail hI day n hn S x r l.1 (Ne.symm (hd1 l hl))
      refine ⟨k, h2, h3, ?_, fun S => ?_⟩
      · unfold amtP at *
        rw [ht, h4]
      · rw [ht, h5]
theorem plan_none {B : BkV} (hI : BkI B) (day n : Int) (hn : 0 ≤ n) (ls : List LotV) (id : List UInt8) (h : ∀ l ∈ ls, l.1 ≠ id) (S : PlaceV → Bool) : amtS S id (planTo B day n ls).1 = 0 :=
  amtS_zero S id _ fun z hz he => by
    obtain ⟨-, -, l, hl, c, -⟩ := plan_mem hI day ls n hn z hz
    exact absurd (c.trans he) (h l hl)
/-- What goes of the lots is what goes. -/
theorem plan_lots {B : BkV} (hI : BkI B) (day : Int) : ∀ (ls : List LotV) (n : Int), 0 ≤ n → (ls.Pairwise fun a b : LotV => a.1 ≠ b.1) → (ls.map fun l => if day ≤ l.2.2.1 then amtP l.1 (planTo B day n ls).1 else 0).sum = allP (planTo B day n ls).1
  | [], _, _, _ => rfl
  | x :: r, n, hn, hd => by
    have h1 := hI.loose x.1
    obtain ⟨hd1, hd2⟩ := List.pairwise_cons.1 hd
    have hm : 0 ≤ (if day ≤ x.2.2.1 then n - min n (looseB B x.1) else n) := by split <;> omega
    have ih := plan_lots hI day r _ hm hd2
    have hmem : ∀ z ∈ (planTo B day (if day ≤ x.2.2.1 then n - min n (looseB B x.1) else n) r).1, ∃ l ∈ r, l.1 = z.2.1 := fun z hz => by
      obtain ⟨-, -, l', hl', c, -⟩ := plan_mem hI day r _ hm z hz
      exact ⟨l', hl', c⟩
    have hh := plan_head hI day n hn (fun _ => true) x r (fun y hy => Ne.symm (hd1 y hy)) hmem
    have ht : (r.map fun l => if day ≤ l.2.2.1 then amtP l.1 (planTo B day n (x :: r)).1 else 0) = r.map fun l => if day ≤ l.2.2.1 then amtP l.1 (planTo B day (if day ≤ x.2.2.1 then n - min n (looseB B x.1) else n) r).1 else 0 :=
      List.map_congr_left fun l hl => by
        unfold amtP
        rw [plan_tail hI day n hn _ x r l.1 (Ne.symm (hd1 l hl))]
    have hs := picks_sum x.1 (linesM B.2.2) (min n (looseB B x.1))
    have hw := amtP_own x.1 (picksF (linesM B.2.2) x.1 (min n (looseB B x.1))).1 fun z hz => (picks_mem x.1 (linesM B.2.2) _ hI.stk.ones z hz).1
    rw [List.map_cons, List.sum_cons, ht, ih, planTo_cons B hI day n hn]
    by_cases hg : day ≤ x.2.2.1
    · rw [planTo_cons B hI day n hn] at hh
      simp only [if_pos hg] at hh ⊢
      unfold amtP at hw ⊢
      rw [hh, hw, allP_app]
    · simp only [if_neg hg]
      exact Int.zero_add _
theorem plan_empty {B : BkV} (hI : BkI B) (day : Int) (ls : List LotV) : (planTo B day 0 ls).1 = [] := by
  have h := planTo_done hI day 0 [] ls (Int.le_refl _) rfl
  rw [List.nil_append] at h
  rw [h]
  rfl
/-- How a plan's picks come. -/
def NextP (ls : List LotV) (a b : PickV) : Prop := (a.2.1 = b.2.1 ∧ ltOf cfPlace a.1 b.1 = true) ∨ ∃ x ∈ ls, ∃ y ∈ ls, x.1 = a.2.1 ∧ y.1 = b.2.1 ∧ ltOf cfLot x y = true
theorem plan_up {B : BkV} (hI : BkI B) (day : Int) : ∀ (ls : List LotV) (n : Int), 0 ≤ n → (ls.Pairwise fun a b => ltOf cfLot a b = true) → (planTo B day n ls).1.Pairwise (NextP ls)
  | [], _, _, _ => List.Pairwise.nil
  | x :: r, n, hn, hs => by
    have h1 := hI.loose x.1
    obtain ⟨hs1, hs2⟩ := List.pairwise_cons.1 hs
    have hmono : ∀ {p : List PickV}, p.Pairwise (NextP r) → p.Pairwise (NextP (x :: r)) := fun h => h.imp fun {a b} h => by
      rcases h with h | ⟨y, hy, z, hz, h⟩
      · exact .inl h
      · exact .inr ⟨y, List.mem_cons_of_mem _ hy, z, List.mem_cons_of_mem _ hz, h⟩
    rw [planTo_cons B hI day n hn]
    split
    · rename_i hg
      refine List.pairwise_append.2 ⟨?_, hmono (plan_up hI day r _ (by omega) hs2), fun a ha b hb => ?_⟩
      · refine List.Pairwise.imp_of_mem ?_ (picks_up x.1 (linesM B.2.2) _ hI.stk.ones hI.stk.strict)
        intro a b ha hb h
        exact .inl ⟨((picks_mem x.1 (linesM B.2.2) _ hI.stk.ones a ha).1).trans ((picks_mem x.1 (linesM B.2.2) _ hI.stk.ones b hb).1).symm, h⟩
      · obtain ⟨-, -, l, hl, c, -⟩ := plan_mem hI day r _ (by omega) b hb
        exact .inr ⟨x, List.mem_cons_self, l, List.mem_cons_of_mem _ hl, ((picks_mem x.1 (linesM B.2.2) _ hI.stk.ones a ha).1).symm, c, hs1 l hl⟩
    · exact hmono (plan_up hI day r n hn hs2)
/-- Of a lot that is sooner than one that goes nothing is left. -/
theorem plan_all {B : BkV} (hI : BkI B) (day : Int) : ∀ (ls : List LotV) (n : Int), 0 ≤ n → (ls.Pairwise fun a b => ltOf cfLot a b = true) → (ls.Pairwise fun a b : LotV => a.1 ≠ b.1) →
    ∀ x ∈ (planTo B day n ls).1, ∀ y ∈ ls, y.1 = x.2.1 → ∀ l ∈ ls, day ≤ l.2.2.1 → ltOf cfLot l y = true → amtP l.1 (planTo B day n ls).1 = looseB B l.1
  | [], _, _, _, _, x, hx, _, _, _, _, _, _, _ => by cases hx
  | z :: r, n, hn, hs, hd, x, hx, y, hy, hyx, l, hl, hg, hlt => by
    have h1 := hI.loose z.1
    obtain ⟨hs1, hs2⟩ := List.pairwise_cons.1 hs
    obtain ⟨hd1, hd2⟩ := List.pairwise_cons.1 hd
    have hm : 0 ≤ (if day ≤ z.2.2.1 then n - min n (looseB B z.1) else n) := by split <;> omega
    -- y is behind z, and x goes behind z's picks
    have hyr : y ∈ r := by
      rcases List.mem_cons.1 hy with rfl | h
      · rcases List.mem_cons.1 hl with rfl | h
        · exact absurd hlt (by rw [swoLot.irrefl]; simp)
        · have := hs1 l h
          exact absurd (swoLot.trans _ _ _ hlt this) (by rw [swoLot.irrefl]; simp)
      · exact h
    have hxr : x ∈ (planTo B day (if day ≤ z.2.2.1 then n - min n (looseB B z.1) else n) r).1 := by
      rw [planTo_cons B hI day n hn] at hx
      split at hx
      · rename_i hgz
        rw [if_pos hgz]
        rcases List.mem_append.1 hx with hx | hx
        · have := (picks_mem z.1 (linesM B.2.2) _ hI.stk.ones x hx).1
          exact absurd (this.symm.trans hyx.symm) (hd1 y hyr)
        · exact hx
      · rename_i hgz
        rw [if_neg hgz]
        exact hx
    rcases List.mem_cons.1 hl with rfl | hl
    · have hmem : ∀ u ∈ (planTo B day (if day ≤ l.2.2.1 then n - min n (looseB B l.1) else n) r).1, ∃ l' ∈ r, l'.1 = u.2.1 := fun u hu => by
        obtain ⟨-, -, l', hl', c, -⟩ := plan_mem hI day r _ hm u hu
        exact ⟨l', hl', c⟩
      have hh := plan_head hI day n hn (fun _ => true) l r (fun y hy => Ne.symm (hd1 y hy)) hmem
      rw [if_pos hg] at hh hxr
      have hpos : 0 < n - min n (looseB B l.1) := by
        rcases Int.lt_or_le 0 (n - min n (looseB B l.1)) with h | h
        · exact h
        · have h0 : n - min n (looseB B l.1) = 0 := by omega
          rw [h0, plan_empty hI] at hxr
          cases hxr
      unfold amtP
      rw [hh]
      refine (amtP_own l.1 _ fun u hu => (picks_mem l.1 (linesM B.2.2) _ hI.stk.ones u hu).1).trans ?_
      rw [picks_sum, hI.left0 l.1 _ (by omega) (by omega)]
      omega
    · have ih := plan_all hI day r _ hm hs2 hd2 x hxr y hyr hyx l hl hg hlt
      unfold amtP at *
      rw [plan_tail hI day n hn _ z r l.1 (Ne.symm (hd1 l hl)), ih]
theorem BkI.lots_apart {B : BkV} (h : BkI B) (c : List UInt8) : (lotsB B c).Pairwise fun a b : LotV => a.1 ≠ b.1 := by
  refine List.Pairwise.imp_of_mem ?_ (h.lots_strict c)
  intro a b ha hb hlt he
  obtain ⟨-, i, hi⟩ := lotsB_mem.1 ha
  obtain ⟨-, j, hj⟩ := lotsB_mem.1 hb
  have := h.lot_uniq hi hj he
  have h2 : a = b := congrArg (fun y : LoH => y.1) this
  rw [h2, swoLot.irrefl] at hlt
  cases hlt
/-- A plan may go. -/
theorem BkI.can_go {B : BkV} (hI : BkI B) (code : List UInt8) (n day : Int) (hn : 0 ≤ n) (hroom : (sumsOf B code).2.1 + n ≤ mostS) : CanGo B code (planF B code n day).1 := by
  have hp := planTo_in hI day (lotsB B code) n hn
  have hs := plan_sum hI day (lotsB B code) n hn
  refine ⟨fun x hx => ?_, fun x hx => ?_, ?_, fun x hx => ?_, ?_⟩
  · obtain ⟨-, -, l, hl, c, -⟩ := plan_mem hI day _ _ hn x hx
    obtain ⟨h1, i, hi⟩ := lotsB_mem.1 hl
    exact ⟨(l, i), hi, c, h1⟩
  · obtain ⟨a, b, -⟩ := plan_mem hI day _ _ hn x hx
    exact ⟨a, b⟩
  · refine (plan_up hI day _ n hn (hI.lots_strict code)).imp fun {a b} h e => ?_
    rcases h with ⟨-, h⟩ | ⟨x, hx, y, hy, h1, h2, h3⟩
    · rw [e.1, likePlace.swo.irrefl] at h
      cases h
    · obtain ⟨-, i, hi⟩ := lotsB_mem.1 hx
      obtain ⟨-, j, hj⟩ := lotsB_mem.1 hy
      have := hI.lot_uniq hi hj (h1.trans (e.2.trans h2.symm))
      rw [show x = y from congrArg (fun y : LoH => y.1) this, swoLot.irrefl] at h3
      cases h3
  · obtain ⟨-, -, l, hl, c, -⟩ := plan_mem hI day _ _ hn x hx
    obtain ⟨k, -, h2, h3, -⟩ := plan_lot hI day _ n hn (hI.lots_apart code) l hl
    rw [c] at h2 h3
    unfold planF
    rw [h3]
    exact h2
  · unfold planF
    rw [hs]
    omega
end Go.Proofs.YtgllddebodfhkaaGreatDoor
namespace Go.Proofs.YtgllddebodfhkaaGreatDoor
open Go.RowKit Go.Sort Go.Proofs

theorem planE_ok {B : BkV} {code : List UInt8} {n day : Int} (h1 : 1 ≤ n) (h2 : n ≤ 1099511627776) (h3 : 0 ≤ day) (h4 : day ≤ 100000) (hg : (fG B code).isSome = true) (hf : n ≤ freeB B code day) : planE B code n day = 0 := by
  unfold planE wiB
  rw [decide_eq_true (show 1 ≤ n ∧ n ≤ 1099511627776 from ⟨h1, h2⟩), decide_eq_true (show 0 ≤ day ∧ day ≤ 100000 from ⟨h3, h4⟩), hg, if_neg (by simp), if_neg (by simp), if_neg (by omega)]
theorem planL_is {B : BkV} {code : List UInt8} {n day : Int} (h : planE B code n day = 0) : planL B code n day = (planF B code n day).1 := by
  unfold planL
  rw [if_pos h]
theorem BkI.plan_adds {B : BkV} (hI : BkI B) {code : List UInt8} {n day : Int} (h : planE B code n day = 0) : allP (planL B code n day) = n := by
  have h0 := planE_zero h
  rw [planL_is h]
  unfold planF
  rw [plan_sum hI day _ n (by omega), planTo_left hI day _ n (by omega)]
  unfold freeB at h0
  omega
/-- A plan goes. -/
theorem BkI.plan_goes {B : BkV} (hI : BkI B) {code : List UInt8} {n day : Int} (h : planE B code n day = 0) (hr : (sumsOf B code).2.1 + n ≤ mostS) :
    CanGo B code (planL B code n day) ∧ allOk B ((planL B code n day).map goE) ∧ Went B (doAll B ((planL B code n day).map goE)) code n (planL B code n day) ∧ freeB (doAll B ((planL B code n day).map goE)) code day = freeB B code day - n := by
  have h0 := planE_zero h
  have hc := hI.can_go code n day (by omega) hr
  rw [← planL_is h] at hc
  obtain ⟨h1, h2⟩ := CanGo.all _ hI hc
  have ha := hI.plan_adds h
  rw [ha] at h2
  refine ⟨hc, h1, h2, ?_⟩
  obtain ⟨-, -, k3, k4⟩ := h2.known
  have hl := plan_lots hI day (lotsB B code) n (by omega) (hI.lots_apart code)
  have hp : planL B code n day = (planTo B day n (lotsB B code)).1 := planL_is h
  have hw := freeTo_went (day := day) k4 (lotsB B code)
  rw [← hp] at hl
  unfold freeB
  rw [k3, hw, hl, ha]
theorem short_goE {B : BkV} {code : List UInt8} {p : List PickV} (hI : BkI B) (h : CanGo B code p) : ∀ x ∈ p.map goE, ShortE x := fun x hx => by
  obtain ⟨y, hy, rfl⟩ := List.mem_map.1 hx
  obtain ⟨f1, f2⟩ := h.fits y hy
  obtain ⟨⟨⟨zp, zl⟩, zn⟩, hz, hzk, -⟩ := atM_mem (m := B.2.2) (k := (y.1, y.2.1)) (by omega)
  simp only [Prod.mk.injEq] at hzk
  obtain ⟨rfl, rfl⟩ := hzk
  obtain ⟨w1, w2, -, -⟩ := hI.stk.well.well _ hz
  have l1 := (nameB_len w2).2
  have l2 : y.1.1.length ≤ 8 := by
    have w1 : placeE y.1 = 0 := w1
    unfold placeE at w1
    split at w1
    · cases w1
    · rename_i hn
      have : nameB y.1.1 = true := by simpa using hn
      exact (nameB_len this).2
  have l1 : y.2.1.length ≤ 8 := l1
  simp [ShortE, goE, zeroGoods, zeroPlace, kOut]
  omega

/-! What AllocGoes asks of a pick, of the last one. -/
theorem BkI.pick_lot {B : BkV} (hI : BkI B) {code : List UInt8} {n day : Int} (h : planE B code n day = 0) {x : PickV} (hx : x ∈ planL B code n day) :
    ∃ l, lotsF B x.2.1 = some l ∧ l ∈ lotsB B code ∧ l.1 = x.2.1 ∧ l.2.1 = code ∧ day ≤ l.2.2.1 ∧ InP x.1 := by
  have h0 := planE_zero h
  rw [planL_is h] at hx
  obtain ⟨h1, h2, l, hl, hk, hd⟩ := plan_mem hI day _ n (by omega) x hx
  obtain ⟨hc, i, hi⟩ := lotsB_mem.1 hl
  have hf := hI.fL_is hi
  obtain ⟨⟨⟨zp, zl⟩, zn⟩, hz, hzk, -⟩ := atM_mem (m := B.2.2) (k := (x.1, x.2.1)) (by omega)
  simp only [Prod.mk.injEq] at hzk
  obtain ⟨rfl, rfl⟩ := hzk
  refine ⟨l, ?_, hl, hk, hc, hd, InP.of (hI.stk.well.well _ hz).1⟩
  unfold lotsF
  rw [← hk, hf]
  rfl
theorem BkI.pick_next {B : BkV} (hI : BkI B) {code : List UInt8} {n day : Int} (h : planE B code n day = 0) {i : Nat} (hi : i + 1 < (planL B code n day).length) {x y : LotV} (hy : lotsF B (planL B code n day)[i].2.1 = some y) (hx : lotsF B (planL B code n day)[i + 1].2.1 = some x) :
    (x.1 = y.1 → ltOf cfPlace (planL B code n day)[i].1 (planL B code n day)[i + 1].1 = true) ∧ (x.1 ≠ y.1 → ltOf cfLot y x = true) := by
  have h0 := planE_zero h
  have hup := plan_up hI day (lotsB B code) n (by omega) (hI.lots_strict code)
  have hp : planL B code n day = (planTo B day n (lotsB B code)).1 := planL_is h
  obtain ⟨x', hx', -, ex, -⟩ := hI.pick_lot h (List.getElem_mem hi)
  obtain ⟨y', hy', -, ey, -⟩ := hI.pick_lot h (List.getElem_mem (Nat.lt_of_succ_lt hi))
  obtain rfl : x = x' := Option.some.inj (hx.symm.trans hx')
  obtain rfl : y = y' := Option.some.inj (hy.symm.trans hy')
  rw [← hp] at hup
  have hr := List.pairwise_iff_getElem.1 hup i (i + 1) (Nat.lt_of_succ_lt hi) hi (Nat.lt_succ_self i)
  rcases hr with ⟨h1, h2⟩ | ⟨u, hu, v, hv, h1, h2, h3⟩
  · exact ⟨fun _ => h2, fun hne => absurd (ex.trans (h1.symm.trans ey.symm)) hne⟩
  · obtain ⟨-, j, hj⟩ := lotsB_mem.1 hu
    obtain ⟨-, k, hk⟩ := lotsB_mem.1 hv
    have fu : lotsF B u.1 = some u := by unfold lotsF; rw [hI.fL_is hj]; rfl
    have fv : lotsF B v.1 = some v := by unfold lotsF; rw [hI.fL_is hk]; rfl
    rw [h1, hy] at fu
    rw [h2, hx] at fv
    obtain rfl := Option.some.inj fu
    obtain rfl := Option.some.inj fv
    refine ⟨fun he => ?_, fun _ => h3⟩
    have := hI.lot_uniq hj hk he.symm
    rw [show y = x from congrArg (fun z : LoH => z.1) this, swoLot.irrefl] at h3
    cases h3
theorem BkI.last_lot {B : BkV} (hI : BkI B) {code : List UInt8} {n day : Int} (h : planE B code n day = 0) (hr : (sumsOf B code).2.1 + n ≤ mostS) {x : PickV} (hx : x ∈ planL B code n day) {y : LotV} (hy : lotsF B x.2.1 = some y) {l : LotV} (hl : l ∈ lotsB B code) (hd : day ≤ l.2.2.1) (hlt : ltOf cfLot l y = true) :
    ofM (doAll B ((planL B code n day).map goE)).2.2 l.1 = heldOf (doAll B ((planL B code n day).map goE)) l.1 := by
  have h0 := planE_zero h
  obtain ⟨-, -, w, -⟩ := hI.plan_goes h hr
  obtain ⟨-, k2, -, k4⟩ := w.known
  obtain ⟨y', hy', hyl, ey, -⟩ := hI.pick_lot h hx
  obtain rfl : y = y' := Option.some.inj (hy.symm.trans hy')
  have hp : planL B code n day = (planTo B day n (lotsB B code)).1 := planL_is h
  rw [hp] at hx
  have ha := plan_all hI day (lotsB B code) n (by omega) (hI.lots_strict code) (hI.lots_apart code) x hx y hyl ey l hl hd hlt
  rw [← hp] at ha
  have hv := k4 l.1
  rw [ha] at hv
  unfold looseB at hv
  omega
theorem allP_take (p : List PickV) (k : Nat) (h : k < p.length) : allP (p.take (k + 1)) = allP (p.take k) + p[k].2.2 := by
  rw [List.take_succ_eq_append_getElem h, allP_app]
  simp [allP]
theorem allP_nonneg : ∀ p : List PickV, (∀ x ∈ p, 0 ≤ x.2.2) → 0 ≤ allP p
  | [], _ => Int.le_refl _
  | x :: r, h => by
    have h1 := h x List.mem_cons_self
    have h2 := allP_nonneg r fun y hy => h y (List.mem_cons_of_mem _ hy)
    simp only [allP]
    omega
theorem allP_in (p : List PickV) (h : ∀ x ∈ p, 0 ≤ x.2.2) (k : Nat) : 0 ≤ allP (p.take k) ∧ allP (p.take k) ≤ allP p := by
  have h1 := allP_nonneg (p.take k) fun x hx => h x (List.mem_of_mem_take hx)
  have h2 := allP_nonneg (p.drop k) fun x hx => h x (List.mem_of_mem_drop hx)
  have h3 := allP_app (p.drop k) (p.take k)
  rw [List.take_append_drop] at h3
  omega
/-- Whether there is a plan: as so many are free. -/
theorem BkI.free_none {B : BkV} (hI : BkI B) {code : List UInt8} (day : Int) (h : (fG B code).isSome = false) : freeB B code day = 0 := by
  have h0 : lotsB B code = [] := by
    have hf : (B.2.1.filter fun x : LoH => decide (x.1.2.1 = code)) = [] := by
      rw [List.filter_eq_nil_iff]
      intro y hy hc
      have := (hI.lok y hy).2.2
      rw [show y.1.2.1 = code by simpa using hc, h] at this
      cases this
    unfold lotsB
    rw [hf]
    rfl
  unfold freeB
  rw [h0]
  rfl
theorem BkI.plan_iff {B : BkV} (hI : BkI B) {code : List UInt8} {n day : Int} (h1 : 1 ≤ n) (h2 : n ≤ 1099511627776) (h3 : 0 ≤ day) (h4 : day ≤ 100000) : planE B code n day = 0 ↔ n ≤ freeB B code day := by
  constructor
  · exact fun h => (planE_zero h).2.2.2.2.2
  · intro h
    cases hg : (fG B code).isSome with
    | true => exact planE_ok h1 h2 h3 h4 hg h
    | false =>
      have := hI.free_none day hg
      omega
/-- All that AllocGoes asks of an order's error, its plan, what is free. -/
structure GoesW (B : BkV) (code : List UInt8) (n day : Int) (pe : Nat) (pl : List PickV) (fr : Int) : Prop where
  iff : pe = 0 ↔ n ≤ fr
  nil : pe ≠ 0 → pl = []
  go : pe = 0 → CanGo B code pl ∧ allOk B (pl.map goE) ∧ Went B (doAll B (pl.map goE)) code n pl ∧ freeB (doAll B (pl.map goE)) code day = fr - n
  all : pe = 0 → allP pl = n
  short : pe = 0 → ∀ x ∈ pl.map goE, ShortE x
  lot : pe = 0 → ∀ (k : Nat) (hk : k < pl.length), ∃ l, lotsF B pl[k].2.1 = some l ∧ l ∈ lotsB B code ∧ l.1 = pl[k].2.1 ∧ l.2.1 = code ∧ day ≤ l.2.2.1 ∧ InP pl[k].1
  next : pe = 0 → ∀ (i : Nat) (hi : i + 1 < pl.length) (x y : LotV), lotsF B (pl[i]'(Nat.lt_of_succ_lt hi)).2.1 = some y → lotsF B pl[i + 1].2.1 = some x → (x.1 = y.1 → ltOf cfPlace (pl[i]'(Nat.lt_of_succ_lt hi)).1 pl[i + 1].1 = true) ∧ (x.1 ≠ y.1 → ltOf cfLot y x = true)
  last : pe = 0 → ∀ (k : Nat) (hk : k < pl.length) (y : LotV), lotsF B pl[k].2.1 = some y → ∀ l ∈ lotsB B code, day ≤ l.2.2.1 → ltOf cfLot l y = true → ofM (doAll B (pl.map goE)).2.2 l.1 = heldOf (doAll B (pl.map goE)) l.1
  some_ : pe = 0 → (fG B code).isSome = true
  len : pl.length ≤ 12000
theorem BkI.goesW {B : BkV} (hI : BkI B) {code : List UInt8} {n day : Int} (h1 : 1 ≤ n) (h2 : n ≤ 1099511627776) (h3 : 0 ≤ day) (h4 : day ≤ 100000) (hr : (sumsOf B code).2.1 + n ≤ mostS) : GoesW B code n day (planE B code n day) (planL B code n day) (freeB B code day) where
  iff := hI.plan_iff h1 h2 h3 h4
  nil := fun h => by unfold planL; rw [if_neg h]
  go := fun h => hI.plan_goes h hr
  all := fun h => hI.plan_adds h
  short := fun h => short_goE hI (hI.plan_goes h hr).1
  lot := fun h k hk => hI.pick_lot h (List.getElem_mem hk)
  next := fun h i hi x y hy hx => hI.pick_next h hi hy hx
  last := fun h k hk y hy l hl hd hlt => hI.last_lot h hr (List.getElem_mem hk) hy hl hd hlt
  some_ := fun h => (planE_zero h).2.2.2.2.1
  len := hI.planL_len code n day
end Go.Proofs.YtgllddebodfhkaaGreatDoor
namespace Go.Proofs.YtgllddebodfhkaaGreatDoor
open Go.RowKit Go.Sort Go.Proofs

theorem entInfo1 : (Tryz.prog.info? 49).map (fun i => (i.zero, i.size, i.bytes)) = some (some (.agg #[.string ⟨#[]⟩, .string ⟨#[]⟩, .int .i64 0, .string ⟨#[]⟩, .string ⟨#[]⟩, .int .i64 0, .int .i64 0, .string ⟨#[]⟩, .int .i64 0, .int .i64 0, .string ⟨#[]⟩, .int .i64 0, .int .i64 0, .int .i64 0]), 14, 160) := by kernel_rfl

set_option maxHeartbeats 1600000 in
set_option maxRecDepth 100000 in
theorem outAl_any (A : Option Addr) (cap : Nat) (p : List PickV) (w : World) (h : RowAt encPick 5 w A p) (hl : p.length ≤ 100000) :
    Calls Tryz.prog 15 #[.slice A p.length cap] w fun e w' => ∃ A' c', e = .returned (.slice A' p.length c') ∧ RowAt encEnt 14 w' A' (p.map goE) ∧ (∀ a, A' = some a → w.heap.size ≤ a.block) ∧ Below w.heap.size w w' := by
  obtain ⟨i0, hi, hz0, hz1, hz2⟩ := info_parts entInfo1
  have HST := Lib.hid (fun W (hb : Below w.heap.size w W) => h.below hb)
  obtain ⟨N, hN⟩ : ∃ N, N = p.length := ⟨_, rfl⟩
  have HN := Lib.hid hN
  rw [← hN] at hl ⊢
  clear h hN
  go_enter Tryz.func15, Tryz.ntmps15
  go_wp2_with fail
  go_loopw [3, 8] (fun v i wr => ∃ k : Nat, k ≤ N ∧ i = .int .i64 k ∧ Hid (wr.ownsRow w.heap.size 49 14 v k (flatL encEnt ((p.take k).map goE))) ∧ Hid (Below w.heap.size w wr)) (fun _ i _ => N - (intOf i).toNat)
  case atStart => exact ⟨0, by omega, rfl, World.ownsRow_nil _ _ _ _, Below.refl _ _⟩
  case round =>
    obtain ⟨k, hk, rfl, HOW, HB⟩ := hrel
    obtain ⟨wo, rfl⟩ : ∃ wo : World, wo = wr := ⟨_, rfl⟩
    by_cases hkN : k < N
    · have hkx : k < p.length := by rw [← HN.out]; exact hkN
      obtain ⟨g, o, rfl, lg, cg⟩ := HST.out wo HB.out |>.resolve_left (fun h => by rw [h] at hkx; simp at hkx)
      obtain ⟨x, hx⟩ : ∃ x, x = p[k] := ⟨_, rfl⟩
      have HNX : Hid (flatL encEnt ((p.take (k + 1)).map goE) = flatL encEnt ((p.take k).map goE) ++ flatL encEnt [goE x]) := by
        show _ = _
        rw [List.take_succ_eq_append_getElem hkx, List.map_append, flatL_append, hx]
        rfl
      have hly : Lies wo g (o + k * 5) (encPick x) := fun c v hv => cg k hkx c v (by rw [← hx]; exact hv)
      obtain ⟨⟨x1, x2, x3⟩, x4, x5⟩ := x
      have h5 : (encPick ((x1, x2, x3), x4, x5)).length = 5 := rfl
      have HLZ := Lib.hid hly
      have HZ1 := Lib.hid (encPick_one ((x1, x2, x3), x4, x5))
      obtain ⟨LZ, hLZ⟩ : ∃ LZ, LZ = encPick ((x1, x2, x3), x4, x5) := ⟨_, rfl⟩
      have HLE := Lib.hid hLZ
      rw [← hLZ] at h5 HLZ HZ1
      have hk0 : (0 : Int) ≤ (k : Nat) := by omega
      have hk1 : ((k : Nat) : Int) < (N : Nat) := by omega
      have hba := below_one wo (.cells #[.string ⟨#[]⟩, .int .i64 0, .int .i64 0, .string ⟨#[]⟩, .int .i64 0] 42)
      clear hx cg hly hLZ
      go_upto_region 5 with (first | (refine wpList_load_at rfl 42 _ rfl g (o + k * 5) rfl LZ HLZ.out _ Tryz.underlying42 rfl (by rw [h5]; kernel_rfl) ?_) | (refine wpList_store_box rfl 42 _ _ rfl wo.heap.size LZ rfl rfl _ [.string ⟨#[]⟩, .int .i64 0, .int .i64 0, .string ⟨#[]⟩, .int .i64 0] (heap_alloc_new wo _) (by rw [h5]; kernel_rfl) (by rw [h5]; rfl) HZ1.out ?_; intro w2 h2 tu2))
      have b2 := hba.trans (tu2.below (Nat.le_refl _))
      have HB2 := Lib.hid (HB.out.trans (b2.mono HB.out.size))
      have HO2 := Lib.hid (own_bl HOW.out b2)
      rw [HLE.out] at h2
      obtain ⟨⟨d0, d1, d2, d3, d4⟩, -⟩ := row5f h2
      have HX2 := Lib.hid h2
      have hz2' := row_lt h2
      clear tu2 hba b2 h2 HLZ HOW HB
      go_wp2_with (first | (refine wpList_load_at rfl 40 _ rfl wo.heap.size 0 rfl [.string ⟨x1.toArray⟩, .int .i64 x2, .int .i64 x3] (Lies.head (r := [.string ⟨x4.toArray⟩, .int .i64 x5]) (Lies.row _ HX2.out)) _ Tryz.underlying40 rfl (by kernel_rfl) ?_) | (at_builtin; refine wpList_append_rows _ rfl (.tmp 12) (.tmp 21) 22 rfl w.heap.size 49 i0 _ 160 Tryz.underlying22 hi hz0 hz1 hz2 rfl encEnt_len (by decide) encEnt_one _ k (flatL encEnt ((p.take k).map goE)) rfl (own_bl HO2.out (below_one _ _)) (some ⟨w2.heap.size, 0, none⟩) 1 [goE ((x1, x2, x3), x4, x5)] rfl (row_one (heap_alloc_new _ _)) (by simp; omega) (by decide) (by have := HB2.out.size; simp; omega) ?_; intro v3 w3 HO3 hb3; have HB3 := Lib.hid hb3; clear hb3))
      go_roundw
      case rel =>
        refine ⟨k + 1, by omega, by go_num, ?_, (HB2.out.trans ((below_one w2 _).mono HB2.out.size)).trans HB3.out⟩
        show World.ownsRow _ _ _ _ _ _ _
        rw [HNX.out]
        exact HO3.out
      case measure => simp [intOf]; omega
    · obtain rfl : k = N := by omega
      have hT : p.take k = p := List.take_of_length_le (by rw [← HN.out]; exact Nat.le_refl _)
      have ho := HOW.out
      rw [hT, show k = (p.map goE).length by rw [List.length_map]; exact HN.out] at ho
      obtain ⟨A', c', rfl, hra, hge⟩ := RowAt.of_own encEnt_len ho
      have HRA := Lib.hid hra
      have HGE := Lib.hid hge
      have HKL : Hid ((p.map goE).length = k) := by
        show _ = _
        rw [List.length_map]
        exact HN.out.symm
      clear hT hra hge HOW ho
      go_wp2_with fail
      go_ret
      exact ⟨A', c', by rw [HKL.out]; rfl, HRA.out, HGE.out, HB.out⟩
end Go.Proofs.YtgllddebodfhkaaGreatDoor
namespace Go.Proofs.YtgllddebodfhkaaGreatDoor
open Go.RowKit Go.Sort Go.Proofs

/-! How many may have gone behind so many entries. -/
theorem out_step {B : BkV} (hI : BkI B) (x : EntV) (c : List UInt8) : (sumsOf (doB B x) c).2.1 ≤ (sumsOf B c).2.1 + 1099511627776 := by
  by_cases he : doE B x = 0
  · have hent : entE x = 0 := by
      unfold doE at he
      split at he
      · rename_i h
        exact absurd he h
      · rename_i h
        simpa using h
    have hd : ¬ doE B x ≠ 0 := fun h => h he
    rcases ent_kinds hent with ⟨k, -⟩ | ⟨k, -⟩ | ⟨k1, k2, -, k4⟩
    · have hn : fG B x.2.1.1 = none := by
        unfold doE at he
        rw [if_neg (by rw [hent]; simp), if_pos k] at he
        split at he
        · cases he
        · rename_i h
          exact isSome_none h
      unfold doB
      rw [if_neg hd, if_pos k]
      have e : sumsOf (insG (x.2.1, zeroSums) B.1, B.2.1, B.2.2) c = sumsOf B c := by
        unfold sumsOf
        rw [hI.fG_ins hn]
        by_cases hc : x.2.1.1 = c
        · rw [if_pos hc, ← hc, hn]
        · rw [if_neg hc]
      rw [e]
      omega
    · unfold doB
      rw [if_neg hd, if_neg (by rw [k]; decide), if_pos k]
      show (sumsOf B c).2.1 ≤ _
      omega
    · have hpc : pcE B x = 0 := by
        unfold doE at he
        rw [if_neg (by rw [hent]; simp), if_neg k1, if_neg k2] at he
        exact he
      obtain ⟨y, hf, -⟩ := pc_zero hpc
      obtain ⟨h1, -, g, hg, -⟩ := hI.lot_goods hf
      have hn : x.2.2.2.2.2 ≤ 1099511627776 ∧ 1 ≤ x.2.2.2.2.2 := by
        unfold piecesE wiB at k4
        split at k4
        · cases k4
        split at k4
        · rename_i h
          exact absurd k4 h
        split at k4
        · cases k4
        · rename_i h
          simp only [decide_eq_false_iff_not, Classical.not_not] at h
          omega
      unfold doB
      rw [if_neg hd, if_neg k1, if_neg k2, sumsOf_doP (g := g) (by rw [h1]; exact hg)]
      split
      · rename_i hc
        rw [← hc]
        unfold summ
        repeat' split
        all_goals first
          | omega
          | (simp only; omega)
      · omega
  · unfold doB
    rw [if_pos he]
    omega
theorem outs_all (c : List UInt8) : ∀ (l : List EntV) {B : BkV}, BkI B → (sumsOf (doAll B l) c).2.1 ≤ (sumsOf B c).2.1 + l.length * 1099511627776
  | [], B, _ => by
    show (sumsOf B c).2.1 ≤ _
    simp
  | x :: r, B, hI => by
    have h1 := out_step hI x c
    have h2 := outs_all c r (hI.do_ x)
    show (sumsOf (doAll (doB B x) r) c).2.1 ≤ _
    rw [List.length_cons]
    omega
end Go.Proofs.YtgllddebodfhkaaGreatDoor
namespace Go.Proofs.YtgllddebodfhkaaGreatDoor
open Go.RowKit Go.Sort Go.Proofs

/-- A book since a world: only blocks that were its own, and new ones, turned. -/
def Since (F0 : List Nat) (w0 : World) (p : Nat) (B : BkV) (w : World) : Prop := ∃ F, BookIs w p F B ∧ (∀ k ∈ F, k ∈ F0 ∨ w0.heap.size ≤ k) ∧ ButF F0 w0 w
theorem Since.start {F : List Nat} {w : World} {p : Nat} {B : BkV} (H : BookIs w p F B) : Since F w p B w := ⟨F, H, fun _ h => .inl h, ButF.refl _ _⟩
theorem Since.below {F0 : List Nat} {w0 w w' : World} {p : Nat} {B : BkV} (H : Since F0 w0 p B w) (hb : Below w.heap.size w w') : Since F0 w0 p B w' := by
  obtain ⟨F, h1, h2, h3⟩ := H
  exact ⟨F, h1.below hb, h2, h3.then_below hb⟩
theorem Since.trans {F0 F1 : List Nat} {w0 w1 w2 : World} {p : Nat} {B : BkV} (H : Since F1 w1 p B w2) (hb : ButF F0 w0 w1) (hF : ∀ k ∈ F1, k ∈ F0 ∨ w0.heap.size ≤ k) : Since F0 w0 p B w2 := by
  obtain ⟨F, h1, h2, h3⟩ := H
  refine ⟨F, h1, fun k hk => ?_, hb.trans h3 hF⟩
  rcases h2 k hk with h | h
  · exact hF k h
  · exact .inr (Nat.le_trans hb.size h)
theorem Since.low {F0 : List Nat} {w0 w : World} {p n : Nat} {B : BkV} (H : Since F0 w0 p B w) (hn : n ≤ w0.heap.size) (hF : ∀ k ∈ F0, n ≤ k) : Below n w0 w := by
  obtain ⟨F, -, -, h3⟩ := H
  exact h3.below hn hF
theorem Since.do_ (E : Nat → Addr) {F0 : List Nat} {w0 w : World} {p : Nat} {B : BkV} (x : EntV) (H : Since F0 w0 p B w) (hI : BkI B) (hs : ShortE x) (hG : BkG E w) :
    Calls Tryz.prog 16 #[.pointer (some ⟨p, 0, none⟩), .agg (encEnt x).toArray] w fun e w' => e = .returned (errOf E (doE B x)) ∧ Since F0 w0 p (doB B x) w' := by
  obtain ⟨F, h1, h2, h3⟩ := H
  refine (do_any E x h1 hI (by have := hs.2.1; omega) (by have := hs.2.2.1; omega) hG).mono ?_
  rintro e w' ⟨he, ⟨F', h6, h7⟩, h8⟩
  refine ⟨he, F', h6, fun k hk => ?_, h3.trans h8 h2⟩
  rcases h7 k hk with h | h
  · exact h2 k h
  · exact .inr (Nat.le_trans h3.size h)
theorem RowAt.butF {α : Type} {enc : α → List Value} {k : Nat} {w w' : World} {A : Option Addr} {xs : List α} {F : List Nat} (h : RowAt enc k w A xs) (hb : ButF F w w') (hA : ∀ a, A = some a → a.block ∉ F) : RowAt enc k w' A xs := by
  rcases h with h | ⟨g, o, h1, h2, h3⟩
  · exact .inl h
  · exact .inr ⟨g, o, h1, Nat.lt_of_lt_of_le h2 hb.size, fun i hi c v hv => (World.cell?_of_block (a := ⟨g, o + i * k + c, none⟩) (hb.block g h2 (hA ⟨g, o, none⟩ h1))).trans (h3 i hi c v hv)⟩
theorem RowAt.since {α : Type} {enc : α → List Value} {k : Nat} {w w' : World} {A : Option Addr} {xs : List α} {F0 : List Nat} {p : Nat} {B : BkV} (h : RowAt enc k w A xs) (H : Since F0 w p B w') (hA : ∀ a, A = some a → a.block ∉ F0) : RowAt enc k w' A xs := by
  obtain ⟨F, -, -, h3⟩ := H
  exact h.butF h3 hA
theorem allOk_at {B : BkV} {l : List EntV} (h : allOk B l) (k : Nat) (hk : k < l.length) : doE (doAll B (l.take k)) l[k] = 0 ∧ doAll B (l.take (k + 1)) = doB (doAll B (l.take k)) l[k] := by
  constructor
  · have e : l = l.take k ++ (l[k] :: l.drop (k + 1)) := by
      rw [← List.drop_eq_getElem_cons hk, List.take_append_drop]
    rw [e, allOk_app] at h
    exact h.2.1
  · rw [List.take_succ_eq_append_getElem hk]
    unfold doAll
    rw [List.foldl_append]
    rfl
end Go.Proofs.YtgllddebodfhkaaGreatDoor
