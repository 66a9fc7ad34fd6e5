/- Entries, plainly: what is an error of one, its text, and that it is read as it was written. No program in sight. A stock moved, and moved back; a stock's text read: plainly. -/
import Derived.Test.YtgllddebodfhkaaGreatDoorM16
import Derived.Test.YtgllddebodfhkaaGreatDoorM17
namespace Go.Proofs.YtgllddebodfhkaaGreatDoor
open Go.RowKit Go.Sort Go.Proofs

instance decE1 : DecidableEq (PlaceV × Int) := inferInstance
instance decE2 : DecidableEq (PlaceV × PlaceV × Int) := inferInstance
instance decE3 : DecidableEq (LotV × PlaceV × PlaceV × Int) := inferInstance
instance decE4 : DecidableEq (GoodsV × LotV × PlaceV × PlaceV × Int) := inferInstance
instance decE5 : DecidableEq (List UInt8 × GoodsV × LotV × PlaceV × PlaceV × Int) := inferInstance
/-- An entry: kind, goods, lot, from, to, how many. -/
abbrev EntV := List UInt8 × GoodsV × LotV × PlaceV × PlaceV × Int
def encEnt (x : EntV) : List Value := [.string ⟨x.1.toArray⟩, .string ⟨x.2.1.1.toArray⟩, .int .i64 x.2.1.2, .string ⟨x.2.2.1.1.toArray⟩, .string ⟨x.2.2.1.2.1.toArray⟩, .int .i64 x.2.2.1.2.2.1, .int .i64 x.2.2.1.2.2.2,
  .string ⟨x.2.2.2.1.1.toArray⟩, .int .i64 x.2.2.2.1.2.1, .int .i64 x.2.2.2.1.2.2, .string ⟨x.2.2.2.2.1.1.toArray⟩, .int .i64 x.2.2.2.2.1.2.1, .int .i64 x.2.2.2.2.1.2.2, .int .i64 x.2.2.2.2.2]
theorem encEnt_len (x : EntV) : (encEnt x).length = 14 := rfl
theorem encEnt_one (x : EntV) : ∀ v ∈ encEnt x, v.oneCell' = true := fun v hv => by
  simp [encEnt] at hv
  rcases hv with rfl | rfl | rfl | rfl | rfl | rfl | rfl | rfl | rfl | rfl | rfl | rfl | rfl | rfl <;> rfl

def kGoods : List UInt8 := [103, 111, 111, 100, 115]
def kLot : List UInt8 := [108, 111, 116]
def kIn : List UInt8 := [105, 110]
def kMore : List UInt8 := [109, 111, 114, 101]
def kOut : List UInt8 := [111, 117, 116]
def kLess : List UInt8 := [108, 101, 115, 115]
def kMove : List UInt8 := [109, 111, 118, 101]
def kHold : List UInt8 := [104, 111, 108, 100]
def kFree : List UInt8 := [102, 114, 101, 101]
def zeroGoods : GoodsV := ([], 0)
def zeroEnt : EntV := ([], zeroGoods, zeroLot, zeroPlace, zeroPlace, 0)
/-- Has a kind a place that it is from? a place that it is to? is it one of pieces? -/
def hasF (k : List UInt8) : Bool := decide (k = kOut ∨ k = kLess ∨ k = kMove)
def hasT (k : List UInt8) : Bool := decide (k = kIn ∨ k = kMore ∨ k = kMove)
def isP (k : List UInt8) : Bool := decide (k = kIn ∨ k = kMore ∨ k = kOut ∨ k = kLess ∨ k = kMove ∨ k = kHold ∨ k = kFree)

/-- The entry of pieces that is wanted of this one. -/
def wantP (x : EntV) : EntV := (x.1, zeroGoods, (x.2.2.1.1, [], 0, 0), (if hasF x.1 then x.2.2.2.1 else zeroPlace), (if hasT x.1 then x.2.2.2.2.1 else zeroPlace), x.2.2.2.2.2)
/-- The number of the error of an entry's places. -/
def placesE (x : EntV) : Nat := if hasF x.1 ∧ placeE x.2.2.2.1 ≠ 0 then placeE x.2.2.2.1 else if hasT x.1 then placeE x.2.2.2.2.1 else 0
def piecesE (x : EntV) : Nat :=
  if nameB x.2.2.1.1 = false then 5 else if placesE x ≠ 0 then placesE x else if wiB x.2.2.2.2.2 1 1099511627776 = false then 2
  else if (x.1 = kMove ∧ x.2.2.2.1 = x.2.2.2.2.1) ∨ x ≠ wantP x then 3 else 0
/-- The number of an entry's error. -/
def entE (x : EntV) : Nat :=
  if x.1 = kGoods then (if goodsE x.2.1 ≠ 0 then goodsE x.2.1 else if x ≠ (x.1, x.2.1, zeroLot, zeroPlace, zeroPlace, 0) then 3 else 0)
  else if x.1 = kLot then (if lotE x.2.2.1 ≠ 0 then lotE x.2.2.1 else if x ≠ (x.1, zeroGoods, x.2.2.1, zeroPlace, zeroPlace, 0) then 3 else 0)
  else if isP x.1 then piecesE x else 4

/-- The words of an entry of pieces. -/
def wordsP (x : EntV) : List (List UInt8) := [x.1, x.2.2.1.1] ++ (if hasF x.1 then [placeText x.2.2.2.1] else []) ++ (if hasT x.1 then [placeText x.2.2.2.2.1] else []) ++ [Lib.itoa x.2.2.2.2.2]
/-- An entry's text. -/
def entText (x : EntV) : List UInt8 :=
  if entE x ≠ 0 then [] else if x.1 = kGoods then kGoods ++ [32] ++ x.2.1.1 ++ [32] ++ Lib.itoa x.2.1.2
  else if x.1 = kLot then kLot ++ [32] ++ lotText x.2.2.1 else joinL 32 (wordsP x)

/-- What reading an entry's words answers, ahead of its check. -/
def entGoods (ws : List (List UInt8)) : EntV × Nat :=
  match ws with
  | [_, c, d] => match numQ d 13 with
    | some v => ((kGoods, (c, (v : Int)), zeroLot, zeroPlace, zeroPlace, 0), 0)
    | none => (zeroEnt, 1)
  | _ => (zeroEnt, 1)
def entPieces (k : List UInt8) (ws : List (List UInt8)) : EntV × Nat :=
  if ws.length ≠ 3 + (if hasF k then 1 else 0) + (if hasT k then 1 else 0) then (zeroEnt, 1)
  else match numQ (ws.getLast?.getD []) 13 with
    | none => (zeroEnt, 1)
    | some n =>
      let f : PlaceV × Nat := if hasF k then placeWords (splitL 45 (ws.getD 2 [])) else (zeroPlace, 0)
      let t : PlaceV × Nat := if hasT k ∧ f.2 = 0 then placeWords (splitL 45 (ws.getD (if hasF k then 3 else 2) [])) else (zeroPlace, 0)
      ((k, zeroGoods, (ws.getD 1 [], [], 0, 0), f.1, t.1, (n : Int)), if f.2 ≠ 0 then f.2 else t.2)
def entWords (ws : List (List UInt8)) : EntV × Nat :=
  let k := ws.headD []
  if k = kGoods then entGoods ws
  else if k = kLot then ((kLot, zeroGoods, (lotWords (splitL 32 (joinL 32 ws.tail))).1, zeroPlace, zeroPlace, 0), (lotWords (splitL 32 (joinL 32 ws.tail))).2)
  else if isP k then entPieces k ws else (zeroEnt, 4)
/-- What reading an entry answers. -/
def entRead (s : List UInt8) : EntV × Nat :=
  let r := entWords (splitL 32 s)
  if r.2 ≠ 0 then (zeroEnt, r.2) else if entE r.1 ≠ 0 then (zeroEnt, entE r.1) else (r.1, 0)

/-! It is read as it was written. -/
theorem lot_back {x : LotV} (h : lotE x = 0) : splitL 32 (lotText x) = [x.1, x.2.1, Lib.itoa x.2.2.1, Lib.itoa x.2.2.2] ∧ lotWords [x.1, x.2.1, Lib.itoa x.2.2.1, Lib.itoa x.2.2.2] = (x, 0) := by
  have hx : nameB x.1 = true ∧ nameB x.2.1 = true ∧ 0 ≤ x.2.2.1 ∧ x.2.2.1 ≤ 100000 ∧ 0 ≤ x.2.2.2 ∧ x.2.2.2 ≤ 1048576 := by
    unfold lotE at h
    split at h
    · cases h
    · rename_i h1
      split at h
      · cases h
      · rename_i h2
        simp at h1
        refine ⟨h1.1, h1.2, ?_⟩
        omega
  obtain ⟨h1, h2, h3, h4, h5, h6⟩ := hx
  constructor
  · have e : lotText x = joinL 32 [x.1, x.2.1, Lib.itoa x.2.2.1, Lib.itoa x.2.2.2] := by
      unfold lotText
      rw [if_pos h]
      simp [joinL]
    rw [e]
    refine splitL_join 32 _ (by simp) fun w hw => ?_
    simp only [List.mem_cons, List.not_mem_nil, or_false] at hw
    rcases hw with rfl | rfl | rfl | rfl
    · exact name_not h1 32 (by decide)
    · exact name_not h2 32 (by decide)
    · exact itoa_not h3 32 (by decide)
    · exact itoa_not h5 32 (by decide)
  · have q1 : numQ (Lib.itoa x.2.2.1) 9 = some x.2.2.1.toNat := numQ_itoa h3 9 (by omega) (by omega) (by omega)
    have q2 : numQ (Lib.itoa x.2.2.2) 9 = some x.2.2.2.toNat := numQ_itoa h5 9 (by omega) (by omega) (by omega)
    unfold lotWords
    simp only [q1, q2, Int.toNat_of_nonneg h3, Int.toNat_of_nonneg h5]
    rw [if_pos (show lotE (x.1, x.2.1, x.2.2.1, x.2.2.2) = 0 from h)]
theorem place_back {x : PlaceV} (h : placeE x = 0) : placeWords (splitL 45 (placeText x)) = (x, 0) ∧ (32 : UInt8) ∉ placeText x := by
  obtain ⟨h1, h2, h3, h4, h5⟩ := placeE_zero.1 h
  have e : placeText x = joinL 45 [x.1, Lib.itoa x.2.1, Lib.itoa x.2.2] := by
    unfold placeText
    rw [if_pos h]
    simp [joinL]
  constructor
  · rw [e, splitL_join 45 _ (by simp) fun w hw => by
      simp only [List.mem_cons, List.not_mem_nil, or_false] at hw
      rcases hw with rfl | rfl | rfl
      · exact name_not h1 45 (by decide)
      · exact itoa_not (by omega) 45 (by decide)
      · exact itoa_not (by omega) 45 (by decide)]
    have q1 : numQ (Lib.itoa x.2.1) 4 = some x.2.1.toNat := numQ_itoa (by omega) 4 (by omega) (by omega) (by omega)
    have q2 : numQ (Lib.itoa x.2.2) 4 = some x.2.2.toNat := numQ_itoa (by omega) 4 (by omega) (by omega) (by omega)
    unfold placeWords
    simp only [q1, q2]
    rw [Int.toNat_of_nonneg (by omega), Int.toNat_of_nonneg (by omega), if_pos (show placeE (x.1, x.2.1, x.2.2) = 0 from h)]
  · rw [e]
    simp only [joinL, List.mem_append, List.mem_cons, not_or]
    exact ⟨name_not h1 32 (by decide), by decide, itoa_not (by omega) 32 (by decide), by decide, itoa_not (by omega) 32 (by decide)⟩

theorem kinds_ne : kLot ≠ kGoods ∧ kIn ≠ kGoods ∧ kMore ≠ kGoods ∧ kOut ≠ kGoods ∧ kLess ≠ kGoods ∧ kMove ≠ kGoods ∧ kHold ≠ kGoods ∧ kFree ≠ kGoods := by decide
theorem isP_kind {k : List UInt8} (h : isP k = true) : (32 : UInt8) ∉ k ∧ k ≠ kGoods ∧ k ≠ kLot := by
  unfold isP at h
  simp only [decide_eq_true_eq] at h
  rcases h with rfl | rfl | rfl | rfl | rfl | rfl | rfl <;> decide

theorem pieces_zero {x : EntV} (h : piecesE x = 0) : nameB x.2.2.1.1 = true ∧ (hasF x.1 = true → placeE x.2.2.2.1 = 0) ∧ (hasT x.1 = true → placeE x.2.2.2.2.1 = 0) ∧ 1 ≤ x.2.2.2.2.2 ∧ x.2.2.2.2.2 ≤ 1099511627776 ∧ x = wantP x := by
  unfold piecesE at h
  split at h
  · cases h
  rename_i h1
  split at h
  · rename_i h2; exact absurd h h2
  rename_i h2
  split at h
  · cases h
  rename_i h3
  split at h
  · cases h
  rename_i h4
  simp only [Decidable.not_not] at h2
  have hp : (hasF x.1 = true → placeE x.2.2.2.1 = 0) ∧ (hasT x.1 = true → placeE x.2.2.2.2.1 = 0) := by
    unfold placesE at h2
    split at h2
    · rename_i h5; exact absurd h2 h5.2
    · rename_i h5
      refine ⟨fun hf => Decidable.byContradiction fun h6 => h5 ⟨hf, h6⟩, fun ht => ?_⟩
      rw [if_pos ht] at h2; exact h2
  unfold wiB at h3
  simp only [decide_eq_false_iff_not, Decidable.not_not] at h3
  refine ⟨by simpa using h1, hp.1, hp.2, h3.1, h3.2, ?_⟩
  exact Decidable.byContradiction fun h5 => h4 (.inr h5)

theorem ent_back {x : EntV} (h : entE x = 0) : entRead (entText x) = (x, 0) := by
  have hE := h
  unfold entE at h
  by_cases k1 : x.1 = kGoods
  · rw [if_pos k1] at h
    split at h
    · rename_i h1; exact absurd h h1
    rename_i h1
    split at h
    · cases h
    rename_i h2
    simp only [Decidable.not_not] at h1 h2
    have hg : nameB x.2.1.1 = true ∧ 1 ≤ x.2.1.2 ∧ x.2.1.2 ≤ 1000 := by
      unfold goodsE at h1
      split at h1
      · cases h1
      split at h1
      · cases h1
      rename_i h3 h4
      unfold wiB at h4
      simp only [decide_eq_false_iff_not, Decidable.not_not] at h4
      exact ⟨by simpa using h3, h4⟩
    have et : entText x = joinL 32 [kGoods, x.2.1.1, Lib.itoa x.2.1.2] := by
      unfold entText
      rw [if_neg (by simpa using hE), if_pos k1]
      simp [joinL]
    have es : splitL 32 (entText x) = [kGoods, x.2.1.1, Lib.itoa x.2.1.2] := by
      rw [et]
      refine splitL_join 32 _ (by simp) fun w hw => ?_
      simp only [List.mem_cons, List.not_mem_nil, or_false] at hw
      rcases hw with rfl | rfl | rfl
      · decide
      · exact name_not hg.1 32 (by decide)
      · exact itoa_not (by omega) 32 (by decide)
    have q : numQ (Lib.itoa x.2.1.2) 13 = some x.2.1.2.toNat := numQ_itoa (by omega) 13 (by omega) (by omega) (by omega)
    have ex : x = (kGoods, x.2.1, zeroLot, zeroPlace, zeroPlace, 0) := by rw [← k1]; exact h2
    have ew : entWords (splitL 32 (entText x)) = (x, 0) := by
      rw [es]
      unfold entWords
      simp only [List.headD_cons, if_pos]
      unfold entGoods
      simp only [q]
      rw [Int.toNat_of_nonneg (by omega)]
      exact congrArg (·, 0) ex.symm
    unfold entRead
    rw [ew]
    simp [hE]
  rw [if_neg k1] at h
  by_cases k2 : x.1 = kLot
  · rw [if_pos k2] at h
    split at h
    · rename_i h1; exact absurd h h1
    rename_i h1
    split at h
    · cases h
    rename_i h2
    simp only [Decidable.not_not] at h1 h2
    obtain ⟨b1, b2⟩ := lot_back h1
    have ex : x = (kLot, zeroGoods, x.2.2.1, zeroPlace, zeroPlace, 0) := by rw [← k2]; exact h2
    have et : entText x = kLot ++ 32 :: lotText x.2.2.1 := by
      unfold entText
      rw [if_neg (by simpa using hE), if_neg k1, if_pos k2]
      simp
    have es : splitL 32 (entText x) = kLot :: splitL 32 (lotText x.2.2.1) := by
      rw [et, splitL_at _ _ (by decide)]
    have ej : joinL 32 (splitL 32 (lotText x.2.2.1)) = lotText x.2.2.1 := by
      rw [b1]
      unfold lotText
      rw [if_pos h1]
      simp [joinL]
    have ew : entWords (splitL 32 (entText x)) = (x, 0) := by
      rw [es]
      unfold entWords
      simp only [List.headD_cons, List.tail_cons]
      rw [if_neg kinds_ne.1, if_pos True.intro, ej, b1, b2]
      exact congrArg (·, 0) ex.symm
    unfold entRead
    rw [ew]
    simp [hE]
  rw [if_neg k2] at h
  split at h
  · rename_i hp
    obtain ⟨h1, h2, h3, h4, h5, h6⟩ := pieces_zero h
    obtain ⟨i1, i2, i3⟩ := isP_kind hp
    have et : entText x = joinL 32 (wordsP x) := by
      unfold entText
      rw [if_neg (by simpa using hE), if_neg k1, if_neg k2]
    have es : splitL 32 (entText x) = wordsP x := by
      rw [et]
      refine splitL_join 32 _ (by simp [wordsP]) fun w hw => ?_
      unfold wordsP at hw
      simp only [List.mem_append, List.mem_cons, List.not_mem_nil, or_false] at hw
      rcases hw with (((rfl | rfl) | hw) | hw) | rfl
      · exact i1
      · exact name_not h1 32 (by decide)
      · cases hf : hasF x.1
        · rw [hf] at hw; simp at hw
        · rw [hf] at hw
          simp only [if_true, List.mem_singleton] at hw
          subst hw
          exact (place_back (h2 hf)).2
      · cases ht : hasT x.1
        · rw [ht] at hw; simp at hw
        · rw [ht] at hw
          simp only [if_true, List.mem_singleton] at hw
          subst hw
          exact (place_back (h3 ht)).2
      · exact itoa_not (by omega) 32 (by decide)
    have q : numQ (Lib.itoa x.2.2.2.2.2) 13 = some x.2.2.2.2.2.toNat := numQ_itoa (by omega) 13 (by omega) (by omega) (by omega)
    have ew : entWords (splitL 32 (entText x)) = (x, 0) := by
      rw [es]
      unfold entWords
      have hd : (wordsP x).headD [] = x.1 := rfl
      simp only [hd]
      rw [if_neg i2, if_neg i3, if_pos hp]
      have hlast : (wordsP x).getLast?.getD [] = Lib.itoa x.2.2.2.2.2 := by
        unfold wordsP
        cases hasF x.1 <;> cases hasT x.1 <;> rfl
      have hlen : (wordsP x).length = 3 + (if hasF x.1 then 1 else 0) + (if hasT x.1 then 1 else 0) := by
        unfold wordsP
        cases hasF x.1 <;> cases hasT x.1 <;> rfl
      unfold entPieces
      rw [if_neg (by simpa using hlen), hlast, q]
      have h1' : (wordsP x).getD 1 [] = x.2.2.1.1 := rfl
      simp only [h1', Int.toNat_of_nonneg (show 0 ≤ x.2.2.2.2.2 by omega)]
      cases hf : hasF x.1 <;> cases ht : hasT x.1
      · simp only [Bool.false_eq_true, if_false, false_and]
        conv => rhs; rw [h6]
        simp [wantP, hf, ht]
      · have g2 : (wordsP x).getD 2 [] = placeText x.2.2.2.2.1 := by unfold wordsP; rw [hf, ht]; rfl
        simp only [Bool.false_eq_true, if_false, true_and, if_true, g2, (place_back (h3 ht)).1]
        conv => rhs; rw [h6]
        simp [wantP, hf, ht]
      · have g2 : (wordsP x).getD 2 [] = placeText x.2.2.2.1 := by unfold wordsP; rw [hf, ht]; rfl
        simp only [if_true, g2, (place_back (h2 hf)).1, Bool.false_eq_true, false_and, if_false]
        conv => rhs; rw [h6]
        simp [wantP, hf, ht]
      · have g2 : (wordsP x).getD 2 [] = placeText x.2.2.2.1 := by unfold wordsP; rw [hf, ht]; rfl
        have g3 : (wordsP x).getD 3 [] = placeText x.2.2.2.2.1 := by unfold wordsP; rw [hf, ht]; rfl
        simp only [if_true, g2, (place_back (h2 hf)).1, true_and, g3, (place_back (h3 ht)).1]
        conv => rhs; rw [h6]
        simp [wantP, hf, ht]
    unfold entRead
    rw [ew]
    simp [hE]
  · cases h
theorem ent_text_inj {x y : EntV} (hx : entE x = 0) (hy : entE y = 0) (h : entText x = entText y) : x = y := by
  have e := ent_back hx
  rw [h, ent_back hy] at e
  exact (congrArg Prod.fst e).symm
end Go.Proofs.YtgllddebodfhkaaGreatDoor
namespace Go.Proofs.YtgllddebodfhkaaGreatDoor
open Go.RowKit Go.Sort Go.Proofs

section
variable {κ ν : Type} [DecidableEq κ]
theorem mget_put_other : ∀ (m : List (κ × ν)) {k k' : κ} (v : ν), k' ≠ k → mget (mput m k v) k' = mget m k'
  | [], k, k', v, h => by simp [mput, mget, Ne.symm h]
  | p :: r, k, k', v, h => by
    unfold mput
    by_cases h1 : p.1 = k
    · rw [if_pos h1]
      unfold mget
      rw [if_neg (Ne.symm h), if_neg (by rw [h1]; exact Ne.symm h)]
    · rw [if_neg h1]
      unfold mget
      rw [mget_put_other r v h]
theorem mget_del (m : List (κ × ν)) (k : κ) : mget (mdel m k) k = none := mget_none fun p hp => by
  have := (List.mem_filter.1 hp).2
  simpa using this
theorem mget_del_other : ∀ (m : List (κ × ν)) {k k' : κ}, k' ≠ k → mget (mdel m k) k' = mget m k'
  | [], _, _, _ => rfl
  | p :: r, k, k', h => by
    have ih := mget_del_other r h
    unfold mdel at *
    by_cases h1 : p.1 = k
    · rw [List.filter_cons_of_neg (by simp [h1]), ih]
      rw [show mget (p :: r) k' = mget r k' by rw [mget, if_neg (by rw [h1]; exact Ne.symm h)]]
    · rw [List.filter_cons_of_pos (by simpa using h1), mget, mget, ih]
theorem mem_mget {m : List (κ × ν)} (hn : (m.map (·.1)).Nodup) {k : κ} {v : ν} : (k, v) ∈ m ↔ mget m k = some v := by
  refine ⟨fun h => ?_, mget_mem⟩
  obtain ⟨j, hj⟩ := List.mem_iff_getElem?.1 h
  exact mget_at hn hj
end
theorem nodup_of_keys {κ ν : Type} {m : List (κ × ν)} (hn : (m.map (·.1)).Nodup) : m.Nodup := by
  rw [List.Nodup, List.pairwise_map] at hn
  exact hn.imp fun h e => h (congrArg Prod.fst e)

theorem perm_ext {m m' : StkV} (h : StkI m) (h' : StkI m') (he : ∀ k, atM m k = atM m' k) : m.Perm m' := by
  have one : ∀ {a b : StkV}, StkI a → StkI b → (∀ k, atM a k = atM b k) → ∀ x, x ∈ a → x ∈ b := fun {a b} ha hb he x hx => by
    obtain ⟨k, v⟩ := x
    have h1 := (mem_mget ha.nodup).1 hx
    have h2 := (ha.well.well _ hx).2.2.1
    have h3 := he k
    unfold atM at h3
    rw [h1] at h3
    cases hb2 : mget b k with
    | none => rw [hb2] at h3; simp at h3; simp at h2; omega
    | some u =>
      rw [hb2] at h3
      simp at h3
      rw [h3]
      exact mget_mem hb2
  rw [List.perm_ext_iff_of_nodup (nodup_of_keys h.nodup) (nodup_of_keys h'.nodup)]
  exact fun x => ⟨one h h' he x, one h' h (fun k => (he k).symm) x⟩
theorem lines_permE {m m' : StkV} (h : StkI m) (hp : m.Perm m') : linesM m = linesM m' :=
  (lines_of h.nodup ((lines_perm m').trans (hp.map lineOf).symm) (lines_sorted m')).symm
theorem ofM_perm {m m' : StkV} (hp : m.Perm m') (lot : List UInt8) : ofM m lot = ofM m' lot := by
  have h1 := of_lines m lot
  have h2 := of_lines m' lot
  rw [ofL_perm (lines_perm m)] at h1
  rw [ofL_perm (lines_perm m'), ← ofL_perm (hp.map lineOf), h1] at h2
  omega
theorem mget_perm {m m' : StkV} (hn : (m.map (·.1)).Nodup) (hp : m.Perm m') (k : KeyV) : mget m k = mget m' k := by
  have hn' : (m'.map (·.1)).Nodup := (hp.map _).nodup_iff.1 hn
  cases h : mget m k with
  | some v => exact ((mem_mget hn').1 (hp.mem_iff.1 (mget_mem h))).symm
  | none =>
    cases h' : mget m' k with
    | none => rfl
    | some v => rw [(mem_mget hn).1 (hp.mem_iff.2 (mget_mem h'))] at h; cases h

theorem at_take {m : StkV} {p : PlaceV} {l : List UInt8} {n : Int} (h : takeE m p l n = 0) (k : KeyV) : atM (takeM m p l n) k = if k = (p, l) then atM m k - n.toNat else atM m k := by
  unfold takeM
  rw [if_pos h]
  by_cases hk : k = (p, l)
  · rw [if_pos hk, hk]
    split
    · rename_i h0
      unfold atM
      rw [mget_del]
      exact h0.symm
    · unfold atM
      rw [mget_put]; rfl
  · rw [if_neg hk]
    split
    · unfold atM
      rw [mget_del_other _ hk, mget_put_other _ _ hk]
    · unfold atM
      rw [mget_put_other _ _ hk]
theorem at_put {m : StkV} {p : PlaceV} {l : List UInt8} {n : Int} (h : putE m p l n = 0) (k : KeyV) : atM (putM m p l n) k = if k = (p, l) then atM m k + n.toNat else atM m k := by
  unfold putM
  rw [if_pos h]
  by_cases hk : k = (p, l)
  · rw [if_pos hk, hk]
    show (mget _ _).getD 0 = _
    rw [mget_put]; rfl
  · rw [if_neg hk]
    unfold atM
    rw [mget_put_other _ _ hk]
theorem ofM_del_at {m : StkV} (hn : (m.map (·.1)).Nodup) (p : PlaceV) (l : List UInt8) : ofM (mdel m (p, l)) l + atM m (p, l) = ofM m l := by
  induction m with
  | nil => rfl
  | cons x r ih =>
    simp only [List.map_cons, List.nodup_cons] at hn
    have ih := ih hn.2
    unfold mdel at *
    rw [ofM_cons]
    by_cases h : x.1 = (p, l)
    · rw [List.filter_cons_of_neg (by simp [h]), if_pos (by rw [h])]
      have e1 : atM (x :: r) (p, l) = x.2 := by unfold atM mget; rw [if_pos h]; rfl
      have e2 : List.filter (fun q => decide (q.1 ≠ (p, l))) r = r := List.filter_eq_self.2 fun q hq => by
        have : q.1 ≠ (p, l) := fun e => hn.1 (by rw [h, ← e]; exact List.mem_map.2 ⟨q, hq, rfl⟩)
        simpa using this
      rw [e1, e2]
      omega
    · rw [List.filter_cons_of_pos (by simpa using h), ofM_cons]
      have e1 : atM (x :: r) (p, l) = atM r (p, l) := by unfold atM; rw [mget, if_neg h]
      rw [e1]
      omega
theorem of_take {m : StkV} (hI : StkI m) {p : PlaceV} {l : List UInt8} {n : Int} (h : takeE m p l n = 0) : ofM (takeM m p l n) l + n.toNat = ofM m l := by
  obtain ⟨h1, h2, h3⟩ := takeE_zero h
  have h4 := atM_le m p l
  unfold takeM
  rw [if_pos h]
  have hp := ofM_put m p l (atM m (p, l) - n.toNat)
  split
  · rename_i h0
    rw [mdel_put]
    have := ofM_del_at hI.nodup p l
    omega
  · omega
theorem of_put {m : StkV} {p : PlaceV} {l : List UInt8} {n : Int} (h : putE m p l n = 0) : ofM (putM m p l n) l = ofM m l + n.toNat := by
  unfold putM
  rw [if_pos h]
  have := ofM_put m p l (atM m (p, l) + n.toNat)
  omega
/-- A move with no error. -/
theorem move_zero {m : StkV} {f t : PlaceV} {l : List UInt8} {n : Int} (h : moveE m f t l n = 0) : takeE m f l n = 0 ∧ placeE t = 0 ∧ f ≠ t ∧ putE (takeM m f l n) t l n = 0 ∧ moveM m f t l n = putM (takeM m f l n) t l n := by
  have h' := h
  unfold moveE at h
  by_cases h1 : takeE m f l n ≠ 0
  · rw [if_pos h1] at h; exact absurd h h1
  rw [if_neg h1] at h
  by_cases h2 : placeE t ≠ 0
  · rw [if_pos h2] at h; exact absurd h h2
  rw [if_neg h2] at h
  by_cases h3 : f = t
  · rw [if_pos h3] at h; cases h
  rw [if_neg h3] at h
  exact ⟨by omega, by omega, h3, h, by unfold moveM; rw [if_pos h']⟩
theorem move_counts {m : StkV} (hI : StkI m) {f t : PlaceV} {l : List UInt8} {n : Int} (h : moveE m f t l n = 0) :
    1 ≤ n ∧ ofM (moveM m f t l n) l = ofM m l ∧ (atM (moveM m f t l n) (f, l) : Int) = (atM m (f, l) : Nat) - n ∧ (atM (moveM m f t l n) (t, l) : Int) = (atM m (t, l) : Nat) + n := by
  obtain ⟨h1, -, h3, h4, h5⟩ := move_zero h
  obtain ⟨g1, g2, g3⟩ := takeE_zero h1
  have e1 : ¬ ((f, l) = (t, l)) := fun e => h3 (congrArg Prod.fst e)
  have e2 : ¬ ((t, l) = (f, l)) := fun e => h3 (congrArg Prod.fst e).symm
  rw [h5, of_put h4, at_put h4, at_put h4, at_take h1, at_take h1, if_neg e1, if_pos rfl, if_pos rfl, if_neg e2]
  have := of_take hI h1
  omega
theorem move_back {m : StkV} (hI : StkI m) {f t : PlaceV} {l : List UInt8} {n : Int} (h : moveE m f t l n = 0) :
    moveE (moveM m f t l n) t f l n = 0 ∧ linesM (moveM (moveM m f t l n) t f l n) = linesM m := by
  obtain ⟨h1, h2, h3, h4, h5⟩ := move_zero h
  obtain ⟨g1, g2, g3⟩ := takeE_zero h1
  have i1 := hI.take f l n
  have i2 := i1.put t l n
  have i3 := i2.take t l n
  rw [h5]
  have b1 : takeE (putM (takeM m f l n) t l n) t l n = 0 := by
    unfold takeE
    rw [if_neg (by unfold wiB; simp; omega), if_neg]
    rw [at_put h4, if_pos rfl]
    omega
  have hp : (takeM (putM (takeM m f l n) t l n) t l n).Perm (takeM m f l n) := perm_ext i3 i1 fun k => by
    rw [at_take b1, at_put h4]
    by_cases hk : k = (t, l)
    · rw [if_pos hk, if_pos hk]; omega
    · rw [if_neg hk, if_neg hk]
  have hmem : ∃ v, mget m (f, l) = some v := by
    cases hg : mget m (f, l) with
    | none => unfold atM at g3; rw [hg] at g3; simp at g3; omega
    | some v => exact ⟨v, rfl⟩
  obtain ⟨v, hv⟩ := hmem
  have hw := hI.well.well _ (mget_mem hv)
  have hof := of_take hI h1
  have b2 : putE (takeM (putM (takeM m f l n) t l n) t l n) f l n = 0 := by
    have hfew := hI.few l
    unfold putE
    rw [if_neg (by rw [hw.1]; simp), if_neg (by rw [hw.2.1]; simp), if_neg (by unfold wiB; simp; omega), if_neg (by rw [ofM_perm hp]; omega), if_neg]
    rintro ⟨q1, q2⟩
    rw [mget_perm i3.nodup hp] at q1
    rw [hp.length_eq] at q2
    have hfm := hI.well.few
    unfold takeM at q1 q2
    rw [if_pos h1] at q1 q2
    split at q1
    · rename_i h0
      rw [if_pos h0, mdel_put] at q2
      have hlt : (mdel m (f, l)).length < m.length := by
        have := (mput_perm (f, l) v hI.nodup).length_eq
        rw [mput_len, if_pos (by rw [hv]; rfl)] at this
        simp at this
        omega
      omega
    · rw [mget_put] at q1
      cases q1
  have b3 : moveE (putM (takeM m f l n) t l n) t f l n = 0 := by
    unfold moveE
    rw [if_neg (by rw [b1]; simp), if_neg (by rw [hw.1]; simp), if_neg (Ne.symm h3), b2]
  refine ⟨b3, ?_⟩
  obtain ⟨-, -, -, -, b5⟩ := move_zero b3
  rw [b5]
  refine lines_permE (i3.put f l n) (perm_ext (i3.put f l n) hI fun k => ?_)
  rw [at_put b2]
  have e1 : atM (takeM (putM (takeM m f l n) t l n) t l n) k = atM (takeM m f l n) k := by unfold atM; rw [mget_perm i3.nodup hp]
  rw [e1, at_take h1]
  by_cases hk : k = (f, l)
  · rw [if_pos hk, if_pos hk, hk]; omega
  · rw [if_neg hk, if_neg hk]

/-! What is written is read. -/
theorem lineText_words {x : LineV} (h : WellL x) : lineWords (splitL 32 (lineText x)) = (x, 0) ∧ (10 : UInt8) ∉ lineText x := by
  obtain ⟨h1, h2, h3, h4⟩ := h
  obtain ⟨hp, hno⟩ := place_back h1
  have e : lineText x = joinL 32 [placeText x.1, x.2.1, Lib.itoa x.2.2] := by
    unfold lineText
    simp [joinL]
  constructor
  · rw [e, splitL_join 32 _ (by simp) fun w hw => by
      simp only [List.mem_cons, List.not_mem_nil, or_false] at hw
      rcases hw with rfl | rfl | rfl
      · exact hno
      · exact name_not h2 32 (by decide)
      · exact itoa_not (by omega) 32 (by decide)]
    have q : numQ (Lib.itoa x.2.2) 13 = some x.2.2.toNat := numQ_itoa (by omega) 13 (by omega) (by omega) (by omega)
    rw [lineWords_some q, hp, if_neg (by simp), if_neg (by rw [h2]; simp), if_neg (by unfold wiB; simp; omega), Int.toNat_of_nonneg (by omega)]
  · have hz := placeE_zero.1 h1
    rw [e]
    simp only [joinL, List.mem_append, List.mem_cons, not_or]
    refine ⟨?_, by decide, name_not h2 10 (by decide), by decide, itoa_not (by omega) 10 (by decide)⟩
    unfold placeText
    rw [if_pos h1]
    simp only [List.mem_append, List.mem_cons, not_or, List.not_mem_nil, not_false_eq_true, and_true]
    exact ⟨⟨⟨⟨name_not hz.1 10 (by decide), by decide⟩, itoa_not (by omega) 10 (by decide)⟩, by decide⟩, itoa_not (by omega) 10 (by decide)⟩
theorem toM_app (a b : List LineV) : toM (a ++ b) = toM a ++ toM b := by simp [toM]
theorem rd_back (L : List LineV) (hw : ∀ x ∈ L, WellL x) (hu : L.Pairwise fun x y => ltOf cfLine x y = true) (hl : L.length ≤ 200) (hf : ∀ lot, ofM (toM L) lot ≤ 1099511627776) :
    ∀ (r d : List LineV) (i : Nat), d ++ r = L → rdGo (splitL 10 (linesText r)) i d = .inr L := by
  intro r
  induction r with
  | nil =>
    intro d i h
    rw [show linesText [] = [] from rfl, show splitL 10 [] = [[]] from rfl, rdGo, if_pos rfl]
    simpa using h
  | cons x r ih =>
    intro d i h
    have hx : x ∈ L := by rw [← h]; simp
    obtain ⟨e1, e2⟩ := lineText_words (hw x hx)
    have e3 : linesText (x :: r) = lineText x ++ 10 :: linesText r := by simp [linesText]
    rw [e3, splitL_at _ _ e2]
    have hz : rdE d (lineText x) = 0 := by
      unfold rdE
      rw [e1, if_neg (by simp), if_neg]
      · obtain ⟨w1, w2, w3, w4⟩ := hw x hx
        have hof := hf x.2.1
        rw [← h, toM_app, ofM_app, show toM (x :: r) = ((x.1, x.2.1), x.2.2.toNat) :: toM r from rfl, ofM_cons, if_pos rfl] at hof
        have hlen : (toM d).length < 200 := by
          have := congrArg List.length h
          rw [List.length_append, List.length_cons] at this
          simp only [toM, List.length_map]
          omega
        show putE (toM d) x.1 x.2.1 x.2.2 = 0
        unfold putE
        rw [if_neg (by rw [w1]; simp), if_neg (by rw [w2]; simp), if_neg (by unfold wiB; simp; omega), if_neg (by simp only at hof; omega), if_neg (fun q => by omega)]
      · cases hd : d.getLast? with
        | none => simp
        | some z =>
          have hzm := List.mem_of_getLast? hd
          rw [← h, List.pairwise_append] at hu
          simp [hu.2.2 z hzm x List.mem_cons_self]
    rw [rdGo_ok (splitL_ne 10 _) hz, e1]
    exact ih (d ++ [x]) (i + 1) (by rw [← h]; simp)
theorem StkI.read {m : StkV} (h : StkI m) : rdGo (splitL 10 (textM m)) 0 [] = .inr (linesM m) ∧ textM (toM (linesM m)) = textM m := by
  have hp : (toM (linesM m)).Perm m := by
    have := (lines_perm m).map fun x : LineV => (((x.1, x.2.1), x.2.2.toNat) : KeyV × Nat)
    rw [List.map_map] at this
    refine List.Perm.trans this ?_
    rw [show ((fun x : LineV => (((x.1, x.2.1), x.2.2.toNat) : KeyV × Nat)) ∘ lineOf) = id from funext fun x => by obtain ⟨⟨p, l⟩, n⟩ := x; simp [lineOf], List.map_id]
  have h1 : rdGo (splitL 10 (textM m)) 0 [] = .inr (linesM m) := by
    refine rd_back (linesM m) h.well.lines ?_ (by rw [linesM_len]; exact h.well.few) (fun lot => by rw [ofM_perm hp]; exact h.few lot) (linesM m) [] 0 rfl
    have hnd : (linesM m).Nodup := by
      have hn2 : (m.map lineOf).Nodup := by
        have := h.nodup
        rw [List.Nodup, List.pairwise_map] at this ⊢
        refine this.imp fun {a b} hne e => hne ?_
        have h1 : a.1.1 = b.1.1 := congrArg (fun x : LineV => x.1) e
        have h2 : a.1.2 = b.1.2 := congrArg (fun x : LineV => x.2.1) e
        exact Prod.ext h1 h2
      exact (lines_perm m).nodup_iff.2 hn2
    have hs := lines_sorted m
    refine List.Pairwise.imp_of_mem ?_ (hs.and hnd)
    rintro a b ha hb ⟨h1, h2⟩
    cases hab : ltOf cfLine a b with
    | true => rfl
    | false => exact absurd (apart_m h.nodup ((lines_perm m).mem_iff.1 ha) ((lines_perm m).mem_iff.1 hb) (ltOf_both likeLine hab h1)) h2
  exact ⟨h1, read_text h1⟩
end Go.Proofs.YtgllddebodfhkaaGreatDoor
