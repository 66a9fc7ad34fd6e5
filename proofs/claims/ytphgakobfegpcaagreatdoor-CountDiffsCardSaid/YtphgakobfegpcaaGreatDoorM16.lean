/- Words joined and split again, plainly; names and numerals hold neither blanks nor dashes. A stock that is read is written as it was read. Goods: Check. Entries, plainly: what is an error of one, its text, and that it is read as it was written. No program in sight. -/
import Derived.Test.YtphgakobfegpcaaGreatDoorM01
import Derived.Test.YtphgakobfegpcaaGreatDoorM03
import Derived.Test.YtphgakobfegpcaaGreatDoorM09
import Derived.Test.YtphgakobfegpcaaGreatDoorM15
namespace Go.Proofs.YtphgakobfegpcaaGreatDoor
open Go.RowKit

/-- Words, a byte between them. -/
def joinL (c : UInt8) : List (List UInt8) → List UInt8
  | [] => []
  | [w] => w
  | w :: v :: r => w ++ c :: joinL c (v :: r)
theorem joinL_cons (c : UInt8) (w v : List UInt8) (r : List (List UInt8)) : joinL c (w :: v :: r) = w ++ c :: joinL c (v :: r) := rfl
theorem splitL_join (c : UInt8) (ws : List (List UInt8)) (h0 : ws ≠ []) (h : ∀ w ∈ ws, c ∉ w) : splitL c (joinL c ws) = ws := by
  induction ws with
  | nil => exact absurd rfl h0
  | cons w r ih =>
    cases r with
    | nil => exact splitL_none (h w (by simp))
    | cons v q => rw [joinL_cons, splitL_at _ _ (h w (by simp)), ih (by simp) fun x hx => h x (by simp [hx])]

theorem alnum_not {l : List UInt8} (h : l.all alnum = true) (c : UInt8) (hc : alnum c = false) : c ∉ l := fun hm => by
  have := List.all_eq_true.1 h c hm
  rw [hc] at this; cases this
theorem name_not {l : List UInt8} (h : nameB l = true) (c : UInt8) (hc : alnum c = false) : c ∉ l := by
  unfold nameB at h
  rw [Bool.and_eq_true] at h
  exact alnum_not h.2 c hc
theorem dec_not (n : Nat) (c : UInt8) (hc : c.toNat < 48 ∨ 57 < c.toNat) : c ∉ Lib.decDigits n := fun hm => by
  have := dec_digit n c hm
  omega
theorem itoa_not {n : Int} (h : 0 ≤ n) (c : UInt8) (hc : c.toNat < 48 ∨ 57 < c.toNat) : c ∉ Lib.itoa n := by
  rw [itoa_nat n h]; exact dec_not _ c hc
theorem numQ_dec (n d : Nat) (h : n ≤ 9223372036854775807) (hd : (Lib.decDigits n).length ≤ d) : numQ (Lib.decDigits n) d = some n :=
  (numQ_iff _ _ _).2 ⟨rfl, hd, h⟩
theorem numQ_itoa {n : Int} (h0 : 0 ≤ n) (d : Nat) (hd : 1 ≤ d) (h : n < 10 ^ d) (hb : n ≤ 9223372036854775807) : numQ (Lib.itoa n) d = some n.toNat := by
  rw [itoa_nat n h0]
  refine numQ_dec _ _ (by omega) (dec_len_le _ _ hd ?_)
  have : ((n.toNat : Nat) : Int) < ((10 ^ d : Nat) : Int) := by
    rw [Int.toNat_of_nonneg h0]; simpa using h
  exact Int.ofNat_lt.1 this
end Go.Proofs.YtphgakobfegpcaaGreatDoor
namespace Go.Proofs.YtphgakobfegpcaaGreatDoor
open Go.RowKit Go.Sort Go.Proofs

theorem joinL_split (c : UInt8) : ∀ l : List UInt8, joinL c (splitL c l) = l
  | [] => rfl
  | x :: r => by
    have ih := joinL_split c r
    unfold splitL
    by_cases h : x = c
    · rw [if_pos h]
      cases hs : splitL c r with
      | nil => exact absurd hs (splitL_ne c r)
      | cons p q => rw [joinL_cons, ← hs, ih, h]; rfl
    · rw [if_neg h]
      cases hs : splitL c r with
      | nil => exact absurd hs (splitL_ne c r)
      | cons p q =>
        rw [hs] at ih
        cases q with
        | nil =>
          have ih : p = r := ih
          rw [ih]
          rfl
        | cons v q =>
          rw [joinL_cons] at ih
          show joinL c ((x :: p) :: v :: q) = x :: r
          rw [joinL_cons, ← ih]
          rfl
theorem num_back {l : List UInt8} {d n : Nat} (h : numQ l d = some n) : Lib.itoa (n : Int) = l := by
  rw [itoa_nat _ (by omega), Int.toNat_natCast]
  exact ((numQ_iff l d n).1 h).1.symm
theorem placeWords_some {a c d : List UInt8} (h : (placeWords [a, c, d]).2 = 0) : ∃ u v : Nat, numQ c 4 = some u ∧ numQ d 4 = some v ∧ placeWords [a, c, d] = ((a, (u : Int), (v : Int)), 0) := by
  rw [show placeWords [a, c, d] = match numQ c 4, numQ d 4 with
    | some u, some v => if placeE (a, (u : Int), (v : Int)) = 0 then ((a, (u : Int), (v : Int)), 0) else (zeroPlace, placeE (a, (u : Int), (v : Int)))
    | _, _ => (zeroPlace, 1) from rfl] at h ⊢
  cases hc : numQ c 4 with
  | none => rw [hc] at h; cases h
  | some u =>
    cases hd : numQ d 4 with
    | none => rw [hc, hd] at h; cases h
    | some v =>
      rw [hc, hd] at h
      simp only at h
      split at h
      · rename_i h0
        exact ⟨u, v, rfl, rfl, by simp only; rw [if_pos h0]⟩
      · rename_i h0; exact absurd h h0
theorem placeText_back {t : List UInt8} (h : (placeWords (splitL 45 t)).2 = 0) : placeText (placeWords (splitL 45 t)).1 = t := by
  have hj := joinL_split 45 t
  have h0 := placeWords_ok h
  generalize splitL 45 t = ws at h hj h0
  by_cases hl : ws.length = 3
  · obtain ⟨a, c, d, rfl⟩ := three hl
    obtain ⟨u, v, hu, hv, hw⟩ := placeWords_some h
    rw [hw] at h0 ⊢
    unfold placeText
    rw [if_pos h0, num_back hu, num_back hv, ← hj]
    simp [joinL]
  · rw [placeWords_len hl] at h; cases h
theorem lineText_back {t : List UInt8} (h : (lineWords (splitL 32 t)).2 = 0) : lineText (lineWords (splitL 32 t)).1 = t := by
  have hj := joinL_split 32 t
  generalize splitL 32 t = ws at h hj
  by_cases hl : ws.length = 3
  · obtain ⟨a, b, c, rfl⟩ := three hl
    cases hq : numQ c 13 with
    | none => rw [lineWords_none hq] at h; cases h
    | some n =>
      rw [lineWords_some hq] at h ⊢
      by_cases h1 : (placeWords (splitL 45 a)).2 ≠ 0
      · rw [if_pos h1] at h; exact absurd h h1
      rw [if_neg h1] at h ⊢
      by_cases h2 : nameB b = false
      · rw [if_pos h2] at h; cases h
      rw [if_neg h2] at h ⊢
      by_cases h3 : wiB (n : Int) 1 1099511627776 = false
      · rw [if_pos h3] at h; cases h
      rw [if_neg h3]
      unfold lineText
      simp only
      rw [placeText_back (by omega), num_back hq, ← hj]
      simp [joinL]
  · rw [lineWords_len hl] at h; cases h
theorem linesText_snoc (d : List LineV) (x : LineV) : linesText (d ++ [x]) = linesText d ++ (lineText x ++ [10]) := by simp [linesText]
theorem rdGo_text : ∀ (ps : List (List UInt8)) (i : Nat) (d l : List LineV), ps ≠ [] → rdGo ps i d = .inr l → linesText l = linesText d ++ joinL 10 ps
  | [], _, _, _, h, _ => absurd rfl h
  | [t], i, d, l, _, e => by
    rw [rdGo] at e
    split at e
    · rename_i h; injection e with e; rw [← e, h]; simp [joinL]
    · cases e
  | t :: u :: r, i, d, l, _, e => by
    rw [rdGo] at e
    split at e
    · rename_i h0
      rw [rdGo_text (u :: r) _ _ l (by simp) e, linesText_snoc, lineText_back (rdE_zero h0).1, joinL_cons]
      simp
    · cases e
theorem read_text {s : List UInt8} {d : List LineV} (h : rdGo (splitL 10 s) 0 [] = .inr d) : textM (toM d) = s := by
  have hI := rdGo_inv _ _ _ _ RdI.nil h
  unfold textM
  rw [hI.lines, rdGo_text _ _ _ _ (splitL_ne 10 s) h, joinL_split]
  rfl
end Go.Proofs.YtphgakobfegpcaaGreatDoor
namespace Go.Proofs.YtphgakobfegpcaaGreatDoor
open Go.RowKit

/-- Goods: the code, the pack. -/
abbrev GoodsV := List UInt8 × Int
def encGoods (x : GoodsV) : List Value := [.string ⟨x.1.toArray⟩, .int .i64 x.2]
def goodsE (x : GoodsV) : Nat := if nameB x.1 = false then 5 else if wiB x.2 1 1000 = false then 2 else 0
theorem goodsE_le (x : GoodsV) : goodsE x ≤ 12 := by unfold goodsE; split <;> (try split) <;> omega

set_option maxHeartbeats 400000 in
theorem checkGoods_any (E : Nat → Addr) (x : GoodsV) (w : World) (g1 : ErrAt 6 (E 5) w) (g2 : ErrAt 2 (E 2) w) :
    Calls Tryz.prog 130 #[.agg (encGoods x).toArray] w fun e w' => e = .returned (errOf E (goodsE x)) ∧ Below w.heap.size w w' := by
  have HE := Lib.hid (show goodsE x = if nameB x.1 = false then 5 else if wiB x.2 1 1000 = false then 2 else 0 from rfl)
  obtain ⟨a1, a2⟩ := x
  have HN := Lib.hid (fun W => name_wide a1 W)
  have H2 := Lib.hid (within_any a2 1 1000)
  have l1 := lt_of_cell g1
  have l2 := lt_of_cell g2
  simp only at l1 l2
  unfold ErrAt at g1 g2
  simp only [encGoods] at HE ⊢
  generalize nameB a1 = nm at HN HE
  generalize wiB a2 1 1000 = p2 at H2 HE
  go_enter Tryz.func130, Tryz.ntmps130
  go_wp2_with fail
  refine (HN.out _).mono ?_
  rintro e w1 ⟨rfl, b1⟩
  obtain ⟨hc, hf⟩ := bcell b1
  have B1 : Hid (Below w.heap.size w w1) := (below_one _ _).trans (b1.mono (by simp))
  clear b1 HN
  cases nm with
  | false =>
    go_wp2_with fail
    go_ret
    rw [HE.out]
    exact ⟨rfl, B1.out⟩
  | true =>
    go_wp2_with fail
    refine (H2.out _).mono ?_
    rintro e w2 ⟨rfl, rfl⟩
    cases p2 with
    | false =>
      go_wp2_with fail
      go_ret
      rw [HE.out]
      exact ⟨rfl, B1.out⟩
    | true =>
      go_wp2_with fail
      go_ret
      rw [HE.out]
      exact ⟨rfl, B1.out⟩

end Go.Proofs.YtphgakobfegpcaaGreatDoor
namespace Go.Proofs.YtphgakobfegpcaaGreatDoor
open Go.RowKit Go.Sort Go.Proofs

instance decE1 : DecidableEq (PlaceV × Int) := inferInstance
instance decE2 : DecidableEq (PlaceV × PlaceV × Int) := inferInstance
instance decE3 : DecidableEq (LotV × PlaceV × PlaceV × Int) := inferInstance
instance decE4 : DecidableEq (GoodsV × LotV × PlaceV × PlaceV × Int) := inferInstance
instance decE5 : DecidableEq (List UInt8 × GoodsV × LotV × PlaceV × PlaceV × Int) := inferInstance
/-- An entry: kind, goods, lot, from, to, how many. -/
abbrev EntV := List UInt8 × GoodsV × LotV × PlaceV × PlaceV × Int
def encEnt (x : EntV) : List Value := [.string ⟨x.1.toArray⟩, .string ⟨x.2.1.1.toArray⟩, .int .i64 x.2.1.2, .string ⟨x.2.2.1.1.toArray⟩, .string ⟨x.2.2.1.2.1.toArray⟩, .int .i64 x.2.2.1.2.2.1, .int .i64 x.2.2.1.2.2.2,
  .string ⟨x.2.2.2.1.1.toArray⟩, .int .i64 x.2.2.2.1.2.1, .int .i64 x.2.2.2.1.2.2, .string ⟨x.2.2.2.2.1.1.toArray⟩, .int .i64 x.2.2.2.2.1.2.1, .int .i64 x.2.2.2.2.1.2.2, .int .i64 x.2.2.2.2.2]
theorem encEnt_len (x : EntV) : (encEnt x).length = 14 := rfl
theorem encEnt_one (x : EntV) : ∀ v ∈ encEnt x, v.oneCell' = true := fun v hv => by
  simp [encEnt] at hv
  rcases hv with rfl | rfl | rfl | rfl | rfl | rfl | rfl | rfl | rfl | rfl | rfl | rfl | rfl | rfl <;> rfl

def kGoods : List UInt8 := [103, 111, 111, 100, 115]
def kLot : List UInt8 := [108, 111, 116]
def kIn : List UInt8 := [105, 110]
def kMore : List UInt8 := [109, 111, 114, 101]
def kOut : List UInt8 := [111, 117, 116]
def kLess : List UInt8 := [108, 101, 115, 115]
def kMove : List UInt8 := [109, 111, 118, 101]
def kHold : List UInt8 := [104, 111, 108, 100]
def kFree : List UInt8 := [102, 114, 101, 101]
def zeroGoods : GoodsV := ([], 0)
def zeroEnt : EntV := ([], zeroGoods, zeroLot, zeroPlace, zeroPlace, 0)
/-- Has a kind a place that it is from? a place that it is to? is it one of pieces? -/
def hasF (k : List UInt8) : Bool := decide (k = kOut ∨ k = kLess ∨ k = kMove)
def hasT (k : List UInt8) : Bool := decide (k = kIn ∨ k = kMore ∨ k = kMove)
def isP (k : List UInt8) : Bool := decide (k = kIn ∨ k = kMore ∨ k = kOut ∨ k = kLess ∨ k = kMove ∨ k = kHold ∨ k = kFree)

/-- The entry of pieces that is wanted of this one. -/
def wantP (x : EntV) : EntV := (x.1, zeroGoods, (x.2.2.1.1, [], 0, 0), (if hasF x.1 then x.2.2.2.1 else zeroPlace), (if hasT x.1 then x.2.2.2.2.1 else zeroPlace), x.2.2.2.2.2)
/-- The number of the error of an entry's places. -/
def placesE (x : EntV) : Nat := if hasF x.1 ∧ placeE x.2.2.2.1 ≠ 0 then placeE x.2.2.2.1 else if hasT x.1 then placeE x.2.2.2.2.1 else 0
def piecesE (x : EntV) : Nat :=
  if nameB x.2.2.1.1 = false then 5 else if placesE x ≠ 0 then placesE x else if wiB x.2.2.2.2.2 1 1099511627776 = false then 2
  else if (x.1 = kMove ∧ x.2.2.2.1 = x.2.2.2.2.1) ∨ x ≠ wantP x then 3 else 0
/-- The number of an entry's error. -/
def entE (x : EntV) : Nat :=
  if x.1 = kGoods then (if goodsE x.2.1 ≠ 0 then goodsE x.2.1 else if x ≠ (x.1, x.2.1, zeroLot, zeroPlace, zeroPlace, 0) then 3 else 0)
  else if x.1 = kLot then (if lotE x.2.2.1 ≠ 0 then lotE x.2.2.1 else if x ≠ (x.1, zeroGoods, x.2.2.1, zeroPlace, zeroPlace, 0) then 3 else 0)
  else if isP x.1 then piecesE x else 4

/-- The words of an entry of pieces. -/
def wordsP (x : EntV) : List (List UInt8) := [x.1, x.2.2.1.1] ++ (if hasF x.1 then [placeText x.2.2.2.1] else []) ++ (if hasT x.1 then [placeText x.2.2.2.2.1] else []) ++ [Lib.itoa x.2.2.2.2.2]
/-- An entry's text. -/
def entText (x : EntV) : List UInt8 :=
  if entE x ≠ 0 then [] else if x.1 = kGoods then kGoods ++ [32] ++ x.2.1.1 ++ [32] ++ Lib.itoa x.2.1.2
  else if x.1 = kLot then kLot ++ [32] ++ lotText x.2.2.1 else joinL 32 (wordsP x)

/-- What reading an entry's words answers, ahead of its check. -/
def entGoods (ws : List (List UInt8)) : EntV × Nat :=
  match ws with
  | [_, c, d] => match numQ d 13 with
    | some v => ((kGoods, (c, (v : Int)), zeroLot, zeroPlace, zeroPlace, 0), 0)
    | none => (zeroEnt, 1)
  | _ => (zeroEnt, 1)
def entPieces (k : List UInt8) (ws : List (List UInt8)) : EntV × Nat :=
  if ws.length ≠ 3 + (if hasF k then 1 else 0) + (if hasT k then 1 else 0) then (zeroEnt, 1)
  else match numQ (ws.getLast?.getD []) 13 with
    | none => (zeroEnt, 1)
    | some n =>
      let f : PlaceV × Nat := if hasF k then placeWords (splitL 45 (ws.getD 2 [])) else (zeroPlace, 0)
      let t : PlaceV × Nat := if hasT k ∧ f.2 = 0 then placeWords (splitL 45 (ws.getD (if hasF k then 3 else 2) [])) else (zeroPlace, 0)
      ((k, zeroGoods, (ws.getD 1 [], [], 0, 0), f.1, t.1, (n : Int)), if f.2 ≠ 0 then f.2 else t.2)
def entWords (ws : List (List UInt8)) : EntV × Nat :=
  let k := ws.headD []
  if k = kGoods then entGoods ws
  else if k = kLot then ((kLot, zeroGoods, (lotWords (splitL 32 (joinL 32 ws.tail))).1, zeroPlace, zeroPlace, 0), (lotWords (splitL 32 (joinL 32 ws.tail))).2)
  else if isP k then entPieces k ws else (zeroEnt, 4)
/-- What reading an entry answers. -/
def entRead (s : List UInt8) : EntV × Nat :=
  let r := entWords (splitL 32 s)
  if r.2 ≠ 0 then (zeroEnt, r.2) else if entE r.1 ≠ 0 then (zeroEnt, entE r.1) else (r.1, 0)

/-! It is read as it was written. -/
theorem lot_back {x : LotV} (h : lotE x = 0) : splitL 32 (lotText x) = [x.1, x.2.1, Lib.itoa x.2.2.1, Lib.itoa x.2.2.2] ∧ lotWords [x.1, x.2.1, Lib.itoa x.2.2.1, Lib.itoa x.2.2.2] = (x, 0) := by
  have hx : nameB x.1 = true ∧ nameB x.2.1 = true ∧ 0 ≤ x.2.2.1 ∧ x.2.2.1 ≤ 100000 ∧ 0 ≤ x.2.2.2 ∧ x.2.2.2 ≤ 1048576 := by
    unfold lotE at h
    split at h
    · cases h
    · rename_i h1
      split at h
      · cases h
      · rename_i h2
        simp at h1
        refine ⟨h1.1, h1.2, ?_⟩
        omega
  obtain ⟨h1, h2, h3, h4, h5, h6⟩ := hx
  constructor
  · have e : lotText x = joinL 32 [x.1, x.2.1, Lib.itoa x.2.2.1, Lib.itoa x.2.2.2] := by
      unfold lotText
      rw [if_pos h]
      simp [joinL]
    rw [e]
    refine splitL_join 32 _ (by simp) fun w hw => ?_
    simp only [List.mem_cons, List.not_mem_nil, or_false] at hw
    rcases hw with rfl | rfl | rfl | rfl
    · exact name_not h1 32 (by decide)
    · exact name_not h2 32 (by decide)
    · exact itoa_not h3 32 (by decide)
    · exact itoa_not h5 32 (by decide)
  · have q1 : numQ (Lib.itoa x.2.2.1) 9 = some x.2.2.1.toNat := numQ_itoa h3 9 (by omega) (by omega) (by omega)
    have q2 : numQ (Lib.itoa x.2.2.2) 9 = some x.2.2.2.toNat := numQ_itoa h5 9 (by omega) (by omega) (by omega)
    unfold lotWords
    simp only [q1, q2, Int.toNat_of_nonneg h3, Int.toNat_of_nonneg h5]
    rw [if_pos (show lotE (x.1, x.2.1, x.2.2.1, x.2.2.2) = 0 from h)]
theorem place_back {x : PlaceV} (h : placeE x = 0) : placeWords (splitL 45 (placeText x)) = (x, 0) ∧ (32 : UInt8) ∉ placeText x := by
  obtain ⟨h1, h2, h3, h4, h5⟩ := placeE_zero.1 h
  have e : placeText x = joinL 45 [x.1, Lib.itoa x.2.1, Lib.itoa x.2.2] := by
    unfold placeText
    rw [if_pos h]
    simp [joinL]
  constructor
  · rw [e, splitL_join 45 _ (by simp) fun w hw => by
      simp only [List.mem_cons, List.not_mem_nil, or_false] at hw
      rcases hw with rfl | rfl | rfl
      · exact name_not h1 45 (by decide)
      · exact itoa_not (by omega) 45 (by decide)
      · exact itoa_not (by omega) 45 (by decide)]
    have q1 : numQ (Lib.itoa x.2.1) 4 = some x.2.1.toNat := numQ_itoa (by omega) 4 (by omega) (by omega) (by omega)
    have q2 : numQ (Lib.itoa x.2.2) 4 = some x.2.2.toNat := numQ_itoa (by omega) 4 (by omega) (by omega) (by omega)
    unfold placeWords
    simp only [q1, q2]
    rw [Int.toNat_of_nonneg (by omega), Int.toNat_of_nonneg (by omega), if_pos (show placeE (x.1, x.2.1, x.2.2) = 0 from h)]
  · rw [e]
    simp only [joinL, List.mem_append, List.mem_cons, not_or]
    exact ⟨name_not h1 32 (by decide), by decide, itoa_not (by omega) 32 (by decide), by decide, itoa_not (by omega) 32 (by decide)⟩

theorem kinds_ne : kLot ≠ kGoods ∧ kIn ≠ kGoods ∧ kMore ≠ kGoods ∧ kOut ≠ kGoods ∧ kLess ≠ kGoods ∧ kMove ≠ kGoods ∧ kHold ≠ kGoods ∧ kFree ≠ kGoods := by decide
theorem isP_kind {k : List UInt8} (h : isP k = true) : (32 : UInt8) ∉ k ∧ k ≠ kGoods ∧ k ≠ kLot := by
  unfold isP at h
  simp only [decide_eq_true_eq] at h
  rcases h with rfl | rfl | rfl | rfl | rfl | rfl | rfl <;> decide

theorem pieces_zero {x : EntV} (h : piecesE x = 0) : nameB x.2.2.1.1 = true ∧ (hasF x.1 = true → placeE x.2.2.2.1 = 0) ∧ (hasT x.1 = true → placeE x.2.2.2.2.1 = 0) ∧ 1 ≤ x.2.2.2.2.2 ∧ x.2.2.2.2.2 ≤ 1099511627776 ∧ x = wantP x := by
  unfold piecesE at h
  split at h
  · cases h
  rename_i h1
  split at h
  · rename_i h2; exact absurd h h2
  rename_i h2
  split at h
  · cases h
  rename_i h3
  split at h
  · cases h
  rename_i h4
  simp only [Decidable.not_not] at h2
  have hp : (hasF x.1 = true → placeE x.2.2.2.1 = 0) ∧ (hasT x.1 = true → placeE x.2.2.2.2.1 = 0) := by
    unfold placesE at h2
    split at h2
    · rename_i h5; exact absurd h2 h5.2
    · rename_i h5
      refine ⟨fun hf => Decidable.byContradiction fun h6 => h5 ⟨hf, h6⟩, fun ht => ?_⟩
      rw [if_pos ht] at h2; exact h2
  unfold wiB at h3
  simp only [decide_eq_false_iff_not, Decidable.not_not] at h3
  refine ⟨by simpa using h1, hp.1, hp.2, h3.1, h3.2, ?_⟩
  exact Decidable.byContradiction fun h5 => h4 (.inr h5)

theorem ent_back {x : EntV} (h : entE x = 0) : entRead (entText x) = (x, 0) := by
  have hE := h
  unfold entE at h
  by_cases k1 : x.1 = kGoods
  · rw [if_pos k1] at h
    split at h
    · rename_i h1; exact absurd h h1
    rename_i h1
    split at h
    · cases h
    rename_i h2
    simp only [Decidable.not_not] at h1 h2
    have hg : nameB x.2.1.1 = true ∧ 1 ≤ x.2.1.2 ∧ x.2.1.2 ≤ 1000 := by
      unfold goodsE at h1
      split at h1
      · cases h1
      split at h1
      · cases h1
      rename_i h3 h4
      unfold wiB at h4
      simp only [decide_eq_false_iff_not, Decidable.not_not] at h4
      exact ⟨by simpa using h3, h4⟩
    have et : entText x = joinL 32 [kGoods, x.2.1.1, Lib.itoa x.2.1.2] := by
      unfold entText
      rw [if_neg (by simpa using hE), if_pos k1]
      simp [joinL]
    have es : splitL 32 (entText x) = [kGoods, x.2.1.1, Lib.itoa x.2.1.2] := by
      rw [et]
      refine splitL_join 32 _ (by simp) fun w hw => ?_
      simp only [List.mem_cons, List.not_mem_nil, or_false] at hw
      rcases hw with rfl | rfl | rfl
      · decide
      · exact name_not hg.1 32 (by decide)
      · exact itoa_not (by omega) 32 (by decide)
    have q : numQ (Lib.itoa x.2.1.2) 13 = some x.2.1.2.toNat := numQ_itoa (by omega) 13 (by omega) (by omega) (by omega)
    have ex : x = (kGoods, x.2.1, zeroLot, zeroPlace, zeroPlace, 0) := by rw [← k1]; exact h2
    have ew : entWords (splitL 32 (entText x)) = (x, 0) := by
      rw [es]
      unfold entWords
      simp only [List.headD_cons, if_pos]
      unfold entGoods
      simp only [q]
      rw [Int.toNat_of_nonneg (by omega)]
      exact congrArg (·, 0) ex.symm
    unfold entRead
    rw [ew]
    simp [hE]
  rw [if_neg k1] at h
  by_cases k2 : x.1 = kLot
  · rw [if_pos k2] at h
    split at h
    · rename_i h1; exact absurd h h1
    rename_i h1
    split at h
    · cases h
    rename_i h2
    simp only [Decidable.not_not] at h1 h2
    obtain ⟨b1, b2⟩ := lot_back h1
    have ex : x = (kLot, zeroGoods, x.2.2.1, zeroPlace, zeroPlace, 0) := by rw [← k2]; exact h2
    have et : entText x = kLot ++ 32 :: lotText x.2.2.1 := by
      unfold entText
      rw [if_neg (by simpa using hE), if_neg k1, if_pos k2]
      simp
    have es : splitL 32 (entText x) = kLot :: splitL 32 (lotText x.2.2.1) := by
      rw [et, splitL_at _ _ (by decide)]
    have ej : joinL 32 (splitL 32 (lotText x.2.2.1)) = lotText x.2.2.1 := by
      rw [b1]
      unfold lotText
      rw [if_pos h1]
      simp [joinL]
    have ew : entWords (splitL 32 (entText x)) = (x, 0) := by
      rw [es]
      unfold entWords
      simp only [List.headD_cons, List.tail_cons]
      rw [if_neg kinds_ne.1, if_pos True.intro, ej, b1, b2]
      exact congrArg (·, 0) ex.symm
    unfold entRead
    rw [ew]
    simp [hE]
  rw [if_neg k2] at h
  split at h
  · rename_i hp
    obtain ⟨h1, h2, h3, h4, h5, h6⟩ := pieces_zero h
    obtain ⟨i1, i2, i3⟩ := isP_kind hp
    have et : entText x = joinL 32 (wordsP x) := by
      unfold entText
      rw [if_neg (by simpa using hE), if_neg k1, if_neg k2]
    have es : splitL 32 (entText x) = wordsP x := by
      rw [et]
      refine splitL_join 32 _ (by simp [wordsP]) fun w hw => ?_
      unfold wordsP at hw
      simp only [List.mem_append, List.mem_cons, List.not_mem_nil, or_false] at hw
      rcases hw with (((rfl | rfl) | hw) | hw) | rfl
      · exact i1
      · exact name_not h1 32 (by decide)
      · cases hf : hasF x.1
        · rw [hf] at hw; simp at hw
        · rw [hf] at hw
          simp only [if_true, List.mem_singleton] at hw
          subst hw
          exact (place_back (h2 hf)).2
      · cases ht : hasT x.1
        · rw [ht] at hw; simp at hw
        · rw [ht] at hw
          simp only [if_true, List.mem_singleton] at hw
          subst hw
          exact (place_back (h3 ht)).2
      · exact itoa_not (by omega) 32 (by decide)
    have q : numQ (Lib.itoa x.2.2.2.2.2) 13 = some x.2.2.2.2.2.toNat := numQ_itoa (by omega) 13 (by omega) (by omega) (by omega)
    have ew : entWords (splitL 32 (entText x)) = (x, 0) := by
      rw [es]
      unfold entWords
      have hd : (wordsP x).headD [] = x.1 := rfl
      simp only [hd]
      rw [if_neg i2, if_neg i3, if_pos hp]
      have hlast : (wordsP x).getLast?.getD [] = Lib.itoa x.2.2.2.2.2 := by
        unfold wordsP
        cases hasF x.1 <;> cases hasT x.1 <;> rfl
      have hlen : (wordsP x).length = 3 + (if hasF x.1 then 1 else 0) + (if hasT x.1 then 1 else 0) := by
        unfold wordsP
        cases hasF x.1 <;> cases hasT x.1 <;> rfl
      unfold entPieces
      rw [if_neg (by simpa using hlen), hlast, q]
      have h1' : (wordsP x).getD 1 [] = x.2.2.1.1 := rfl
      simp only [h1', Int.toNat_of_nonneg (show 0 ≤ x.2.2.2.2.2 by omega)]
      cases hf : hasF x.1 <;> cases ht : hasT x.1
      · simp only [Bool.false_eq_true, if_false, false_and]
        conv => rhs; rw [h6]
        simp [wantP, hf, ht]
      · have g2 : (wordsP x).getD 2 [] = placeText x.2.2.2.2.1 := by unfold wordsP; rw [hf, ht]; rfl
        simp only [Bool.false_eq_true, if_false, true_and, if_true, g2, (place_back (h3 ht)).1]
        conv => rhs; rw [h6]
        simp [wantP, hf, ht]
      · have g2 : (wordsP x).getD 2 [] = placeText x.2.2.2.1 := by unfold wordsP; rw [hf, ht]; rfl
        simp only [if_true, g2, (place_back (h2 hf)).1, Bool.false_eq_true, false_and, if_false]
        conv => rhs; rw [h6]
        simp [wantP, hf, ht]
      · have g2 : (wordsP x).getD 2 [] = placeText x.2.2.2.1 := by unfold wordsP; rw [hf, ht]; rfl
        have g3 : (wordsP x).getD 3 [] = placeText x.2.2.2.2.1 := by unfold wordsP; rw [hf, ht]; rfl
        simp only [if_true, g2, (place_back (h2 hf)).1, true_and, g3, (place_back (h3 ht)).1]
        conv => rhs; rw [h6]
        simp [wantP, hf, ht]
    unfold entRead
    rw [ew]
    simp [hE]
  · cases h
theorem ent_text_inj {x y : EntV} (hx : entE x = 0) (hy : entE y = 0) (h : entText x = entText y) : x = y := by
  have e := ent_back hx
  rw [h, ent_back hy] at e
  exact (congrArg Prod.fst e).symm
end Go.Proofs.YtphgakobfegpcaaGreatDoor
