/- A stock of the program, one of the document: the same lines. Lots, as they lie in memory; equal lots. -/
import Derived.Laws.StructEq
import Derived.Test.YteaalifehokgoaaGreatDoorM04
import Derived.Test.YteaalifehokgoaaGreatDoorM06
import Derived.Test.YteaalifehokgoaaGreatDoorM12
namespace Go.Proofs.YteaalifehokgoaaGreatDoor
open Go.RowKit Go.Sort Go.Proofs
def dropL (x : LineV) (l : List LineV) : List LineV := l.filter fun y => !isAt x.1 x.2.1 y
def insL (x : LineV) : List LineV → List LineV
 |[] => [x]
 |y :: r => if ltOf cfLine x y = true then x :: y :: r else y :: insL x r
theorem dropL_hit {x y : LineV} (h : isAt x.1 x.2.1 y = true) (r : List LineV) : dropL x (y :: r) = dropL x r := List.filter_cons_of_neg (by simp [h])
theorem dropL_miss {x y : LineV} (h : isAt x.1 x.2.1 y = false) (r : List LineV) : dropL x (y :: r) = y :: dropL x r := List.filter_cons_of_pos (by simp [h])
theorem wsteps_done (x : LineV) : ∀ (l acc : List LineV), l.foldl (wstep x) (acc, true) = (acc ++ dropL x l, true)
 |[], acc => by simp [dropL]
 |y :: r, acc => by
  rw [List.foldl_cons]
  cases h : isAt x.1 x.2.1 y with
  |true =>
   rw [show wstep x (acc, true) y = (acc, true) by unfold wstep; rw [if_pos h], wsteps_done x r, dropL_hit h]
  |false =>
   rw [show wstep x (acc, true) y = (acc ++ [y], true) by unfold wstep; rw [if_neg (by rw [h]; simp), if_neg (by simp)], wsteps_done x r, dropL_miss h]
   simp
theorem wsteps_ins (x : LineV) : ∀ (l acc : List LineV), (if (l.foldl (wstep x) (acc, false)).2 = true then (l.foldl (wstep x) (acc, false)).1 else (l.foldl (wstep x) (acc, false)).1 ++ [x]) = acc ++ insL x (dropL x l)
 |[], acc => by simp [dropL, insL]
 |y :: r, acc => by
  rw [List.foldl_cons]
  cases h : isAt x.1 x.2.1 y with
  |true =>
   rw [show wstep x (acc, false) y = (acc, false) by unfold wstep; rw [if_pos h], wsteps_ins x r, dropL_hit h]
  |false =>
   by_cases h2 : ltOf cfLine x y = true
   ·rw [show wstep x (acc, false) y = (acc ++ [x] ++ [y], true) by unfold wstep; rw [if_neg (by rw [h]; simp), if_pos ⟨rfl, h2⟩], wsteps_done x r, dropL_miss h, insL, if_pos h2, if_pos rfl]
    simp
   ·rw [show wstep x (acc, false) y = (acc ++ [y], false) by unfold wstep; rw [if_neg (by rw [h]; simp), if_neg (fun h3 => h2 h3.2)], wsteps_ins x r, dropL_miss h, insL, if_neg h2]
    simp
theorem withL_ins {x : LineV} (h : x.2.2 ≠ 0) (l : List LineV) : withL x l = insL x (dropL x l) := by
 have := wsteps_ins x l []
 unfold withL withP
 rw [decide_eq_false h, this, List.nil_append]
theorem withL_zero {x : LineV} (h : x.2.2 = 0) (l : List LineV) : withL x l = dropL x l := by
 unfold withL withP
 rw [decide_eq_true h, wsteps_done x l [], if_pos rfl, List.nil_append]
theorem insL_perm (x : LineV) : ∀ l, (insL x l).Perm (x :: l)
 |[] => List.Perm.refl _
 |y :: r => by
  unfold insL
  split
  ·exact List.Perm.refl _
  ·exact ((insL_perm x r).cons y).trans (List.Perm.swap _ _ _)
theorem ltL_asym {x y : LineV} (h : ltOf cfLine x y = true) : ltOf cfLine y x = false := by
 cases h2 : ltOf cfLine y x with
 |false => rfl
 |true => exact absurd (likeLine.swo.trans _ _ _ h h2) (by rw [likeLine.swo.irrefl]; simp)
theorem insL_sorted (x : LineV) : ∀ l, Stab.Srt (ltOf cfLine) l → Stab.Srt (ltOf cfLine) (insL x l)
 |[], _ => by simp [insL, Stab.Srt]
 |y :: r, h => by
  have h' := List.pairwise_cons.1 h
  unfold insL
  split
  ·rename_i h2
   refine List.pairwise_cons.2 ⟨fun z hz => ?_, h⟩
   rcases List.mem_cons.1 hz with rfl | hz
   ·exact ltL_asym h2
   ·cases h3 : ltOf cfLine z x with
    |false => rfl
    |true => exact absurd (likeLine.swo.trans _ _ _ h3 h2) (by rw [h'.1 z hz]; simp)
  ·rename_i h2
   refine List.pairwise_cons.2 ⟨fun z hz => ?_, insL_sorted x r h'.2⟩
   rcases List.mem_cons.1 ((insL_perm x r).mem_iff.1 hz) with rfl | hz
   ·simpa using h2
   ·exact h'.1 z hz
theorem dropL_sorted (x : LineV) {l : List LineV} (h : Stab.Srt (ltOf cfLine) l) : Stab.Srt (ltOf cfLine) (dropL x l) := List.Pairwise.filter _ h
section
variable {κ ν : Type} [DecidableEq κ]
theorem mdel_nodup {m : List (κ × ν)} (hn : (m.map (·.1)).Nodup) (k : κ) : ((mdel m k).map (·.1)).Nodup := (List.filter_sublist.map _).nodup hn
theorem mdel_not (m : List (κ × ν)) (k : κ) : k ∉ (mdel m k).map (·.1) := fun h => by
 obtain ⟨a, ha, hk⟩ := List.mem_map.1 h
 have := (List.mem_filter.1 ha).2
 simp [hk] at this
theorem mput_perm : ∀ {m : List (κ × ν)} (k : κ) (v : ν), (m.map (·.1)).Nodup → (mput m k v).Perm ((k, v) :: mdel m k)
 |[], k, v, _ => List.Perm.refl _
 |p :: r, k, v, hn => by
  simp only [List.map_cons, List.nodup_cons] at hn
  unfold mput
  by_cases h : p.1 = k
  ·rw [if_pos h]
   have e : mdel (p :: r) k = r := by
    unfold mdel
    rw [List.filter_cons_of_neg (by simp [h])]
    exact mdel_new fun q hq e => hn.1 (by rw [h, ← e]; exact List.mem_map.2 ⟨q, hq, rfl⟩)
   rw [e]
  ·rw [if_neg h]
   have e : mdel (p :: r) k = p :: mdel r k := List.filter_cons_of_pos (by simpa using h)
   rw [e]
   exact ((mput_perm k v hn.2).cons p).trans (List.Perm.swap _ _ _)
theorem mput_nodup {m : List (κ × ν)} (hn : (m.map (·.1)).Nodup) (k : κ) (v : ν) : ((mput m k v).map (·.1)).Nodup := by
 rw [((mput_perm k v hn).map _).nodup_iff, List.map_cons, List.nodup_cons]
 exact ⟨mdel_not m k, mdel_nodup hn k⟩
theorem mdel_put (m : List (κ × ν)) (k : κ) (v : ν) : mdel (mput m k v) k = mdel m k := by
 induction m with
 |nil => simp [mput, mdel]
 |cons p r ih =>
  unfold mput
  by_cases h : p.1 = k
  ·rw [if_pos h]
   unfold mdel
   rw [List.filter_cons_of_neg (by simp), List.filter_cons_of_neg (by simp [h])]
  ·rw [if_neg h]
   unfold mdel at *
   rw [List.filter_cons_of_pos (by simpa using h), List.filter_cons_of_pos (by simpa using h), ih]
theorem mput_len (m : List (κ × ν)) (k : κ) (v : ν) : (mput m k v).length = m.length + if (mget m k).isSome = true then 0 else 1 := by
 induction m with
 |nil => simp [mput, mget]
 |cons p r ih =>
  unfold mput mget
  by_cases h : p.1 = k
  ·rw [if_pos h, if_pos h]; simp
  ·rw [if_neg h, if_neg h, List.length_cons, ih, List.length_cons]; omega
theorem mdel_len (m : List (κ × ν)) (k : κ) : (mdel m k).length ≤ m.length := List.length_filter_le _ _
end
theorem drop_lines (m : StkV) (pl : PlaceV) (lot : List UInt8) (n : Int) : dropL (pl, lot, n) (m.map lineOf) = (mdel m (pl, lot)).map lineOf := by
 unfold dropL mdel
 rw [List.filter_map]
 congr 1
 refine List.filter_congr fun x _ => ?_
 obtain ⟨⟨p, l⟩, v⟩ := x
 show (!decide (p = pl ∧ l = lot)) = decide (¬ ((p, l) = (pl, lot)))
 by_cases h : p = pl ∧ l = lot <;> simp [h, Prod.mk.injEq]
theorem lines_perm (m : StkV) : (linesM m).Perm (m.map lineOf) := Stab.srt_perm _ _
theorem lines_sorted (m : StkV) : Stab.Srt (ltOf cfLine) (linesM m) := Stab.srt_sorted likeLine.swo _
theorem with_lines {m : StkV} (hn : (m.map (·.1)).Nodup) (pl : PlaceV) (lot : List UInt8) (v : Nat) (hv : v ≠ 0) : withL (pl, lot, (v : Int)) (linesM m) = linesM (mput m (pl, lot) v) := by
 rw [withL_ins (by simpa using hv)]
 refine lines_of (mput_nodup hn _ _) ?_ (insL_sorted _ _ (dropL_sorted _ (lines_sorted m)))
 refine (insL_perm _ _).trans ?_
 refine List.Perm.trans ?_ ((mput_perm (pl, lot) v hn).map lineOf).symm
 rw [List.map_cons, ← drop_lines m pl lot (v : Int)]
 exact ((lines_perm m).filter _).cons _
theorem with_lines0 {m : StkV} (hn : (m.map (·.1)).Nodup) (pl : PlaceV) (lot : List UInt8) : withL (pl, lot, 0) (linesM m) = linesM (mdel m (pl, lot)) := by
 rw [withL_zero rfl]
 refine lines_of (mdel_nodup hn _) ?_ (dropL_sorted _ (lines_sorted m))
 rw [← drop_lines m pl lot 0]
 exact (lines_perm m).filter _
theorem ofL_perm {a b : List LineV} (h : a.Perm b) (lot : List UInt8) : ofL a lot = ofL b lot := by
 induction h with
 |nil => rfl
 |cons x _ ih => simp only [ofL, ih]
 |swap x y l => simp only [ofL]; omega
 |trans _ _ h1 h2 => exact h1.trans h2
theorem of_lines (m : StkV) (lot : List UInt8) : ofL (linesM m) lot = (ofM m lot : Nat) := by
 rw [ofL_perm (lines_perm m)]
 induction m with
 |nil => rfl
 |cons x r ih =>
  rw [List.map_cons, ofM_cons]
  simp only [ofL]
  rw [ih]
  by_cases h : x.1.2 = lot
  ·rw [if_pos (show (lineOf x).2.1 = lot from h), if_pos h]
   show (x.2 : Int) + _ = _
   omega
  ·rw [if_neg (show ¬ (lineOf x).2.1 = lot from h), if_neg h]
   omega
theorem mem_lines {m : StkV} {y : LineV} : y ∈ linesM m ↔ ∃ a ∈ m, lineOf a = y := by
 rw [(lines_perm m).mem_iff, List.mem_map]
theorem lines_none {m : StkV} {pl : PlaceV} {lot : List UInt8} (h : mget m (pl, lot) = none) : ∀ y ∈ linesM m, isAt pl lot y = false := fun y hy => by
 obtain ⟨a, ha, rfl⟩ := mem_lines.1 hy
 unfold isAt lineOf
 rw [decide_eq_false]
 rintro ⟨h1, h2⟩
 have : ∀ {r : StkV}, mget r (pl, lot) = none → ∀ x ∈ r, x.1 ≠ (pl, lot) := by
  intro r
  induction r with
  |nil => simp
  |cons p r ih =>
   intro h x hx
   unfold mget at h
   split at h
   ·cases h
   ·rcases List.mem_cons.1 hx with rfl | hx
    ·assumption
    ·exact ih h x hx
 exact this h a ha (by rw [← h1, ← h2])
theorem lines_some {m : StkV} (hn : (m.map (·.1)).Nodup) {pl : PlaceV} {lot : List UInt8} {v : Nat} (h : mget m (pl, lot) = some v) : (∃ y ∈ linesM m, isAt pl lot y = true) ∧ ∀ y ∈ linesM m, isAt pl lot y = true → y.2.2 = (v : Int) := by
 refine ⟨⟨_, mem_lines.2 ⟨_, mget_mem h, rfl⟩, by simp [isAt, lineOf]⟩, fun y hy hi => ?_⟩
 obtain ⟨a, ha, rfl⟩ := mem_lines.1 hy
 obtain ⟨j, hj⟩ := List.mem_iff_getElem?.1 ha
 have h2 := mget_at hn hj
 unfold isAt lineOf at hi
 have h3 := of_decide_eq_true hi
 have h4 : a.1 = (pl, lot) := by rw [← h3.1, ← h3.2]
 rw [h4, h] at h2
 cases h2
 rfl
theorem at_lines {m : StkV} (hn : (m.map (·.1)).Nodup) (pl : PlaceV) (lot : List UInt8) : atL (linesM m) pl lot = (atM m (pl, lot) : Nat) := by
 unfold atL atM
 cases h : mget m (pl, lot) with
 |none =>
  rw [List.find?_eq_none.2 fun y hy => by rw [lines_none h y hy]; simp]
  rfl
 |some v =>
  obtain ⟨⟨y, hy, h1⟩, h2⟩ := lines_some hn h
  cases hf : (linesM m).find? (isAt pl lot) with
  |none => exact absurd h1 (by have := List.find?_eq_none.1 hf y hy; simpa using this)
  |some x => exact h2 x (List.mem_of_find?_eq_some hf) (List.find?_some hf)
theorem find_lines {m : StkV} (hn : (m.map (·.1)).Nodup) (pl : PlaceV) (lot : List UInt8) : fndI (linesM m) pl lot < 0 ↔ (mget m (pl, lot)).isSome = false := by
 unfold fndI
 cases h : mget m (pl, lot) with
 |none =>
  rw [List.findIdx?_eq_none_iff.2 fun y hy => lines_none h y hy]
  simp
 |some v =>
  obtain ⟨⟨y, hy, h1⟩, -⟩ := lines_some hn h
  cases hf : (linesM m).findIdx? (isAt pl lot) with
  |none => exact absurd h1 (by rw [List.findIdx?_eq_none_iff.1 hf y hy]; simp)
  |some i => simp
structure StkI (m : StkV) : Prop where
 nodup : (m.map (·.1)).Nodup
 well : WellS m
 few : ∀ lot, ofM m lot ≤ 1099511627776
theorem StkI.nil : StkI [] := ⟨List.nodup_nil, ⟨by simp, by simp⟩, fun lot => by rw [ofM_nil]; omega⟩
theorem putE_zero {m : StkV} {pl : PlaceV} {lot : List UInt8} {n : Int} (h : putE m pl lot n = 0) : placeE pl = 0 ∧ nameB lot = true ∧ 1 ≤ n ∧ n ≤ 1099511627776 ∧ (ofM m lot : Int) + n ≤ 1099511627776 ∧ ((mget m (pl, lot)).isSome = true ∨ m.length < 200) := by
 unfold putE at h
 repeat' split at h
 all_goals first | exact absurd h (by omega) | skip
 rename_i h1 h2 h3 h4 h5
 unfold wiB at h3
 simp only [decide_eq_false_iff_not, Classical.not_not] at h3
 refine ⟨by omega, by simpa using h2, h3.1, h3.2, by omega, ?_⟩
 cases hs : (mget m (pl, lot)).isSome with
 |true => exact .inl rfl
 |false => exact .inr (Nat.lt_of_not_le fun h6 => h5 ⟨hs, h6⟩)
theorem takeE_zero {m : StkV} {pl : PlaceV} {lot : List UInt8} {n : Int} (h : takeE m pl lot n = 0) : 1 ≤ n ∧ n ≤ 1099511627776 ∧ n ≤ (atM m (pl, lot) : Nat) := by
 unfold takeE at h
 repeat' split at h
 all_goals first | exact absurd h (by omega) | skip
 rename_i h3 h4
 unfold wiB at h3
 simp only [decide_eq_false_iff_not, Classical.not_not] at h3
 exact ⟨h3.1, h3.2, by omega⟩
theorem well_put {m : StkV} (h : WellS m) {k : KeyV} {v : Nat} (hl : (mput m k v).length ≤ 200) (hk : placeE k.1 = 0 ∧ nameB k.2 = true ∧ 1 ≤ v ∧ v ≤ 1099511627776) : WellS (mput m k v) := by
 refine ⟨hl, fun x hx => ?_⟩
 have : ∀ {r : StkV}, x ∈ mput r k v → x = (k, v) ∨ x ∈ r := by
  intro r
  induction r with
  |nil => intro h; exact .inl (by simpa [mput] using h)
  |cons p r ih =>
   intro h
   unfold mput at h
   split at h
   ·rcases List.mem_cons.1 h with h | h
    ·exact .inl h
    ·exact .inr (List.mem_cons_of_mem _ h)
   ·rcases List.mem_cons.1 h with h | h
    ·exact .inr (h ▸ List.mem_cons_self)
    ·rcases ih h with h | h
     ·exact .inl h
     ·exact .inr (List.mem_cons_of_mem _ h)
 rcases this hx with rfl | hx
 ·exact hk
 ·exact h.well x hx
theorem StkI.put {m : StkV} (h : StkI m) (pl : PlaceV) (lot : List UInt8) (n : Int) : StkI (putM m pl lot n) := by
 unfold putM
 by_cases he : putE m pl lot n = 0
 ·rw [if_pos he]
  obtain ⟨h1, h2, h3, h4, h5, h6⟩ := putE_zero he
  have ha := atM_le m pl lot
  refine ⟨mput_nodup h.nodup _ _, well_put h.well ?_ ⟨h1, h2, by omega, by omega⟩, fun l2 => ?_⟩
  ·rw [mput_len]
   have := h.well.few
   rcases h6 with h6 | h6
   ·rw [if_pos h6]; omega
   ·split <;> omega
  ·by_cases hl : l2 = lot
   ·subst hl
    have := ofM_put m pl l2 (atM m (pl, l2) + n.toNat)
    omega
   ·rw [ofM_put_other _ _ _ _ _ hl]
    exact h.few l2
 ·rw [if_neg he]; exact h
theorem StkI.take {m : StkV} (h : StkI m) (pl : PlaceV) (lot : List UInt8) (n : Int) : StkI (takeM m pl lot n) := by
 have hle := ofM_take_le m pl lot n
 have h2 : ∀ lot', ofM (takeM m pl lot n) lot' ≤ 1099511627776 := fun l => Nat.le_trans (hle l) (h.few l)
 unfold takeM at h2 ⊢
 by_cases he : takeE m pl lot n = 0
 ·rw [if_pos he] at h2 ⊢
  obtain ⟨h3, h4, h5⟩ := takeE_zero he
  have hs : (mget m (pl, lot)).isSome = true := by
   unfold atM at h5
   cases hg : mget m (pl, lot) with
   |none => rw [hg] at h5; simp at h5; omega
   |some v => rfl
  have hv : ∃ v, mget m (pl, lot) = some v := Option.isSome_iff_exists.1 hs
  obtain ⟨v, hv⟩ := hv
  have hw := h.well.well _ (mget_mem hv)
  by_cases h0 : atM m (pl, lot) - n.toNat = 0
  ·rw [if_pos h0] at h2 ⊢
   rw [mdel_put] at h2 ⊢
   exact ⟨mdel_nodup h.nodup _, ⟨Nat.le_trans (mdel_len _ _) h.well.few, fun x hx => h.well.well x (List.mem_filter.1 hx).1⟩, h2⟩
  ·rw [if_neg h0] at h2 ⊢
   refine ⟨mput_nodup h.nodup _ _, well_put h.well ?_ ⟨hw.1, hw.2.1, by omega, ?_⟩, h2⟩
   ·rw [mput_len, if_pos hs]
    exact h.well.few
   ·have := atM_le m pl lot
    have := h.few lot
    omega
 ·rw [if_neg he] at h2 ⊢; exact h
theorem StkI.move {m : StkV} (h : StkI m) (pf pt : PlaceV) (lot : List UInt8) (n : Int) : StkI (moveM m pf pt lot n) := by
 unfold moveM
 split
 ·exact (h.take pf lot n).put pt lot n
 ·exact h
theorem putEL_lines {m : StkV} (hn : (m.map (·.1)).Nodup) (pl : PlaceV) (lot : List UInt8) (n : Int) : putEL (linesM m) pl lot n = putE m pl lot n := by
 unfold putEL putE
 rw [of_lines, linesM_len]
 by_cases h1 : placeE pl ≠ 0
 ·rw [if_pos h1, if_pos h1]
 rw [if_neg h1, if_neg h1]
 by_cases h2 : nameB lot = false
 ·rw [if_pos h2, if_pos h2]
 rw [if_neg h2, if_neg h2]
 by_cases h3 : wiB n 1 1099511627776 = false
 ·rw [if_pos h3, if_pos h3]
 rw [if_neg h3, if_neg h3]
 by_cases h4 : 1099511627776 < (ofM m lot : Int) + n
 ·rw [if_pos h4, if_pos (show 1099511627776 - (ofM m lot : Int) < n by omega)]
 rw [if_neg h4, if_neg (show ¬ 1099511627776 - (ofM m lot : Int) < n by omega)]
 by_cases h5 : (mget m (pl, lot)).isSome = false ∧ 200 ≤ m.length
 ·rw [if_pos h5, if_pos ⟨(find_lines hn pl lot).2 h5.1, h5.2⟩]
 ·rw [if_neg h5, if_neg fun h => h5 ⟨(find_lines hn pl lot).1 h.1, h.2⟩]
theorem putL_lines {m : StkV} (hn : (m.map (·.1)).Nodup) (pl : PlaceV) (lot : List UInt8) (n : Int) : putL (linesM m) pl lot n = linesM (putM m pl lot n) := by
 unfold putL putM
 rw [putEL_lines hn, at_lines hn]
 by_cases he : putE m pl lot n = 0
 ·rw [if_pos he, if_pos he]
  obtain ⟨-, -, h3, -⟩ := putE_zero he
  rw [← with_lines hn pl lot _ (by omega)]
  congr 3
  omega
 ·rw [if_neg he, if_neg he]
theorem takeEL_lines {m : StkV} (hn : (m.map (·.1)).Nodup) (pl : PlaceV) (lot : List UInt8) (n : Int) : takeEL (linesM m) pl lot n = takeE m pl lot n := by
 unfold takeEL takeE
 rw [at_lines hn]
theorem takeL_lines {m : StkV} (hn : (m.map (·.1)).Nodup) (pl : PlaceV) (lot : List UInt8) (n : Int) : takeL (linesM m) pl lot n = linesM (takeM m pl lot n) := by
 unfold takeL takeM
 rw [takeEL_lines hn, at_lines hn]
 by_cases he : takeE m pl lot n = 0
 ·rw [if_pos he, if_pos he]
  obtain ⟨h3, -, h5⟩ := takeE_zero he
  by_cases h0 : atM m (pl, lot) - n.toNat = 0
  ·rw [if_pos h0, mdel_put, ← with_lines0 hn pl lot]
   congr 3
   omega
  ·rw [if_neg h0, ← with_lines hn pl lot _ h0]
   congr 3
   omega
 ·rw [if_neg he, if_neg he]
theorem lines_pos (m : StkV) : ∀ x ∈ linesM m, 0 ≤ x.2.2 := fun x hx => by
 obtain ⟨a, _, rfl⟩ := mem_lines.1 hx
 simp [lineOf]
theorem WellS.inL {m : StkV} (h : WellS m) : ∀ x ∈ linesM m, InP x.1 := fun x hx => InP.of (h.lines x hx).1
end Go.Proofs.YteaalifehokgoaaGreatDoor
namespace Go.Proofs.YteaalifehokgoaaGreatDoor
open Go.RowKit Go.Sort Go.Proofs
abbrev LotV := List UInt8 × List UInt8 × Int × Int
def encLot (x : LotV) : List Value := [.string ⟨x.1.toArray⟩, .string ⟨x.2.1.toArray⟩, .int .i64 x.2.2.1, .int .i64 x.2.2.2]
theorem encLot_len (x : LotV) : (encLot x).length = 4 := rfl
theorem encLot_one (x : LotV) : ∀ v ∈ encLot x, v.oneCell' = true := fun v hv => by
 simp [encLot] at hv
 rcases hv with rfl | rfl | rfl | rfl <;> rfl
theorem eqLot (x y : LotV) (W : World) : (binOp .eql 39 (.agg (encLot x).toArray) (.agg (encLot y).toArray)).run Tryz.prog W = .ok (.bool (decide (x = y))) W := by
 have u3 := Tryz.underlying3
 have u9 := Tryz.underlying9
 have hS : Tryz.prog.underlying 39 = some (.struct (Tryz.prog.fieldsOf 39)) := by kernel_rfl
 have hp : Tryz.prog.stoodInHeld 39 = false := by kernel_rfl
 simp only [encLot]
 rw [run_eql_struct, show (10000 : Nat) = 9999 + 1 from rfl, run_equalIn_agg W 9999 39 _ _ hS hp]
 simp only [Program.fieldsOf, Tryz.underlying39]
 go_simp
 obtain ⟨a1, a2, a3, a4⟩ := x
 obtain ⟨b1, b2, b3, b4⟩ := y
 by_cases h1 : a1 = b1 <;> by_cases h2 : a2 = b2 <;> by_cases h3 : a3 = b3 <;> by_cases h4 : a4 = b4 <;> simp [h1, h2, h3, h4]
theorem eqInLotV (x y : LotV) (W : World) : (Op.equalIn 10000 39 (.agg (encLot x).toArray) (.agg (encLot y).toArray)).run Tryz.prog W = .ok (decide (x = y)) W := by
 have h := eqLot x y W
 rw [run_eql_struct] at h
 cases hr : (Op.equalIn 10000 39 (.agg (encLot x).toArray) (.agg (encLot y).toArray)).run Tryz.prog W with
 |ok b w' =>
  rw [hr] at h
  simp [Result.andThen] at h
  rw [h.1, h.2]
 |_ => rw [hr] at h; simp [Result.andThen] at h
end Go.Proofs.YteaalifehokgoaaGreatDoor
