/- A line's words; a line read by the document: ReadLine. A stock read, plainly: pieces of a text, line by line. Words joined and split again, plainly; names and numerals hold neither blanks nor dashes. A stock that is read is written as it was read. Goods: Check. Entries, plainly: what is an error of one, its text, and that it is read as it was written. No program in sight. -/
import Derived.Test.YteaalifehokgoaaGreatDoorM01
import Derived.Test.YteaalifehokgoaaGreatDoorM03
import Derived.Test.YteaalifehokgoaaGreatDoorM07
import Derived.Test.YteaalifehokgoaaGreatDoorM09
import Derived.Test.YteaalifehokgoaaGreatDoorM13
import Derived.Test.YteaalifehokgoaaGreatDoorM14
import Derived.Test.YteaalifehokgoaaGreatDoorM15
namespace Go.Proofs.YteaalifehokgoaaGreatDoor
open Go.RowKit Go.Sort Go.Proofs
def zeroLine : LineV := (([], 0, 0), [], 0)
def lineWords (ws : List (List UInt8)) : LineV × Nat :=
 match ws with
 |[a, b, c] => match numQ c 13 with
  |none => (zeroLine, 1)
  |some n => if (placeWords (splitL 45 a)).2 ≠ 0 then (zeroLine, (placeWords (splitL 45 a)).2) else if nameB b = false then (zeroLine, 5) else if wiB (n : Int) 1 1099511627776 = false then (zeroLine, 2) else (((placeWords (splitL 45 a)).1, b, (n : Int)), 0)
 |_ => (zeroLine, 1)
theorem lineWords_len {ws : List (List UInt8)} (h : ws.length ≠ 3) : lineWords ws = (zeroLine, 1) := by
 unfold lineWords
 split
 ·simp at h
 ·rfl
theorem lineWords_none {a b c : List UInt8} (h : numQ c 13 = none) : lineWords [a, b, c] = (zeroLine, 1) := by
 show (match numQ c 13 with | none => (zeroLine, 1) | some n => _) = _
 rw [h]
theorem lineWords_some {a b c : List UInt8} {n : Nat} (h : numQ c 13 = some n) : lineWords [a, b, c] = if (placeWords (splitL 45 a)).2 ≠ 0 then (zeroLine, (placeWords (splitL 45 a)).2) else if nameB b = false then (zeroLine, 5) else if wiB (n : Int) 1 1099511627776 = false then (zeroLine, 2) else (((placeWords (splitL 45 a)).1, b, (n : Int)), 0) := by
 show (match numQ c 13 with | none => (zeroLine, 1) | some n => _) = _
 rw [h]
end Go.Proofs.YteaalifehokgoaaGreatDoor
namespace Go.Proofs.YteaalifehokgoaaGreatDoor
open Go.RowKit Go.Sort Go.Proofs
theorem placeWords_ok {ws : List (List UInt8)} (h : (placeWords ws).2 = 0) : placeE (placeWords ws).1 = 0 := by
 unfold placeWords at *
 split at h
 ·split at h
  ·split at h
   ·rename_i h0; rw [if_pos h0]; exact h0
   ·rename_i h0; exact absurd h h0
  ·cases h
 ·cases h
theorem lineWords_ok {ws : List (List UInt8)} (h : (lineWords ws).2 = 0) : placeE (lineWords ws).1.1 = 0 ∧ nameB (lineWords ws).1.2.1 = true ∧ wiB (lineWords ws).1.2.2 1 1099511627776 = true := by
 match ws with
 |[a, b, c] =>
  cases hq : numQ c 13 with
  |none => rw [lineWords_none hq] at h; cases h
  |some n =>
   rw [lineWords_some hq] at h ⊢
   by_cases h1 : (placeWords (splitL 45 a)).2 ≠ 0
   ·rw [if_pos h1] at h; exact absurd h h1
   rw [if_neg h1] at h ⊢
   by_cases h2 : nameB b = false
   ·rw [if_pos h2] at h; cases h
   rw [if_neg h2] at h ⊢
   by_cases h3 : wiB (n : Int) 1 1099511627776 = false
   ·rw [if_pos h3] at h; cases h
   rw [if_neg h3]
   exact ⟨placeWords_ok (by omega), by simpa using h2, by simpa using h3⟩
 |[] => rw [lineWords_len (by simp)] at h; cases h
 |[_] => rw [lineWords_len (by simp)] at h; cases h
 |[_, _] => rw [lineWords_len (by simp)] at h; cases h
 |_ :: _ :: _ :: _ :: _ => rw [lineWords_len (by simp)] at h; cases h
def toM (l : List LineV) : StkV := l.map fun x => ((x.1, x.2.1), x.2.2.toNat)
theorem toM_snoc (l : List LineV) (x : LineV) : toM (l ++ [x]) = toM l ++ [((x.1, x.2.1), x.2.2.toNat)] := by simp [toM]
structure RdI (l : List LineV) : Prop where
 inv : StkI (toM l)
 up : l.Pairwise fun x y => ltOf cfLine x y = true
 pos : ∀ x ∈ l, 0 ≤ x.2.2
theorem RdI.nil : RdI [] := ⟨StkI.nil, List.Pairwise.nil, by simp⟩
theorem back_toM {l : List LineV} (h : ∀ x ∈ l, 0 ≤ x.2.2) : (toM l).map lineOf = l := by
 induction l with
 |nil => rfl
 |cons x r ih =>
  have e : toM (x :: r) = ((x.1, x.2.1), x.2.2.toNat) :: toM r := rfl
  rw [e, List.map_cons, ih fun y hy => h y (List.mem_cons_of_mem _ hy)]
  have := h x List.mem_cons_self
  obtain ⟨p, q, n⟩ := x
  simp only [lineOf, List.cons.injEq, Prod.mk.injEq, true_and, and_true] at *
  omega
theorem RdI.lines {l : List LineV} (h : RdI l) : linesM (toM l) = l := by
 refine (lines_of h.inv.nodup (d := l) ?_ ?_).symm
 ·rw [back_toM h.pos]
 ·exact h.up.imp fun hxy => ltL_asym hxy
theorem RdI.len {l : List LineV} (h : RdI l) : l.length ≤ 200 := by
 have := h.inv.well.few
 simpa [toM] using this
theorem lt_irr {x y : LineV} (h : ltOf cfLine x y = true) : ¬ (x.1 = y.1 ∧ x.2.1 = y.2.1) := fun e => by
 have h1 := (cfLine_zero x y).2 e
 unfold ltOf at h
 rw [h1] at h
 exact absurd h (by decide)
def rdE (d : List LineV) (t : List UInt8) : Nat :=
 if (lineWords (splitL 32 t)).2 ≠ 0 then (lineWords (splitL 32 t)).2
 else if (match d.getLast? with | some z => !ltOf cfLine z (lineWords (splitL 32 t)).1 | none => false) = true then 10
 else putE (toM d) (lineWords (splitL 32 t)).1.1 (lineWords (splitL 32 t)).1.2.1 (lineWords (splitL 32 t)).1.2.2
theorem getLast_lt {d : List LineV} (hp : d.Pairwise fun x y => ltOf cfLine x y = true) {z x : LineV} (hz : d.getLast? = some z) (hx : ltOf cfLine z x = true) : ∀ y ∈ d, ltOf cfLine y x = true := fun y hy => by
 obtain ⟨r, rfl⟩ := List.getLast?_eq_some_iff.1 hz
 rcases List.mem_append.1 hy with h | h
 ·exact likeLine.swo.trans _ _ _ ((List.pairwise_append.1 hp).2.2 y h z (by simp)) hx
 ·rw [List.mem_singleton.1 h]; exact hx
theorem RdI.next {d : List LineV} (h : RdI d) {x : LineV} (hx : ∀ z, d.getLast? = some z → ltOf cfLine z x = true) (hp : putE (toM d) x.1 x.2.1 x.2.2 = 0) : RdI (d ++ [x]) ∧ toM (d ++ [x]) = putM (toM d) x.1 x.2.1 x.2.2 := by
 have hall : ∀ y ∈ d, ltOf cfLine y x = true := by
  cases hl : d.getLast? with
  |none => rw [List.getLast?_eq_none_iff.1 hl]; simp
  |some z => exact getLast_lt h.up hl (hx z hl)
 have hnew : ∀ p ∈ toM d, p.1 ≠ (x.1, x.2.1) := fun p hp e => by
  obtain ⟨y, hy, rfl⟩ := List.mem_map.1 hp
  simp only [Prod.mk.injEq] at e
  exact lt_irr (hall y hy) e
 obtain ⟨-, -, h3, -⟩ := putE_zero hp
 have he : toM (d ++ [x]) = putM (toM d) x.1 x.2.1 x.2.2 := by
  unfold putM
  rw [if_pos hp, mput_new _ hnew, toM_snoc]
  have : atM (toM d) (x.1, x.2.1) = 0 := by unfold atM; rw [mget_none hnew]; rfl
  rw [this, Nat.zero_add]
 refine ⟨⟨by rw [he]; exact h.inv.put _ _ _, ?_, fun y hy => ?_⟩, he⟩
 ·rw [List.pairwise_append]
  exact ⟨h.up, by simp, fun y hy z hz => by rw [List.mem_singleton.1 hz]; exact hall y hy⟩
 ·rcases List.mem_append.1 hy with hy | hy
  ·exact h.pos y hy
  ·rw [List.mem_singleton.1 hy]; omega
theorem rdE_zero {d : List LineV} {t : List UInt8} (h : rdE d t = 0) : (lineWords (splitL 32 t)).2 = 0 ∧ (∀ z, d.getLast? = some z → ltOf cfLine z (lineWords (splitL 32 t)).1 = true) ∧ putE (toM d) (lineWords (splitL 32 t)).1.1 (lineWords (splitL 32 t)).1.2.1 (lineWords (splitL 32 t)).1.2.2 = 0 := by
 unfold rdE at h
 by_cases h1 : (lineWords (splitL 32 t)).2 ≠ 0
 ·rw [if_pos h1] at h; exact absurd h h1
 rw [if_neg h1] at h
 refine ⟨by omega, ?_⟩
 cases hl : d.getLast? with
 |none =>
  rw [hl] at h
  exact ⟨(fun z hz => by cases hz), by simpa using h⟩
 |some z =>
  rw [hl] at h
  cases h2 : ltOf cfLine z (lineWords (splitL 32 t)).1 with
  |false => simp [h2] at h
  |true => exact ⟨(fun y hy => by cases hy; exact h2), by simpa [h2] using h⟩
def rdGo : List (List UInt8) → Nat → List LineV → (Nat × Nat) ⊕ List LineV
 |[], _, d => .inr d
 |[t], i, d => if t = [] then .inr d else .inl (1, i)
 |t :: u :: r, i, d => if rdE d t = 0 then rdGo (u :: r) (i + 1) (d ++ [(lineWords (splitL 32 t)).1]) else .inl (rdE d t, i)
theorem rdGo_ok {t : List UInt8} {q : List (List UInt8)} {i : Nat} {d : List LineV} (hq : q ≠ []) (h : rdE d t = 0) : rdGo (t :: q) i d = rdGo q (i + 1) (d ++ [(lineWords (splitL 32 t)).1]) := by
 cases q with
 |nil => exact absurd rfl hq
 |cons u r => rw [rdGo, if_pos h]
theorem rdGo_inv : ∀ (ps : List (List UInt8)) (i : Nat) (d l : List LineV), RdI d → rdGo ps i d = .inr l → RdI l
 |[], _, d, l, h, e => by rw [rdGo] at e; injection e with e; rw [← e]; exact h
 |[t], i, d, l, h, e => by
  rw [rdGo] at e
  split at e
  ·injection e with e; rw [← e]; exact h
  ·cases e
 |t :: u :: r, i, d, l, h, e => by
  rw [rdGo] at e
  split at e
  ·rename_i h0
   obtain ⟨h1, h2, h3⟩ := rdE_zero h0
   exact rdGo_inv (u :: r) _ _ l (h.next h2 h3).1 e
  ·cases e
end Go.Proofs.YteaalifehokgoaaGreatDoor
namespace Go.Proofs.YteaalifehokgoaaGreatDoor
open Go.RowKit
def joinL (c : UInt8) : List (List UInt8) → List UInt8
 |[] => []
 |[w] => w
 |w :: v :: r => w ++ c :: joinL c (v :: r)
theorem joinL_cons (c : UInt8) (w v : List UInt8) (r : List (List UInt8)) : joinL c (w :: v :: r) = w ++ c :: joinL c (v :: r) := rfl
theorem splitL_join (c : UInt8) (ws : List (List UInt8)) (h0 : ws ≠ []) (h : ∀ w ∈ ws, c ∉ w) : splitL c (joinL c ws) = ws := by
 induction ws with
 |nil => exact absurd rfl h0
 |cons w r ih =>
  cases r with
  |nil => exact splitL_none (h w (by simp))
  |cons v q => rw [joinL_cons, splitL_at _ _ (h w (by simp)), ih (by simp) fun x hx => h x (by simp [hx])]
theorem alnum_not {l : List UInt8} (h : l.all alnum = true) (c : UInt8) (hc : alnum c = false) : c ∉ l := fun hm => by
 have := List.all_eq_true.1 h c hm
 rw [hc] at this; cases this
theorem name_not {l : List UInt8} (h : nameB l = true) (c : UInt8) (hc : alnum c = false) : c ∉ l := by
 unfold nameB at h
 rw [Bool.and_eq_true] at h
 exact alnum_not h.2 c hc
theorem dec_not (n : Nat) (c : UInt8) (hc : c.toNat < 48 ∨ 57 < c.toNat) : c ∉ Lib.decDigits n := fun hm => by
 have := dec_digit n c hm
 omega
theorem itoa_not {n : Int} (h : 0 ≤ n) (c : UInt8) (hc : c.toNat < 48 ∨ 57 < c.toNat) : c ∉ Lib.itoa n := by
 rw [itoa_nat n h]; exact dec_not _ c hc
theorem numQ_dec (n d : Nat) (h : n ≤ 9223372036854775807) (hd : (Lib.decDigits n).length ≤ d) : numQ (Lib.decDigits n) d = some n :=
 (numQ_iff _ _ _).2 ⟨rfl, hd, h⟩
theorem numQ_itoa {n : Int} (h0 : 0 ≤ n) (d : Nat) (hd : 1 ≤ d) (h : n < 10 ^ d) (hb : n ≤ 9223372036854775807) : numQ (Lib.itoa n) d = some n.toNat := by
 rw [itoa_nat n h0]
 refine numQ_dec _ _ (by omega) (dec_len_le _ _ hd ?_)
 have : ((n.toNat : Nat) : Int) < ((10 ^ d : Nat) : Int) := by
  rw [Int.toNat_of_nonneg h0]; simpa using h
 exact Int.ofNat_lt.1 this
end Go.Proofs.YteaalifehokgoaaGreatDoor
namespace Go.Proofs.YteaalifehokgoaaGreatDoor
open Go.RowKit Go.Sort Go.Proofs
theorem joinL_split (c : UInt8) : ∀ l : List UInt8, joinL c (splitL c l) = l
 |[] => rfl
 |x :: r => by
  have ih := joinL_split c r
  unfold splitL
  by_cases h : x = c
  ·rw [if_pos h]
   cases hs : splitL c r with
   |nil => exact absurd hs (splitL_ne c r)
   |cons p q => rw [joinL_cons, ← hs, ih, h]; rfl
  ·rw [if_neg h]
   cases hs : splitL c r with
   |nil => exact absurd hs (splitL_ne c r)
   |cons p q =>
    rw [hs] at ih
    cases q with
    |nil =>
     have ih : p = r := ih
     rw [ih]
     rfl
    |cons v q =>
     rw [joinL_cons] at ih
     show joinL c ((x :: p) :: v :: q) = x :: r
     rw [joinL_cons, ← ih]
     rfl
theorem num_back {l : List UInt8} {d n : Nat} (h : numQ l d = some n) : Lib.itoa (n : Int) = l := by
 rw [itoa_nat _ (by omega), Int.toNat_natCast]
 exact ((numQ_iff l d n).1 h).1.symm
theorem placeWords_some {a c d : List UInt8} (h : (placeWords [a, c, d]).2 = 0) : ∃ u v : Nat, numQ c 4 = some u ∧ numQ d 4 = some v ∧ placeWords [a, c, d] = ((a, (u : Int), (v : Int)), 0) := by
 rw [show placeWords [a, c, d] = match numQ c 4, numQ d 4 with
  |some u, some v => if placeE (a, (u : Int), (v : Int)) = 0 then ((a, (u : Int), (v : Int)), 0) else (zeroPlace, placeE (a, (u : Int), (v : Int)))
  |_, _ => (zeroPlace, 1) from rfl] at h ⊢
 cases hc : numQ c 4 with
 |none => rw [hc] at h; cases h
 |some u =>
  cases hd : numQ d 4 with
  |none => rw [hc, hd] at h; cases h
  |some v =>
   rw [hc, hd] at h
   simp only at h
   split at h
   ·rename_i h0
    exact ⟨u, v, rfl, rfl, by simp only; rw [if_pos h0]⟩
   ·rename_i h0; exact absurd h h0
theorem placeText_back {t : List UInt8} (h : (placeWords (splitL 45 t)).2 = 0) : placeText (placeWords (splitL 45 t)).1 = t := by
 have hj := joinL_split 45 t
 have h0 := placeWords_ok h
 generalize splitL 45 t = ws at h hj h0
 by_cases hl : ws.length = 3
 ·obtain ⟨a, c, d, rfl⟩ := three hl
  obtain ⟨u, v, hu, hv, hw⟩ := placeWords_some h
  rw [hw] at h0 ⊢
  unfold placeText
  rw [if_pos h0, num_back hu, num_back hv, ← hj]
  simp [joinL]
 ·rw [placeWords_len hl] at h; cases h
theorem lineText_back {t : List UInt8} (h : (lineWords (splitL 32 t)).2 = 0) : lineText (lineWords (splitL 32 t)).1 = t := by
 have hj := joinL_split 32 t
 generalize splitL 32 t = ws at h hj
 by_cases hl : ws.length = 3
 ·obtain ⟨a, b, c, rfl⟩ := three hl
  cases hq : numQ c 13 with
  |none => rw [lineWords_none hq] at h; cases h
  |some n =>
   rw [lineWords_some hq] at h ⊢
   by_cases h1 : (placeWords (splitL 45 a)).2 ≠ 0
   ·rw [if_pos h1] at h; exact absurd h h1
   rw [if_neg h1] at h ⊢
   by_cases h2 : nameB b = false
   ·rw [if_pos h2] at h; cases h
   rw [if_neg h2] at h ⊢
   by_cases h3 : wiB (n : Int) 1 1099511627776 = false
   ·rw [if_pos h3] at h; cases h
   rw [if_neg h3]
   unfold lineText
   simp only
   rw [placeText_back (by omega), num_back hq, ← hj]
   simp [joinL]
 ·rw [lineWords_len hl] at h; cases h
theorem linesText_snoc (d : List LineV) (x : LineV) : linesText (d ++ [x]) = linesText d ++ (lineText x ++ [10]) := by simp [linesText]
theorem rdGo_text : ∀ (ps : List (List UInt8)) (i : Nat) (d l : List LineV), ps ≠ [] → rdGo ps i d = .inr l → linesText l = linesText d ++ joinL 10 ps
 |[], _, _, _, h, _ => absurd rfl h
 |[t], i, d, l, _, e => by
  rw [rdGo] at e
  split at e
  ·rename_i h; injection e with e; rw [← e, h]; simp [joinL]
  ·cases e
 |t :: u :: r, i, d, l, _, e => by
  rw [rdGo] at e
  split at e
  ·rename_i h0
   rw [rdGo_text (u :: r) _ _ l (by simp) e, linesText_snoc, lineText_back (rdE_zero h0).1, joinL_cons]
   simp
  ·cases e
theorem read_text {s : List UInt8} {d : List LineV} (h : rdGo (splitL 10 s) 0 [] = .inr d) : textM (toM d) = s := by
 have hI := rdGo_inv _ _ _ _ RdI.nil h
 unfold textM
 rw [hI.lines, rdGo_text _ _ _ _ (splitL_ne 10 s) h, joinL_split]
 rfl
end Go.Proofs.YteaalifehokgoaaGreatDoor
namespace Go.Proofs.YteaalifehokgoaaGreatDoor
open Go.RowKit
abbrev GoodsV := List UInt8 × Int
def encGoods (x : GoodsV) : List Value := [.string ⟨x.1.toArray⟩, .int .i64 x.2]
def goodsE (x : GoodsV) : Nat := if nameB x.1 = false then 5 else if wiB x.2 1 1000 = false then 2 else 0
set_option maxHeartbeats 400000 in
theorem checkGoods_any (E : Nat → Addr) (x : GoodsV) (w : World) (g1 : ErrAt 4 (E 5) w) (g2 : ErrAt 0 (E 2) w) :
  Calls Tryz.prog 93 #[.agg (encGoods x).toArray] w fun e w' => e = .returned (errOf E (goodsE x)) ∧ Below w.heap.size w w' := by
 have HE := Lib.hid (show goodsE x = if nameB x.1 = false then 5 else if wiB x.2 1 1000 = false then 2 else 0 from rfl)
 obtain ⟨a1, a2⟩ := x
 have HN := Lib.hid (fun W => name_wide a1 W)
 have H2 := Lib.hid (within_any a2 1 1000)
 have l1 := lt_of_cell g1
 have l2 := lt_of_cell g2
 have l0 : 0 < w.heap.size := Nat.lt_of_le_of_lt (Nat.zero_le _) l2
 simp only at l1 l2
 unfold ErrAt at g1 g2
 simp only [encGoods] at HE ⊢
 generalize nameB a1 = nm at HN HE
 generalize wiB a2 1 1000 = p2 at H2 HE
 go_enter Tryz.func93, Tryz.ntmps93
 go_wp2_with fail
 refine (HN.out _).mono ?_
 rintro e w1 ⟨rfl, b1⟩
 obtain ⟨hc, hf⟩ := bcell b1
 have B1 : Hid (Below w.heap.size w w1) := (below_one _ _).trans (b1.mono (by simp))
 clear b1 HN
 cases nm with
 |false =>
  go_wp2_with fail
  go_ret
  rw [HE.out]
  exact ⟨rfl, B1.out⟩
 |true =>
  go_wp2_with fail
  refine (H2.out _).mono ?_
  rintro e w2 ⟨rfl, rfl⟩
  cases p2 with
  |false =>
   go_wp2_with fail
   go_ret
   rw [HE.out]
   exact ⟨rfl, B1.out⟩
  |true =>
   go_wp2_with fail
   go_ret
   rw [HE.out]
   exact ⟨rfl, B1.out⟩
end Go.Proofs.YteaalifehokgoaaGreatDoor
namespace Go.Proofs.YteaalifehokgoaaGreatDoor
open Go.RowKit Go.Sort Go.Proofs
instance decE1 : DecidableEq (PlaceV × Int) := inferInstance
instance decE2 : DecidableEq (PlaceV × PlaceV × Int) := inferInstance
instance decE3 : DecidableEq (LotV × PlaceV × PlaceV × Int) := inferInstance
instance decE4 : DecidableEq (GoodsV × LotV × PlaceV × PlaceV × Int) := inferInstance
instance decE5 : DecidableEq (List UInt8 × GoodsV × LotV × PlaceV × PlaceV × Int) := inferInstance
abbrev EntV := List UInt8 × GoodsV × LotV × PlaceV × PlaceV × Int
def encEnt (x : EntV) : List Value := [.string ⟨x.1.toArray⟩, .string ⟨x.2.1.1.toArray⟩, .int .i64 x.2.1.2, .string ⟨x.2.2.1.1.toArray⟩, .string ⟨x.2.2.1.2.1.toArray⟩, .int .i64 x.2.2.1.2.2.1, .int .i64 x.2.2.1.2.2.2,
 .string ⟨x.2.2.2.1.1.toArray⟩, .int .i64 x.2.2.2.1.2.1, .int .i64 x.2.2.2.1.2.2, .string ⟨x.2.2.2.2.1.1.toArray⟩, .int .i64 x.2.2.2.2.1.2.1, .int .i64 x.2.2.2.2.1.2.2, .int .i64 x.2.2.2.2.2]
theorem encEnt_len (x : EntV) : (encEnt x).length = 14 := rfl
theorem encEnt_one (x : EntV) : ∀ v ∈ encEnt x, v.oneCell' = true := fun v hv => by
 simp [encEnt] at hv
 rcases hv with rfl | rfl | rfl | rfl | rfl | rfl | rfl | rfl | rfl | rfl | rfl | rfl | rfl | rfl <;> rfl
def kGoods : List UInt8 := [103, 111, 111, 100, 115]
def kLot : List UInt8 := [108, 111, 116]
def kIn : List UInt8 := [105, 110]
def kMore : List UInt8 := [109, 111, 114, 101]
def kOut : List UInt8 := [111, 117, 116]
def kLess : List UInt8 := [108, 101, 115, 115]
def kMove : List UInt8 := [109, 111, 118, 101]
def kHold : List UInt8 := [104, 111, 108, 100]
def kFree : List UInt8 := [102, 114, 101, 101]
def zeroGoods : GoodsV := ([], 0)
def hasF (k : List UInt8) : Bool := decide (k = kOut ∨ k = kLess ∨ k = kMove)
def hasT (k : List UInt8) : Bool := decide (k = kIn ∨ k = kMore ∨ k = kMove)
def isP (k : List UInt8) : Bool := decide (k = kIn ∨ k = kMore ∨ k = kOut ∨ k = kLess ∨ k = kMove ∨ k = kHold ∨ k = kFree)
def wantP (x : EntV) : EntV := (x.1, zeroGoods, (x.2.2.1.1, [], 0, 0), (if hasF x.1 then x.2.2.2.1 else zeroPlace), (if hasT x.1 then x.2.2.2.2.1 else zeroPlace), x.2.2.2.2.2)
def placesE (x : EntV) : Nat := if hasF x.1 ∧ placeE x.2.2.2.1 ≠ 0 then placeE x.2.2.2.1 else if hasT x.1 then placeE x.2.2.2.2.1 else 0
def piecesE (x : EntV) : Nat :=
 if nameB x.2.2.1.1 = false then 5 else if placesE x ≠ 0 then placesE x else if wiB x.2.2.2.2.2 1 1099511627776 = false then 2
 else if (x.1 = kMove ∧ x.2.2.2.1 = x.2.2.2.2.1) ∨ x ≠ wantP x then 3 else 0
def entE (x : EntV) : Nat :=
 if x.1 = kGoods then (if goodsE x.2.1 ≠ 0 then goodsE x.2.1 else if x ≠ (x.1, x.2.1, zeroLot, zeroPlace, zeroPlace, 0) then 3 else 0)
 else if x.1 = kLot then (if lotE x.2.2.1 ≠ 0 then lotE x.2.2.1 else if x ≠ (x.1, zeroGoods, x.2.2.1, zeroPlace, zeroPlace, 0) then 3 else 0)
 else if isP x.1 then piecesE x else 4
theorem place_back {x : PlaceV} (h : placeE x = 0) : placeWords (splitL 45 (placeText x)) = (x, 0) ∧ (32 : UInt8) ∉ placeText x := by
 obtain ⟨h1, h2, h3, h4, h5⟩ := placeE_zero.1 h
 have e : placeText x = joinL 45 [x.1, Lib.itoa x.2.1, Lib.itoa x.2.2] := by
  unfold placeText
  rw [if_pos h]
  simp [joinL]
 constructor
 ·rw [e, splitL_join 45 _ (by simp) fun w hw => by
   simp only [List.mem_cons, List.not_mem_nil, or_false] at hw
   rcases hw with rfl | rfl | rfl
   ·exact name_not h1 45 (by decide)
   ·exact itoa_not (by omega) 45 (by decide)
   ·exact itoa_not (by omega) 45 (by decide)]
  have q1 : numQ (Lib.itoa x.2.1) 4 = some x.2.1.toNat := numQ_itoa (by omega) 4 (by omega) (by omega) (by omega)
  have q2 : numQ (Lib.itoa x.2.2) 4 = some x.2.2.toNat := numQ_itoa (by omega) 4 (by omega) (by omega) (by omega)
  unfold placeWords
  simp only [q1, q2]
  rw [Int.toNat_of_nonneg (by omega), Int.toNat_of_nonneg (by omega), if_pos (show placeE (x.1, x.2.1, x.2.2) = 0 from h)]
 ·rw [e]
  simp only [joinL, List.mem_append, List.mem_cons, not_or]
  exact ⟨name_not h1 32 (by decide), by decide, itoa_not (by omega) 32 (by decide), by decide, itoa_not (by omega) 32 (by decide)⟩
theorem isP_kind {k : List UInt8} (h : isP k = true) : (32 : UInt8) ∉ k ∧ k ≠ kGoods ∧ k ≠ kLot := by
 unfold isP at h
 simp only [decide_eq_true_eq] at h
 rcases h with rfl | rfl | rfl | rfl | rfl | rfl | rfl <;> decide
theorem pieces_zero {x : EntV} (h : piecesE x = 0) : nameB x.2.2.1.1 = true ∧ (hasF x.1 = true → placeE x.2.2.2.1 = 0) ∧ (hasT x.1 = true → placeE x.2.2.2.2.1 = 0) ∧ 1 ≤ x.2.2.2.2.2 ∧ x.2.2.2.2.2 ≤ 1099511627776 ∧ x = wantP x := by
 unfold piecesE at h
 split at h
 ·cases h
 rename_i h1
 split at h
 ·rename_i h2; exact absurd h h2
 rename_i h2
 split at h
 ·cases h
 rename_i h3
 split at h
 ·cases h
 rename_i h4
 simp only [Decidable.not_not] at h2
 have hp : (hasF x.1 = true → placeE x.2.2.2.1 = 0) ∧ (hasT x.1 = true → placeE x.2.2.2.2.1 = 0) := by
  unfold placesE at h2
  split at h2
  ·rename_i h5; exact absurd h2 h5.2
  ·rename_i h5
   refine ⟨fun hf => Decidable.byContradiction fun h6 => h5 ⟨hf, h6⟩, fun ht => ?_⟩
   rw [if_pos ht] at h2; exact h2
 unfold wiB at h3
 simp only [decide_eq_false_iff_not, Decidable.not_not] at h3
 refine ⟨by simpa using h1, hp.1, hp.2, h3.1, h3.2, ?_⟩
 exact Decidable.byContradiction fun h5 => h4 (.inr h5)
end Go.Proofs.YteaalifehokgoaaGreatDoor
