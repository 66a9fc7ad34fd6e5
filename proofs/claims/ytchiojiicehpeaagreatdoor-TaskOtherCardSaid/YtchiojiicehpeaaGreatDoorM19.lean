/- A stock moved, and moved back; a stock's text read: plainly. What a call may turn: the blocks of a list, and what is new; keys that are strings; a stock in memory, whatever its entries' order. -/
import Derived.StringKeys
import Derived.Test.YtchiojiicehpeaaGreatDoorM06
import Derived.Test.YtchiojiicehpeaaGreatDoorM18
namespace Go.Proofs.YtchiojiicehpeaaGreatDoor
open Go.RowKit Go.Sort Go.Proofs
section
variable {κ ν : Type} [DecidableEq κ]
theorem mget_put_other : ∀ (m : List (κ × ν)) {k k' : κ} (v : ν), k' ≠ k → mget (mput m k v) k' = mget m k'
 |[], k, k', v, h => by simp [mput, mget, Ne.symm h]
 |p :: r, k, k', v, h => by
  unfold mput
  by_cases h1 : p.1 = k
  ·rw [if_pos h1]
   unfold mget
   rw [if_neg (Ne.symm h), if_neg (by rw [h1]; exact Ne.symm h)]
  ·rw [if_neg h1]
   unfold mget
   rw [mget_put_other r v h]
theorem mget_del (m : List (κ × ν)) (k : κ) : mget (mdel m k) k = none := mget_none fun p hp => by
 have := (List.mem_filter.1 hp).2
 simpa using this
theorem mget_del_other : ∀ (m : List (κ × ν)) {k k' : κ}, k' ≠ k → mget (mdel m k) k' = mget m k'
 |[], _, _, _ => rfl
 |p :: r, k, k', h => by
  have ih := mget_del_other r h
  unfold mdel at *
  by_cases h1 : p.1 = k
  ·rw [List.filter_cons_of_neg (by simp [h1]), ih]
   rw [show mget (p :: r) k' = mget r k' by rw [mget, if_neg (by rw [h1]; exact Ne.symm h)]]
  ·rw [List.filter_cons_of_pos (by simpa using h1), mget, mget, ih]
theorem mem_mget {m : List (κ × ν)} (hn : (m.map (·.1)).Nodup) {k : κ} {v : ν} : (k, v) ∈ m ↔ mget m k = some v := by
 refine ⟨fun h => ?_, mget_mem⟩
 obtain ⟨j, hj⟩ := List.mem_iff_getElem?.1 h
 exact mget_at hn hj
end
theorem nodup_of_keys {κ ν : Type} {m : List (κ × ν)} (hn : (m.map (·.1)).Nodup) : m.Nodup := by
 rw [List.Nodup, List.pairwise_map] at hn
 exact hn.imp fun h e => h (congrArg Prod.fst e)
theorem perm_ext {m m' : StkV} (h : StkI m) (h' : StkI m') (he : ∀ k, atM m k = atM m' k) : m.Perm m' := by
 have one : ∀ {a b : StkV}, StkI a → StkI b → (∀ k, atM a k = atM b k) → ∀ x, x ∈ a → x ∈ b := fun {a b} ha hb he x hx => by
  obtain ⟨k, v⟩ := x
  have h1 := (mem_mget ha.nodup).1 hx
  have h2 := (ha.well.well _ hx).2.2.1
  have h3 := he k
  unfold atM at h3
  rw [h1] at h3
  cases hb2 : mget b k with
  |none => rw [hb2] at h3; simp at h3; simp at h2; omega
  |some u =>
   rw [hb2] at h3
   simp at h3
   rw [h3]
   exact mget_mem hb2
 rw [List.perm_ext_iff_of_nodup (nodup_of_keys h.nodup) (nodup_of_keys h'.nodup)]
 exact fun x => ⟨one h h' he x, one h' h (fun k => (he k).symm) x⟩
theorem lines_permE {m m' : StkV} (h : StkI m) (hp : m.Perm m') : linesM m = linesM m' :=
 (lines_of h.nodup ((lines_perm m').trans (hp.map lineOf).symm) (lines_sorted m')).symm
theorem ofM_perm {m m' : StkV} (hp : m.Perm m') (lot : List UInt8) : ofM m lot = ofM m' lot := by
 have h1 := of_lines m lot
 have h2 := of_lines m' lot
 rw [ofL_perm (lines_perm m)] at h1
 rw [ofL_perm (lines_perm m'), ← ofL_perm (hp.map lineOf), h1] at h2
 omega
theorem mget_perm {m m' : StkV} (hn : (m.map (·.1)).Nodup) (hp : m.Perm m') (k : KeyV) : mget m k = mget m' k := by
 have hn' : (m'.map (·.1)).Nodup := (hp.map _).nodup_iff.1 hn
 cases h : mget m k with
 |some v => exact ((mem_mget hn').1 (hp.mem_iff.1 (mget_mem h))).symm
 |none =>
  cases h' : mget m' k with
  |none => rfl
  |some v => rw [(mem_mget hn).1 (hp.mem_iff.2 (mget_mem h'))] at h; cases h
theorem at_take {m : StkV} {p : PlaceV} {l : List UInt8} {n : Int} (h : takeE m p l n = 0) (k : KeyV) : atM (takeM m p l n) k = if k = (p, l) then atM m k - n.toNat else atM m k := by
 unfold takeM
 rw [if_pos h]
 by_cases hk : k = (p, l)
 ·rw [if_pos hk, hk]
  split
  ·rename_i h0
   unfold atM
   rw [mget_del]
   exact h0.symm
  ·unfold atM
   rw [mget_put]; rfl
 ·rw [if_neg hk]
  split
  ·unfold atM
   rw [mget_del_other _ hk, mget_put_other _ _ hk]
  ·unfold atM
   rw [mget_put_other _ _ hk]
theorem at_put {m : StkV} {p : PlaceV} {l : List UInt8} {n : Int} (h : putE m p l n = 0) (k : KeyV) : atM (putM m p l n) k = if k = (p, l) then atM m k + n.toNat else atM m k := by
 unfold putM
 rw [if_pos h]
 by_cases hk : k = (p, l)
 ·rw [if_pos hk, hk]
  show (mget _ _).getD 0 = _
  rw [mget_put]; rfl
 ·rw [if_neg hk]
  unfold atM
  rw [mget_put_other _ _ hk]
theorem ofM_del_at {m : StkV} (hn : (m.map (·.1)).Nodup) (p : PlaceV) (l : List UInt8) : ofM (mdel m (p, l)) l + atM m (p, l) = ofM m l := by
 induction m with
 |nil => rfl
 |cons x r ih =>
  simp only [List.map_cons, List.nodup_cons] at hn
  have ih := ih hn.2
  unfold mdel at *
  rw [ofM_cons]
  by_cases h : x.1 = (p, l)
  ·rw [List.filter_cons_of_neg (by simp [h]), if_pos (by rw [h])]
   have e1 : atM (x :: r) (p, l) = x.2 := by unfold atM mget; rw [if_pos h]; rfl
   have e2 : List.filter (fun q => decide (q.1 ≠ (p, l))) r = r := List.filter_eq_self.2 fun q hq => by
    have : q.1 ≠ (p, l) := fun e => hn.1 (by rw [h, ← e]; exact List.mem_map.2 ⟨q, hq, rfl⟩)
    simpa using this
   rw [e1, e2]
   omega
  ·rw [List.filter_cons_of_pos (by simpa using h), ofM_cons]
   have e1 : atM (x :: r) (p, l) = atM r (p, l) := by unfold atM; rw [mget, if_neg h]
   rw [e1]
   omega
theorem of_take {m : StkV} (hI : StkI m) {p : PlaceV} {l : List UInt8} {n : Int} (h : takeE m p l n = 0) : ofM (takeM m p l n) l + n.toNat = ofM m l := by
 obtain ⟨h1, h2, h3⟩ := takeE_zero h
 have h4 := atM_le m p l
 unfold takeM
 rw [if_pos h]
 have hp := ofM_put m p l (atM m (p, l) - n.toNat)
 split
 ·rename_i h0
  rw [mdel_put]
  have := ofM_del_at hI.nodup p l
  omega
 ·omega
theorem of_put {m : StkV} {p : PlaceV} {l : List UInt8} {n : Int} (h : putE m p l n = 0) : ofM (putM m p l n) l = ofM m l + n.toNat := by
 unfold putM
 rw [if_pos h]
 have := ofM_put m p l (atM m (p, l) + n.toNat)
 omega
theorem move_zero {m : StkV} {f t : PlaceV} {l : List UInt8} {n : Int} (h : moveE m f t l n = 0) : takeE m f l n = 0 ∧ placeE t = 0 ∧ f ≠ t ∧ putE (takeM m f l n) t l n = 0 ∧ moveM m f t l n = putM (takeM m f l n) t l n := by
 have h' := h
 unfold moveE at h
 by_cases h1 : takeE m f l n ≠ 0
 ·rw [if_pos h1] at h; exact absurd h h1
 rw [if_neg h1] at h
 by_cases h2 : placeE t ≠ 0
 ·rw [if_pos h2] at h; exact absurd h h2
 rw [if_neg h2] at h
 by_cases h3 : f = t
 ·rw [if_pos h3] at h; cases h
 rw [if_neg h3] at h
 exact ⟨by omega, by omega, h3, h, by unfold moveM; rw [if_pos h']⟩
theorem move_counts {m : StkV} (hI : StkI m) {f t : PlaceV} {l : List UInt8} {n : Int} (h : moveE m f t l n = 0) :
  1 ≤ n ∧ ofM (moveM m f t l n) l = ofM m l ∧ (atM (moveM m f t l n) (f, l) : Int) = (atM m (f, l) : Nat) - n ∧ (atM (moveM m f t l n) (t, l) : Int) = (atM m (t, l) : Nat) + n := by
 obtain ⟨h1, -, h3, h4, h5⟩ := move_zero h
 obtain ⟨g1, g2, g3⟩ := takeE_zero h1
 have e1 : ¬ ((f, l) = (t, l)) := fun e => h3 (congrArg Prod.fst e)
 have e2 : ¬ ((t, l) = (f, l)) := fun e => h3 (congrArg Prod.fst e).symm
 rw [h5, of_put h4, at_put h4, at_put h4, at_take h1, at_take h1, if_neg e1, if_pos rfl, if_pos rfl, if_neg e2]
 have := of_take hI h1
 omega
theorem move_back {m : StkV} (hI : StkI m) {f t : PlaceV} {l : List UInt8} {n : Int} (h : moveE m f t l n = 0) :
  moveE (moveM m f t l n) t f l n = 0 ∧ linesM (moveM (moveM m f t l n) t f l n) = linesM m := by
 obtain ⟨h1, h2, h3, h4, h5⟩ := move_zero h
 obtain ⟨g1, g2, g3⟩ := takeE_zero h1
 have i1 := hI.take f l n
 have i2 := i1.put t l n
 have i3 := i2.take t l n
 rw [h5]
 have b1 : takeE (putM (takeM m f l n) t l n) t l n = 0 := by
  unfold takeE
  rw [if_neg (by unfold wiB; simp; omega), if_neg]
  rw [at_put h4, if_pos rfl]
  omega
 have hp : (takeM (putM (takeM m f l n) t l n) t l n).Perm (takeM m f l n) := perm_ext i3 i1 fun k => by
  rw [at_take b1, at_put h4]
  by_cases hk : k = (t, l)
  ·rw [if_pos hk, if_pos hk]; omega
  ·rw [if_neg hk, if_neg hk]
 have hmem : ∃ v, mget m (f, l) = some v := by
  cases hg : mget m (f, l) with
  |none => unfold atM at g3; rw [hg] at g3; simp at g3; omega
  |some v => exact ⟨v, rfl⟩
 obtain ⟨v, hv⟩ := hmem
 have hw := hI.well.well _ (mget_mem hv)
 have hof := of_take hI h1
 have b2 : putE (takeM (putM (takeM m f l n) t l n) t l n) f l n = 0 := by
  have hfew := hI.few l
  unfold putE
  rw [if_neg (by rw [hw.1]; simp), if_neg (by rw [hw.2.1]; simp), if_neg (by unfold wiB; simp; omega), if_neg (by rw [ofM_perm hp]; omega), if_neg]
  rintro ⟨q1, q2⟩
  rw [mget_perm i3.nodup hp] at q1
  rw [hp.length_eq] at q2
  have hfm := hI.well.few
  unfold takeM at q1 q2
  rw [if_pos h1] at q1 q2
  split at q1
  ·rename_i h0
   rw [if_pos h0, mdel_put] at q2
   have hlt : (mdel m (f, l)).length < m.length := by
    have := (mput_perm (f, l) v hI.nodup).length_eq
    rw [mput_len, if_pos (by rw [hv]; rfl)] at this
    simp at this
    omega
   omega
  ·rw [mget_put] at q1
   cases q1
 have b3 : moveE (putM (takeM m f l n) t l n) t f l n = 0 := by
  unfold moveE
  rw [if_neg (by rw [b1]; simp), if_neg (by rw [hw.1]; simp), if_neg (Ne.symm h3), b2]
 refine ⟨b3, ?_⟩
 obtain ⟨-, -, -, -, b5⟩ := move_zero b3
 rw [b5]
 refine lines_permE (i3.put f l n) (perm_ext (i3.put f l n) hI fun k => ?_)
 rw [at_put b2]
 have e1 : atM (takeM (putM (takeM m f l n) t l n) t l n) k = atM (takeM m f l n) k := by unfold atM; rw [mget_perm i3.nodup hp]
 rw [e1, at_take h1]
 by_cases hk : k = (f, l)
 ·rw [if_pos hk, if_pos hk, hk]; omega
 ·rw [if_neg hk, if_neg hk]
/-! What is written is read. -/
theorem lineText_words {x : LineV} (h : WellL x) : lineWords (splitL 32 (lineText x)) = (x, 0) ∧ (10 : UInt8) ∉ lineText x := by
 obtain ⟨h1, h2, h3, h4⟩ := h
 obtain ⟨hp, hno⟩ := place_back h1
 have e : lineText x = joinL 32 [placeText x.1, x.2.1, Lib.itoa x.2.2] := by
  unfold lineText
  simp [joinL]
 constructor
 ·rw [e, splitL_join 32 _ (by simp) fun w hw => by
   simp only [List.mem_cons, List.not_mem_nil, or_false] at hw
   rcases hw with rfl | rfl | rfl
   ·exact hno
   ·exact name_not h2 32 (by decide)
   ·exact itoa_not (by omega) 32 (by decide)]
  have q : numQ (Lib.itoa x.2.2) 13 = some x.2.2.toNat := numQ_itoa (by omega) 13 (by omega) (by omega) (by omega)
  rw [lineWords_some q, hp, if_neg (by simp), if_neg (by rw [h2]; simp), if_neg (by unfold wiB; simp; omega), Int.toNat_of_nonneg (by omega)]
 ·have hz := placeE_zero.1 h1
  rw [e]
  simp only [joinL, List.mem_append, List.mem_cons, not_or]
  refine ⟨?_, by decide, name_not h2 10 (by decide), by decide, itoa_not (by omega) 10 (by decide)⟩
  unfold placeText
  rw [if_pos h1]
  simp only [List.mem_append, List.mem_cons, not_or, List.not_mem_nil, not_false_eq_true, and_true]
  exact ⟨⟨⟨⟨name_not hz.1 10 (by decide), by decide⟩, itoa_not (by omega) 10 (by decide)⟩, by decide⟩, itoa_not (by omega) 10 (by decide)⟩
theorem toM_app (a b : List LineV) : toM (a ++ b) = toM a ++ toM b := by simp [toM]
theorem rd_back (L : List LineV) (hw : ∀ x ∈ L, WellL x) (hu : L.Pairwise fun x y => ltOf cfLine x y = true) (hl : L.length ≤ 200) (hf : ∀ lot, ofM (toM L) lot ≤ 1099511627776) :
  ∀ (r d : List LineV) (i : Nat), d ++ r = L → rdGo (splitL 10 (linesText r)) i d = .inr L := by
 intro r
 induction r with
 |nil =>
  intro d i h
  rw [show linesText [] = [] from rfl, show splitL 10 [] = [[]] from rfl, rdGo, if_pos rfl]
  simpa using h
 |cons x r ih =>
  intro d i h
  have hx : x ∈ L := by rw [← h]; simp
  obtain ⟨e1, e2⟩ := lineText_words (hw x hx)
  have e3 : linesText (x :: r) = lineText x ++ 10 :: linesText r := by simp [linesText]
  rw [e3, splitL_at _ _ e2]
  have hz : rdE d (lineText x) = 0 := by
   unfold rdE
   rw [e1, if_neg (by simp), if_neg]
   ·obtain ⟨w1, w2, w3, w4⟩ := hw x hx
    have hof := hf x.2.1
    rw [← h, toM_app, ofM_app, show toM (x :: r) = ((x.1, x.2.1), x.2.2.toNat) :: toM r from rfl, ofM_cons, if_pos rfl] at hof
    have hlen : (toM d).length < 200 := by
     have := congrArg List.length h
     rw [List.length_append, List.length_cons] at this
     simp only [toM, List.length_map]
     omega
    show putE (toM d) x.1 x.2.1 x.2.2 = 0
    unfold putE
    rw [if_neg (by rw [w1]; simp), if_neg (by rw [w2]; simp), if_neg (by unfold wiB; simp; omega), if_neg (by simp only at hof; omega), if_neg (fun q => by omega)]
   ·cases hd : d.getLast? with
    |none => simp
    |some z =>
     have hzm := List.mem_of_getLast? hd
     rw [← h, List.pairwise_append] at hu
     simp [hu.2.2 z hzm x List.mem_cons_self]
  rw [rdGo_ok (splitL_ne 10 _) hz, e1]
  exact ih (d ++ [x]) (i + 1) (by rw [← h]; simp)
theorem StkI.read {m : StkV} (h : StkI m) : rdGo (splitL 10 (textM m)) 0 [] = .inr (linesM m) ∧ textM (toM (linesM m)) = textM m := by
 have hp : (toM (linesM m)).Perm m := by
  have := (lines_perm m).map fun x : LineV => (((x.1, x.2.1), x.2.2.toNat) : KeyV × Nat)
  rw [List.map_map] at this
  refine List.Perm.trans this ?_
  rw [show ((fun x : LineV => (((x.1, x.2.1), x.2.2.toNat) : KeyV × Nat)) ∘ lineOf) = id from funext fun x => by obtain ⟨⟨p, l⟩, n⟩ := x; simp [lineOf], List.map_id]
 have h1 : rdGo (splitL 10 (textM m)) 0 [] = .inr (linesM m) := by
  refine rd_back (linesM m) h.well.lines ?_ (by rw [linesM_len]; exact h.well.few) (fun lot => by rw [ofM_perm hp]; exact h.few lot) (linesM m) [] 0 rfl
  have hnd : (linesM m).Nodup := by
   have hn2 : (m.map lineOf).Nodup := by
    have := h.nodup
    rw [List.Nodup, List.pairwise_map] at this ⊢
    refine this.imp fun {a b} hne e => hne ?_
    have h1 : a.1.1 = b.1.1 := congrArg (fun x : LineV => x.1) e
    have h2 : a.1.2 = b.1.2 := congrArg (fun x : LineV => x.2.1) e
    exact Prod.ext h1 h2
   exact (lines_perm m).nodup_iff.2 hn2
  have hs := lines_sorted m
  refine List.Pairwise.imp_of_mem ?_ (hs.and hnd)
  rintro a b ha hb ⟨h1, h2⟩
  cases hab : ltOf cfLine a b with
  |true => rfl
  |false => exact absurd (apart_m h.nodup ((lines_perm m).mem_iff.1 ha) ((lines_perm m).mem_iff.1 hb) (ltOf_both likeLine hab h1)) h2
 exact ⟨h1, read_text h1⟩
end Go.Proofs.YtchiojiicehpeaaGreatDoor
namespace Go.Proofs.YtchiojiicehpeaaGreatDoor
open Go.RowKit Go.Sort Go.Proofs Go.MapKept
structure ButF (F : List Nat) (w w' : World) : Prop where
 os : w'.os = w.os
 tape : w'.tape = w.tape
 output : w'.output = w.output
 size : w.heap.size ≤ w'.heap.size
 block : ∀ k, k < w.heap.size → k ∉ F → w'.heap[k]? = w.heap[k]?
theorem ButF.refl (F : List Nat) (w : World) : ButF F w w := ⟨rfl, rfl, rfl, Nat.le_refl _, fun _ _ _ => rfl⟩
theorem ButF.of_below {F : List Nat} {w w' : World} (h : Below w.heap.size w w') : ButF F w w' := ⟨h.os, h.tape, h.output, h.size, fun k hk _ => h.block k hk⟩
theorem ButF.of_turned {F : List Nat} {b : Nat} {w w' : World} (h : Turned b w w') (hb : b ∈ F ∨ w.heap.size ≤ b) : ButF F w w' :=
 ⟨h.os, h.tape, h.output, Nat.le_of_eq h.size.symm, fun k hk hf => h.block k fun e => by subst e; rcases hb with hb | hb; exact hf hb; omega⟩
theorem ButF.of_but {F : List Nat} {b : Nat} {w w' : World} (h : But b w w') (hb : b ∈ F ∨ w.heap.size ≤ b) : ButF F w w' :=
 ⟨h.os, h.tape, h.output, h.size, fun k hk hf => h.block k hk fun e => by subst e; rcases hb with hb | hb; exact hf hb; omega⟩
theorem ButF.trans {F F' : List Nat} {w1 w2 w3 : World} (h : ButF F w1 w2) (k : ButF F' w2 w3) (hF : ∀ i ∈ F', i ∈ F ∨ w1.heap.size ≤ i) : ButF F w1 w3 :=
 ⟨k.os.trans h.os, k.tape.trans h.tape, k.output.trans h.output, Nat.le_trans h.size k.size, fun i hi hf => (k.block i (Nat.lt_of_lt_of_le hi h.size) fun e => by rcases hF i e with e | e; exact hf e; omega).trans (h.block i hi hf)⟩
theorem ButF.step {F : List Nat} {w1 w2 w3 : World} (h : ButF F w1 w2) (k : ButF F w2 w3) : ButF F w1 w3 := h.trans k fun _ hi => .inl hi
theorem ButF.then_below {F : List Nat} {w1 w2 w3 : World} (h : ButF F w1 w2) (k : Below w2.heap.size w2 w3) : ButF F w1 w3 := h.step (ButF.of_below k)
theorem ButF.mono {F F' : List Nat} {w w' : World} (h : ButF F w w') (hF : ∀ i ∈ F, i ∈ F' ∨ w.heap.size ≤ i) : ButF F' w w' := ⟨h.os, h.tape, h.output, h.size, fun k hk hf => h.block k hk fun e => by rcases hF k e with e | e; exact hf e; omega⟩
theorem ButF.drew {F : List Nat} {w w' : World} (h : ButF F w w') : ButF F w w'.drew := ⟨h.os, h.tape, h.output, h.size, h.block⟩
theorem ButF.below {F : List Nat} {w w' : World} (h : ButF F w w') {B : Nat} (hB : B ≤ w.heap.size) (hF : ∀ i ∈ F, B ≤ i) : Below B w w' := ⟨h.os, h.tape, h.output, h.size, fun k hk => h.block k (by omega) fun e => by have := hF k e; omega⟩
theorem ButF.cell {F : List Nat} {w w' : World} (h : ButF F w w') {a : Addr} {v : Value} (hc : w.cell? a = some v) (hne : a.block ∉ F) : w'.cell? a = some v := (World.cell?_of_block (h.block _ (lt_of_cell hc) hne)).trans hc
/-! Keys that are strings. -/
def eStr (k : List UInt8) : Value := .string ⟨k.toArray⟩
theorem keyStr {P : Program} {kt : TypeId} (hk : P.underlying kt = some .string) : KeyOk P kt eStr where
 inj {a b} h := by
  simp only [eStr, Value.string.injEq, ByteArray.mk.injEq] at h
  simpa using congrArg Array.toList h
 check w em k := run_checkKey hk (d := .string) (k := eStr k) trivial em 9999
 find w x es hes := by
  have hks : ∀ e ∈ es, IsKey .string e.key := fun e he => by
   obtain ⟨y, hy⟩ := hes e he
   rw [hy]
   trivial
  rcases findNow_spec (d := .string) (k := eStr x) trivial es 0 hks with ⟨h1, h2⟩ | ⟨j, e0, h1, h2, h3⟩
  ·exact .inl ⟨run_findKey hk h1, h2⟩
  ·exact .inr ⟨j, e0, by simpa using run_findKey hk h1, h2, h3⟩
 stays w k := run_keyThatStays (d := .string) (k := eStr k) trivial
/-! A stock in memory, whatever its entries' order. -/
def StkP (w : World) (q c : Nat) (m : StkV) : Prop := ∃ m', StkAt w q c m' ∧ m'.Perm m
theorem StkP.keep {w w' : World} {p b : Nat} {m : StkV} (h : StkP w p b m) (hp : w'.heap[p]? = w.heap[p]?) (hb : w'.heap[b]? = w.heap[b]?) : StkP w' p b m := by
 obtain ⟨m', h1, h2⟩ := h
 exact ⟨m', h1.keep hp hb, h2⟩
theorem StkP.below {w w' : World} {p b : Nat} {m : StkV} (h : StkP w p b m) (hb : Below w.heap.size w w') : StkP w' p b m := by
 obtain ⟨m', h1, h2⟩ := h
 exact ⟨m', h1.below hb, h2⟩
theorem StkP.lt {w : World} {p b : Nat} {m : StkV} (h : StkP w p b m) : p < w.heap.size ∧ b < w.heap.size := by
 obtain ⟨m', h1, h2⟩ := h
 exact h1.lt
theorem StkP.ne {w : World} {p b : Nat} {m : StkV} (h : StkP w p b m) : p ≠ b := by
 obtain ⟨m', h1, h2⟩ := h
 exact h1.ne
theorem StkP.perm {w : World} {p b : Nat} {m m2 : StkV} (h : StkP w p b m) (hp : m.Perm m2) : StkP w p b m2 := by
 obtain ⟨m', h1, h2⟩ := h
 exact ⟨m', h1, h2.trans hp⟩
theorem StkI.perm {m m' : StkV} (h : StkI m) (hp : m.Perm m') : StkI m' :=
 ⟨(hp.map _).nodup_iff.1 h.nodup, ⟨by rw [← hp.length_eq]; exact h.well.few, fun x hx => h.well.well x (hp.mem_iff.2 hx)⟩, fun lot => by rw [← ofM_perm hp]; exact h.few lot⟩
theorem atM_perm {m m' : StkV} (h : StkI m) (hp : m.Perm m') (k : KeyV) : atM m k = atM m' k := by
 unfold atM
 rw [mget_perm h.nodup hp]
theorem mdel_perm {m m' : StkV} (hp : m.Perm m') (k : KeyV) : (mdel m k).Perm (mdel m' k) := hp.filter _
theorem mput_permC {m m' : StkV} (h : StkI m) (hp : m.Perm m') (k : KeyV) (v : Nat) : (mput m k v).Perm (mput m' k v) :=
 (mput_perm k v h.nodup).trans (((mdel_perm hp k).cons _).trans (mput_perm k v (h.perm hp).nodup).symm)
theorem putE_perm {m m' : StkV} (h : StkI m) (hp : m.Perm m') (p : PlaceV) (l : List UInt8) (n : Int) : putE m p l n = putE m' p l n := by
 unfold putE
 rw [ofM_perm hp, mget_perm h.nodup hp, hp.length_eq]
theorem putM_perm {m m' : StkV} (h : StkI m) (hp : m.Perm m') (p : PlaceV) (l : List UInt8) (n : Int) : (putM m p l n).Perm (putM m' p l n) := by
 unfold putM
 rw [putE_perm h hp, atM_perm h hp]
 split
 ·exact mput_permC h hp _ _
 ·exact hp
theorem takeE_perm {m m' : StkV} (h : StkI m) (hp : m.Perm m') (p : PlaceV) (l : List UInt8) (n : Int) : takeE m p l n = takeE m' p l n := by
 unfold takeE
 rw [atM_perm h hp]
theorem takeM_perm {m m' : StkV} (h : StkI m) (hp : m.Perm m') (p : PlaceV) (l : List UInt8) (n : Int) : (takeM m p l n).Perm (takeM m' p l n) := by
 unfold takeM
 rw [takeE_perm h hp, atM_perm h hp]
 split
 ·split
  ·rw [mdel_put, mdel_put]
   exact mdel_perm hp _
  ·exact mput_permC h hp _ _
 ·exact hp
theorem moveE_perm {m m' : StkV} (h : StkI m) (hp : m.Perm m') (p q : PlaceV) (l : List UInt8) (n : Int) : moveE m p q l n = moveE m' p q l n := by
 unfold moveE
 rw [takeE_perm h hp, putE_perm (h.take p l n) (takeM_perm h hp p l n)]
theorem moveM_perm {m m' : StkV} (h : StkI m) (hp : m.Perm m') (p q : PlaceV) (l : List UInt8) (n : Int) : (moveM m p q l n).Perm (moveM m' p q l n) := by
 unfold moveM
 rw [moveE_perm h hp]
 split
 ·exact putM_perm (h.take p l n) (takeM_perm h hp p l n) q l n
 ·exact hp
/-! The stock's own, at a stock of whatever order. -/
theorem ofStock_P {q c : Nat} {m : StkV} (hI : StkI m) (lot : List UInt8) (w : World) (h : StkP w q c m) :
  Calls Tryz.prog 133 #[.pointer (some ⟨q, 0, none⟩), .string ⟨lot.toArray⟩] w fun e w' => e = .returned (.int .i64 (ofM m lot : Nat)) ∧ Below w.heap.size w w' := by
 obtain ⟨m', h1, h2⟩ := h
 rw [← ofM_perm h2]
 exact ofStock_any q c m' lot w h1 (by have := (hI.perm h2.symm).few lot; omega)
theorem atStock_P {q c : Nat} {m : StkV} (hI : StkI m) (pl : PlaceV) (lot : List UInt8) (w : World) (h : StkP w q c m) :
  Calls Tryz.prog 25 #[.pointer (some ⟨q, 0, none⟩), .agg (encPlace pl).toArray, .string ⟨lot.toArray⟩] w fun e w' => e = .returned (.int .i64 (atM m (pl, lot) : Nat)) ∧ Below w.heap.size w w' := by
 obtain ⟨m', h1, h2⟩ := h
 rw [← atM_perm (hI.perm h2.symm) h2]
 exact atStock_any q c m' pl lot w h1
theorem copyStock_P {q c : Nat} {m : StkV} (w : World) (h : StkP w q c m) :
  Calls Tryz.prog 62 #[.pointer (some ⟨q, 0, none⟩)] w fun e w' => ∃ q' c', e = .returned (.pointer (some ⟨q', 0, none⟩)) ∧ w.heap.size ≤ q' ∧ w.heap.size ≤ c' ∧ StkP w' q' c' m ∧ Below w.heap.size w w' := by
 obtain ⟨m', h1, h2⟩ := h
 refine (copyStock_any q c m' w h1).mono ?_
 rintro e w' ⟨q', c', he, h3, h4, h5, h6⟩
 exact ⟨q', c', he, h3, h4, ⟨m', h5, h2⟩, h6⟩
theorem putStock_P (E : Nat → Addr) {q c : Nat} {m : StkV} (hI : StkI m) (pl : PlaceV) (lot : List UInt8) (n : Int) (w : World) (h : StkP w q c m) (hG : StkG E w) :
  Calls Tryz.prog 130 #[.pointer (some ⟨q, 0, none⟩), .agg (encPlace pl).toArray, .string ⟨lot.toArray⟩, .int .i64 n] w fun e w' => e = .returned (errOf E (putE m pl lot n)) ∧ StkP w' q c (putM m pl lot n) ∧ But c w w' := by
 obtain ⟨m', h1, h2⟩ := h
 have hI' := hI.perm h2.symm
 rw [← putE_perm hI' h2]
 refine (putStock_any E q c m' pl lot n w h1 (hI'.few lot) hG).mono ?_
 rintro e w' ⟨he, h3, h4⟩
 exact ⟨he, ⟨_, h3, putM_perm hI' h2 _ _ _⟩, h4⟩
theorem takeStock_P (E : Nat → Addr) {q c : Nat} {m : StkV} (hI : StkI m) (pl : PlaceV) (lot : List UInt8) (n : Int) (w : World) (h : StkP w q c m) (hG : StkG E w) :
  Calls Tryz.prog 186 #[.pointer (some ⟨q, 0, none⟩), .agg (encPlace pl).toArray, .string ⟨lot.toArray⟩, .int .i64 n] w fun e w' => e = .returned (errOf E (takeE m pl lot n)) ∧ StkP w' q c (takeM m pl lot n) ∧ But c w w' := by
 obtain ⟨m', h1, h2⟩ := h
 have hI' := hI.perm h2.symm
 rw [← takeE_perm hI' h2]
 refine (takeStock_any E q c m' pl lot n w h1 (by have := atM_le m' pl lot; have := hI'.few lot; omega) hG).mono ?_
 rintro e w' ⟨he, h3, h4⟩
 exact ⟨he, ⟨_, h3, takeM_perm hI' h2 _ _ _⟩, h4⟩
theorem moveStock_P (E : Nat → Addr) {q c : Nat} {m : StkV} (hI : StkI m) (pf pt : PlaceV) (lot : List UInt8) (n : Int) (w : World) (h : StkP w q c m) (hG : StkG E w) :
  Calls Tryz.prog 132 #[.pointer (some ⟨q, 0, none⟩), .agg (encPlace pf).toArray, .agg (encPlace pt).toArray, .string ⟨lot.toArray⟩, .int .i64 n] w fun e w' =>
   e = .returned (errOf E (moveE m pf pt lot n)) ∧ (∃ c', StkP w' q c' (moveM m pf pt lot n) ∧ (c' = c ∨ w.heap.size ≤ c')) ∧ But2 q c w w' := by
 obtain ⟨m', h1, h2⟩ := h
 have hI' := hI.perm h2.symm
 rw [← moveE_perm hI' h2]
 refine (moveStock_any E q c m' pf pt lot n w h1 (hI'.few lot) hG).mono ?_
 rintro e w' ⟨he, ⟨c', h3, h4⟩, h5⟩
 exact ⟨he, ⟨c', ⟨_, h3, moveM_perm hI' h2 _ _ _ _⟩, h4⟩, h5⟩
end Go.Proofs.YtchiojiicehpeaaGreatDoor
