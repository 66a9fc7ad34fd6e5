/- A stock moved, and moved back; a stock's text read: plainly. What a call may turn: the blocks of a list, and what is new; keys that are strings; a stock in memory, whatever its entries' order. The book, plainly: what an entry answers, and makes of it. No program in sight. -/
import Derived.StringKeys
import Derived.Test.YteaalifehokgoaaGreatDoorM06
import Derived.Test.YteaalifehokgoaaGreatDoorM13
import Derived.Test.YteaalifehokgoaaGreatDoorM16
namespace Go.Proofs.YteaalifehokgoaaGreatDoor
open Go.RowKit Go.Sort Go.Proofs
section
variable {κ ν : Type} [DecidableEq κ]
theorem mget_put_other : ∀ (m : List (κ × ν)) {k k' : κ} (v : ν), k' ≠ k → mget (mput m k v) k' = mget m k'
 |[], k, k', v, h => by simp [mput, mget, Ne.symm h]
 |p :: r, k, k', v, h => by
  unfold mput
  by_cases h1 : p.1 = k
  ·rw [if_pos h1]
   unfold mget
   rw [if_neg (Ne.symm h), if_neg (by rw [h1]; exact Ne.symm h)]
  ·rw [if_neg h1]
   unfold mget
   rw [mget_put_other r v h]
theorem mget_del (m : List (κ × ν)) (k : κ) : mget (mdel m k) k = none := mget_none fun p hp => by
 have := (List.mem_filter.1 hp).2
 simpa using this
theorem mget_del_other : ∀ (m : List (κ × ν)) {k k' : κ}, k' ≠ k → mget (mdel m k) k' = mget m k'
 |[], _, _, _ => rfl
 |p :: r, k, k', h => by
  have ih := mget_del_other r h
  unfold mdel at *
  by_cases h1 : p.1 = k
  ·rw [List.filter_cons_of_neg (by simp [h1]), ih]
   rw [show mget (p :: r) k' = mget r k' by rw [mget, if_neg (by rw [h1]; exact Ne.symm h)]]
  ·rw [List.filter_cons_of_pos (by simpa using h1), mget, mget, ih]
theorem mem_mget {m : List (κ × ν)} (hn : (m.map (·.1)).Nodup) {k : κ} {v : ν} : (k, v) ∈ m ↔ mget m k = some v := by
 refine ⟨fun h => ?_, mget_mem⟩
 obtain ⟨j, hj⟩ := List.mem_iff_getElem?.1 h
 exact mget_at hn hj
end
theorem nodup_of_keys {κ ν : Type} {m : List (κ × ν)} (hn : (m.map (·.1)).Nodup) : m.Nodup := by
 rw [List.Nodup, List.pairwise_map] at hn
 exact hn.imp fun h e => h (congrArg Prod.fst e)
theorem lines_permE {m m' : StkV} (h : StkI m) (hp : m.Perm m') : linesM m = linesM m' :=
 (lines_of h.nodup ((lines_perm m').trans (hp.map lineOf).symm) (lines_sorted m')).symm
theorem ofM_perm {m m' : StkV} (hp : m.Perm m') (lot : List UInt8) : ofM m lot = ofM m' lot := by
 have h1 := of_lines m lot
 have h2 := of_lines m' lot
 rw [ofL_perm (lines_perm m)] at h1
 rw [ofL_perm (lines_perm m'), ← ofL_perm (hp.map lineOf), h1] at h2
 omega
theorem mget_perm {m m' : StkV} (hn : (m.map (·.1)).Nodup) (hp : m.Perm m') (k : KeyV) : mget m k = mget m' k := by
 have hn' : (m'.map (·.1)).Nodup := (hp.map _).nodup_iff.1 hn
 cases h : mget m k with
 |some v => exact ((mem_mget hn').1 (hp.mem_iff.1 (mget_mem h))).symm
 |none =>
  cases h' : mget m' k with
  |none => rfl
  |some v => rw [(mem_mget hn).1 (hp.mem_iff.2 (mget_mem h'))] at h; cases h
theorem at_take {m : StkV} {p : PlaceV} {l : List UInt8} {n : Int} (h : takeE m p l n = 0) (k : KeyV) : atM (takeM m p l n) k = if k = (p, l) then atM m k - n.toNat else atM m k := by
 unfold takeM
 rw [if_pos h]
 by_cases hk : k = (p, l)
 ·rw [if_pos hk, hk]
  split
  ·rename_i h0
   unfold atM
   rw [mget_del]
   exact h0.symm
  ·unfold atM
   rw [mget_put]; rfl
 ·rw [if_neg hk]
  split
  ·unfold atM
   rw [mget_del_other _ hk, mget_put_other _ _ hk]
  ·unfold atM
   rw [mget_put_other _ _ hk]
theorem at_put {m : StkV} {p : PlaceV} {l : List UInt8} {n : Int} (h : putE m p l n = 0) (k : KeyV) : atM (putM m p l n) k = if k = (p, l) then atM m k + n.toNat else atM m k := by
 unfold putM
 rw [if_pos h]
 by_cases hk : k = (p, l)
 ·rw [if_pos hk, hk]
  show (mget _ _).getD 0 = _
  rw [mget_put]; rfl
 ·rw [if_neg hk]
  unfold atM
  rw [mget_put_other _ _ hk]
theorem ofM_del_at {m : StkV} (hn : (m.map (·.1)).Nodup) (p : PlaceV) (l : List UInt8) : ofM (mdel m (p, l)) l + atM m (p, l) = ofM m l := by
 induction m with
 |nil => rfl
 |cons x r ih =>
  simp only [List.map_cons, List.nodup_cons] at hn
  have ih := ih hn.2
  unfold mdel at *
  rw [ofM_cons]
  by_cases h : x.1 = (p, l)
  ·rw [List.filter_cons_of_neg (by simp [h]), if_pos (by rw [h])]
   have e1 : atM (x :: r) (p, l) = x.2 := by unfold atM mget; rw [if_pos h]; rfl
   have e2 : List.filter (fun q => decide (q.1 ≠ (p, l))) r = r := List.filter_eq_self.2 fun q hq => by
    have : q.1 ≠ (p, l) := fun e => hn.1 (by rw [h, ← e]; exact List.mem_map.2 ⟨q, hq, rfl⟩)
    simpa using this
   rw [e1, e2]
   omega
  ·rw [List.filter_cons_of_pos (by simpa using h), ofM_cons]
   have e1 : atM (x :: r) (p, l) = atM r (p, l) := by unfold atM; rw [mget, if_neg h]
   rw [e1]
   omega
theorem of_take {m : StkV} (hI : StkI m) {p : PlaceV} {l : List UInt8} {n : Int} (h : takeE m p l n = 0) : ofM (takeM m p l n) l + n.toNat = ofM m l := by
 obtain ⟨h1, h2, h3⟩ := takeE_zero h
 have h4 := atM_le m p l
 unfold takeM
 rw [if_pos h]
 have hp := ofM_put m p l (atM m (p, l) - n.toNat)
 split
 ·rename_i h0
  rw [mdel_put]
  have := ofM_del_at hI.nodup p l
  omega
 ·omega
theorem of_put {m : StkV} {p : PlaceV} {l : List UInt8} {n : Int} (h : putE m p l n = 0) : ofM (putM m p l n) l = ofM m l + n.toNat := by
 unfold putM
 rw [if_pos h]
 have := ofM_put m p l (atM m (p, l) + n.toNat)
 omega
theorem move_zero {m : StkV} {f t : PlaceV} {l : List UInt8} {n : Int} (h : moveE m f t l n = 0) : takeE m f l n = 0 ∧ placeE t = 0 ∧ f ≠ t ∧ putE (takeM m f l n) t l n = 0 ∧ moveM m f t l n = putM (takeM m f l n) t l n := by
 have h' := h
 unfold moveE at h
 by_cases h1 : takeE m f l n ≠ 0
 ·rw [if_pos h1] at h; exact absurd h h1
 rw [if_neg h1] at h
 by_cases h2 : placeE t ≠ 0
 ·rw [if_pos h2] at h; exact absurd h h2
 rw [if_neg h2] at h
 by_cases h3 : f = t
 ·rw [if_pos h3] at h; cases h
 rw [if_neg h3] at h
 exact ⟨by omega, by omega, h3, h, by unfold moveM; rw [if_pos h']⟩
theorem lineText_words {x : LineV} (h : WellL x) : lineWords (splitL 32 (lineText x)) = (x, 0) ∧ (10 : UInt8) ∉ lineText x := by
 obtain ⟨h1, h2, h3, h4⟩ := h
 obtain ⟨hp, hno⟩ := place_back h1
 have e : lineText x = joinL 32 [placeText x.1, x.2.1, Lib.itoa x.2.2] := by
  unfold lineText
  simp [joinL]
 constructor
 ·rw [e, splitL_join 32 _ (by simp) fun w hw => by
   simp only [List.mem_cons, List.not_mem_nil, or_false] at hw
   rcases hw with rfl | rfl | rfl
   ·exact hno
   ·exact name_not h2 32 (by decide)
   ·exact itoa_not (by omega) 32 (by decide)]
  have q : numQ (Lib.itoa x.2.2) 13 = some x.2.2.toNat := numQ_itoa (by omega) 13 (by omega) (by omega) (by omega)
  rw [lineWords_some q, hp, if_neg (by simp), if_neg (by rw [h2]; simp), if_neg (by unfold wiB; simp; omega), Int.toNat_of_nonneg (by omega)]
 ·have hz := placeE_zero.1 h1
  rw [e]
  simp only [joinL, List.mem_append, List.mem_cons, not_or]
  refine ⟨?_, by decide, name_not h2 10 (by decide), by decide, itoa_not (by omega) 10 (by decide)⟩
  unfold placeText
  rw [if_pos h1]
  simp only [List.mem_append, List.mem_cons, not_or, List.not_mem_nil, not_false_eq_true, and_true]
  exact ⟨⟨⟨⟨name_not hz.1 10 (by decide), by decide⟩, itoa_not (by omega) 10 (by decide)⟩, by decide⟩, itoa_not (by omega) 10 (by decide)⟩
theorem toM_app (a b : List LineV) : toM (a ++ b) = toM a ++ toM b := by simp [toM]
theorem rd_back (L : List LineV) (hw : ∀ x ∈ L, WellL x) (hu : L.Pairwise fun x y => ltOf cfLine x y = true) (hl : L.length ≤ 200) (hf : ∀ lot, ofM (toM L) lot ≤ 1099511627776) :
  ∀ (r d : List LineV) (i : Nat), d ++ r = L → rdGo (splitL 10 (linesText r)) i d = .inr L := by
 intro r
 induction r with
 |nil =>
  intro d i h
  rw [show linesText [] = [] from rfl, show splitL 10 [] = [[]] from rfl, rdGo, if_pos rfl]
  simpa using h
 |cons x r ih =>
  intro d i h
  have hx : x ∈ L := by rw [← h]; simp
  obtain ⟨e1, e2⟩ := lineText_words (hw x hx)
  have e3 : linesText (x :: r) = lineText x ++ 10 :: linesText r := by simp [linesText]
  rw [e3, splitL_at _ _ e2]
  have hz : rdE d (lineText x) = 0 := by
   unfold rdE
   rw [e1, if_neg (by simp), if_neg]
   ·obtain ⟨w1, w2, w3, w4⟩ := hw x hx
    have hof := hf x.2.1
    rw [← h, toM_app, ofM_app, show toM (x :: r) = ((x.1, x.2.1), x.2.2.toNat) :: toM r from rfl, ofM_cons, if_pos rfl] at hof
    have hlen : (toM d).length < 200 := by
     have := congrArg List.length h
     rw [List.length_append, List.length_cons] at this
     simp only [toM, List.length_map]
     omega
    show putE (toM d) x.1 x.2.1 x.2.2 = 0
    unfold putE
    rw [if_neg (by rw [w1]; simp), if_neg (by rw [w2]; simp), if_neg (by unfold wiB; simp; omega), if_neg (by simp only at hof; omega), if_neg (fun q => by omega)]
   ·cases hd : d.getLast? with
    |none => simp
    |some z =>
     have hzm := List.mem_of_getLast? hd
     rw [← h, List.pairwise_append] at hu
     simp [hu.2.2 z hzm x List.mem_cons_self]
  rw [rdGo_ok (splitL_ne 10 _) hz, e1]
  exact ih (d ++ [x]) (i + 1) (by rw [← h]; simp)
theorem StkI.read {m : StkV} (h : StkI m) : rdGo (splitL 10 (textM m)) 0 [] = .inr (linesM m) ∧ textM (toM (linesM m)) = textM m := by
 have hp : (toM (linesM m)).Perm m := by
  have := (lines_perm m).map fun x : LineV => (((x.1, x.2.1), x.2.2.toNat) : KeyV × Nat)
  rw [List.map_map] at this
  refine List.Perm.trans this ?_
  rw [show ((fun x : LineV => (((x.1, x.2.1), x.2.2.toNat) : KeyV × Nat)) ∘ lineOf) = id from funext fun x => by obtain ⟨⟨p, l⟩, n⟩ := x; simp [lineOf], List.map_id]
 have h1 : rdGo (splitL 10 (textM m)) 0 [] = .inr (linesM m) := by
  refine rd_back (linesM m) h.well.lines ?_ (by rw [linesM_len]; exact h.well.few) (fun lot => by rw [ofM_perm hp]; exact h.few lot) (linesM m) [] 0 rfl
  have hnd : (linesM m).Nodup := by
   have hn2 : (m.map lineOf).Nodup := by
    have := h.nodup
    rw [List.Nodup, List.pairwise_map] at this ⊢
    refine this.imp fun {a b} hne e => hne ?_
    have h1 : a.1.1 = b.1.1 := congrArg (fun x : LineV => x.1) e
    have h2 : a.1.2 = b.1.2 := congrArg (fun x : LineV => x.2.1) e
    exact Prod.ext h1 h2
   exact (lines_perm m).nodup_iff.2 hn2
  have hs := lines_sorted m
  refine List.Pairwise.imp_of_mem ?_ (hs.and hnd)
  rintro a b ha hb ⟨h1, h2⟩
  cases hab : ltOf cfLine a b with
  |true => rfl
  |false => exact absurd (apart_m h.nodup ((lines_perm m).mem_iff.1 ha) ((lines_perm m).mem_iff.1 hb) (ltOf_both likeLine hab h1)) h2
 exact ⟨h1, read_text h1⟩
end Go.Proofs.YteaalifehokgoaaGreatDoor
namespace Go.Proofs.YteaalifehokgoaaGreatDoor
open Go.RowKit Go.Sort Go.Proofs Go.MapKept
structure ButF (F : List Nat) (w w' : World) : Prop where
 os : w'.os = w.os
 tape : w'.tape = w.tape
 output : w'.output = w.output
 size : w.heap.size ≤ w'.heap.size
 block : ∀ k, k < w.heap.size → k ∉ F → w'.heap[k]? = w.heap[k]?
theorem ButF.refl (F : List Nat) (w : World) : ButF F w w := ⟨rfl, rfl, rfl, Nat.le_refl _, fun _ _ _ => rfl⟩
theorem ButF.of_below {F : List Nat} {w w' : World} (h : Below w.heap.size w w') : ButF F w w' := ⟨h.os, h.tape, h.output, h.size, fun k hk _ => h.block k hk⟩
theorem ButF.of_turned {F : List Nat} {b : Nat} {w w' : World} (h : Turned b w w') (hb : b ∈ F ∨ w.heap.size ≤ b) : ButF F w w' :=
 ⟨h.os, h.tape, h.output, Nat.le_of_eq h.size.symm, fun k hk hf => h.block k fun e => by subst e; rcases hb with hb | hb; exact hf hb; omega⟩
theorem ButF.of_but {F : List Nat} {b : Nat} {w w' : World} (h : But b w w') (hb : b ∈ F ∨ w.heap.size ≤ b) : ButF F w w' :=
 ⟨h.os, h.tape, h.output, h.size, fun k hk hf => h.block k hk fun e => by subst e; rcases hb with hb | hb; exact hf hb; omega⟩
theorem ButF.trans {F F' : List Nat} {w1 w2 w3 : World} (h : ButF F w1 w2) (k : ButF F' w2 w3) (hF : ∀ i ∈ F', i ∈ F ∨ w1.heap.size ≤ i) : ButF F w1 w3 :=
 ⟨k.os.trans h.os, k.tape.trans h.tape, k.output.trans h.output, Nat.le_trans h.size k.size, fun i hi hf => (k.block i (Nat.lt_of_lt_of_le hi h.size) fun e => by rcases hF i e with e | e; exact hf e; omega).trans (h.block i hi hf)⟩
theorem ButF.step {F : List Nat} {w1 w2 w3 : World} (h : ButF F w1 w2) (k : ButF F w2 w3) : ButF F w1 w3 := h.trans k fun _ hi => .inl hi
theorem ButF.then_below {F : List Nat} {w1 w2 w3 : World} (h : ButF F w1 w2) (k : Below w2.heap.size w2 w3) : ButF F w1 w3 := h.step (ButF.of_below k)
theorem ButF.mono {F F' : List Nat} {w w' : World} (h : ButF F w w') (hF : ∀ i ∈ F, i ∈ F' ∨ w.heap.size ≤ i) : ButF F' w w' := ⟨h.os, h.tape, h.output, h.size, fun k hk hf => h.block k hk fun e => by rcases hF k e with e | e; exact hf e; omega⟩
theorem ButF.drew {F : List Nat} {w w' : World} (h : ButF F w w') : ButF F w w'.drew := ⟨h.os, h.tape, h.output, h.size, h.block⟩
theorem ButF.below {F : List Nat} {w w' : World} (h : ButF F w w') {B : Nat} (hB : B ≤ w.heap.size) (hF : ∀ i ∈ F, B ≤ i) : Below B w w' := ⟨h.os, h.tape, h.output, h.size, fun k hk => h.block k (by omega) fun e => by have := hF k e; omega⟩
theorem ButF.cell {F : List Nat} {w w' : World} (h : ButF F w w') {a : Addr} {v : Value} (hc : w.cell? a = some v) (hne : a.block ∉ F) : w'.cell? a = some v := (World.cell?_of_block (h.block _ (lt_of_cell hc) hne)).trans hc
/-! Keys that are strings. -/
def eStr (k : List UInt8) : Value := .string ⟨k.toArray⟩
theorem keyStr {P : Program} {kt : TypeId} (hk : P.underlying kt = some .string) : KeyOk P kt eStr where
 inj {a b} h := by
  simp only [eStr, Value.string.injEq, ByteArray.mk.injEq] at h
  simpa using congrArg Array.toList h
 check w em k := run_checkKey hk (d := .string) (k := eStr k) trivial em 9999
 find w x es hes := by
  have hks : ∀ e ∈ es, IsKey .string e.key := fun e he => by
   obtain ⟨y, hy⟩ := hes e he
   rw [hy]
   trivial
  rcases findNow_spec (d := .string) (k := eStr x) trivial es 0 hks with ⟨h1, h2⟩ | ⟨j, e0, h1, h2, h3⟩
  ·exact .inl ⟨run_findKey hk h1, h2⟩
  ·exact .inr ⟨j, e0, by simpa using run_findKey hk h1, h2, h3⟩
 stays w k := run_keyThatStays (d := .string) (k := eStr k) trivial
/-! A stock in memory, whatever its entries' order. -/
def StkP (w : World) (q c : Nat) (m : StkV) : Prop := ∃ m', StkAt w q c m' ∧ m'.Perm m
theorem StkP.keep {w w' : World} {p b : Nat} {m : StkV} (h : StkP w p b m) (hp : w'.heap[p]? = w.heap[p]?) (hb : w'.heap[b]? = w.heap[b]?) : StkP w' p b m := by
 obtain ⟨m', h1, h2⟩ := h
 exact ⟨m', h1.keep hp hb, h2⟩
theorem StkP.below {w w' : World} {p b : Nat} {m : StkV} (h : StkP w p b m) (hb : Below w.heap.size w w') : StkP w' p b m := by
 obtain ⟨m', h1, h2⟩ := h
 exact ⟨m', h1.below hb, h2⟩
theorem StkP.lt {w : World} {p b : Nat} {m : StkV} (h : StkP w p b m) : p < w.heap.size ∧ b < w.heap.size := by
 obtain ⟨m', h1, h2⟩ := h
 exact h1.lt
theorem StkP.ne {w : World} {p b : Nat} {m : StkV} (h : StkP w p b m) : p ≠ b := by
 obtain ⟨m', h1, h2⟩ := h
 exact h1.ne
theorem StkP.perm {w : World} {p b : Nat} {m m2 : StkV} (h : StkP w p b m) (hp : m.Perm m2) : StkP w p b m2 := by
 obtain ⟨m', h1, h2⟩ := h
 exact ⟨m', h1, h2.trans hp⟩
theorem StkI.perm {m m' : StkV} (h : StkI m) (hp : m.Perm m') : StkI m' :=
 ⟨(hp.map _).nodup_iff.1 h.nodup, ⟨by rw [← hp.length_eq]; exact h.well.few, fun x hx => h.well.well x (hp.mem_iff.2 hx)⟩, fun lot => by rw [← ofM_perm hp]; exact h.few lot⟩
theorem atM_perm {m m' : StkV} (h : StkI m) (hp : m.Perm m') (k : KeyV) : atM m k = atM m' k := by
 unfold atM
 rw [mget_perm h.nodup hp]
theorem mdel_perm {m m' : StkV} (hp : m.Perm m') (k : KeyV) : (mdel m k).Perm (mdel m' k) := hp.filter _
theorem mput_permC {m m' : StkV} (h : StkI m) (hp : m.Perm m') (k : KeyV) (v : Nat) : (mput m k v).Perm (mput m' k v) :=
 (mput_perm k v h.nodup).trans (((mdel_perm hp k).cons _).trans (mput_perm k v (h.perm hp).nodup).symm)
theorem putE_perm {m m' : StkV} (h : StkI m) (hp : m.Perm m') (p : PlaceV) (l : List UInt8) (n : Int) : putE m p l n = putE m' p l n := by
 unfold putE
 rw [ofM_perm hp, mget_perm h.nodup hp, hp.length_eq]
theorem putM_perm {m m' : StkV} (h : StkI m) (hp : m.Perm m') (p : PlaceV) (l : List UInt8) (n : Int) : (putM m p l n).Perm (putM m' p l n) := by
 unfold putM
 rw [putE_perm h hp, atM_perm h hp]
 split
 ·exact mput_permC h hp _ _
 ·exact hp
theorem takeE_perm {m m' : StkV} (h : StkI m) (hp : m.Perm m') (p : PlaceV) (l : List UInt8) (n : Int) : takeE m p l n = takeE m' p l n := by
 unfold takeE
 rw [atM_perm h hp]
theorem takeM_perm {m m' : StkV} (h : StkI m) (hp : m.Perm m') (p : PlaceV) (l : List UInt8) (n : Int) : (takeM m p l n).Perm (takeM m' p l n) := by
 unfold takeM
 rw [takeE_perm h hp, atM_perm h hp]
 split
 ·split
  ·rw [mdel_put, mdel_put]
   exact mdel_perm hp _
  ·exact mput_permC h hp _ _
 ·exact hp
theorem moveE_perm {m m' : StkV} (h : StkI m) (hp : m.Perm m') (p q : PlaceV) (l : List UInt8) (n : Int) : moveE m p q l n = moveE m' p q l n := by
 unfold moveE
 rw [takeE_perm h hp, putE_perm (h.take p l n) (takeM_perm h hp p l n)]
theorem moveM_perm {m m' : StkV} (h : StkI m) (hp : m.Perm m') (p q : PlaceV) (l : List UInt8) (n : Int) : (moveM m p q l n).Perm (moveM m' p q l n) := by
 unfold moveM
 rw [moveE_perm h hp]
 split
 ·exact putM_perm (h.take p l n) (takeM_perm h hp p l n) q l n
 ·exact hp
/-! The stock's own, at a stock of whatever order. -/
theorem ofStock_P {q c : Nat} {m : StkV} (hI : StkI m) (lot : List UInt8) (w : World) (h : StkP w q c m) :
  Calls Tryz.prog 98 #[.pointer (some ⟨q, 0, none⟩), .string ⟨lot.toArray⟩] w fun e w' => e = .returned (.int .i64 (ofM m lot : Nat)) ∧ Below w.heap.size w w' := by
 obtain ⟨m', h1, h2⟩ := h
 rw [← ofM_perm h2]
 exact ofStock_any q c m' lot w h1 (by have := (hI.perm h2.symm).few lot; omega)
theorem copyStock_P {q c : Nat} {m : StkV} (w : World) (h : StkP w q c m) :
  Calls Tryz.prog 80 #[.pointer (some ⟨q, 0, none⟩)] w fun e w' => ∃ q' c', e = .returned (.pointer (some ⟨q', 0, none⟩)) ∧ w.heap.size ≤ q' ∧ w.heap.size ≤ c' ∧ StkP w' q' c' m ∧ Below w.heap.size w w' := by
 obtain ⟨m', h1, h2⟩ := h
 refine (copyStock_any q c m' w h1).mono ?_
 rintro e w' ⟨q', c', he, h3, h4, h5, h6⟩
 exact ⟨q', c', he, h3, h4, ⟨m', h5, h2⟩, h6⟩
theorem putStock_P (E : Nat → Addr) {q c : Nat} {m : StkV} (hI : StkI m) (pl : PlaceV) (lot : List UInt8) (n : Int) (w : World) (h : StkP w q c m) (hG : StkG E w) :
  Calls Tryz.prog 95 #[.pointer (some ⟨q, 0, none⟩), .agg (encPlace pl).toArray, .string ⟨lot.toArray⟩, .int .i64 n] w fun e w' => e = .returned (errOf E (putE m pl lot n)) ∧ StkP w' q c (putM m pl lot n) ∧ But c w w' := by
 obtain ⟨m', h1, h2⟩ := h
 have hI' := hI.perm h2.symm
 rw [← putE_perm hI' h2]
 refine (putStock_any E q c m' pl lot n w h1 (hI'.few lot) hG).mono ?_
 rintro e w' ⟨he, h3, h4⟩
 exact ⟨he, ⟨_, h3, putM_perm hI' h2 _ _ _⟩, h4⟩
theorem takeStock_P (E : Nat → Addr) {q c : Nat} {m : StkV} (hI : StkI m) (pl : PlaceV) (lot : List UInt8) (n : Int) (w : World) (h : StkP w q c m) (hG : StkG E w) :
  Calls Tryz.prog 149 #[.pointer (some ⟨q, 0, none⟩), .agg (encPlace pl).toArray, .string ⟨lot.toArray⟩, .int .i64 n] w fun e w' => e = .returned (errOf E (takeE m pl lot n)) ∧ StkP w' q c (takeM m pl lot n) ∧ But c w w' := by
 obtain ⟨m', h1, h2⟩ := h
 have hI' := hI.perm h2.symm
 rw [← takeE_perm hI' h2]
 refine (takeStock_any E q c m' pl lot n w h1 (by have := atM_le m' pl lot; have := hI'.few lot; omega) hG).mono ?_
 rintro e w' ⟨he, h3, h4⟩
 exact ⟨he, ⟨_, h3, takeM_perm hI' h2 _ _ _⟩, h4⟩
theorem moveStock_P (E : Nat → Addr) {q c : Nat} {m : StkV} (hI : StkI m) (pf pt : PlaceV) (lot : List UInt8) (n : Int) (w : World) (h : StkP w q c m) (hG : StkG E w) :
  Calls Tryz.prog 97 #[.pointer (some ⟨q, 0, none⟩), .agg (encPlace pf).toArray, .agg (encPlace pt).toArray, .string ⟨lot.toArray⟩, .int .i64 n] w fun e w' =>
   e = .returned (errOf E (moveE m pf pt lot n)) ∧ (∃ c', StkP w' q c' (moveM m pf pt lot n) ∧ (c' = c ∨ w.heap.size ≤ c')) ∧ But2 q c w w' := by
 obtain ⟨m', h1, h2⟩ := h
 have hI' := hI.perm h2.symm
 rw [← moveE_perm hI' h2]
 refine (moveStock_any E q c m' pf pt lot n w h1 (hI'.few lot) hG).mono ?_
 rintro e w' ⟨he, ⟨c', h3, h4⟩, h5⟩
 exact ⟨he, ⟨c', ⟨_, h3, moveM_perm hI' h2 _ _ _ _⟩, h4⟩, h5⟩
end Go.Proofs.YteaalifehokgoaaGreatDoor
namespace Go.Proofs.YteaalifehokgoaaGreatDoor
open Go.RowKit Go.Sort Go.Proofs
abbrev SumsV := Int × Int × Int × Int
abbrev GoS := GoodsV × SumsV
abbrev LoH := LotV × Nat
abbrev BkV := List GoS × List LoH × StkV
def zeroSums : SumsV := (0, 0, 0, 0)
def bk0 : BkV := ([], [], [])
def mostS : Int := 65970697666560
def fG (B : BkV) (c : List UInt8) : Option GoS := B.1.find? fun x => decide (x.1.1 = c)
def fL (B : BkV) (id : List UInt8) : Option LoH := B.2.1.find? fun x => decide (x.1.1 = id)
def sumsOf (B : BkV) (c : List UInt8) : SumsV := match fG B c with | some x => x.2 | none => zeroSums
def heldOf (B : BkV) (id : List UInt8) : Nat := match fL B id with | some x => x.2 | none => 0
def hasOf (B : BkV) (c : List UInt8) : Nat := ((B.2.1.filter fun x => decide (x.1.2.1 = c)).map fun x => ofM B.2.2 x.1.1).sum
def actE (m : StkV) (x : EntV) : Nat :=
 if x.1 = kIn ∨ x.1 = kMore then putE m x.2.2.2.2.1 x.2.2.1.1 x.2.2.2.2.2 else if x.1 = kOut ∨ x.1 = kLess then takeE m x.2.2.2.1 x.2.2.1.1 x.2.2.2.2.2
 else if x.1 = kMove then moveE m x.2.2.2.1 x.2.2.2.2.1 x.2.2.1.1 x.2.2.2.2.2 else 0
def actM (m : StkV) (x : EntV) : StkV :=
 if x.1 = kIn ∨ x.1 = kMore then putM m x.2.2.2.2.1 x.2.2.1.1 x.2.2.2.2.2 else if x.1 = kOut ∨ x.1 = kLess then takeM m x.2.2.2.1 x.2.2.1.1 x.2.2.2.2.2
 else if x.1 = kMove then moveM m x.2.2.2.1 x.2.2.2.2.1 x.2.2.1.1 x.2.2.2.2.2 else m
def heldN (h : Nat) (x : EntV) : Int := if x.1 = kHold then (h : Int) + x.2.2.2.2.2 else if x.1 = kFree then (h : Int) - x.2.2.2.2.2 else h
def summ (s : SumsV) (x : EntV) : SumsV :=
 if x.1 = kIn then (s.1 + x.2.2.2.2.2, s.2.1, s.2.2.1, s.2.2.2) else if x.1 = kOut then (s.1, s.2.1 + x.2.2.2.2.2, s.2.2.1, s.2.2.2)
 else if x.1 = kMore then (s.1, s.2.1, s.2.2.1 + x.2.2.2.2.2, s.2.2.2) else if x.1 = kLess then (s.1, s.2.1, s.2.2.1, s.2.2.2 + x.2.2.2.2.2) else s
def overS (s : SumsV) : Bool := decide (mostS < s.1) || decide (mostS < s.2.1) || decide (mostS < s.2.2.1) || decide (mostS < s.2.2.2)
def pcE (B : BkV) (x : EntV) : Nat :=
 match fL B x.2.2.1.1 with
 |none => 6
 |some y => if actE B.2.2 x ≠ 0 then actE B.2.2 x else if heldN y.2 x < 0 ∨ (ofM (actM B.2.2 x) x.2.2.1.1 : Int) < heldN y.2 x then 9
  else if overS (summ (sumsOf B y.1.2.1) x) = true then 2 else 0
def doE (B : BkV) (x : EntV) : Nat :=
 if entE x ≠ 0 then entE x
 else if x.1 = kGoods then (if (fG B x.2.1.1).isSome = true then 7 else if 30 ≤ B.1.length then 8 else 0)
 else if x.1 = kLot then (if (fL B x.2.2.1.1).isSome = true then 7 else if (fG B x.2.2.1.2.1).isSome = false then 6 else if 60 ≤ B.2.1.length then 8 else 0)
 else pcE B x
def ltB (a b : List UInt8) : Bool := Op.bytesLess a b
def insG (x : GoS) (l : List GoS) : List GoS := l.takeWhile (fun y => ltB y.1.1 x.1.1) ++ x :: l.dropWhile (fun y => ltB y.1.1 x.1.1)
def insLo (x : LoH) (l : List LoH) : List LoH := l.takeWhile (fun y => ltB y.1.1 x.1.1) ++ x :: l.dropWhile (fun y => ltB y.1.1 x.1.1)
def setG (c : List UInt8) (s : SumsV) (l : List GoS) : List GoS := l.map fun y => if y.1.1 = c then (y.1, s) else y
def setLo (id : List UInt8) (h : Nat) (l : List LoH) : List LoH := l.map fun y => if y.1.1 = id then (y.1, h) else y
def codeLo (B : BkV) (id : List UInt8) : List UInt8 := match fL B id with | some y => y.1.2.1 | none => []
def doP (B : BkV) (x : EntV) : BkV :=
 (setG (codeLo B x.2.2.1.1) (summ (sumsOf B (codeLo B x.2.2.1.1)) x) B.1, setLo x.2.2.1.1 (heldN (heldOf B x.2.2.1.1) x).toNat B.2.1, actM B.2.2 x)
def doB (B : BkV) (x : EntV) : BkV :=
 if doE B x ≠ 0 then B else if x.1 = kGoods then (insG (x.2.1, zeroSums) B.1, B.2.1, B.2.2) else if x.1 = kLot then (B.1, insLo (x.2.2.1, 0) B.2.1, B.2.2) else doP B x
def doAll (B : BkV) (l : List EntV) : BkV := l.foldl doB B
/-! What holds of a book that entries make. -/
def OkS (s : SumsV) : Prop := 0 ≤ s.1 ∧ s.1 ≤ mostS ∧ 0 ≤ s.2.1 ∧ s.2.1 ≤ mostS ∧ 0 ≤ s.2.2.1 ∧ s.2.2.1 ≤ mostS ∧ 0 ≤ s.2.2.2 ∧ s.2.2.2 ≤ mostS
structure BkI (B : BkV) : Prop where
 gs : B.1.Pairwise fun x y => ltB x.1.1 y.1.1 = true
 gok : ∀ x ∈ B.1, goodsE x.1 = 0 ∧ OkS x.2
 gfew : B.1.length ≤ 30
 ls : B.2.1.Pairwise fun x y => ltB x.1.1 y.1.1 = true
 lok : ∀ y ∈ B.2.1, lotE y.1 = 0 ∧ y.2 ≤ ofM B.2.2 y.1.1 ∧ (fG B y.1.2.1).isSome = true
 lfew : B.2.1.length ≤ 60
 stk : StkI B.2.2
 known : ∀ z ∈ B.2.2, (fL B z.1.2).isSome = true
 pac : ∀ x ∈ B.1, (hasOf B x.1.1 : Int) = x.2.1 - x.2.2.1 + x.2.2.2.1 - x.2.2.2.2
theorem ltB_irrefl (a : List UInt8) : ltB a a = false := by
 unfold ltB
 rw [less_cmp, cmpB_refl]
 rfl
theorem ltB_trans {a b c : List UInt8} (h1 : ltB a b = true) (h2 : ltB b c = true) : ltB a c = true := by
 unfold ltB at *
 rw [less_cmp, decide_eq_true_eq] at *
 exact cmpB_trans a b c h1 h2
theorem ltB_asym {a b : List UInt8} (h : ltB a b = true) : ltB b a = false := by
 cases h2 : ltB b a with
 |false => rfl
 |true => exact absurd (ltB_trans h h2) (by rw [ltB_irrefl]; simp)
theorem ltB_ne {a b : List UInt8} (h : ltB a b = true) : a ≠ b := by
 rintro rfl
 rw [ltB_irrefl] at h
 cases h
theorem ltB_total {a b : List UInt8} (h : ltB a b = false) (hne : a ≠ b) : ltB b a = true := by
 unfold ltB at *
 rw [less_cmp] at *
 have h1 := of_decide_eq_false h
 have h2 : Lib.compareBytes a b ≠ 0 := fun e => hne ((cmpB_eq a b).1 e)
 have h3 := cmpB_swap a b
 exact decide_eq_true (by omega)
section
variable {α : Type} (key : α → List UInt8)
theorem find_mem {l : List α} {c : List UInt8} {x : α} (h : l.find? (fun y => decide (key y = c)) = some x) : x ∈ l ∧ key x = c :=
 ⟨List.mem_of_find?_eq_some h, by simpa using List.find?_some h⟩
theorem find_none {l : List α} {c : List UInt8} (h : l.find? (fun y => decide (key y = c)) = none) : ∀ y ∈ l, key y ≠ c := fun y hy => by
 have := List.find?_eq_none.1 h y hy
 simpa using this
theorem find_is {l : List α} (hs : l.Pairwise fun x y => ltB (key x) (key y) = true) {x : α} (hx : x ∈ l) : l.find? (fun y => decide (key y = key x)) = some x := by
 induction l with
 |nil => simp at hx
 |cons y r ih =>
  have h := List.pairwise_cons.1 hs
  rw [List.find?_cons]
  rcases List.mem_cons.1 hx with rfl | hx
  ·simp
  ·rw [decide_eq_false (ltB_ne (h.1 x hx))]
   exact ih h.2 hx
def insK (x : α) (l : List α) : List α := l.takeWhile (fun y => ltB (key y) (key x)) ++ x :: l.dropWhile (fun y => ltB (key y) (key x))
theorem insK_perm (x : α) (l : List α) : (insK key x l).Perm (x :: l) := by
 unfold insK
 refine List.perm_middle.trans ?_
 rw [List.takeWhile_append_dropWhile]
theorem insK_sorted (x : α) {l : List α} (hs : l.Pairwise fun x y => ltB (key x) (key y) = true) (hn : ∀ y ∈ l, key y ≠ key x) : (insK key x l).Pairwise fun x y => ltB (key x) (key y) = true := by
 induction l with
 |nil => simp [insK]
 |cons y r ih =>
  have h := List.pairwise_cons.1 hs
  unfold insK
  by_cases hl : ltB (key y) (key x) = true
  ·rw [List.takeWhile_cons_of_pos (p := fun y => ltB (key y) (key x)) hl, List.dropWhile_cons_of_pos (p := fun y => ltB (key y) (key x)) hl]
   have ih' := ih h.2 fun z hz => hn z (List.mem_cons_of_mem _ hz)
   refine List.pairwise_cons.2 ⟨fun z hz => ?_, ih'⟩
   rcases List.mem_cons.1 ((insK_perm key x r).mem_iff.1 hz) with rfl | hz
   ·exact hl
   ·exact h.1 z hz
  ·rw [List.takeWhile_cons_of_neg (p := fun y => ltB (key y) (key x)) hl, List.dropWhile_cons_of_neg (p := fun y => ltB (key y) (key x)) hl]
   have hxy := ltB_total (by simpa using hl) (hn y List.mem_cons_self)
   refine List.pairwise_cons.2 ⟨fun z hz => ?_, hs⟩
   rcases List.mem_cons.1 hz with rfl | hz
   ·exact hxy
   ·exact ltB_trans hxy (h.1 z hz)
theorem find_insK (x : α) {l : List α} (hs : l.Pairwise fun x y => ltB (key x) (key y) = true) (hn : ∀ y ∈ l, key y ≠ key x) (c : List UInt8) :
  (insK key x l).find? (fun y => decide (key y = c)) = if key x = c then some x else l.find? (fun y => decide (key y = c)) := by
 have hs' := insK_sorted key x hs hn
 by_cases h : key x = c
 ·rw [if_pos h, ← h]
  exact find_is key hs' ((insK_perm key x l).mem_iff.2 List.mem_cons_self)
 ·rw [if_neg h]
  cases hf : l.find? (fun y => decide (key y = c)) with
  |none =>
   refine List.find?_eq_none.2 fun y hy => ?_
   rcases List.mem_cons.1 ((insK_perm key x l).mem_iff.1 hy) with rfl | hy
   ·simpa using h
   ·simpa using find_none key hf y hy
  |some y =>
   obtain ⟨h1, h2⟩ := find_mem key hf
   rw [← h2]
   exact find_is key hs' ((insK_perm key x l).mem_iff.2 (List.mem_cons_of_mem _ h1))
theorem find_map {l : List α} {f : α → α} (hf : ∀ y, key (f y) = key y) (c : List UInt8) : (l.map f).find? (fun y => decide (key y = c)) = (l.find? (fun y => decide (key y = c))).map f := by
 induction l with
 |nil => rfl
 |cons y r ih =>
  rw [List.map_cons, List.find?_cons, List.find?_cons, hf, ih]
  cases decide (key y = c) <;> rfl
theorem sorted_map {l : List α} {f : α → α} (hf : ∀ y, key (f y) = key y) (hs : l.Pairwise fun x y => ltB (key x) (key y) = true) : (l.map f).Pairwise fun x y => ltB (key x) (key y) = true := by
 rw [List.pairwise_map]
 exact hs.imp fun h => by rw [hf, hf]; exact h
end
theorem insG_eq (x : GoS) (l : List GoS) : insG x l = insK (fun y : GoS => y.1.1) x l := rfl
theorem insLo_eq (x : LoH) (l : List LoH) : insLo x l = insK (fun y : LoH => y.1.1) x l := rfl
end Go.Proofs.YteaalifehokgoaaGreatDoor
