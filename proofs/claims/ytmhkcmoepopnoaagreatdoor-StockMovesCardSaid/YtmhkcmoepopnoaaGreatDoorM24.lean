/- A stock moved, and moved back; a stock's text read: plainly. A line of a stock read: stock.ReadLine. -/
import Derived.Test.YtmhkcmoepopnoaaGreatDoorM01
import Derived.Test.YtmhkcmoepopnoaaGreatDoorM21
import Derived.Test.YtmhkcmoepopnoaaGreatDoorM22
import Derived.Test.YtmhkcmoepopnoaaGreatDoorM23
namespace Go.Proofs.YtmhkcmoepopnoaaGreatDoor
open Go.RowKit Go.Sort Go.Proofs

section
variable {κ ν : Type} [DecidableEq κ]
theorem mget_put_other : ∀ (m : List (κ × ν)) {k k' : κ} (v : ν), k' ≠ k → mget (mput m k v) k' = mget m k'
  | [], k, k', v, h => by simp [mput, mget, Ne.symm h]
  | p :: r, k, k', v, h => by
    unfold mput
    by_cases h1 : p.1 = k
    · rw [if_pos h1]
      unfold mget
      rw [if_neg (Ne.symm h), if_neg (by rw [h1]; exact Ne.symm h)]
    · rw [if_neg h1]
      unfold mget
      rw [mget_put_other r v h]
theorem mget_del (m : List (κ × ν)) (k : κ) : mget (mdel m k) k = none := mget_none fun p hp => by
  have := (List.mem_filter.1 hp).2
  simpa using this
theorem mget_del_other : ∀ (m : List (κ × ν)) {k k' : κ}, k' ≠ k → mget (mdel m k) k' = mget m k'
  | [], _, _, _ => rfl
  | p :: r, k, k', h => by
    have ih := mget_del_other r h
    unfold mdel at *
    by_cases h1 : p.1 = k
    · rw [List.filter_cons_of_neg (by simp [h1]), ih]
      rw [show mget (p :: r) k' = mget r k' by rw [mget, if_neg (by rw [h1]; exact Ne.symm h)]]
    · rw [List.filter_cons_of_pos (by simpa using h1), mget, mget, ih]
theorem mem_mget {m : List (κ × ν)} (hn : (m.map (·.1)).Nodup) {k : κ} {v : ν} : (k, v) ∈ m ↔ mget m k = some v := by
  refine ⟨fun h => ?_, mget_mem⟩
  obtain ⟨j, hj⟩ := List.mem_iff_getElem?.1 h
  exact mget_at hn hj
end
theorem nodup_of_keys {κ ν : Type} {m : List (κ × ν)} (hn : (m.map (·.1)).Nodup) : m.Nodup := by
  rw [List.Nodup, List.pairwise_map] at hn
  exact hn.imp fun h e => h (congrArg Prod.fst e)

theorem perm_ext {m m' : StkV} (h : StkI m) (h' : StkI m') (he : ∀ k, atM m k = atM m' k) : m.Perm m' := by
  have one : ∀ {a b : StkV}, StkI a → StkI b → (∀ k, atM a k = atM b k) → ∀ x, x ∈ a → x ∈ b := fun {a b} ha hb he x hx => by
    obtain ⟨k, v⟩ := x
    have h1 := (mem_mget ha.nodup).1 hx
    have h2 := (ha.well.well _ hx).2.2.1
    have h3 := he k
    unfold atM at h3
    rw [h1] at h3
    cases hb2 : mget b k with
    | none => rw [hb2] at h3; simp at h3; simp at h2; omega
    | some u =>
      rw [hb2] at h3
      simp at h3
      rw [h3]
      exact mget_mem hb2
  rw [List.perm_ext_iff_of_nodup (nodup_of_keys h.nodup) (nodup_of_keys h'.nodup)]
  exact fun x => ⟨one h h' he x, one h' h (fun k => (he k).symm) x⟩
theorem lines_permE {m m' : StkV} (h : StkI m) (hp : m.Perm m') : linesM m = linesM m' :=
  (lines_of h.nodup ((lines_perm m').trans (hp.map lineOf).symm) (lines_sorted m')).symm
theorem ofM_perm {m m' : StkV} (hp : m.Perm m') (lot : List UInt8) : ofM m lot = ofM m' lot := by
  have h1 := of_lines m lot
  have h2 := of_lines m' lot
  rw [ofL_perm (lines_perm m)] at h1
  rw [ofL_perm (lines_perm m'), ← ofL_perm (hp.map lineOf), h1] at h2
  omega
theorem mget_perm {m m' : StkV} (hn : (m.map (·.1)).Nodup) (hp : m.Perm m') (k : KeyV) : mget m k = mget m' k := by
  have hn' : (m'.map (·.1)).Nodup := (hp.map _).nodup_iff.1 hn
  cases h : mget m k with
  | some v => exact ((mem_mget hn').1 (hp.mem_iff.1 (mget_mem h))).symm
  | none =>
    cases h' : mget m' k with
    | none => rfl
    | some v => rw [(mem_mget hn).1 (hp.mem_iff.2 (mget_mem h'))] at h; cases h

theorem at_take {m : StkV} {p : PlaceV} {l : List UInt8} {n : Int} (h : takeE m p l n = 0) (k : KeyV) : atM (takeM m p l n) k = if k = (p, l) then atM m k - n.toNat else atM m k := by
  unfold takeM
  rw [if_pos h]
  by_cases hk : k = (p, l)
  · rw [if_pos hk, hk]
    split
    · rename_i h0
      unfold atM
      rw [mget_del]
      exact h0.symm
    · unfold atM
      rw [mget_put]; rfl
  · rw [if_neg hk]
    split
    · unfold atM
      rw [mget_del_other _ hk, mget_put_other _ _ hk]
    · unfold atM
      rw [mget_put_other _ _ hk]
theorem at_put {m : StkV} {p : PlaceV} {l : List UInt8} {n : Int} (h : putE m p l n = 0) (k : KeyV) : atM (putM m p l n) k = if k = (p, l) then atM m k + n.toNat else atM m k := by
  unfold putM
  rw [if_pos h]
  by_cases hk : k = (p, l)
  · rw [if_pos hk, hk]
    show (mget _ _).getD 0 = _
    rw [mget_put]; rfl
  · rw [if_neg hk]
    unfold atM
    rw [mget_put_other _ _ hk]
theorem ofM_del_at {m : StkV} (hn : (m.map (·.1)).Nodup) (p : PlaceV) (l : List UInt8) : ofM (mdel m (p, l)) l + atM m (p, l) = ofM m l := by
  induction m with
  | nil => rfl
  | cons x r ih =>
    simp only [List.map_cons, List.nodup_cons] at hn
    have ih := ih hn.2
    unfold mdel at *
    rw [ofM_cons]
    by_cases h : x.1 = (p, l)
    · rw [List.filter_cons_of_neg (by simp [h]), if_pos (by rw [h])]
      have e1 : atM (x :: r) (p, l) = x.2 := by unfold atM mget; rw [if_pos h]; rfl
      have e2 : List.filter (fun q => decide (q.1 ≠ (p, l))) r = r := List.filter_eq_self.2 fun q hq => by
        have : q.1 ≠ (p, l) := fun e => hn.1 (by rw [h, ← e]; exact List.mem_map.2 ⟨q, hq, rfl⟩)
        simpa using this
      rw [e1, e2]
      omega
    · rw [List.filter_cons_of_pos (by simpa using h), ofM_cons]
      have e1 : atM (x :: r) (p, l) = atM r (p, l) := by unfold atM; rw [mget, if_neg h]
      rw [e1]
      omega
theorem of_take {m : StkV} (hI : StkI m) {p : PlaceV} {l : List UInt8} {n : Int} (h : takeE m p l n = 0) : ofM (takeM m p l n) l + n.toNat = ofM m l := by
  obtain ⟨h1, h2, h3⟩ := takeE_zero h
  have h4 := atM_le m p l
  unfold takeM
  rw [if_pos h]
  have hp := ofM_put m p l (atM m (p, l) - n.toNat)
  split
  · rename_i h0
    rw [mdel_put]
    have := ofM_del_at hI.nodup p l
    omega
  · omega
theorem of_put {m : StkV} {p : PlaceV} {l : List UInt8} {n : Int} (h : putE m p l n = 0) : ofM (putM m p l n) l = ofM m l + n.toNat := by
  unfold putM
  rw [if_pos h]
  have := ofM_put m p l (atM m (p, l) + n.toNat)
  omega
/-- A move with no error. -/
theorem move_zero {m : StkV} {f t : PlaceV} {l : List UInt8} {n : Int} (h : moveE m f t l n = 0) : takeE m f l n = 0 ∧ placeE t = 0 ∧ f ≠ t ∧ putE (takeM m f l n) t l n = 0 ∧ moveM m f t l n = putM (takeM m f l n) t l n := by
  have h' := h
  unfold moveE at h
  by_cases h1 : takeE m f l n ≠ 0
  · rw [if_pos h1] at h; exact absurd h h1
  rw [if_neg h1] at h
  by_cases h2 : placeE t ≠ 0
  · rw [if_pos h2] at h; exact absurd h h2
  rw [if_neg h2] at h
  by_cases h3 : f = t
  · rw [if_pos h3] at h; cases h
  rw [if_neg h3] at h
  exact ⟨by omega, by omega, h3, h, by unfold moveM; rw [if_pos h']⟩
theorem move_counts {m : StkV} (hI : StkI m) {f t : PlaceV} {l : List UInt8} {n : Int} (h : moveE m f t l n = 0) :
    1 ≤ n ∧ ofM (moveM m f t l n) l = ofM m l ∧ (atM (moveM m f t l n) (f, l) : Int) = (atM m (f, l) : Nat) - n ∧ (atM (moveM m f t l n) (t, l) : Int) = (atM m (t, l) : Nat) + n := by
  obtain ⟨h1, -, h3, h4, h5⟩ := move_zero h
  obtain ⟨g1, g2, g3⟩ := takeE_zero h1
  have e1 : ¬ ((f, l) = (t, l)) := fun e => h3 (congrArg Prod.fst e)
  have e2 : ¬ ((t, l) = (f, l)) := fun e => h3 (congrArg Prod.fst e).symm
  rw [h5, of_put h4, at_put h4, at_put h4, at_take h1, at_take h1, if_neg e1, if_pos rfl, if_pos rfl, if_neg e2]
  have := of_take hI h1
  omega
theorem move_back {m : StkV} (hI : StkI m) {f t : PlaceV} {l : List UInt8} {n : Int} (h : moveE m f t l n = 0) :
    moveE (moveM m f t l n) t f l n = 0 ∧ linesM (moveM (moveM m f t l n) t f l n) = linesM m := by
  obtain ⟨h1, h2, h3, h4, h5⟩ := move_zero h
  obtain ⟨g1, g2, g3⟩ := takeE_zero h1
  have i1 := hI.take f l n
  have i2 := i1.put t l n
  have i3 := i2.take t l n
  rw [h5]
  have b1 : takeE (putM (takeM m f l n) t l n) t l n = 0 := by
    unfold takeE
    rw [if_neg (by unfold wiB; simp; omega), if_neg]
    rw [at_put h4, if_pos rfl]
    omega
  have hp : (takeM (putM (takeM m f l n) t l n) t l n).Perm (takeM m f l n) := perm_ext i3 i1 fun k => by
    rw [at_take b1, at_put h4]
    by_cases hk : k = (t, l)
    · rw [if_pos hk, if_pos hk]; omega
    · rw [if_neg hk, if_neg hk]
  have hmem : ∃ v, mget m (f, l) = some v := by
    cases hg : mget m (f, l) with
    | none => unfold atM at g3; rw [hg] at g3; simp at g3; omega
    | some v => exact ⟨v, rfl⟩
  obtain ⟨v, hv⟩ := hmem
  have hw := hI.well.well _ (mget_mem hv)
  have hof := of_take hI h1
  have b2 : putE (takeM (putM (takeM m f l n) t l n) t l n) f l n = 0 := by
    have hfew := hI.few l
    unfold putE
    rw [if_neg (by rw [hw.1]; simp), if_neg (by rw [hw.2.1]; simp), if_neg (by unfold wiB; simp; omega), if_neg (by rw [ofM_perm hp]; omega), if_neg]
    rintro ⟨q1, q2⟩
    rw [mget_perm i3.nodup hp] at q1
    rw [hp.length_eq] at q2
    have hfm := hI.well.few
    unfold takeM at q1 q2
    rw [if_pos h1] at q1 q2
    split at q1
    · rename_i h0
      rw [if_pos h0, mdel_put] at q2
      have hlt : (mdel m (f, l)).length < m.length := by
        have := (mput_perm (f, l) v hI.nodup).length_eq
        rw [mput_len, if_pos (by rw [hv]; rfl)] at this
        simp at this
        omega
      omega
    · rw [mget_put] at q1
      cases q1
  have b3 : moveE (putM (takeM m f l n) t l n) t f l n = 0 := by
    unfold moveE
    rw [if_neg (by rw [b1]; simp), if_neg (by rw [hw.1]; simp), if_neg (Ne.symm h3), b2]
  refine ⟨b3, ?_⟩
  obtain ⟨-, -, -, -, b5⟩ := move_zero b3
  rw [b5]
  refine lines_permE (i3.put f l n) (perm_ext (i3.put f l n) hI fun k => ?_)
  rw [at_put b2]
  have e1 : atM (takeM (putM (takeM m f l n) t l n) t l n) k = atM (takeM m f l n) k := by unfold atM; rw [mget_perm i3.nodup hp]
  rw [e1, at_take h1]
  by_cases hk : k = (f, l)
  · rw [if_pos hk, if_pos hk, hk]; omega
  · rw [if_neg hk, if_neg hk]

/-! What is written is read. -/
theorem lineText_words {x : LineV} (h : WellL x) : lineWords (splitL 32 (lineText x)) = (x, 0) ∧ (10 : UInt8) ∉ lineText x := by
  obtain ⟨h1, h2, h3, h4⟩ := h
  obtain ⟨hp, hno⟩ := place_back h1
  have e : lineText x = joinL 32 [placeText x.1, x.2.1, Lib.itoa x.2.2] := by
    unfold lineText
    simp [joinL]
  constructor
  · rw [e, splitL_join 32 _ (by simp) fun w hw => by
      simp only [List.mem_cons, List.not_mem_nil, or_false] at hw
      rcases hw with rfl | rfl | rfl
      · exact hno
      · exact name_not h2 32 (by decide)
      · exact itoa_not (by omega) 32 (by decide)]
    have q : numQ (Lib.itoa x.2.2) 13 = some x.2.2.toNat := numQ_itoa (by omega) 13 (by omega) (by omega) (by omega)
    rw [lineWords_some q, hp, if_neg (by simp), if_neg (by rw [h2]; simp), if_neg (by unfold wiB; simp; omega), Int.toNat_of_nonneg (by omega)]
  · have hz := placeE_zero.1 h1
    rw [e]
    simp only [joinL, List.mem_append, List.mem_cons, not_or]
    refine ⟨?_, by decide, name_not h2 10 (by decide), by decide, itoa_not (by omega) 10 (by decide)⟩
    unfold placeText
    rw [if_pos h1]
    simp only [List.mem_append, List.mem_cons, not_or, List.not_mem_nil, not_false_eq_true, and_true]
    exact ⟨⟨⟨⟨name_not hz.1 10 (by decide), by decide⟩, itoa_not (by omega) 10 (by decide)⟩, by decide⟩, itoa_not (by omega) 10 (by decide)⟩
theorem toM_app (a b : List LineV) : toM (a ++ b) = toM a ++ toM b := by simp [toM]
theorem rd_back (L : List LineV) (hw : ∀ x ∈ L, WellL x) (hu : L.Pairwise fun x y => ltOf cfLine x y = true) (hl : L.length ≤ 200) (hf : ∀ lot, ofM (toM L) lot ≤ 1099511627776) :
    ∀ (r d : List LineV) (i : Nat), d ++ r = L → rdGo (splitL 10 (linesText r)) i d = .inr L := by
  intro r
  induction r with
  | nil =>
    intro d i h
    rw [show linesText [] = [] from rfl, show splitL 10 [] = [[]] from rfl, rdGo, if_pos rfl]
    simpa using h
  | cons x r ih =>
    intro d i h
    have hx : x ∈ L := by rw [← h]; simp
    obtain ⟨e1, e2⟩ := lineText_words (hw x hx)
    have e3 : linesText (x :: r) = lineText x ++ 10 :: linesText r := by simp [linesText]
    rw [e3, splitL_at _ _ e2]
    have hz : rdE d (lineText x) = 0 := by
      unfold rdE
      rw [e1, if_neg (by simp), if_neg]
      · obtain ⟨w1, w2, w3, w4⟩ := hw x hx
        have hof := hf x.2.1
        rw [← h, toM_app, ofM_app, show toM (x :: r) = ((x.1, x.2.1), x.2.2.toNat) :: toM r from rfl, ofM_cons, if_pos rfl] at hof
        have hlen : (toM d).length < 200 := by
          have := congrArg List.length h
          rw [List.length_append, List.length_cons] at this
          simp only [toM, List.length_map]
          omega
        show putE (toM d) x.1 x.2.1 x.2.2 = 0
        unfold putE
        rw [if_neg (by rw [w1]; simp), if_neg (by rw [w2]; simp), if_neg (by unfold wiB; simp; omega), if_neg (by simp only at hof; omega), if_neg (fun q => by omega)]
      · cases hd : d.getLast? with
        | none => simp
        | some z =>
          have hzm := List.mem_of_getLast? hd
          rw [← h, List.pairwise_append] at hu
          simp [hu.2.2 z hzm x List.mem_cons_self]
    rw [rdGo_ok (splitL_ne 10 _) hz, e1]
    exact ih (d ++ [x]) (i + 1) (by rw [← h]; simp)
theorem StkI.read {m : StkV} (h : StkI m) : rdGo (splitL 10 (textM m)) 0 [] = .inr (linesM m) ∧ textM (toM (linesM m)) = textM m := by
  have hp : (toM (linesM m)).Perm m := by
    have := (lines_perm m).map fun x : LineV => (((x.1, x.2.1), x.2.2.toNat) : KeyV × Nat)
    rw [List.map_map] at this
    refine List.Perm.trans this ?_
    rw [show ((fun x : LineV => (((x.1, x.2.1), x.2.2.toNat) : KeyV × Nat)) ∘ lineOf) = id from funext fun x => by obtain ⟨⟨p, l⟩, n⟩ := x; simp [lineOf], List.map_id]
  have h1 : rdGo (splitL 10 (textM m)) 0 [] = .inr (linesM m) := by
    refine rd_back (linesM m) h.well.lines ?_ (by rw [linesM_len]; exact h.well.few) (fun lot => by rw [ofM_perm hp]; exact h.few lot) (linesM m) [] 0 rfl
    have hnd : (linesM m).Nodup := by
      have hn2 : (m.map lineOf).Nodup := by
        have := h.nodup
        rw [List.Nodup, List.pairwise_map] at this ⊢
        refine this.imp fun {a b} hne e => hne ?_
        have h1 : a.1.1 = b.1.1 := congrArg (fun x : LineV => x.1) e
        have h2 : a.1.2 = b.1.2 := congrArg (fun x : LineV => x.2.1) e
        exact Prod.ext h1 h2
      exact (lines_perm m).nodup_iff.2 hn2
    have hs := lines_sorted m
    refine List.Pairwise.imp_of_mem ?_ (hs.and hnd)
    rintro a b ha hb ⟨h1, h2⟩
    cases hab : ltOf cfLine a b with
    | true => rfl
    | false => exact absurd (apart_m h.nodup ((lines_perm m).mem_iff.1 ha) ((lines_perm m).mem_iff.1 hb) (ltOf_both likeLine hab h1)) h2
  exact ⟨h1, read_text h1⟩
end Go.Proofs.YtmhkcmoepopnoaaGreatDoor
namespace Go.Proofs.YtmhkcmoepopnoaaGreatDoor
open Go.RowKit Go.Sort Go.Proofs

set_option maxHeartbeats 6000000 in
set_option maxRecDepth 100000 in
theorem lineRead_any (E : Nat → Addr) (s : ByteArray) (hs : s.size ≤ 1000000) (w : World) (hG : ReadG E w) :
    Calls Tryz.prog 73 #[.string s] w fun e w' => e = .returned (.tuple #[.agg (encLine (lineWords (splitL 32 (bts s))).1).toArray, errOf E (lineWords (splitL 32 (bts s))).2]) ∧ Below w.heap.size w w' := by
  have HSP := Lib.hid (fun W (h : MaxG W) => split_any s 32 W (by omega) h)
  have hle := fun x (h : x ∈ splitL 32 (bts s)) => splitL_lens h
  generalize splitL 32 (bts s) = ws at HSP hle ⊢
  rw [show (bts s).length = s.size from rfl] at hle
  have HG := Lib.hid (fun W (h : Below w.heap.size w W) => hG.below h)
  have hgT := lt_of_cell hG.text
  have hgN := lt_of_cell hG.name
  have hgB := lt_of_cell hG.bound
  simp only at hgT hgN hgB
  have b0 := below_one w (.cells #[.string ⟨#[]⟩, .int .i64 0, .int .i64 0, .string ⟨#[]⟩, .int .i64 0] 84)
  have hz0 := heap_alloc_new w (.cells #[.string ⟨#[]⟩, .int .i64 0, .int .i64 0, .string ⟨#[]⟩, .int .i64 0] 84)
  clear hG
  go_enter Tryz.func73, Tryz.ntmps73
  go_wp2_with fail
  obtain ⟨rb, hrb⟩ : ∃ rb, rb = w.heap.size := ⟨_, rfl⟩
  have HRB : Hid (w.heap.size ≤ rb) := by show _ ≤ _; omega
  rw [← hrb] at hz0 hgT hgN hgB ⊢
  generalize w.alloc (.cells #[.string ⟨#[]⟩, .int .i64 0, .int .i64 0, .string ⟨#[]⟩, .int .i64 0] 84) = W0 at b0 hz0 ⊢
  refine (HSP.out W0 (HG.out _ b0).maxl).mono ?_
  rintro e w1 ⟨A, cap, rfl, hS, -, bb1⟩
  have HZ1 := Lib.hid ((bb1.block rb (row_lt hz0)).trans hz0)
  have B1 := Lib.hid (b0.trans (bb1.mono b0.size))
  clear bb1 hz0 b0 HSP hrb
  by_cases h4 : ws.length = 3
  · obtain ⟨a, b, c, rfl⟩ := three h4
    have ha := hle a (by simp)
    have hb := hle b (by simp)
    have hcl := hle c (by simp)
    have HNU := Lib.hid (fun W h1 h2 => numb_any c 13 (by omega) (by omega) W h1 h2)
    have HNM := Lib.hid (fun W => name_wide b W)
    have HPL := Lib.hid (fun W hg => placeRead_any E ⟨a.toArray⟩ (by show a.toArray.size ≤ _; simp; omega) W hg)
    have HWI := Lib.hid (fun n W => within_any n 1 1099511627776 W)
    rw [show bts ⟨a.toArray⟩ = a from rfl] at HPL
    have HL0 := Lib.hid (fun h => lineWords_none (a := a) (b := b) (c := c) h)
    have HL1 := Lib.hid (fun n h => lineWords_some (a := a) (b := b) (c := c) (n := n) h)
    generalize placeWords (splitL 45 a) = P at HPL HL1
    generalize nameB b = nb at HNM HL1
    obtain ⟨bl, o, rfl, hl, p0, p1, p2⟩ := strs3 hS
    rw [show [a, b, c].length = 3 from rfl]
    clear hS hle h4
    go_wp2_with fail
    refine (HNU.out _ (HG.out _ B1.out).tab (HG.out _ B1.out).atoi).mono ?_
    rintro e w2 ⟨n0, rfl, hn0, b2⟩
    have B2 := Lib.hid (B1.out.trans (b2.mono B1.out.size))
    have HZ2 := Lib.hid ((b2.block rb (row_lt HZ1.out)).trans HZ1.out)
    have HN0 := Lib.hid hn0
    have up := fun (q : Addr) (v : Value) (h : w1.cell? q = some v) => (b2.cell (lt_of_cell h)).trans h
    have q0 := up _ _ p0
    have q1 := up _ _ p1
    clear up p0 p1 p2 b2 hn0 B1 HZ1 hl HNU
    cases hq : numQ c 13 with
    | none =>
      have HR := Lib.hid (HL0.out hq)
      have hg := (HG.out _ B2.out).text
      unfold ErrAt at hg
      have hne : 6 ≠ rb := by omega
      obtain ⟨⟨z0, z1, z2, z3, z4⟩, f0, f1, f2, f3, f4⟩ := row5f HZ2.out
      clear hq HL0 HL1 HN0
      go_wp2_with fail
      go_region
      all_goals
        go_wp2_with fail
        (try simp only [Exit.inBlock, Exit.then])
        refine bodyPost_ret (results_cell_row2 rfl _ _ rb 84 #[.string ⟨#[]⟩, .int .i64 0, .int .i64 0, .string ⟨#[]⟩, .int .i64 0] (0, 0) _ rfl (puts_row [.string ⟨#[]⟩, .int .i64 0, .int .i64 0, .string ⟨#[]⟩, .int .i64 0] HZ2.out rfl) Tryz.underlying84 rfl (by kernel_rfl)) rfl ?_
        rw [HR.out]
        exact ⟨rfl, (puts_below HRB.out [.string ⟨#[]⟩, .int .i64 0, .int .i64 0, .string ⟨#[]⟩, .int .i64 0] _ 0 B2.out).drew⟩
    | some n =>
      have hn := HN0.out n hq
      subst hn
      have HR := Lib.hid (HL1.out n hq)
      clear hq HL0 HL1 HN0
      go_wp2_with fail
      refine (HPL.out _ (HG.out _ B2.out)).mono ?_
      rintro e w3 ⟨rfl, b3⟩
      obtain ⟨⟨y1, y2, y3⟩, pe⟩ := P
      simp only [encPlace]
      have hz3 := (b3.block rb (row_lt HZ2.out)).trans HZ2.out
      have b3x := below_one w3 (.cells #[.string ⟨y1.toArray⟩, .int .i64 y2, .int .i64 y3] 24)
      have HX := Lib.hid (heap_alloc_new w3 (.cells #[.string ⟨y1.toArray⟩, .int .i64 y2, .int .i64 y3] 24))
      have HZ4 := Lib.hid ((b3x.block rb (row_lt hz3)).trans hz3)
      have HB4 := Lib.hid (B2.out.trans ((b3.trans (b3x.mono b3.size)).mono B2.out.size))
      have up := fun (q : Addr) (v : Value) (h : w2.cell? q = some v) => ((b3.trans (b3x.mono b3.size)).cell (lt_of_cell h)).trans h
      have k1 := up _ _ q1
      clear up q0 q1 b3 b3x hz3 HZ2 B2 HPL
      by_cases hpe : pe = 0
      · subst hpe
        rw [errOf_zero]
        go_wp2_with fail
        generalize w3.alloc (.cells #[.string ⟨y1.toArray⟩, .int .i64 y2, .int .i64 y3] 24) = w4 at *
        generalize w3.heap.size = xb at *
        refine (HNM.out _).mono ?_
        rintro e w5 ⟨rfl, b5⟩
        have HX5 := Lib.hid ((b5.block xb (row_lt HX.out)).trans HX.out)
        have HZ5 := Lib.hid ((b5.block rb (row_lt HZ4.out)).trans HZ4.out)
        have HB5 := Lib.hid (HB4.out.trans (b5.mono HB4.out.size))
        have j1 := (b5.cell (lt_of_cell k1)).trans k1
        clear b5 k1 HX HZ4 HB4
        obtain ⟨⟨z0, z1, z2, z3, z4⟩, f0, f1, f2, f3, f4⟩ := row5f HZ5.out
        cases nb with
        | false =>
          have hg := (HG.out _ HB5.out).name
          unfold ErrAt at hg
          have hne : 0 ≠ rb := by omega
          go_wp2_with fail
          go_region
          all_goals
            go_wp2_with fail
            (try simp only [Exit.inBlock, Exit.then])
            refine bodyPost_ret (results_cell_row2 rfl _ _ rb 84 #[.string ⟨#[]⟩, .int .i64 0, .int .i64 0, .string ⟨#[]⟩, .int .i64 0] (0, 0) _ rfl (puts_row [.string ⟨#[]⟩, .int .i64 0, .int .i64 0, .string ⟨#[]⟩, .int .i64 0] HZ5.out rfl) Tryz.underlying84 rfl (by kernel_rfl)) rfl ?_
            rw [HR.out, if_neg (by simp), if_pos (by simp)]
            exact ⟨rfl, (puts_below HRB.out [.string ⟨#[]⟩, .int .i64 0, .int .i64 0, .string ⟨#[]⟩, .int .i64 0] _ 0 HB5.out).drew⟩
        | true =>
          go_wp2_with fail
          refine (HWI.out _ _).mono ?_
          rintro e w6 ⟨rfl, rfl⟩
          by_cases hwi : wiB (n : Int) 1 1099511627776 = false
          · rw [hwi]
            have hg := (HG.out _ HB5.out).bound
            unfold ErrAt at hg
            have hne : 1 ≠ rb := by omega
            have HR2 := Lib.hid (HR.out.trans (by rw [if_neg (by simp), if_neg (by simp), if_pos hwi]))
            clear hwi
            go_wp2_with fail
            go_region
            all_goals
              go_wp2_with fail
              (try simp only [Exit.inBlock, Exit.then])
              refine bodyPost_ret (results_cell_row2 rfl _ _ rb 84 #[.string ⟨#[]⟩, .int .i64 0, .int .i64 0, .string ⟨#[]⟩, .int .i64 0] (0, 0) _ rfl (puts_row [.string ⟨#[]⟩, .int .i64 0, .int .i64 0, .string ⟨#[]⟩, .int .i64 0] HZ5.out rfl) Tryz.underlying84 rfl (by kernel_rfl)) rfl ?_
              rw [HR2.out]
              exact ⟨rfl, (puts_below HRB.out [.string ⟨#[]⟩, .int .i64 0, .int .i64 0, .string ⟨#[]⟩, .int .i64 0] _ 0 HB5.out).drew⟩
          · have hwt : wiB (n : Int) 1 1099511627776 = true := by simpa using hwi
            rw [hwt]
            have HR2 := Lib.hid (HR.out.trans (by rw [if_neg (by simp), if_neg (by simp), if_neg hwi]))
            obtain ⟨⟨x0, x1, x2⟩, -⟩ := row3f HX5.out
            clear hwi hwt
            go_wp2_with fail
            go_region
            all_goals
              go_wp2_with fail
              (try simp only [Exit.inBlock, Exit.then])
              refine bodyPost_ret (results_cell_row2 rfl _ _ rb 84 #[.string ⟨y1.toArray⟩, .int .i64 y2, .int .i64 y3, .string ⟨b.toArray⟩, .int .i64 (n : Int)] (0, 0) _ rfl (puts_row [.string ⟨y1.toArray⟩, .int .i64 y2, .int .i64 y3, .string ⟨b.toArray⟩, .int .i64 (n : Int)] HZ5.out rfl) Tryz.underlying84 rfl (by kernel_rfl)) rfl ?_
              rw [HR2.out]
              exact ⟨rfl, (puts_below HRB.out [.string ⟨y1.toArray⟩, .int .i64 y2, .int .i64 y3, .string ⟨b.toArray⟩, .int .i64 (n : Int)] _ 0 HB5.out).drew⟩
      · rw [errOf_pos _ _ hpe]
        go_wp2_with (refine wpList_store_box rfl 84 _ _ rfl rb [.string ⟨#[]⟩, .int .i64 0, .int .i64 0, .string ⟨#[]⟩, .int .i64 0] rfl rfl 84 [.string ⟨#[]⟩, .int .i64 0, .int .i64 0, .string ⟨#[]⟩, .int .i64 0] HZ4.out (by kernel_rfl) rfl (encLine_one zeroLine) ?_; intro wf hf tf)
        (try simp only [Exit.inBlock, Exit.then])
        refine bodyPost_ret (results_cell_row2 rfl _ _ rb 84 #[.string ⟨#[]⟩, .int .i64 0, .int .i64 0, .string ⟨#[]⟩, .int .i64 0] (0, 0) _ rfl hf Tryz.underlying84 rfl (by kernel_rfl)) rfl ?_
        rw [HR.out, if_pos (show pe ≠ 0 from hpe), errOf_pos _ _ hpe]
        exact ⟨rfl, HB4.out.trans (tf.below HRB.out)⟩
  · have HW := Lib.hid (lineWords_len h4)
    obtain ⟨n, hn⟩ : ∃ n, n = ws.length := ⟨_, rfl⟩
    rw [← hn] at h4 ⊢
    have h4' : ¬ (n : Int) = 3 := by omega
    have hg := (HG.out _ B1.out).text
    unfold ErrAt at hg
    have hne : 6 ≠ rb := by omega
    obtain ⟨⟨z0, z1, z2, z3, z4⟩, f0, f1, f2, f3, f4⟩ := row5f HZ1.out
    clear hn
    go_wp2_with fail
    go_region
    all_goals
      go_wp2_with fail
      (try simp only [Exit.inBlock, Exit.then])
      refine bodyPost_ret (results_cell_row2 rfl _ _ rb 84 #[.string ⟨#[]⟩, .int .i64 0, .int .i64 0, .string ⟨#[]⟩, .int .i64 0] (0, 0) _ rfl (puts_row [.string ⟨#[]⟩, .int .i64 0, .int .i64 0, .string ⟨#[]⟩, .int .i64 0] HZ1.out rfl) Tryz.underlying84 rfl (by kernel_rfl)) rfl ?_
      rw [HW.out]
      exact ⟨rfl, (puts_below HRB.out [.string ⟨#[]⟩, .int .i64 0, .int .i64 0, .string ⟨#[]⟩, .int .i64 0] _ 0 B1.out).drew⟩
end Go.Proofs.YtmhkcmoepopnoaaGreatDoor
