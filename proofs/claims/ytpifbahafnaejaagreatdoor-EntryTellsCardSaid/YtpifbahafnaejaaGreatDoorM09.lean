/- Entries read: entry.Read. Printed by gen/entre.py. The document's Cut, walked. Rows of cells, as walks read them. -/
import Derived.Deep.AppendLies
import Derived.Test.YtpifbahafnaejaaGreatDoorM02
import Derived.Test.YtpifbahafnaejaaGreatDoorM05
import Derived.Test.YtpifbahafnaejaaGreatDoorM07
import Derived.Test.YtpifbahafnaejaaGreatDoorM08
namespace Go.Proofs.YtpifbahafnaejaaGreatDoor
open Go.RowKit Go.Sort Go.Proofs

theorem textEnt_any (E : Nat → Addr) (x : EntV) (h1 : x.2.2.1.1.length ≤ 1000000000) (h2 : x.2.2.1.2.1.length ≤ 1000000000) (w : World) (hG : EntG E w) :
    Calls Tryz.prog 11 #[.agg (encEnt x).toArray] w fun e w' => e = .returned (.string ⟨(entText x).toArray⟩) ∧ Below w.heap.size w w' := by
  by_cases hE : entE x = 0
  · by_cases k1 : x.1 = kGoods
    · rw [show entText x = kGoods ++ [32] ++ x.2.1.1 ++ [32] ++ Lib.itoa x.2.1.2 by unfold entText; rw [if_neg (by simpa using hE), if_pos k1]]
      exact textEnt_goods E x h1 h2 w hG hE k1
    · by_cases k2 : x.1 = kLot
      · rw [show entText x = kLot ++ [32] ++ lotText x.2.2.1 by unfold entText; rw [if_neg (by simpa using hE), if_neg k1, if_pos k2]]
        exact textEnt_lot E x h1 h2 w hG hE k2
      · rw [show entText x = joinL 32 (wordsP x) by unfold entText; rw [if_neg (by simpa using hE), if_neg k1, if_neg k2]]
        have hP : isP x.1 = true := by
          cases hp : isP x.1
          · rw [entE_kind k1 k2 hp] at hE; cases hE
          · rfl
        cases hF : hasF x.1 <;> cases hT : hasT x.1
        · exact textEnt_p00 E x h1 h2 w hG hE hP hF hT
        · exact textEnt_p01 E x h1 h2 w hG hE hP hF hT
        · exact textEnt_p10 E x h1 h2 w hG hE hP hF hT
        · exact textEnt_p11 E x h1 h2 w hG hE hP hF hT
  · rw [show entText x = [] by unfold entText; rw [if_pos hE]]
    exact textEnt_no E x h1 h2 w hG hE
theorem readP_any (E : Nat → Addr) (k : List UInt8) (bP : Bool) (ws : List (List UInt8)) (A : Option Addr) (cap : Nat) (w : World) (hS : StrsAt w A ws) (hk : ws.headD [] = k) (hle : ∀ x ∈ ws, x.length ≤ 1000000) (hln : ws.length ≤ 1000000000) (hG : ReadG E w) :
    Calls Tryz.prog 18 #[.slice A ws.length cap, .agg #[.bool (hasF k), .bool (hasT k), .bool bP]] w fun e w' => e = .returned (.tuple #[.agg (encEnt (entPieces k ws).1).toArray, errOf E (entPieces k ws).2]) ∧ Below w.heap.size w w' := by
  cases hF : hasF k <;> cases hT : hasT k
  · exact read00 E k hF hT bP ws A cap w hS hk hle hln hG
  · exact read01 E k hF hT bP ws A cap w hS hk hle hln hG
  · exact read10 E k hF hT bP ws A cap w hS hk hle hln hG
  · exact read11 E k hF hT bP ws A cap w hS hk hle hln hG

/-- strings.Split: where its texts lie. -/
theorem splitAt_any (s : ByteArray) (c : UInt8) (w : World) (hs : s.size ≤ 1000000000) (hM : MaxG w) :
    Calls Tryz.prog 13 #[.string s, .string ⟨#[c]⟩] w fun e w' => e = .returned (.slice (some ⟨w.heap.size, 0, none⟩) (splitL c (bts s)).length (splitL c (bts s)).length) ∧ StrsAt w' (some ⟨w.heap.size, 0, none⟩) (splitL c (bts s)) ∧ Below w.heap.size w w' := by
  obtain ⟨m, hm⟩ := hM
  refine (Tryz.strings_Split s ⟨#[c]⟩ m w (by omega) hm (by show 1 ≤ (#[c] : Array UInt8).size; simp)).mono ?_
  rintro e w' ⟨rfl, rfl⟩
  have hsp := splitB_is s c
  have hl : Lib.countB s ⟨#[c]⟩ + 1 = (splitL c (bts s)).length := by
    rw [← hsp, List.length_map, Lib.splitB_all ⟨#[c]⟩ (by show 1 ≤ (#[c] : Array UInt8).size; simp) 0 _ s rfl]
  refine ⟨by rw [hl], .inr ⟨w.heap.size, 0, rfl, by simp, fun i hi => ?_⟩, (Below.refl _ _).alloc (Nat.le_refl _) _⟩
  rw [cell_of_row _ _ _ _ _ _ (heap_alloc_new _ _), Nat.zero_add]
  have h2 : i < (Lib.splitB ⟨#[c]⟩ 0 (Lib.countB s ⟨#[c]⟩) s).length := by rw [← hsp, List.length_map] at hi; exact hi
  simp only [List.getElem?_toArray, List.getElem?_map, List.getElem?_eq_getElem h2, Option.map_some]
  have h3 : (splitL c (bts s))[i] = ((Lib.splitB ⟨#[c]⟩ 0 (Lib.countB s ⟨#[c]⟩) s)[i]).data.toList := by
    simp only [← hsp, List.getElem_map]
  rw [h3]
theorem joinL_splitL (c : UInt8) (l : List UInt8) : joinL c (splitL c l) = l := by
  induction l with
  | nil => rfl
  | cons x r ih =>
    rw [splitL]
    by_cases h : x = c
    · rw [if_pos h]
      cases hs : splitL c r with
      | nil => exact absurd hs (splitL_ne c r)
      | cons p q => rw [joinL_cons, ← hs, ih, h]; rfl
    · rw [if_neg h]
      cases hs : splitL c r with
      | nil => exact absurd hs (splitL_ne c r)
      | cons p q =>
        rw [hs] at ih
        cases q with
        | nil => simp [joinL] at ih ⊢; exact ih
        | cons v t => rw [joinL_cons] at ih ⊢; simp only [List.cons_append, ih]
theorem joinL_tail (c : UInt8) (k : List UInt8) (r : List (List UInt8)) : (joinL c r).length ≤ (joinL c (k :: r)).length := by
  cases r with
  | nil => simp [joinL]
  | cons v t => rw [joinL_cons]; simp; omega
theorem lotWords_lens {ws : List (List UInt8)} {N : Nat} (h : ∀ x ∈ ws, x.length ≤ N) : (lotWords ws).1.1.length ≤ N ∧ (lotWords ws).1.2.1.length ≤ N := by
  unfold lotWords
  split
  · split
    · split
      · exact ⟨h _ (by simp), h _ (by simp)⟩
      · simp [zeroLot]
    · simp [zeroLot]
  · simp [zeroLot]

theorem entGoods_lens {ws : List (List UInt8)} : (entGoods ws).1.2.2.1.1.length ≤ 1000000000 ∧ (entGoods ws).1.2.2.1.2.1.length ≤ 1000000000 := by
  unfold entGoods
  split
  · split <;> simp [zeroEnt, zeroLot]
  · simp [zeroEnt, zeroLot]
theorem entPieces_lens {k : List UInt8} {ws : List (List UInt8)} (h : ∀ x ∈ ws, x.length ≤ 1000000) : (entPieces k ws).1.2.2.1.1.length ≤ 1000000000 ∧ (entPieces k ws).1.2.2.1.2.1.length ≤ 1000000000 := by
  unfold entPieces
  by_cases hl : ws.length ≠ 3 + (if hasF k then 1 else 0) + (if hasT k then 1 else 0)
  · rw [if_pos hl]
    simp [zeroEnt, zeroLot]
  · rw [if_neg hl]
    cases numQ (ws.getLast?.getD []) 13 with
    | none => simp [zeroEnt, zeroLot]
    | some n =>
      refine ⟨?_, Nat.zero_le _⟩
      show (ws.getD 1 []).length ≤ _
      cases hw : ws[1]? with
      | none => simp [List.getD, hw]
      | some x =>
        have := h x (List.mem_of_getElem? hw)
        simp [List.getD, hw]
        omega
theorem entWords_goods {k : List UInt8} {t : List (List UInt8)} (h : k = kGoods) : entWords (k :: t) = entGoods (k :: t) := by
  unfold entWords
  exact if_pos h
theorem entWords_lot {k : List UInt8} {t : List (List UInt8)} (h : k = kLot) : entWords (k :: t) = ((kLot, zeroGoods, (lotWords (splitL 32 (joinL 32 t))).1, zeroPlace, zeroPlace, 0), (lotWords (splitL 32 (joinL 32 t))).2) := by
  unfold entWords
  refine (if_neg (fun e => ?_)).trans (if_pos h)
  exact kinds_ne.1 (h.symm.trans e)
theorem entWords_p {k : List UInt8} {t : List (List UInt8)} (h1 : k ≠ kGoods) (h2 : k ≠ kLot) (h : isP k = true) : entWords (k :: t) = entPieces k (k :: t) := by
  unfold entWords
  exact (if_neg h1).trans ((if_neg h2).trans (if_pos h))
theorem entWords_none {k : List UInt8} {t : List (List UInt8)} (h1 : k ≠ kGoods) (h2 : k ≠ kLot) (h : isP k = false) : entWords (k :: t) = (zeroEnt, 4) := by
  unfold entWords
  exact (if_neg h1).trans ((if_neg h2).trans (if_neg (by simp [h])))
/-- What the last part of entry.Read makes of an entry and an error's number. -/
def finEnt (r : EntV × Nat) : EntV × Nat := if r.2 ≠ 0 then (zeroEnt, r.2) else if entE r.1 ≠ 0 then (zeroEnt, entE r.1) else (r.1, 0)
theorem entRead_fin (s : List UInt8) : entRead s = finEnt (entWords (splitL 32 s)) := rfl
theorem zeroEnt_enc : encEnt zeroEnt = [.string ⟨#[]⟩, .string ⟨#[]⟩, .int .i64 0, .string ⟨#[]⟩, .string ⟨#[]⟩, .int .i64 0, .int .i64 0, .string ⟨#[]⟩, .int .i64 0, .int .i64 0, .string ⟨#[]⟩, .int .i64 0, .int .i64 0, .int .i64 0] := rfl

theorem store_all {L L' : List Value} {o : Option Obj} {t : TypeId} (h1 : L.length = 14) (h2 : L'.length = 14) (h : o = some (.cells (L.take 0 ++ L' ++ L.drop (0 + L'.length)).toArray t (0, 0))) : o = some (.cells L'.toArray t (0, 0)) := by
  rw [h]
  simp [h1, h2]
theorem strs_lt {w : World} {b o : Nat} {k : List UInt8} {t : List (List UInt8)} (h : StrsAt w (some ⟨b, o, none⟩) (k :: t)) : b < w.heap.size := by
  rcases h with h | ⟨b', o', h1, h2, h3⟩
  · cases h
  · cases h1
    exact h2
theorem strs_tail {w : World} {b o : Nat} {k : List UInt8} {t : List (List UInt8)} (h : StrsAt w (some ⟨b, o, none⟩) (k :: t)) : StrsAt w (some ⟨b, o + 1, none⟩) t := by
  rcases h with h | ⟨b', o', h1, h2, h3⟩
  · cases h
  · cases h1
    exact .inr ⟨b, o + 1, rfl, h2, fun i hi => by
      have := h3 (i + 1) (by simpa using hi)
      rw [show o + 1 + i = o + (i + 1) by omega]
      simpa using this⟩
theorem strs_turned {w w' : World} {b c : Nat} {o : Nat} {xs : List (List UInt8)} (h : StrsAt w (some ⟨b, o, none⟩) xs) (ht : Turned c w w') (hne : b ≠ c) : StrsAt w' (some ⟨b, o, none⟩) xs := by
  rcases h with h | ⟨b', o', h1, h2, h3⟩
  · exact .inl h
  · cases h1
    exact .inr ⟨b, o, rfl, by rw [ht.size]; exact h2, fun i hi => ht.cell (h3 i hi) hne⟩
theorem count_join {t : List (List UInt8)} {N : Nat} (h : (joinL 32 t).length ≤ N) : t.length ≤ N + 1 := by
  refine Nat.le_trans ?_ (Nat.succ_le_succ h)
  clear h
  induction t with
  | nil => simp
  | cons x r ih =>
    cases r with
    | nil => simp
    | cons v q =>
      rw [joinL_cons]
      simp only [List.length_cons, List.length_append] at ih ⊢
      omega
theorem lot_stored (l : LotV) {o : Option Obj} {t : TypeId} (h : o = some (.cells (((encEnt zeroEnt).take 0 ++ [Value.string ⟨#[108, 111, 116]⟩] ++ (encEnt zeroEnt).drop (0 + 1)).take 3 ++ encLot l ++ ((encEnt zeroEnt).take 0 ++ [Value.string ⟨#[108, 111, 116]⟩] ++ (encEnt zeroEnt).drop (0 + 1)).drop (3 + (encLot l).length)).toArray t (0, 0))) :
    o = some (.cells (encEnt (kLot, zeroGoods, l, zeroPlace, zeroPlace, 0)).toArray t (0, 0)) := h
theorem strs_head {w : World} {b o : Nat} {k : List UInt8} {t : List (List UInt8)} (h : StrsAt w (some ⟨b, o, none⟩) (k :: t)) : w.cell? ⟨b, o, none⟩ = some (.string ⟨k.toArray⟩) := by
  rcases h with h | ⟨b', o', h1, h2, h3⟩
  · cases h
  · cases h1
    exact h3 0 (by simp)
theorem splitL_count (c : UInt8) (l : List UInt8) : (splitL c l).length ≤ l.length + 1 := by
  induction l with
  | nil => simp [splitL]
  | cons x r ih =>
    rw [splitL]
    split
    · simpa using ih
    · split
      · simp
      · rename_i p q h
        rw [h] at ih
        simp at ih ⊢
        omega

set_option maxHeartbeats 3200000 in
set_option maxRecDepth 100000 in
theorem readEnt_goods (E : Nat → Addr) (s : ByteArray) (hs : s.size ≤ 1000000) (k : List UInt8) (t : List (List UInt8)) (hw : splitL 32 (bts s) = k :: t) (hk : Hid (k = kGoods)) (w : World) (hG : EntG E w) :
    Calls Tryz.prog 6 #[.string s] w fun e w' => e = .returned (.tuple #[.agg (encEnt (entRead (bts s)).1).toArray, errOf E (entRead (bts s)).2]) ∧ Below w.heap.size w w' := by
  have hle : ∀ x ∈ k :: t, x.length ≤ 1000000 := fun x hx => by
    have := splitL_lens (c := 32) (l := bts s) (w := x) (by rw [hw]; exact hx)
    exact Nat.le_trans this hs
  have hln : (k :: t).length ≤ 1000000000 := by
    have := splitL_count 32 (bts s)
    rw [hw] at this
    have h2 : (bts s).length = s.size := rfl
    omega
  have htl0 : t.length ≤ 1000000 := by
    have := splitL_count 32 (bts s)
    rw [hw] at this
    have h2 : (bts s).length = s.size := rfl
    simp only [List.length_cons] at this
    omega
  have hjl : (joinL 32 t).length ≤ 1000000 := by
    have := joinL_tail 32 k t
    rw [← hw, joinL_splitL] at this
    exact Nat.le_trans this hs
  obtain ⟨r, hr⟩ : ∃ r, r = entRead (bts s) := ⟨_, rfl⟩
  have HR := Lib.hid (hr.trans (by rw [entRead_fin, hw]))
  rw [← hr]
  have b0 := below_one w (.cells (encEnt zeroEnt).toArray 29)
  have hR0 := heap_alloc_new w (.cells (encEnt zeroEnt).toArray 29)
  have HSP := Lib.hid (splitAt_any s 32 (w.alloc (.cells (encEnt zeroEnt).toArray 29)) (by omega) (hG.below b0).read.maxl)
  rw [hw] at HSP
  have HG := Lib.hid (fun W (h : Below w.heap.size w W) => hG.below h)
  have HFO := Lib.hid (fun W => formOf_any k W)
  have B0 := Lib.hid b0
  obtain ⟨R, hRb⟩ : ∃ R, R = w.heap.size := ⟨_, rfl⟩
  have hRw : w.heap.size ≤ R := Nat.le_of_eq hRb.symm
  clear hr hw b0 hG
  go_enter Tryz.func6, Tryz.ntmps6
  go_wp2_with fail
  rw [show (w.alloc (.cells #[.string ⟨#[]⟩, .string ⟨#[]⟩, .int .i64 0, .string ⟨#[]⟩, .string ⟨#[]⟩, .int .i64 0, .int .i64 0, .string ⟨#[]⟩, .int .i64 0, .int .i64 0, .string ⟨#[]⟩, .int .i64 0, .int .i64 0, .int .i64 0] 29)) = w.alloc (.cells (encEnt zeroEnt).toArray 29) from rfl]
  rw [← hRb] at hR0 ⊢
  generalize w.alloc (.cells (encEnt zeroEnt).toArray 29) = W0 at hR0 HSP B0 ⊢
  refine HSP.out.mono ?_
  rintro e w1 ⟨rfl, hS1, b1⟩
  have B1 := Lib.hid (B0.out.trans (b1.mono B0.out.size))
  have hR1 := (b1.block R (row_lt hR0)).trans hR0
  obtain ⟨sb, hsb⟩ : ∃ sb, sb = W0.heap.size := ⟨_, rfl⟩
  rw [← hsb] at hS1 ⊢
  have hsw1 : sb ≠ w1.heap.size := Nat.ne_of_lt (strs_lt hS1)
  clear b1 hR0 HSP hRb hsb B0
  have bo := below_one w1 (.cells (encEnt zeroEnt).toArray 29)
  have hR2 := (bo.block R (row_lt hR1)).trans hR1
  have hS2 := hS1.below bo
  have he2 := heap_alloc_new w1 (.cells (encEnt zeroEnt).toArray 29)
  have B2 := Lib.hid (B1.out.trans (bo.mono B1.out.size))
  have hkc : (w1.alloc (.cells #[.string ⟨#[]⟩, .string ⟨#[]⟩, .int .i64 0, .string ⟨#[]⟩, .string ⟨#[]⟩, .int .i64 0, .int .i64 0, .string ⟨#[]⟩, .int .i64 0, .int .i64 0, .string ⟨#[]⟩, .int .i64 0, .int .i64 0, .int .i64 0] 29)).cell? ⟨sb, 0, none⟩ = some (.string ⟨k.toArray⟩) := strs_head hS2
  have hne : R ≠ w1.heap.size := Nat.ne_of_lt (row_lt hR1)
  have hlen : (k :: t).length = t.length + 1 := rfl
  rw [hlen] at hln ⊢
  clear bo hR1 hS1
  go_wp2_with fail
  rw [show (w1.alloc (.cells #[.string ⟨#[]⟩, .string ⟨#[]⟩, .int .i64 0, .string ⟨#[]⟩, .string ⟨#[]⟩, .int .i64 0, .int .i64 0, .string ⟨#[]⟩, .int .i64 0, .int .i64 0, .string ⟨#[]⟩, .int .i64 0, .int .i64 0, .int .i64 0] 29)) = w1.alloc (.cells (encEnt zeroEnt).toArray 29) from rfl]
  obtain ⟨eb, heb⟩ : ∃ eb, eb = w1.heap.size := ⟨_, rfl⟩
  rw [← heb] at he2 hne ⊢
  have hse0 : sb ≠ eb := by rw [heb]; exact hsw1
  have hew0 : w.heap.size ≤ eb := by rw [heb]; exact B1.out.size
  have hkc2 := Lib.hid (strs_head hS2)
  generalize w1.alloc (.cells (encEnt zeroEnt).toArray 29) = W2 at hR2 hS2 he2 B2 hkc2 ⊢
  clear heb hkc
  refine (HFO.out W2).mono ?_
  rintro e w3 ⟨rfl, b3⟩
  have bo := b3.trans ((below_one w3 (.cells #[.bool (hasF k), .bool (hasT k), .bool (isP k)] 45)).mono b3.size)
  have hf3 := heap_alloc_new w3 (.cells #[.bool (hasF k), .bool (hasT k), .bool (isP k)] 45)
  have hR3 := (bo.block R (row_lt hR2)).trans hR2
  have he3 := (bo.block eb (row_lt he2)).trans he2
  have hS3 := hS2.below bo
  have B3 := Lib.hid (B2.out.trans (bo.mono B2.out.size))
  have hkc := below_cell bo hkc2.out
  have hew : w.heap.size ≤ eb := hew0
  have hse : sb ≠ eb := hse0
  have hfe : w3.heap.size ≠ eb := by have := row_lt he2; have := b3.size; omega
  clear b3 bo hR2 he2 hS2 B2 HFO hkc2
  have hkb : (k == [103, 111, 111, 100, 115]) = true := by rw [hk.out]; rfl
  have HF := Lib.hid (HR.out.trans (congrArg finEnt (entWords_goods hk.out)))
  have hyl := entGoods_lens (ws := k :: t)
  obtain ⟨y, hy⟩ : ∃ y, y = entGoods (k :: t) := ⟨_, rfl⟩
  rw [← hy] at HF hyl
  have HGO := Lib.hid (fun W (hS : StrsAt W (some ⟨sb, 0, none⟩) (k :: t)) h => readGoods_any E (k :: t) (some ⟨sb, 0, none⟩) (t.length + 1) W hS hle hln h)
  rw [← hy] at HGO
  clear hy hk hle HR
  go_wp2_with fail
  refine (HGO.out _ hS3 (HG.out _ B3.out).read).mono ?_
  rintro e w4 ⟨rfl, b4⟩
  have hR4 := (b4.block R (row_lt hR3)).trans hR3
  have he4 := (b4.block eb (row_lt he3)).trans he3
  have B4 := Lib.hid (B3.out.trans (b4.mono B3.out.size))
  clear b4 hR3 he3 B3 hS3 HGO hkc hf3 hfe hse
  obtain ⟨y, c⟩ := y
  obtain ⟨hl1, hl2⟩ := hyl
  simp only at hl1 hl2 HF
  by_cases hc : c = 0
  · have HF1 := Lib.hid (HF.out.trans (show finEnt (y, c) = if entE y ≠ 0 then (zeroEnt, entE y) else (y, 0) from if_neg (by simpa using hc)))
    have HCK := Lib.hid (fun W h => checkEnt_any E y hl1 hl2 W h)
    rw [hc, errOf_zero]
    clear hc
    go_wp2_with (first | (refine wpList_store_at rfl 29 _ _ rfl eb 0 (encEnt y) rfl rfl _ (encEnt zeroEnt) he4 (by kernel_rfl) (Nat.le_refl _) (encEnt_one _) ?_; intro w5 he5' tz; have he5 : w5.heap[eb]? = some (.cells (encEnt y).toArray 29 (0, 0)) := store_all (by rfl) (by rfl) he5'; have hR5 := tz.heap hR4 hne; have B5 := Lib.hid (B4.out.trans (tz.below hew))) | (refine wpList_load_at rfl 29 _ rfl eb 0 rfl (encEnt y) (Lies.row _ he5) _ Tryz.underlying29 rfl (by kernel_rfl) ?_))
    refine (HCK.out w5 (HG.out _ B5.out)).mono ?_
    rintro e w6 ⟨rfl, b6⟩
    have B6 := Lib.hid (B5.out.trans (b6.mono B5.out.size))
    have he6 := (b6.block eb (row_lt he5)).trans he5
    have hR6 := (b6.block R (row_lt hR5)).trans hR5
    clear b6 HCK he5 hR5
    by_cases hk0 : entE y = 0
    · have HF2 := Lib.hid (HF1.out.trans (if_neg (by simpa using hk0)))
      rw [hk0, errOf_zero]
      clear hk0
      go_wp2_with (first | (refine wpList_load_at rfl 29 _ rfl eb 0 rfl (encEnt y) (Lies.row _ he6) _ Tryz.underlying29 rfl (by kernel_rfl) ?_) | (refine wpList_store_at rfl 29 _ _ rfl R 0 (encEnt y) rfl rfl _ (encEnt zeroEnt) hR6 (by kernel_rfl) (Nat.le_refl _) (encEnt_one _) ?_; intro wz hrz' tz; have hrz : wz.heap[R]? = some (.cells (encEnt y).toArray 29 (0, 0)) := store_all (by rfl) (by rfl) hrz'; have BZ := Lib.hid (B6.out.trans (tz.below hRw))))
      (try simp only [Exit.inBlock, Exit.then])
      refine bodyPost_ret (results_cell_row2 rfl _ _ R 29 (encEnt y).toArray (0, 0) _ rfl (show wz.heap[R]? = _ from hrz) Tryz.underlying29 rfl (by kernel_rfl)) rfl ?_
      rw [HF2.out]
      exact ⟨rfl, BZ.out⟩
    · have HF2 := Lib.hid (HF1.out.trans (if_pos hk0))
      rw [errOf_pos _ _ hk0]
      go_wp2_with (refine wpList_store_at rfl 29 _ _ rfl R 0 (encEnt zeroEnt) rfl rfl _ (encEnt zeroEnt) hR6 (by kernel_rfl) (Nat.le_refl _) (encEnt_one _) ?_; intro wz hrz' tz; have hrz : wz.heap[R]? = some (.cells (encEnt zeroEnt).toArray 29 (0, 0)) := store_all (by rfl) (by rfl) hrz'; have BZ := Lib.hid (B6.out.trans (tz.below hRw)))
      (try simp only [Exit.inBlock, Exit.then])
      refine bodyPost_ret (results_cell_row2 rfl _ _ R 29 (encEnt zeroEnt).toArray (0, 0) _ rfl (show wz.heap[R]? = _ from hrz) Tryz.underlying29 rfl (by kernel_rfl)) rfl ?_
      rw [HF2.out, errOf_pos _ _ hk0]
      exact ⟨rfl, BZ.out⟩
  · have HF2 := Lib.hid (HF.out.trans (show finEnt (y, c) = (zeroEnt, c) from if_pos hc))
    rw [errOf_pos _ _ hc]
    go_wp2_with (first | (refine wpList_store_at rfl 29 _ _ rfl eb 0 (encEnt y) rfl rfl _ (encEnt zeroEnt) he4 (by kernel_rfl) (Nat.le_refl _) (encEnt_one _) ?_; intro w5 he5' tz; have he5 : w5.heap[eb]? = some (.cells (encEnt y).toArray 29 (0, 0)) := store_all (by rfl) (by rfl) he5'; have hR5 := tz.heap hR4 hne; have B5 := Lib.hid (B4.out.trans (tz.below hew))) | (refine wpList_store_at rfl 29 _ _ rfl R 0 (encEnt zeroEnt) rfl rfl _ (encEnt zeroEnt) hR5 (by kernel_rfl) (Nat.le_refl _) (encEnt_one _) ?_; intro wz hrz' tz; have hrz : wz.heap[R]? = some (.cells (encEnt zeroEnt).toArray 29 (0, 0)) := store_all (by rfl) (by rfl) hrz'; have BZ := Lib.hid (B5.out.trans (tz.below hRw))))
    (try simp only [Exit.inBlock, Exit.then])
    refine bodyPost_ret (results_cell_row2 rfl _ _ R 29 (encEnt zeroEnt).toArray (0, 0) _ rfl (show wz.heap[R]? = _ from hrz) Tryz.underlying29 rfl (by kernel_rfl)) rfl ?_
    rw [HF2.out, errOf_pos _ _ hc]
    exact ⟨rfl, BZ.out⟩

set_option maxHeartbeats 3200000 in
set_option maxRecDepth 100000 in
theorem readEnt_lot (E : Nat → Addr) (s : ByteArray) (hs : s.size ≤ 1000000) (k : List UInt8) (t : List (List UInt8)) (hw : splitL 32 (bts s) = k :: t) (hk : Hid (k = kLot)) (w : World) (hG : EntG E w) :
    Calls Tryz.prog 6 #[.string s] w fun e w' => e = .returned (.tuple #[.agg (encEnt (entRead (bts s)).1).toArray, errOf E (entRead (bts s)).2]) ∧ Below w.heap.size w w' := by
  have hle : ∀ x ∈ k :: t, x.length ≤ 1000000 := fun x hx => by
    have := splitL_lens (c := 32) (l := bts s) (w := x) (by rw [hw]; exact hx)
    exact Nat.le_trans this hs
  have hln : (k :: t).length ≤ 1000000000 := by
    have := splitL_count 32 (bts s)
    rw [hw] at this
    have h2 : (bts s).length = s.size := rfl
    omega
  have htl0 : t.length ≤ 1000000 := by
    have := splitL_count 32 (bts s)
    rw [hw] at this
    have h2 : (bts s).length = s.size := rfl
    simp only [List.length_cons] at this
    omega
  have hjl : (joinL 32 t).length ≤ 1000000 := by
    have := joinL_tail 32 k t
    rw [← hw, joinL_splitL] at this
    exact Nat.le_trans this hs
  obtain ⟨r, hr⟩ : ∃ r, r = entRead (bts s) := ⟨_, rfl⟩
  have HR := Lib.hid (hr.trans (by rw [entRead_fin, hw]))
  rw [← hr]
  have b0 := below_one w (.cells (encEnt zeroEnt).toArray 29)
  have hR0 := heap_alloc_new w (.cells (encEnt zeroEnt).toArray 29)
  have HSP := Lib.hid (splitAt_any s 32 (w.alloc (.cells (encEnt zeroEnt).toArray 29)) (by omega) (hG.below b0).read.maxl)
  rw [hw] at HSP
  have HG := Lib.hid (fun W (h : Below w.heap.size w W) => hG.below h)
  have HFO := Lib.hid (fun W => formOf_any k W)
  have B0 := Lib.hid b0
  obtain ⟨R, hRb⟩ : ∃ R, R = w.heap.size := ⟨_, rfl⟩
  have hRw : w.heap.size ≤ R := Nat.le_of_eq hRb.symm
  clear hr hw b0 hG
  go_enter Tryz.func6, Tryz.ntmps6
  go_wp2_with fail
  rw [show (w.alloc (.cells #[.string ⟨#[]⟩, .string ⟨#[]⟩, .int .i64 0, .string ⟨#[]⟩, .string ⟨#[]⟩, .int .i64 0, .int .i64 0, .string ⟨#[]⟩, .int .i64 0, .int .i64 0, .string ⟨#[]⟩, .int .i64 0, .int .i64 0, .int .i64 0] 29)) = w.alloc (.cells (encEnt zeroEnt).toArray 29) from rfl]
  rw [← hRb] at hR0 ⊢
  generalize w.alloc (.cells (encEnt zeroEnt).toArray 29) = W0 at hR0 HSP B0 ⊢
  refine HSP.out.mono ?_
  rintro e w1 ⟨rfl, hS1, b1⟩
  have B1 := Lib.hid (B0.out.trans (b1.mono B0.out.size))
  have hR1 := (b1.block R (row_lt hR0)).trans hR0
  obtain ⟨sb, hsb⟩ : ∃ sb, sb = W0.heap.size := ⟨_, rfl⟩
  rw [← hsb] at hS1 ⊢
  have hsw1 : sb ≠ w1.heap.size := Nat.ne_of_lt (strs_lt hS1)
  clear b1 hR0 HSP hRb hsb B0
  have bo := below_one w1 (.cells (encEnt zeroEnt).toArray 29)
  have hR2 := (bo.block R (row_lt hR1)).trans hR1
  have hS2 := hS1.below bo
  have he2 := heap_alloc_new w1 (.cells (encEnt zeroEnt).toArray 29)
  have B2 := Lib.hid (B1.out.trans (bo.mono B1.out.size))
  have hkc : (w1.alloc (.cells #[.string ⟨#[]⟩, .string ⟨#[]⟩, .int .i64 0, .string ⟨#[]⟩, .string ⟨#[]⟩, .int .i64 0, .int .i64 0, .string ⟨#[]⟩, .int .i64 0, .int .i64 0, .string ⟨#[]⟩, .int .i64 0, .int .i64 0, .int .i64 0] 29)).cell? ⟨sb, 0, none⟩ = some (.string ⟨k.toArray⟩) := strs_head hS2
  have hne : R ≠ w1.heap.size := Nat.ne_of_lt (row_lt hR1)
  have hlen : (k :: t).length = t.length + 1 := rfl
  rw [hlen] at hln ⊢
  clear bo hR1 hS1
  go_wp2_with fail
  rw [show (w1.alloc (.cells #[.string ⟨#[]⟩, .string ⟨#[]⟩, .int .i64 0, .string ⟨#[]⟩, .string ⟨#[]⟩, .int .i64 0, .int .i64 0, .string ⟨#[]⟩, .int .i64 0, .int .i64 0, .string ⟨#[]⟩, .int .i64 0, .int .i64 0, .int .i64 0] 29)) = w1.alloc (.cells (encEnt zeroEnt).toArray 29) from rfl]
  obtain ⟨eb, heb⟩ : ∃ eb, eb = w1.heap.size := ⟨_, rfl⟩
  rw [← heb] at he2 hne ⊢
  have hse0 : sb ≠ eb := by rw [heb]; exact hsw1
  have hew0 : w.heap.size ≤ eb := by rw [heb]; exact B1.out.size
  have hkc2 := Lib.hid (strs_head hS2)
  generalize w1.alloc (.cells (encEnt zeroEnt).toArray 29) = W2 at hR2 hS2 he2 B2 hkc2 ⊢
  clear heb hkc
  refine (HFO.out W2).mono ?_
  rintro e w3 ⟨rfl, b3⟩
  have bo := b3.trans ((below_one w3 (.cells #[.bool (hasF k), .bool (hasT k), .bool (isP k)] 45)).mono b3.size)
  have hf3 := heap_alloc_new w3 (.cells #[.bool (hasF k), .bool (hasT k), .bool (isP k)] 45)
  have hR3 := (bo.block R (row_lt hR2)).trans hR2
  have he3 := (bo.block eb (row_lt he2)).trans he2
  have hS3 := hS2.below bo
  have B3 := Lib.hid (B2.out.trans (bo.mono B2.out.size))
  have hkc := below_cell bo hkc2.out
  have hew : w.heap.size ≤ eb := hew0
  have hse : sb ≠ eb := hse0
  have hfe : w3.heap.size ≠ eb := by have := row_lt he2; have := b3.size; omega
  clear b3 bo hR2 he2 hS2 B2 HFO hkc2
  have hkb : (k == [103, 111, 111, 100, 115]) = false := by rw [hk.out]; rfl
  have hkl : (k == [108, 111, 116]) = true := by rw [hk.out]; rfl
  have HF0 := Lib.hid (HR.out.trans (congrArg finEnt (entWords_lot hk.out)))
  have HST := Lib.hid (strs_tail hS3)
  have HJ := Lib.hid (fun W (h : StrsAt W (some ⟨sb, 1, none⟩) t) => joinLies_any 32 (some ⟨sb, 1, none⟩) t.length t W h (Nat.le_refl _) (by omega) (by omega))
  have HJ0 := Lib.hid (fun W (h : t.length = 0) => show Calls Tryz.prog 17 #[.slice (some ⟨sb, 0, none⟩) 0 0, .string ⟨#[32]⟩] W fun e w' => e = .returned (.string ⟨(joinL 32 t).toArray⟩) ∧ Below W.heap.size W w' from by
    obtain rfl := List.eq_nil_of_length_eq_zero h
    exact joinLies_any 32 (some ⟨sb, 0, none⟩) 0 [] W (.inl rfl) (by simp) (by simp) (by simp [joinL]))
  have htl : t.length ≤ 1000000 := by omega
  have hyl := lotWords_lens (ws := splitL 32 (joinL 32 t)) (N := 1000000) fun x hx => Nat.le_trans (splitL_lens hx) hjl
  have HLR := Lib.hid (fun W h => lotRead_any E ⟨(joinL 32 t).toArray⟩ (by show (joinL 32 t).length ≤ _; exact hjl) W h)
  rw [show bts ⟨(joinL 32 t).toArray⟩ = joinL 32 t from rfl] at HLR
  obtain ⟨y0, hy0⟩ : ∃ y0, y0 = lotWords (splitL 32 (joinL 32 t)) := ⟨_, rfl⟩
  rw [← hy0] at HF0 hyl HLR
  generalize joinL 32 t = jt at HJ HJ0 HLR
  clear hy0 hk hle HR hjl hln
  go_wp2_with (refine wpList_store_val rfl 9 _ _ rfl eb 0 (.string ⟨#[108, 111, 116]⟩) rfl rfl rfl _ (encEnt zeroEnt) he3 (by kernel_rfl) (by decide) rfl ?_; intro w4 he4 t4; have hs4 := strs_turned HST.out t4 hse; have hR4 := t4.heap hR3 hne; have B4 := Lib.hid (B3.out.trans (t4.below hew)))
  all_goals
    first
    | (have h0 : t.length = 0 := congrArg List.length h
       clear h
       refine (HJ0.out w4 h0).mono ?_)
    | refine (HJ.out w4 hs4).mono ?_
    rintro e w5 ⟨rfl, b5⟩
    have hR5 := (b5.block R (row_lt hR4)).trans hR4
    have he5 := (b5.block eb (row_lt he4)).trans he4
    have B5 := Lib.hid (B4.out.trans (b5.mono B4.out.size))
    go_wp2_with fail
    refine (HLR.out w5 (HG.out _ B5.out).read).mono ?_
    rintro e w6 ⟨rfl, b6⟩
    have hR6 := (b6.block R (row_lt hR5)).trans hR5
    have he6 := (b6.block eb (row_lt he5)).trans he5
    have B6 := Lib.hid (B5.out.trans (b6.mono B5.out.size))
    clear b5 hR4 he4 B4 hs4 hR5 he5 B5 b6
    obtain ⟨l, c⟩ := y0
    obtain ⟨hl1, hl2⟩ := hyl
    simp only at hl1 hl2 HF0
    obtain ⟨y, hy⟩ : ∃ y, y = ((kLot, zeroGoods, l, zeroPlace, zeroPlace, 0) : EntV) := ⟨_, rfl⟩
    have HF := HF0
    rw [← hy] at HF
    have hl1 : y.2.2.1.1.length ≤ 1000000000 := by rw [hy]; exact Nat.le_trans hl1 (by omega)
    have hl2 : y.2.2.1.2.1.length ≤ 1000000000 := by rw [hy]; exact Nat.le_trans hl2 (by omega)
    have HY := Lib.hid (fun (o : Option Obj) h => lot_stored l (o := o) (t := 29) h)
    rw [← hy] at HY
    clear hy HF0
    by_cases hc : c = 0
    · have HF1 := Lib.hid (HF.out.trans (show finEnt (y, c) = if entE y ≠ 0 then (zeroEnt, entE y) else (y, 0) from if_neg (by simpa using hc)))
      have HCK := Lib.hid (fun W h => checkEnt_any E y hl1 hl2 W h)
      rw [hc, errOf_zero]
      clear hc
      go_wp2_with (first | (refine wpList_store_at rfl 25 _ _ rfl eb 3 (encLot l) rfl rfl _ _ he6 (by kernel_rfl) (Nat.le_of_ble_eq_true rfl) (encLot_one _) ?_; intro w7 he7' tz; have he7 : w7.heap[eb]? = some (.cells (encEnt y).toArray 29 (0, 0)) := HY.out _ he7'; have hR7 := tz.heap hR6 hne; have B7 := Lib.hid (B6.out.trans (tz.below hew))) | (refine wpList_load_at rfl 29 _ rfl eb 0 rfl (encEnt y) (Lies.row _ he7) _ Tryz.underlying29 rfl (by kernel_rfl) ?_))
      refine (HCK.out w7 (HG.out _ B7.out)).mono ?_
      rintro e w8 ⟨rfl, b8⟩
      have B8 := Lib.hid (B7.out.trans (b8.mono B7.out.size))
      have he8 := (b8.block eb (row_lt he7)).trans he7
      have hR8 := (b8.block R (row_lt hR7)).trans hR7
      clear b8 HCK he7 hR7
      by_cases hk0 : entE y = 0
      · have HF2 := Lib.hid (HF1.out.trans (if_neg (by simpa using hk0)))
        rw [hk0, errOf_zero]
        clear hk0
        go_wp2_with (first | (refine wpList_load_at rfl 29 _ rfl eb 0 rfl (encEnt y) (Lies.row _ he8) _ Tryz.underlying29 rfl (by kernel_rfl) ?_) | (refine wpList_store_at rfl 29 _ _ rfl R 0 (encEnt y) rfl rfl _ (encEnt zeroEnt) hR8 (by kernel_rfl) (Nat.le_refl _) (encEnt_one _) ?_; intro wz hrz' tz; have hrz : wz.heap[R]? = some (.cells (encEnt y).toArray 29 (0, 0)) := store_all (by rfl) (by rfl) hrz'; have BZ := Lib.hid (B8.out.trans (tz.below hRw))))
        (try simp only [Exit.inBlock, Exit.then])
        refine bodyPost_ret (results_cell_row2 rfl _ _ R 29 (encEnt y).toArray (0, 0) _ rfl (show wz.heap[R]? = _ from hrz) Tryz.underlying29 rfl (by kernel_rfl)) rfl ?_
        rw [HF2.out]
        exact ⟨rfl, BZ.out⟩
      · have HF2 := Lib.hid (HF1.out.trans (if_pos hk0))
        rw [errOf_pos _ _ hk0]
        go_wp2_with (refine wpList_store_at rfl 29 _ _ rfl R 0 (encEnt zeroEnt) rfl rfl _ (encEnt zeroEnt) hR8 (by kernel_rfl) (Nat.le_refl _) (encEnt_one _) ?_; intro wz hrz' tz; have hrz : wz.heap[R]? = some (.cells (encEnt zeroEnt).toArray 29 (0, 0)) := store_all (by rfl) (by rfl) hrz'; have BZ := Lib.hid (B8.out.trans (tz.below hRw)))
        (try simp only [Exit.inBlock, Exit.then])
        refine bodyPost_ret (results_cell_row2 rfl _ _ R 29 (encEnt zeroEnt).toArray (0, 0) _ rfl (show wz.heap[R]? = _ from hrz) Tryz.underlying29 rfl (by kernel_rfl)) rfl ?_
        rw [HF2.out, errOf_pos _ _ hk0]
        exact ⟨rfl, BZ.out⟩
    · have HF2 := Lib.hid (HF.out.trans (show finEnt (y, c) = (zeroEnt, c) from if_pos hc))
      rw [errOf_pos _ _ hc]
      go_wp2_with (first | (refine wpList_store_at rfl 25 _ _ rfl eb 3 (encLot l) rfl rfl _ _ he6 (by kernel_rfl) (Nat.le_of_ble_eq_true rfl) (encLot_one _) ?_; intro w7 he7' tz; have he7 : w7.heap[eb]? = some (.cells (encEnt y).toArray 29 (0, 0)) := HY.out _ he7'; have hR7 := tz.heap hR6 hne; have B7 := Lib.hid (B6.out.trans (tz.below hew))) | (refine wpList_store_at rfl 29 _ _ rfl R 0 (encEnt zeroEnt) rfl rfl _ (encEnt zeroEnt) hR7 (by kernel_rfl) (Nat.le_refl _) (encEnt_one _) ?_; intro wz hrz' tz; have hrz : wz.heap[R]? = some (.cells (encEnt zeroEnt).toArray 29 (0, 0)) := store_all (by rfl) (by rfl) hrz'; have BZ := Lib.hid (B7.out.trans (tz.below hRw))))
      (try simp only [Exit.inBlock, Exit.then])
      refine bodyPost_ret (results_cell_row2 rfl _ _ R 29 (encEnt zeroEnt).toArray (0, 0) _ rfl (show wz.heap[R]? = _ from hrz) Tryz.underlying29 rfl (by kernel_rfl)) rfl ?_
      rw [HF2.out, errOf_pos _ _ hc]
      exact ⟨rfl, BZ.out⟩

set_option maxHeartbeats 3200000 in
set_option maxRecDepth 100000 in
theorem readEnt_p (E : Nat → Addr) (s : ByteArray) (hs : s.size ≤ 1000000) (k : List UInt8) (t : List (List UInt8)) (hw : splitL 32 (bts s) = k :: t) (hk1 : Hid (k ≠ kGoods)) (hk2 : Hid (k ≠ kLot)) (hP : Hid (isP k = true)) (w : World) (hG : EntG E w) :
    Calls Tryz.prog 6 #[.string s] w fun e w' => e = .returned (.tuple #[.agg (encEnt (entRead (bts s)).1).toArray, errOf E (entRead (bts s)).2]) ∧ Below w.heap.size w w' := by
  have hle : ∀ x ∈ k :: t, x.length ≤ 1000000 := fun x hx => by
    have := splitL_lens (c := 32) (l := bts s) (w := x) (by rw [hw]; exact hx)
    exact Nat.le_trans this hs
  have hln : (k :: t).length ≤ 1000000000 := by
    have := splitL_count 32 (bts s)
    rw [hw] at this
    have h2 : (bts s).length = s.size := rfl
    omega
  have htl0 : t.length ≤ 1000000 := by
    have := splitL_count 32 (bts s)
    rw [hw] at this
    have h2 : (bts s).length = s.size := rfl
    simp only [List.length_cons] at this
    omega
  have hjl : (joinL 32 t).length ≤ 1000000 := by
    have := joinL_tail 32 k t
    rw [← hw, joinL_splitL] at this
    exact Nat.le_trans this hs
  obtain ⟨r, hr⟩ : ∃ r, r = entRead (bts s) := ⟨_, rfl⟩
  have HR := Lib.hid (hr.trans (by rw [entRead_fin, hw]))
  rw [← hr]
  have b0 := below_one w (.cells (encEnt zeroEnt).toArray 29)
  have hR0 := heap_alloc_new w (.cells (encEnt zeroEnt).toArray 29)
  have HSP := Lib.hid (splitAt_any s 32 (w.alloc (.cells (encEnt zeroEnt).toArray 29)) (by omega) (hG.below b0).read.maxl)
  rw [hw] at HSP
  have HG := Lib.hid (fun W (h : Below w.heap.size w W) => hG.below h)
  have HFO := Lib.hid (fun W => formOf_any k W)
  have B0 := Lib.hid b0
  obtain ⟨R, hRb⟩ : ∃ R, R = w.heap.size := ⟨_, rfl⟩
  have hRw : w.heap.size ≤ R := Nat.le_of_eq hRb.symm
  clear hr hw b0 hG
  go_enter Tryz.func6, Tryz.ntmps6
  go_wp2_with fail
  rw [show (w.alloc (.cells #[.string ⟨#[]⟩, .string ⟨#[]⟩, .int .i64 0, .string ⟨#[]⟩, .string ⟨#[]⟩, .int .i64 0, .int .i64 0, .string ⟨#[]⟩, .int .i64 0, .int .i64 0, .string ⟨#[]⟩, .int .i64 0, .int .i64 0, .int .i64 0] 29)) = w.alloc (.cells (encEnt zeroEnt).toArray 29) from rfl]
  rw [← hRb] at hR0 ⊢
  generalize w.alloc (.cells (encEnt zeroEnt).toArray 29) = W0 at hR0 HSP B0 ⊢
  refine HSP.out.mono ?_
  rintro e w1 ⟨rfl, hS1, b1⟩
  have B1 := Lib.hid (B0.out.trans (b1.mono B0.out.size))
  have hR1 := (b1.block R (row_lt hR0)).trans hR0
  obtain ⟨sb, hsb⟩ : ∃ sb, sb = W0.heap.size := ⟨_, rfl⟩
  rw [← hsb] at hS1 ⊢
  have hsw1 : sb ≠ w1.heap.size := Nat.ne_of_lt (strs_lt hS1)
  clear b1 hR0 HSP hRb hsb B0
  have bo := below_one w1 (.cells (encEnt zeroEnt).toArray 29)
  have hR2 := (bo.block R (row_lt hR1)).trans hR1
  have hS2 := hS1.below bo
  have he2 := heap_alloc_new w1 (.cells (encEnt zeroEnt).toArray 29)
  have B2 := Lib.hid (B1.out.trans (bo.mono B1.out.size))
  have hkc : (w1.alloc (.cells #[.string ⟨#[]⟩, .string ⟨#[]⟩, .int .i64 0, .string ⟨#[]⟩, .string ⟨#[]⟩, .int .i64 0, .int .i64 0, .string ⟨#[]⟩, .int .i64 0, .int .i64 0, .string ⟨#[]⟩, .int .i64 0, .int .i64 0, .int .i64 0] 29)).cell? ⟨sb, 0, none⟩ = some (.string ⟨k.toArray⟩) := strs_head hS2
  have hne : R ≠ w1.heap.size := Nat.ne_of_lt (row_lt hR1)
  have hlen : (k :: t).length = t.length + 1 := rfl
  rw [hlen] at hln ⊢
  clear bo hR1 hS1
  go_wp2_with fail
  rw [show (w1.alloc (.cells #[.string ⟨#[]⟩, .string ⟨#[]⟩, .int .i64 0, .string ⟨#[]⟩, .string ⟨#[]⟩, .int .i64 0, .int .i64 0, .string ⟨#[]⟩, .int .i64 0, .int .i64 0, .string ⟨#[]⟩, .int .i64 0, .int .i64 0, .int .i64 0] 29)) = w1.alloc (.cells (encEnt zeroEnt).toArray 29) from rfl]
  obtain ⟨eb, heb⟩ : ∃ eb, eb = w1.heap.size := ⟨_, rfl⟩
  rw [← heb] at he2 hne ⊢
  have hse0 : sb ≠ eb := by rw [heb]; exact hsw1
  have hew0 : w.heap.size ≤ eb := by rw [heb]; exact B1.out.size
  have hkc2 := Lib.hid (strs_head hS2)
  generalize w1.alloc (.cells (encEnt zeroEnt).toArray 29) = W2 at hR2 hS2 he2 B2 hkc2 ⊢
  clear heb hkc
  refine (HFO.out W2).mono ?_
  rintro e w3 ⟨rfl, b3⟩
  have bo := b3.trans ((below_one w3 (.cells #[.bool (hasF k), .bool (hasT k), .bool (isP k)] 45)).mono b3.size)
  have hf3 := heap_alloc_new w3 (.cells #[.bool (hasF k), .bool (hasT k), .bool (isP k)] 45)
  have hR3 := (bo.block R (row_lt hR2)).trans hR2
  have he3 := (bo.block eb (row_lt he2)).trans he2
  have hS3 := hS2.below bo
  have B3 := Lib.hid (B2.out.trans (bo.mono B2.out.size))
  have hkc := below_cell bo hkc2.out
  have hew : w.heap.size ≤ eb := hew0
  have hse : sb ≠ eb := hse0
  have hfe : w3.heap.size ≠ eb := by have := row_lt he2; have := b3.size; omega
  clear b3 bo hR2 he2 hS2 B2 HFO hkc2
  have hkb : (k == [103, 111, 111, 100, 115]) = false := beq_eq_false_iff_ne.2 hk1.out
  have hkl : (k == [108, 111, 116]) = false := beq_eq_false_iff_ne.2 hk2.out
  have hP' := hP.out
  simp only [hP'] at hf3 hR3 he3 hS3 B3 hkc ⊢
  have HF := Lib.hid (HR.out.trans (congrArg finEnt (entWords_p hk1.out hk2.out hP')))
  have hyl := entPieces_lens (k := k) hle
  obtain ⟨y, hy⟩ : ∃ y, y = entPieces k (k :: t) := ⟨_, rfl⟩
  rw [← hy] at HF hyl
  have HGO := Lib.hid (fun W (hS : StrsAt W (some ⟨sb, 0, none⟩) (k :: t)) h => readP_any E k true (k :: t) (some ⟨sb, 0, none⟩) (t.length + 1) W hS rfl hle hln h)
  rw [← hy] at HGO
  clear hy hk1 hk2 hP hle HR hP' hjl htl0
  generalize hasF k = bF at hf3 hR3 he3 hS3 B3 hkc HGO ⊢
  generalize hasT k = bT at hf3 hR3 he3 hS3 B3 hkc HGO ⊢
  go_wp2_with fail
  refine (HGO.out _ hS3 (HG.out _ B3.out).read).mono ?_
  rintro e w4 ⟨rfl, b4⟩
  have hR4 := (b4.block R (row_lt hR3)).trans hR3
  have he4 := (b4.block eb (row_lt he3)).trans he3
  have B4 := Lib.hid (B3.out.trans (b4.mono B3.out.size))
  clear b4 hR3 he3 B3 hS3 HGO hkc hf3 hfe hse
  obtain ⟨y, c⟩ := y
  obtain ⟨hl1, hl2⟩ := hyl
  simp only at hl1 hl2 HF
  by_cases hc : c = 0
  · have HF1 := Lib.hid (HF.out.trans (show finEnt (y, c) = if entE y ≠ 0 then (zeroEnt, entE y) else (y, 0) from if_neg (by simpa using hc)))
    have HCK := Lib.hid (fun W h => checkEnt_any E y hl1 hl2 W h)
    rw [hc, errOf_zero]
    clear hc
    go_wp2_with (first | (refine wpList_store_at rfl 29 _ _ rfl eb 0 (encEnt y) rfl rfl _ (encEnt zeroEnt) he4 (by kernel_rfl) (Nat.le_refl _) (encEnt_one _) ?_; intro w5 he5' tz; have he5 : w5.heap[eb]? = some (.cells (encEnt y).toArray 29 (0, 0)) := store_all (by rfl) (by rfl) he5'; have hR5 := tz.heap hR4 hne; have B5 := Lib.hid (B4.out.trans (tz.below hew))) | (refine wpList_load_at rfl 29 _ rfl eb 0 rfl (encEnt y) (Lies.row _ he5) _ Tryz.underlying29 rfl (by kernel_rfl) ?_))
    refine (HCK.out w5 (HG.out _ B5.out)).mono ?_
    rintro e w6 ⟨rfl, b6⟩
    have B6 := Lib.hid (B5.out.trans (b6.mono B5.out.size))
    have he6 := (b6.block eb (row_lt he5)).trans he5
    have hR6 := (b6.block R (row_lt hR5)).trans hR5
    clear b6 HCK he5 hR5
    by_cases hk0 : entE y = 0
    · have HF2 := Lib.hid (HF1.out.trans (if_neg (by simpa using hk0)))
      rw [hk0, errOf_zero]
      clear hk0
      go_wp2_with (first | (refine wpList_load_at rfl 29 _ rfl eb 0 rfl (encEnt y) (Lies.row _ he6) _ Tryz.underlying29 rfl (by kernel_rfl) ?_) | (refine wpList_store_at rfl 29 _ _ rfl R 0 (encEnt y) rfl rfl _ (encEnt zeroEnt) hR6 (by kernel_rfl) (Nat.le_refl _) (encEnt_one _) ?_; intro wz hrz' tz; have hrz : wz.heap[R]? = some (.cells (encEnt y).toArray 29 (0, 0)) := store_all (by rfl) (by rfl) hrz'; have BZ := Lib.hid (B6.out.trans (tz.below hRw))))
      (try simp only [Exit.inBlock, Exit.then])
      refine bodyPost_ret (results_cell_row2 rfl _ _ R 29 (encEnt y).toArray (0, 0) _ rfl (show wz.heap[R]? = _ from hrz) Tryz.underlying29 rfl (by kernel_rfl)) rfl ?_
      rw [HF2.out]
      exact ⟨rfl, BZ.out⟩
    · have HF2 := Lib.hid (HF1.out.trans (if_pos hk0))
      rw [errOf_pos _ _ hk0]
      go_wp2_with (refine wpList_store_at rfl 29 _ _ rfl R 0 (encEnt zeroEnt) rfl rfl _ (encEnt zeroEnt) hR6 (by kernel_rfl) (Nat.le_refl _) (encEnt_one _) ?_; intro wz hrz' tz; have hrz : wz.heap[R]? = some (.cells (encEnt zeroEnt).toArray 29 (0, 0)) := store_all (by rfl) (by rfl) hrz'; have BZ := Lib.hid (B6.out.trans (tz.below hRw)))
      (try simp only [Exit.inBlock, Exit.then])
      refine bodyPost_ret (results_cell_row2 rfl _ _ R 29 (encEnt zeroEnt).toArray (0, 0) _ rfl (show wz.heap[R]? = _ from hrz) Tryz.underlying29 rfl (by kernel_rfl)) rfl ?_
      rw [HF2.out, errOf_pos _ _ hk0]
      exact ⟨rfl, BZ.out⟩
  · have HF2 := Lib.hid (HF.out.trans (show finEnt (y, c) = (zeroEnt, c) from if_pos hc))
    rw [errOf_pos _ _ hc]
    go_wp2_with (first | (refine wpList_store_at rfl 29 _ _ rfl eb 0 (encEnt y) rfl rfl _ (encEnt zeroEnt) he4 (by kernel_rfl) (Nat.le_refl _) (encEnt_one _) ?_; intro w5 he5' tz; have he5 : w5.heap[eb]? = some (.cells (encEnt y).toArray 29 (0, 0)) := store_all (by rfl) (by rfl) he5'; have hR5 := tz.heap hR4 hne; have B5 := Lib.hid (B4.out.trans (tz.below hew))) | (refine wpList_store_at rfl 29 _ _ rfl R 0 (encEnt zeroEnt) rfl rfl _ (encEnt zeroEnt) hR5 (by kernel_rfl) (Nat.le_refl _) (encEnt_one _) ?_; intro wz hrz' tz; have hrz : wz.heap[R]? = some (.cells (encEnt zeroEnt).toArray 29 (0, 0)) := store_all (by rfl) (by rfl) hrz'; have BZ := Lib.hid (B5.out.trans (tz.below hRw))))
    (try simp only [Exit.inBlock, Exit.then])
    refine bodyPost_ret (results_cell_row2 rfl _ _ R 29 (encEnt zeroEnt).toArray (0, 0) _ rfl (show wz.heap[R]? = _ from hrz) Tryz.underlying29 rfl (by kernel_rfl)) rfl ?_
    rw [HF2.out, errOf_pos _ _ hc]
    exact ⟨rfl, BZ.out⟩

set_option maxHeartbeats 3200000 in
set_option maxRecDepth 100000 in
theorem readEnt_none (E : Nat → Addr) (s : ByteArray) (hs : s.size ≤ 1000000) (k : List UInt8) (t : List (List UInt8)) (hw : splitL 32 (bts s) = k :: t) (hk1 : Hid (k ≠ kGoods)) (hk2 : Hid (k ≠ kLot)) (hP : Hid (isP k = false)) (w : World) (hG : EntG E w) :
    Calls Tryz.prog 6 #[.string s] w fun e w' => e = .returned (.tuple #[.agg (encEnt (entRead (bts s)).1).toArray, errOf E (entRead (bts s)).2]) ∧ Below w.heap.size w w' := by
  have hle : ∀ x ∈ k :: t, x.length ≤ 1000000 := fun x hx => by
    have := splitL_lens (c := 32) (l := bts s) (w := x) (by rw [hw]; exact hx)
    exact Nat.le_trans this hs
  have hln : (k :: t).length ≤ 1000000000 := by
    have := splitL_count 32 (bts s)
    rw [hw] at this
    have h2 : (bts s).length = s.size := rfl
    omega
  have htl0 : t.length ≤ 1000000 := by
    have := splitL_count 32 (bts s)
    rw [hw] at this
    have h2 : (bts s).length = s.size := rfl
    simp only [List.length_cons] at this
    omega
  have hjl : (joinL 32 t).length ≤ 1000000 := by
    have := joinL_tail 32 k t
    rw [← hw, joinL_splitL] at this
    exact Nat.le_trans this hs
  obtain ⟨r, hr⟩ : ∃ r, r = entRead (bts s) := ⟨_, rfl⟩
  have HR := Lib.hid (hr.trans (by rw [entRead_fin, hw]))
  rw [← hr]
  have b0 := below_one w (.cells (encEnt zeroEnt).toArray 29)
  have hR0 := heap_alloc_new w (.cells (encEnt zeroEnt).toArray 29)
  have HSP := Lib.hid (splitAt_any s 32 (w.alloc (.cells (encEnt zeroEnt).toArray 29)) (by omega) (hG.below b0).read.maxl)
  rw [hw] at HSP
  have HG := Lib.hid (fun W (h : Below w.heap.size w W) => hG.below h)
  have HFO := Lib.hid (fun W => formOf_any k W)
  have B0 := Lib.hid b0
  obtain ⟨R, hRb⟩ : ∃ R, R = w.heap.size := ⟨_, rfl⟩
  have hRw : w.heap.size ≤ R := Nat.le_of_eq hRb.symm
  clear hr hw b0 hG
  go_enter Tryz.func6, Tryz.ntmps6
  go_wp2_with fail
  rw [show (w.alloc (.cells #[.string ⟨#[]⟩, .string ⟨#[]⟩, .int .i64 0, .string ⟨#[]⟩, .string ⟨#[]⟩, .int .i64 0, .int .i64 0, .string ⟨#[]⟩, .int .i64 0, .int .i64 0, .string ⟨#[]⟩, .int .i64 0, .int .i64 0, .int .i64 0] 29)) = w.alloc (.cells (encEnt zeroEnt).toArray 29) from rfl]
  rw [← hRb] at hR0 ⊢
  generalize w.alloc (.cells (encEnt zeroEnt).toArray 29) = W0 at hR0 HSP B0 ⊢
  refine HSP.out.mono ?_
  rintro e w1 ⟨rfl, hS1, b1⟩
  have B1 := Lib.hid (B0.out.trans (b1.mono B0.out.size))
  have hR1 := (b1.block R (row_lt hR0)).trans hR0
  obtain ⟨sb, hsb⟩ : ∃ sb, sb = W0.heap.size := ⟨_, rfl⟩
  rw [← hsb] at hS1 ⊢
  have hsw1 : sb ≠ w1.heap.size := Nat.ne_of_lt (strs_lt hS1)
  clear b1 hR0 HSP hRb hsb B0
  have bo := below_one w1 (.cells (encEnt zeroEnt).toArray 29)
  have hR2 := (bo.block R (row_lt hR1)).trans hR1
  have hS2 := hS1.below bo
  have he2 := heap_alloc_new w1 (.cells (encEnt zeroEnt).toArray 29)
  have B2 := Lib.hid (B1.out.trans (bo.mono B1.out.size))
  have hkc : (w1.alloc (.cells #[.string ⟨#[]⟩, .string ⟨#[]⟩, .int .i64 0, .string ⟨#[]⟩, .string ⟨#[]⟩, .int .i64 0, .int .i64 0, .string ⟨#[]⟩, .int .i64 0, .int .i64 0, .string ⟨#[]⟩, .int .i64 0, .int .i64 0, .int .i64 0] 29)).cell? ⟨sb, 0, none⟩ = some (.string ⟨k.toArray⟩) := strs_head hS2
  have hne : R ≠ w1.heap.size := Nat.ne_of_lt (row_lt hR1)
  have hlen : (k :: t).length = t.length + 1 := rfl
  rw [hlen] at hln ⊢
  clear bo hR1 hS1
  go_wp2_with fail
  rw [show (w1.alloc (.cells #[.string ⟨#[]⟩, .string ⟨#[]⟩, .int .i64 0, .string ⟨#[]⟩, .string ⟨#[]⟩, .int .i64 0, .int .i64 0, .string ⟨#[]⟩, .int .i64 0, .int .i64 0, .string ⟨#[]⟩, .int .i64 0, .int .i64 0, .int .i64 0] 29)) = w1.alloc (.cells (encEnt zeroEnt).toArray 29) from rfl]
  obtain ⟨eb, heb⟩ : ∃ eb, eb = w1.heap.size := ⟨_, rfl⟩
  rw [← heb] at he2 hne ⊢
  have hse0 : sb ≠ eb := by rw [heb]; exact hsw1
  have hew0 : w.heap.size ≤ eb := by rw [heb]; exact B1.out.size
  have hkc2 := Lib.hid (strs_head hS2)
  generalize w1.alloc (.cells (encEnt zeroEnt).toArray 29) = W2 at hR2 hS2 he2 B2 hkc2 ⊢
  clear heb hkc
  refine (HFO.out W2).mono ?_
  rintro e w3 ⟨rfl, b3⟩
  have bo := b3.trans ((below_one w3 (.cells #[.bool (hasF k), .bool (hasT k), .bool (isP k)] 45)).mono b3.size)
  have hf3 := heap_alloc_new w3 (.cells #[.bool (hasF k), .bool (hasT k), .bool (isP k)] 45)
  have hR3 := (bo.block R (row_lt hR2)).trans hR2
  have he3 := (bo.block eb (row_lt he2)).trans he2
  have hS3 := hS2.below bo
  have B3 := Lib.hid (B2.out.trans (bo.mono B2.out.size))
  have hkc := below_cell bo hkc2.out
  have hew : w.heap.size ≤ eb := hew0
  have hse : sb ≠ eb := hse0
  have hfe : w3.heap.size ≠ eb := by have := row_lt he2; have := b3.size; omega
  clear b3 bo hR2 he2 hS2 B2 HFO hkc2
  have hkb : (k == [103, 111, 111, 100, 115]) = false := beq_eq_false_iff_ne.2 hk1.out
  have hkl : (k == [108, 111, 116]) = false := beq_eq_false_iff_ne.2 hk2.out
  have hP' := hP.out
  simp only [hP'] at hf3 hR3 he3 hS3 B3 hkc ⊢
  have HF2 := Lib.hid (HR.out.trans (congrArg finEnt (entWords_none hk1.out hk2.out hP')))
  have hk4 := (HG.out _ B3.out).kind
  unfold ErrAt at hk4
  clear hk1 hk2 hP hle HR hP' hjl htl0
  generalize hasF k = bF at hf3 hR3 he3 hS3 B3 hkc hk4 ⊢
  generalize hasT k = bT at hf3 hR3 he3 hS3 B3 hkc hk4 ⊢
  go_wp2_with (refine wpList_store_at rfl 29 _ _ rfl R 0 (encEnt zeroEnt) rfl rfl _ (encEnt zeroEnt) hR3 (by kernel_rfl) (Nat.le_refl _) (encEnt_one _) ?_; intro wz hrz' tz; have hrz : wz.heap[R]? = some (.cells (encEnt zeroEnt).toArray 29 (0, 0)) := store_all (by rfl) (by rfl) hrz'; have BZ := Lib.hid (B3.out.trans (tz.below hRw)))
  (try simp only [Exit.inBlock, Exit.then])
  refine bodyPost_ret (results_cell_row2 rfl _ _ R 29 (encEnt zeroEnt).toArray (0, 0) _ rfl (show wz.heap[R]? = _ from hrz) Tryz.underlying29 rfl (by kernel_rfl)) rfl ?_
  rw [HF2.out]
  exact ⟨rfl, BZ.out⟩

/-- entry.Read. -/
theorem readEnt_any (E : Nat → Addr) (s : ByteArray) (hs : s.size ≤ 1000000) (w : World) (hG : EntG E w) :
    Calls Tryz.prog 6 #[.string s] w fun e w' => e = .returned (.tuple #[.agg (encEnt (entRead (bts s)).1).toArray, errOf E (entRead (bts s)).2]) ∧ Below w.heap.size w w' := by
  cases hw : splitL 32 (bts s) with
  | nil => exact absurd hw (splitL_ne _ _)
  | cons k t =>
    by_cases k1 : k = kGoods
    · exact readEnt_goods E s hs k t hw k1 w hG
    · by_cases k2 : k = kLot
      · exact readEnt_lot E s hs k t hw k2 w hG
      · cases hP : isP k
        · exact readEnt_none E s hs k t hw k1 k2 hP w hG
        · exact readEnt_p E s hs k t hw k1 k2 hP w hG
end Go.Proofs.YtpifbahafnaejaaGreatDoor
namespace Go.Proofs.YtpifbahafnaejaaGreatDoor
open Go.RowKit

/-- The texts lie in a slice that has room for them. -/
def TextsCap (xs : List (List UInt8)) (w : World) (e : Ending) (w' : World) : Prop :=
  ∃ A cap, e = .returned (.slice A xs.length cap) ∧ StrsAt w' A xs ∧ (∀ a, A = some a → w.heap.size ≤ a.block) ∧ Below w.heap.size w w' ∧ xs.length ≤ cap
theorem own_cap {w : World} {B e size n cap : Nat} {A : Option Addr} {v : Value} {xs : List Value} (h : w.ownsRow B e size v n xs) (hv : v = .slice A n cap) : n ≤ cap := by
  subst hv
  rcases h.2 with ⟨h0, h1⟩ | ⟨g, cap', cur, h1, _, _, h2, _⟩
  · omega
  · cases h1
    exact h2
set_option maxHeartbeats 2000000 in
set_option maxRecDepth 100000 in
theorem refCutC (s : ByteArray) (c : UInt8) (w : World) (hs : s.size ≤ 1000000) :
    Calls Tryz.prog 19 #[.string s, .int .u8 (c.toNat : Nat)] w (TextsCap (splitL c (bts s)) w) := by
  obtain ⟨i0, hi, hz0, hz1, hz2⟩ := info_parts stringInfo1
  have hc := c.toNat_lt
  go_enter Tryz.func19, Tryz.ntmps19
  go_wp2
  go_loopw [5, 6, 7] (fun out f i wr => ∃ (l : List (List UInt8)) (k n m : Nat), i = .int .i64 n ∧ f = .int .i64 m ∧ m ≤ n ∧ n ≤ s.size ∧ k ≤ n ∧ Hid (k = l.length ∧ splitL c ((bts s).take n) = l ++ [((bts s).take n).drop m]) ∧ Hid (wr.ownsRow w.heap.size 9 1 out k (strVals l)) ∧ Below w.heap.size w wr) (fun _ _ i _ => s.size - (intOf i).toNat)
  case atStart => exact ⟨[], 0, 0, 0, rfl, rfl, by omega, by omega, by omega, ⟨rfl, by simp [splitL]⟩, World.ownsRow_nil _ _ _ _, Below.refl _ _⟩
  case round =>
    obtain ⟨l, k, n, m, rfl, rfl, hmn, hns, hkn, HL, HO, hbel⟩ := hrel
    have HB := Lib.hid hbel
    have hwb := hbel.size
    clear hbel
    have mi : (m : Int) ≤ (n : Int) := by omega
    have ni : (n : Int) ≤ (s.size : Int) := by omega
    have mi0 : (0 : Int) ≤ (m : Int) := Int.natCast_nonneg m
    have e1 : s.extract m n = ⟨(((bts s).take n).drop m).toArray⟩ := ext_data _ _ (by rw [bts_extract])
    obtain ⟨x, hx⟩ : ∃ x, x = ((bts s).take n).drop m := ⟨_, rfl⟩
    rw [← hx] at e1
    have HX := Lib.hid hx
    clear hx
    by_cases hlt : n < s.size
    · have HS := Lib.hid (bts_snoc s n hlt)
      by_cases hcc : s[n] = c
      · have t1 : ((s[n].toNat : Int) == (c.toNat : Int)) = true := by rw [hcc]; simp
        have HSP : Hid (splitL c ((bts s).take (n + 1)) = (l ++ [x]) ++ [((bts s).take (n + 1)).drop (n + 1)]) := by
          show _ = _
          rw [HS.out, hcc, splitL_snoc_sep, HL.out.2, ← HX.out]
          have : ((bts s).take n ++ [c]).drop (n + 1) = [] := List.drop_of_length_le (by rw [List.length_append, List.length_take, List.length_singleton]; omega)
          rw [this]
        clear hcc HS
        go_wp2_with (at_builtin; refine wpList_append_lies _ rfl (.tmp 19) (.tmp 24) 42 rfl w.heap.size 9 i0 (.string ⟨#[]⟩) 1 16 Tryz.underlying42 hi hz0 hz1 hz2 rfl (by decide) u5 k (strVals l) rfl (HO.out.alloc _) _ 1 1 [.string ⟨x.toArray⟩] rfl rfl (World.news_of_block (cs := #[.string ⟨x.toArray⟩]) (t := 9) (fr := (0, 0)) (heap_alloc_new _ _)) (by simp [Value.oneCell']) (by omega) (by unfold maxLen; omega) (by omega) (by simp; omega) _ rfl ?_; intro gg cap' w3 hown3 hgrow hat hlt3; have HK := Lib.hid (And.intro hown3 (And.intro hgrow hat)); clear hown3 hgrow hat)
        have hb3 : Below w.heap.size w w3 := (HB.out.alloc HB.out.size _).grown HK.out.2.1 (by simp; omega) (fun j hj => (HO.out.lt j hj).1)
        go_roundw
        case rel =>
          refine ⟨l ++ [x], k + 1, n + 1, n + 1, by go_num, by go_num, by omega, by omega, by omega, ⟨?_, HSP.out⟩, ?_, hb3⟩
          · rw [List.length_append, ← HL.out.1]; rfl
          · have e : strVals (l ++ [x]) = strVals l ++ [.string ⟨x.toArray⟩] := by simp [strVals]
            rw [e]; exact HK.out.1
        case measure => simp [intOf]; omega
      · have t1 : ((s[n].toNat : Int) == (c.toNat : Int)) = false := by
          have : s[n].toNat ≠ c.toNat := fun e => hcc (UInt8.toNat_inj.1 e)
          simpa using by omega
        have HSP : Hid (splitL c ((bts s).take (n + 1)) = l ++ [((bts s).take (n + 1)).drop m]) := by
          show _ = _
          rw [HS.out, splitL_snoc _ hcc l x (by rw [HL.out.2, ← HX.out])]
          congr 2
          rw [List.drop_append_of_le_length (by rw [List.length_take]; have : (bts s).length = s.size := rfl; omega), ← HX.out]
        clear hcc HS e1
        go_wp2
        go_roundw
        case rel => exact ⟨l, k, n + 1, m, by go_num, rfl, by omega, by omega, by omega, ⟨HL.out.1, HSP.out⟩, HO, HB.out⟩
        case measure => simp [intOf]; omega
    · obtain rfl : n = s.size := by omega
      have hall := HL.out.2
      rw [bts_all] at hall
      have HALL := Lib.hid hall
      have hx2 := HX.out
      rw [bts_all] at hx2
      have HX2 := Lib.hid hx2
      clear hall hx2
      go_wp2_with (at_builtin; refine wpList_append_lies _ rfl (.tmp 28) (.tmp 32) 42 rfl w.heap.size 9 i0 (.string ⟨#[]⟩) 1 16 Tryz.underlying42 hi hz0 hz1 hz2 rfl (by decide) u5 k (strVals l) rfl (HO.out.alloc _) _ 1 1 [.string ⟨x.toArray⟩] rfl rfl (World.news_of_block (cs := #[.string ⟨x.toArray⟩]) (t := 9) (fr := (0, 0)) (heap_alloc_new _ _)) (by simp [Value.oneCell']) (by omega) (by unfold maxLen; omega) (by omega) (by simp; omega) _ rfl ?_; intro gg cap' w3 hown3 hgrow hat hlt3; have HK := Lib.hid (And.intro hown3 (And.intro hgrow hat)); clear hown3 hgrow hat)
      have hb3 : Below w.heap.size w w3 := (HB.out.alloc HB.out.size _).grown HK.out.2.1 (by simp; omega) (fun j hj => (HO.out.lt j hj).1)
      go_ret
      have e : strVals (l ++ [x]) = strVals l ++ [.string ⟨x.toArray⟩] := by simp [strVals]
      have hown := HK.out.1
      rw [← e] at hown
      have hl : k + 1 = (l ++ [x]).length := by rw [List.length_append, ← HL.out.1]; rfl
      rw [hl] at hown
      have hsp : splitL c (bts s) = l ++ [x] := by rw [HALL.out, HX2.out]
      obtain ⟨A, cap, hv, hS, hA⟩ := StrsAt.of_own hown
      rw [hsp]
      exact ⟨A, cap, by rw [← hv, ← hl]; rfl, hS, hA, hb3, own_cap hown hv⟩
theorem refCutB (s : ByteArray) (c : UInt8) (w : World) (hs : s.size ≤ 1000000) :
    Calls Tryz.prog 19 #[.string s, .int .u8 (c.toNat : Nat)] w (TextsEnds (splitL c (bts s)) w) := by
  refine (refCutC s c w hs).mono ?_
  rintro e w' ⟨A, cap, h1, h2, h3, h4, _⟩
  exact ⟨A, cap, h1, h2, h3, h4⟩
end Go.Proofs.YtpifbahafnaejaaGreatDoor
namespace Go.Proofs.YtpifbahafnaejaaGreatDoor
open Go.RowKit

theorem rowC {w : World} {b : Nat} {cs : Array Value} {t : TypeId} (h : w.heap[b]? = some (.cells cs t (0, 0))) (j : Nat) : w.cell? ⟨b, j, none⟩ = cs[j]? := cell_of_row _ _ _ _ _ _ h
theorem rowF {w : World} {b : Nat} {cs : Array Value} {t : TypeId} (h : w.heap[b]? = some (.cells cs t (0, 0))) (j : Nat) : w.frozen? ⟨b, j, none⟩ = false := frozen_of_row _ _ _ _ _ h
theorem row3f {w : World} {b : Nat} {u v x : Value} {t : TypeId} (h : w.heap[b]? = some (.cells #[u, v, x] t (0, 0))) :
    (w.cell? ⟨b, 0, none⟩ = some u ∧ w.cell? ⟨b, 1, none⟩ = some v ∧ w.cell? ⟨b, 2, none⟩ = some x) ∧ w.frozen? ⟨b, 0, none⟩ = false ∧ w.frozen? ⟨b, 1, none⟩ = false ∧ w.frozen? ⟨b, 2, none⟩ = false :=
  ⟨⟨rowC h 0, rowC h 1, rowC h 2⟩, rowF h 0, rowF h 1, rowF h 2⟩
theorem row5f {w : World} {b : Nat} {u v x y z : Value} {t : TypeId} (h : w.heap[b]? = some (.cells #[u, v, x, y, z] t (0, 0))) :
    (w.cell? ⟨b, 0, none⟩ = some u ∧ w.cell? ⟨b, 1, none⟩ = some v ∧ w.cell? ⟨b, 2, none⟩ = some x ∧ w.cell? ⟨b, 3, none⟩ = some y ∧ w.cell? ⟨b, 4, none⟩ = some z) ∧ w.frozen? ⟨b, 0, none⟩ = false ∧ w.frozen? ⟨b, 1, none⟩ = false ∧ w.frozen? ⟨b, 2, none⟩ = false ∧ w.frozen? ⟨b, 3, none⟩ = false ∧ w.frozen? ⟨b, 4, none⟩ = false :=
  ⟨⟨rowC h 0, rowC h 1, rowC h 2, rowC h 3, rowC h 4⟩, rowF h 0, rowF h 1, rowF h 2, rowF h 3, rowF h 4⟩

/-- A struct stored into a box of its own. -/
theorem wpList_store_box {P : Program} {ops : Array Oper} {rest : List Oper} {o : Oper} {a : Act} {w : World} {Q : Exit → Act → World → Prop} (hgd : o.guard = none) (ty : TypeId) (x y : Operand) (ho : o.op = .store ty x y) (b : Nat) (vs : List Value) (hx : a.eval x = .pointer (some ⟨b, 0, none⟩)) (hy : a.eval y = .agg vs.toArray)
    (t : TypeId) (L : List Value) (hb : w.heap[b]? = some (.cells L.toArray t (0, 0))) (hi : (P.info? ty).map (·.size) = some vs.length) (hl : L.length = vs.length) (h1 : ∀ v ∈ vs, v.oneCell' = true)
    (h : ∀ w', w'.heap[b]? = some (.cells vs.toArray t (0, 0)) → Turned b w w' → wpList P ops Q rest (a.put o.dst undef) w') : wpList P ops Q (o :: rest) a w :=
  wpList_store_at hgd ty x y ho b 0 vs hx hy t L hb hi (by omega) h1 fun w' hr ht => h w' (by rw [hr, Nat.zero_add, List.drop_of_length_le (Nat.le_of_eq hl)]; simp) ht
end Go.Proofs.YtpifbahafnaejaaGreatDoor
