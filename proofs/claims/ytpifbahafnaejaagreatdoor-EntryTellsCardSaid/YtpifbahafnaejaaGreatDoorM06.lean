/- Entries of the document: EntryError whole; EntryText. Entries of the document: EntryText at entries of pieces, and whole. Printed by gen/rentt.py. Entries: Check, whole. Entries' words: entry.readGoods. -/
import Derived.Test.YtpifbahafnaejaaGreatDoorM04
import Derived.Test.YtpifbahafnaejaaGreatDoorM05
namespace Go.Proofs.YtpifbahafnaejaaGreatDoor
open Go.RowKit Go.Sort Go.Proofs

/-- An entry whose texts are short. -/
def ShortE (x : EntV) : Prop := x.2.1.1.length ≤ 1000000 ∧ x.2.2.1.1.length ≤ 1000000 ∧ x.2.2.1.2.1.length ≤ 1000000 ∧ x.2.2.2.1.1.length ≤ 1000000 ∧ x.2.2.2.2.1.1.length ≤ 1000000
theorem refEntE_any (x : EntV) (w : World) (hs : ShortE x) :
    Calls Tryz.prog 10 #[.agg (encEnt x).toArray] w fun e w' => e = .returned (.int .i64 (entE x : Nat)) ∧ Below w.heap.size w w' := by
  obtain ⟨h1, h2, h3, h4, h5⟩ := hs
  by_cases k1 : x.1 = kGoods
  · exact refEntE_goods x w k1 (by omega)
  by_cases k2 : x.1 = kLot
  · exact refEntE_lot x w k2 ⟨by omega, by omega⟩
  cases k3 : isP x.1 with
  | true =>
    have e : entE x = piecesE x := by unfold entE; rw [if_neg k1, if_neg k2, if_pos k3]
    rw [e]
    exact refEntE_pieces x w k1 k2 k3 (by omega) (by omega) (by omega)
  | false =>
    have e : entE x = 4 := by unfold entE; rw [if_neg k1, if_neg k2, if_neg (by rw [k3]; simp)]
    rw [e]
    exact refEntE_none x w (by unfold isKB; rw [decide_eq_false k1, decide_eq_false k2, k3]; rfl)

/-- A value of an entry with no error is short. -/
theorem EB1.new (w : World) (x : EntV) : (w.alloc (.cells (encEnt x).toArray 29)).heap[w.heap.size]? = some (.cells (encEnt x).toArray 29 (0, 0)) := heap_alloc_new _ _
theorem cells14_row {W : World} {b : Nat} {x : EntV} (h : W.heap[b]? = some (.cells (encEnt x).toArray 29 (0, 0))) : Cells14 W b x := fun i v hv => by
  rw [cell_of_row _ _ _ _ _ _ h]
  simpa using hv

set_option maxHeartbeats 1600000 in
set_option maxRecDepth 100000 in
theorem refEntT_err (x : EntV) (w : World) (hs : ShortE x) (he : entE x ≠ 0) :
    Calls Tryz.prog 12 #[.agg (encEnt x).toArray] w fun e w' => e = .returned (.string ⟨(entText x).toArray⟩) ∧ Below w.heap.size w w' := by
  have HT := Lib.hid (show entText x = [] by unfold entText; rw [if_pos he])
  have HE := Lib.hid (fun W => refEntE_any x W hs)
  have hpos : 0 < (entE x : Int) := by omega
  generalize entE x = k at HE hpos
  have b0 := Lib.hid (below_one w (.cells (encEnt x).toArray 29))
  have l0 := Lies.row _ (EB1.new w x)
  generalize entText x = T at HT ⊢
  have hl : (encEnt x).length = 14 := rfl
  generalize encEnt x = L at *
  go_enter Tryz.func12, Tryz.ntmps12
  go_wp2_with (refine wpList_load_at rfl 29 (.tmp 1) rfl w.heap.size 0 rfl L l0 _ Tryz.underlying29 rfl (by rw [hl]; kernel_rfl) ?_)
  refine (HE.out _).mono ?_
  rintro e w1 ⟨rfl, bb1⟩
  have B1 := Lib.hid (b0.out.trans (bb1.mono b0.out.size))
  clear bb1 l0
  go_wp2_with fail
  go_ret
  rw [HT.out]
  exact ⟨rfl, B1.out⟩

theorem goodsE_zero0 {x : GoodsV} (h : goodsE x = 0) : nameB x.1 = true ∧ 1 ≤ x.2 ∧ x.2 ≤ 1000 := by
  unfold goodsE at h
  split at h
  · cases h
  split at h
  · cases h
  rename_i h3 h4
  unfold wiB at h4
  simp only [decide_eq_false_iff_not, Decidable.not_not] at h4
  exact ⟨by simpa using h3, h4⟩
set_option maxHeartbeats 1600000 in
set_option maxRecDepth 100000 in
theorem refEntT_goods (x : EntV) (w : World) (hs : ShortE x) (hk : x.1 = kGoods) (he : entE x = 0) :
    Calls Tryz.prog 12 #[.agg (encEnt x).toArray] w fun e w' => e = .returned (.string ⟨(entText x).toArray⟩) ∧ Below w.heap.size w w' := by
  have hg : goodsE x.2.1 = 0 := by
    have h := he
    unfold entE at h
    rw [if_pos hk] at h
    split at h
    · rename_i h1; exact absurd h h1
    · rename_i h1; omega
  obtain ⟨x1, x2, x3⟩ := goodsE_zero0 hg
  have l1 := (nameB_len x1).2
  have HTX := Lib.hid (show entText x = [103, 111, 111, 100, 115, 32] ++ x.2.1.1 ++ [32] ++ Lib.itoa x.2.1.2 by unfold entText; rw [if_neg (by simpa using he), if_pos hk]; rfl)
  have HE := Lib.hid (fun W => refEntE_any x W hs)
  rw [he] at HE
  have b0 := Lib.hid (below_one w (.cells (encEnt x).toArray 29))
  have l0 := Lies.row _ (EB1.new w x)
  have ho := Lib.hid (EB1.new w x)
  obtain ⟨v, hv⟩ : ∃ v : Nat, x.2.1.2 = (v : Int) := ⟨x.2.1.2.toNat, by omega⟩
  rw [hv] at HTX x2 x3
  have n3 := Lib.itoa_length_le (v : Int) (by omega) (by omega)
  have HD := Lib.hid (fun W => decimal_nat v (by omega) W)
  generalize entText x = T at HTX ⊢
  have HV := Lib.hid hv
  have HKK := Lib.hid hk
  clear hv hk he hg hs x1 x2 x3
  have hl : (encEnt x).length = 14 := rfl
  obtain ⟨L, hLL⟩ : ∃ L, L = encEnt x := ⟨_, rfl⟩
  have HLL := Lib.hid hLL
  rw [← hLL] at HE b0 l0 hl ⊢
  clear hLL
  go_enter Tryz.func12, Tryz.ntmps12
  go_wp2_with (refine wpList_load_at rfl 29 (.tmp 1) rfl w.heap.size 0 rfl L l0 _ Tryz.underlying29 rfl (by rw [hl]; kernel_rfl) ?_)
  refine (HE.out _).mono ?_
  rintro e w1 ⟨rfl, bb1⟩
  have b1 := b0.out.trans (bb1.mono b0.out.size)
  have ho1 := ho.out
  rw [← HLL.out] at ho1
  have ho2 := (bb1.block _ (row_lt ho1)).trans ho1
  have lw := row_lt ho2
  rw [HLL.out] at ho2
  have C := cells14_row ho2
  have c0 := C 0 _ rfl
  have c1 := C 1 _ rfl
  have c2 := C 2 _ rfl
  rw [HKK.out] at c0
  rw [HV.out] at c2
  simp only [kGoods] at c0
  clear bb1 l0 C ho1 ho2 HE
  obtain ⟨k, ⟨g1, g2⟩, l, f, t, n⟩ := x
  simp only at c1 c2 l1 HTX
  go_wp2_with fail
  have hd : Below w.heap.size w w1.drew := b1.drew
  have s1 : (⟨g1.toArray⟩ : ByteArray).size = g1.length := by simp [ByteArray.size]
  have v1 : ¬ 9223372036854775807 < 6 + g1.length := by omega
  have v2 : ¬ 9223372036854775807 < 6 + g1.length + 1 := by omega
  have v3 : ¬ 9223372036854775807 < 6 + g1.length + 1 + (Lib.itoa (v : Int)).length := by omega
  go_region_held3 (fun w' => w'.cell? ⟨w.heap.size, 1, none⟩ = some (.string ⟨g1.toArray⟩) ∧ w'.cell? ⟨w.heap.size, 2, none⟩ = some (.int .i64 (v : Int)) ∧ Below w.heap.size w w')
    (first | exact ⟨c1, c2, hd⟩ | exact ⟨(q3.cell lw).trans c1, (q3.cell lw).trans c2, b3⟩ | go_keep)
    (first
      | (go_at_call_of 37 (Value.int .i64 (v : Int)); refine (HD.out _).mono ?_; rintro e w3 ⟨rfl, bb3⟩; have q3 : Below w1.heap.size w1 w3 := (Below.refl w1.heap.size w1).drew.trans bb3; have b3 := b1.trans (q3.mono b1.size)))
  all_goals
    have B4 := Lib.hid b3
    clear q3 b3 bb3 hd b1 c0 c1 c2
    go_wp2_with fail
    go_ret
    refine ⟨?_, B4.out⟩
    rw [HTX.out]
    show Ending.returned (.string ((⟨#[103, 111, 111, 100, 115, 32]⟩ : ByteArray) ++ (⟨g1.toArray⟩ : ByteArray) ++ (⟨#[32]⟩ : ByteArray) ++ (⟨(Lib.itoa (v : Int)).toArray⟩ : ByteArray))) = _
    rw [show (⟨#[32]⟩ : ByteArray) = ⟨[32].toArray⟩ from rfl, show (⟨#[103, 111, 111, 100, 115, 32]⟩ : ByteArray) = ⟨[103, 111, 111, 100, 115, 32].toArray⟩ from rfl, mk_app, mk_app, mk_app]

set_option maxHeartbeats 1600000 in
set_option maxRecDepth 100000 in
theorem refEntT_lot (x : EntV) (w : World) (hs : ShortE x) (hk : x.1 = kLot) (he : entE x = 0) :
    Calls Tryz.prog 12 #[.agg (encEnt x).toArray] w fun e w' => e = .returned (.string ⟨(entText x).toArray⟩) ∧ Below w.heap.size w w' := by
  have hg : lotE x.2.2.1 = 0 := by
    have h := he
    unfold entE at h
    rw [if_neg (by rw [hk]; decide), if_pos hk] at h
    split at h
    · rename_i h1; exact absurd h h1
    · rename_i h1; omega
  obtain ⟨x1, x2, x3, x4, x5, x6⟩ := lotE_zero hg
  have l1 := (nameB_len x1).2
  have l2 := (nameB_len x2).2
  have n3 := Lib.itoa_length_le x.2.2.1.2.2.1 (by omega) (by omega)
  have n4 := Lib.itoa_length_le x.2.2.1.2.2.2 (by omega) (by omega)
  have hlen : (lotText x.2.2.1).length ≤ 1000 := by
    unfold lotText
    rw [if_pos hg]
    simp only [List.length_append, List.length_cons, List.length_nil]
    omega
  have HTX := Lib.hid (show entText x = [108, 111, 116, 32] ++ lotText x.2.2.1 by unfold entText; rw [if_neg (by simpa using he), if_neg (by rw [hk]; decide), if_pos hk]; rfl)
  have HE := Lib.hid (fun W => refEntE_any x W hs)
  rw [he] at HE
  have HLT := Lib.hid (fun W => refLotText_any x.2.2.1 (by omega) (by omega) W)
  generalize lotText x.2.2.1 = LT at HTX HLT hlen
  have b0 := Lib.hid (below_one w (.cells (encEnt x).toArray 29))
  have l0 := Lies.row _ (EB1.new w x)
  have ho := Lib.hid (EB1.new w x)
  generalize entText x = T at HTX ⊢
  have HKK := Lib.hid hk
  clear hk he hg hs x1 x2 x3 x4 x5 x6 l1 l2 n3 n4
  have hl : (encEnt x).length = 14 := rfl
  obtain ⟨L, hLL⟩ : ∃ L, L = encEnt x := ⟨_, rfl⟩
  have HLL := Lib.hid hLL
  rw [← hLL] at HE b0 l0 hl ⊢
  clear hLL
  go_enter Tryz.func12, Tryz.ntmps12
  go_wp2_with (refine wpList_load_at rfl 29 (.tmp 1) rfl w.heap.size 0 rfl L l0 _ Tryz.underlying29 rfl (by rw [hl]; kernel_rfl) ?_)
  refine (HE.out _).mono ?_
  rintro e w1 ⟨rfl, bb1⟩
  have b1 := Lib.hid (b0.out.trans (bb1.mono b0.out.size))
  have ho1 := ho.out
  rw [← HLL.out] at ho1
  have ho2 := (bb1.block _ (row_lt ho1)).trans ho1
  rw [HLL.out] at ho2
  have C := cells14_row ho2
  have c0 := C 0 _ rfl
  rw [HKK.out] at c0
  simp only [kLot] at c0
  have ll : Lies w1 w.heap.size 3 (encLot x.2.2.1) := Lies.sub _ ho2 3 _ fun j v hv => by
    match j, hv with
    | 0, hv => simpa [encLot, encEnt] using hv
    | 1, hv => simpa [encLot, encEnt] using hv
    | 2, hv => simpa [encLot, encEnt] using hv
    | 3, hv => simpa [encLot, encEnt] using hv
  clear bb1 l0 C ho1 ho2 HE
  go_wp2_with (refine wpList_load_at rfl 25 (.tmp 25) rfl w.heap.size 3 rfl (encLot x.2.2.1) ll _ Tryz.underlying25 rfl (by kernel_rfl) ?_)
  refine (HLT.out _).mono ?_
  rintro e w2 ⟨rfl, bb2⟩
  have B2 := Lib.hid (b1.out.trans (bb2.mono b1.out.size))
  clear bb2 ll c0
  have v1 : ¬ 9223372036854775807 < 4 + LT.length := by omega
  go_wp2_with fail
  go_ret
  refine ⟨?_, B2.out⟩
  rw [HTX.out]
  show Ending.returned (.string ((⟨#[108, 111, 116, 32]⟩ : ByteArray) ++ (⟨LT.toArray⟩ : ByteArray))) = _
  rw [show (⟨#[108, 111, 116, 32]⟩ : ByteArray) = ⟨[108, 111, 116, 32].toArray⟩ from rfl, mk_app]
end Go.Proofs.YtpifbahafnaejaaGreatDoor
namespace Go.Proofs.YtpifbahafnaejaaGreatDoor
open Go.RowKit Go.Sort Go.Proofs

theorem isP_short {k : List UInt8} (h : isP k = true) : k.length ≤ 4 := by
  unfold isP at h
  simp only [decide_eq_true_eq] at h
  rcases h with rfl | rfl | rfl | rfl | rfl | rfl | rfl <;> decide
theorem ent_kind0 {x : EntV} (h : entE x = 0) : x.1 = kGoods ∨ x.1 = kLot ∨ (x.1 ≠ kGoods ∧ x.1 ≠ kLot ∧ isP x.1 = true) := by
  by_cases h1 : x.1 = kGoods
  · exact .inl h1
  by_cases h2 : x.1 = kLot
  · exact .inr (.inl h2)
  refine .inr (.inr ⟨h1, h2, ?_⟩)
  unfold entE at h
  rw [if_neg h1, if_neg h2] at h
  split at h
  · rename_i h3; exact h3
  · cases h
theorem placeText_100 {p : PlaceV} (h : placeE p = 0) : (placeText p).length ≤ 100 := by
  obtain ⟨x1, x2, x3, x4, x5⟩ := placeE_zero.1 h
  have l1 := (nameB_len x1).2
  have n3 := Lib.itoa_length_le p.2.1 (by omega) (by omega)
  have n4 := Lib.itoa_length_le p.2.2 (by omega) (by omega)
  unfold placeText
  rw [if_pos h]
  simp only [List.length_append, List.length_cons, List.length_nil]
  omega

set_option maxHeartbeats 3200000 in
set_option maxRecDepth 100000 in
theorem refEntT_pieces (x : EntV) (w : World) (hs : ShortE x) (hk1 : x.1 ≠ kGoods) (hk2 : x.1 ≠ kLot) (hk3 : isP x.1 = true) (he : entE x = 0) :
    Calls Tryz.prog 12 #[.agg (encEnt x).toArray] w fun e w' => e = .returned (.string ⟨(entText x).toArray⟩) ∧ Below w.heap.size w w' := by
  have hp : piecesE x = 0 := by
    have h := he
    unfold entE at h
    rw [if_neg hk1, if_neg hk2, if_pos hk3] at h
    exact h
  obtain ⟨x1, x2, x3, x4, x5, -⟩ := pieces_zero hp
  have lk := isP_short hk3
  have l1 := (nameB_len x1).2
  have hid : Hid (∀ b, hasF x.1 = b → (b = true → (placeText x.2.2.2.1).length ≤ 100)) := fun b hb h => placeText_100 (x2 (hb.trans h))
  have hit : Hid (∀ b, hasT x.1 = b → (b = true → (placeText x.2.2.2.2.1).length ≤ 100)) := fun b hb h => placeText_100 (x3 (hb.trans h))
  have HTX := Lib.hid (show entText x = joinL 32 ([x.1, x.2.2.1.1] ++ (if hasF x.1 then [placeText x.2.2.2.1] else []) ++ (if hasT x.1 then [placeText x.2.2.2.2.1] else []) ++ [Lib.itoa x.2.2.2.2.2]) by unfold entText; rw [if_neg (by simpa using he), if_neg hk1, if_neg hk2]; rfl)
  have HE := Lib.hid (fun W => refEntE_any x W hs)
  rw [he] at HE
  have HF := Lib.hid (fun W => hasFrom_any x.1 W)
  have HT := Lib.hid (fun W => hasTo_any x.1 W)
  have HPF := Lib.hid (fun W => refPlaceText_any x.2.2.2.1 (by have := hs.2.2.2.1; omega) W)
  have HPT := Lib.hid (fun W => refPlaceText_any x.2.2.2.2.1 (by have := hs.2.2.2.2; omega) W)
  have b0 := Lib.hid (below_one w (.cells (encEnt x).toArray 29))
  have l0 := Lies.row _ (EB1.new w x)
  have ho := Lib.hid (EB1.new w x)
  have hkg : (x.1 == [103, 111, 111, 100, 115]) = false := beq_eq_false_iff_ne.2 hk1
  have hkl : (x.1 == [108, 111, 116]) = false := beq_eq_false_iff_ne.2 hk2
  obtain ⟨v, hv⟩ : ∃ v : Nat, x.2.2.2.2.2 = (v : Int) := ⟨x.2.2.2.2.2.toNat, by omega⟩
  rw [hv] at HTX x4 x5
  have n3 := Lib.itoa_length_le (v : Int) (by omega) (by omega)
  have HD := Lib.hid (fun W => decimal_nat v (by omega) W)
  generalize entText x = T at HTX ⊢
  have HV := Lib.hid hv
  obtain ⟨bF, hbF⟩ : ∃ b, b = hasF x.1 := ⟨_, rfl⟩
  obtain ⟨bT, hbT⟩ : ∃ b, b = hasT x.1 := ⟨_, rfl⟩
  have HLF := Lib.hid (hid.out bF hbF.symm)
  have HLT := Lib.hid (hit.out bT hbT.symm)
  rw [← hbF] at HTX HF
  rw [← hbT] at HTX HT
  generalize placeText x.2.2.2.1 = PF at HPF HLF HTX
  generalize placeText x.2.2.2.2.1 = PT at HPT HLT HTX
  clear hv hk1 hk2 hk3 he hs x1 x2 x3 hp hid hit hbF hbT
  have hl : (encEnt x).length = 14 := rfl
  obtain ⟨L, hLL⟩ : ∃ L, L = encEnt x := ⟨_, rfl⟩
  have HLL := Lib.hid hLL
  rw [← hLL] at HE b0 l0 hl ⊢
  clear hLL
  go_enter Tryz.func12, Tryz.ntmps12
  go_wp2_with (refine wpList_load_at rfl 29 (.tmp 1) rfl w.heap.size 0 rfl L l0 _ Tryz.underlying29 rfl (by rw [hl]; kernel_rfl) ?_)
  refine (HE.out _).mono ?_
  rintro e w1 ⟨rfl, bb1⟩
  have b1 := Lib.hid (b0.out.trans (bb1.mono b0.out.size))
  have ho1 := ho.out
  rw [← HLL.out] at ho1
  have HO := Lib.hid ((bb1.block _ (row_lt ho1)).trans ho1)
  rw [HLL.out] at HO
  have C := cells14_row HO.out
  have c0 := C 0 _ rfl
  have c3 := C 3 _ rfl
  clear bb1 l0 C ho1 HE ho
  have s1 : (⟨x.1.toArray⟩ : ByteArray).size = x.1.length := by simp [ByteArray.size]
  have s2 : (⟨x.2.2.1.1.toArray⟩ : ByteArray).size = x.2.2.1.1.length := by simp [ByteArray.size]
  have v1 : ¬ 9223372036854775807 < x.1.length + 1 := by omega
  have v2 : ¬ 9223372036854775807 < x.1.length + 1 + x.2.2.1.1.length := by omega
  go_wp2_with fail
  refine (HF.out _).mono ?_
  rintro e w2 ⟨rfl, rfl⟩
  go_wp2_with fail
  refine (HT.out _).mono ?_
  rintro e w2 ⟨rfl, rfl⟩
  cases bF with
  | false =>
    cases bT with
    | false =>
      clear c0 c3
      have c13 := (cells14_row HO.out) 13 _ rfl
      rw [HV.out] at c13
      go_wp2_with fail
      refine (HD.out _).mono ?_
      rintro e w5 ⟨rfl, bb5⟩
      have B5 := Lib.hid (b1.out.trans (bb5.mono b1.out.size))
      clear bb5 c13
      have v3 : ¬ 9223372036854775807 < x.1.length + 1 + x.2.2.1.1.length + 1 := by omega
      have v4 : ¬ 9223372036854775807 < x.1.length + 1 + x.2.2.1.1.length + 1 + (Lib.itoa (v : Int)).length := by omega
      go_wp2_with fail
      go_ret
      refine ⟨?_, B5.out⟩
      rw [HTX.out]
      show Ending.returned (.string ((⟨(x.1).toArray⟩ : ByteArray) ++ (⟨#[32]⟩ : ByteArray) ++ (⟨(x.2.2.1.1).toArray⟩ : ByteArray) ++ (⟨#[32]⟩ : ByteArray) ++ (⟨((Lib.itoa (v : Int))).toArray⟩ : ByteArray))) = _
      rw [show (⟨#[32]⟩ : ByteArray) = ⟨[32].toArray⟩ from rfl, mk_app, mk_app, mk_app, mk_app]
      simp [joinL]
    | true =>
      clear c0 c3
      have hlPT := HLT.out rfl
      have l0 : Lies w1 w.heap.size 10 (encPlace x.2.2.2.2.1) := Lies.sub _ HO.out 10 _ fun j v hv => by
        match j, hv with
        | 0, hv => simpa [encPlace, encEnt] using hv
        | 1, hv => simpa [encPlace, encEnt] using hv
        | 2, hv => simpa [encPlace, encEnt] using hv
      go_wp2_with (refine wpList_load_at rfl 27 (.tmp 52) rfl w.heap.size 10 rfl (encPlace x.2.2.2.2.1) l0 _ Tryz.underlying27 rfl (by kernel_rfl) ?_)
      refine (HPT.out _).mono ?_
      rintro e w2 ⟨rfl, bb2⟩
      have BPT := Lib.hid (b1.out.trans (bb2.mono b1.out.size))
      have HO := Lib.hid ((bb2.block _ (row_lt HO.out)).trans HO.out)
      clear bb2 l0
      have uPT1 : ¬ 9223372036854775807 < x.1.length + 1 + x.2.2.1.1.length + 1 := by omega
      have uPT2 : ¬ 9223372036854775807 < x.1.length + 1 + x.2.2.1.1.length + 1 + PT.length := by omega
      have c13 := (cells14_row HO.out) 13 _ rfl
      rw [HV.out] at c13
      go_wp2_with fail
      refine (HD.out _).mono ?_
      rintro e w5 ⟨rfl, bb5⟩
      have B5 := Lib.hid (BPT.out.trans (bb5.mono BPT.out.size))
      clear bb5 c13
      have v3 : ¬ 9223372036854775807 < x.1.length + 1 + x.2.2.1.1.length + 1 + PT.length + 1 := by omega
      have v4 : ¬ 9223372036854775807 < x.1.length + 1 + x.2.2.1.1.length + 1 + PT.length + 1 + (Lib.itoa (v : Int)).length := by omega
      go_wp2_with fail
      go_ret
      refine ⟨?_, B5.out⟩
      rw [HTX.out]
      show Ending.returned (.string ((⟨(x.1).toArray⟩ : ByteArray) ++ (⟨#[32]⟩ : ByteArray) ++ (⟨(x.2.2.1.1).toArray⟩ : ByteArray) ++ (⟨#[32]⟩ : ByteArray) ++ (⟨(PT).toArray⟩ : ByteArray) ++ (⟨#[32]⟩ : ByteArray) ++ (⟨((Lib.itoa (v : Int))).toArray⟩ : ByteArray))) = _
      rw [show (⟨#[32]⟩ : ByteArray) = ⟨[32].toArray⟩ from rfl, mk_app, mk_app, mk_app, mk_app, mk_app, mk_app]
      simp [joinL]
  | true =>
    cases bT with
    | false =>
      clear c0 c3
      have hlPF := HLF.out rfl
      have l0 : Lies w1 w.heap.size 7 (encPlace x.2.2.2.1) := Lies.sub _ HO.out 7 _ fun j v hv => by
        match j, hv with
        | 0, hv => simpa [encPlace, encEnt] using hv
        | 1, hv => simpa [encPlace, encEnt] using hv
        | 2, hv => simpa [encPlace, encEnt] using hv
      go_wp2_with (refine wpList_load_at rfl 27 (.tmp 45) rfl w.heap.size 7 rfl (encPlace x.2.2.2.1) l0 _ Tryz.underlying27 rfl (by kernel_rfl) ?_)
      refine (HPF.out _).mono ?_
      rintro e w2 ⟨rfl, bb2⟩
      have BPF := Lib.hid (b1.out.trans (bb2.mono b1.out.size))
      have HO := Lib.hid ((bb2.block _ (row_lt HO.out)).trans HO.out)
      clear bb2 l0
      have uPF1 : ¬ 9223372036854775807 < x.1.length + 1 + x.2.2.1.1.length + 1 := by omega
      have uPF2 : ¬ 9223372036854775807 < x.1.length + 1 + x.2.2.1.1.length + 1 + PF.length := by omega
      have c13 := (cells14_row HO.out) 13 _ rfl
      rw [HV.out] at c13
      go_wp2_with fail
      refine (HD.out _).mono ?_
      rintro e w5 ⟨rfl, bb5⟩
      have B5 := Lib.hid (BPF.out.trans (bb5.mono BPF.out.size))
      clear bb5 c13
      have v3 : ¬ 9223372036854775807 < x.1.length + 1 + x.2.2.1.1.length + 1 + PF.length + 1 := by omega
      have v4 : ¬ 9223372036854775807 < x.1.length + 1 + x.2.2.1.1.length + 1 + PF.length + 1 + (Lib.itoa (v : Int)).length := by omega
      go_wp2_with fail
      go_ret
      refine ⟨?_, B5.out⟩
      rw [HTX.out]
      show Ending.returned (.string ((⟨(x.1).toArray⟩ : ByteArray) ++ (⟨#[32]⟩ : ByteArray) ++ (⟨(x.2.2.1.1).toArray⟩ : ByteArray) ++ (⟨#[32]⟩ : ByteArray) ++ (⟨(PF).toArray⟩ : ByteArray) ++ (⟨#[32]⟩ : ByteArray) ++ (⟨((Lib.itoa (v : Int))).toArray⟩ : ByteArray))) = _
      rw [show (⟨#[32]⟩ : ByteArray) = ⟨[32].toArray⟩ from rfl, mk_app, mk_app, mk_app, mk_app, mk_app, mk_app]
      simp [joinL]
    | true =>
      clear c0 c3
      have hlPF := HLF.out rfl
      have hlPT := HLT.out rfl
      have l0 : Lies w1 w.heap.size 7 (encPlace x.2.2.2.1) := Lies.sub _ HO.out 7 _ fun j v hv => by
        match j, hv with
        | 0, hv => simpa [encPlace, encEnt] using hv
        | 1, hv => simpa [encPlace, encEnt] using hv
        | 2, hv => simpa [encPlace, encEnt] using hv
      go_wp2_with (refine wpList_load_at rfl 27 (.tmp 45) rfl w.heap.size 7 rfl (encPlace x.2.2.2.1) l0 _ Tryz.underlying27 rfl (by kernel_rfl) ?_)
      refine (HPF.out _).mono ?_
      rintro e w2 ⟨rfl, bb2⟩
      have BPF := Lib.hid (b1.out.trans (bb2.mono b1.out.size))
      have HO := Lib.hid ((bb2.block _ (row_lt HO.out)).trans HO.out)
      clear bb2 l0
      have uPF1 : ¬ 9223372036854775807 < x.1.length + 1 + x.2.2.1.1.length + 1 := by omega
      have uPF2 : ¬ 9223372036854775807 < x.1.length + 1 + x.2.2.1.1.length + 1 + PF.length := by omega
      have l0 : Lies w2 w.heap.size 10 (encPlace x.2.2.2.2.1) := Lies.sub _ HO.out 10 _ fun j v hv => by
        match j, hv with
        | 0, hv => simpa [encPlace, encEnt] using hv
        | 1, hv => simpa [encPlace, encEnt] using hv
        | 2, hv => simpa [encPlace, encEnt] using hv
      go_wp2_with (refine wpList_load_at rfl 27 (.tmp 52) rfl w.heap.size 10 rfl (encPlace x.2.2.2.2.1) l0 _ Tryz.underlying27 rfl (by kernel_rfl) ?_)
      refine (HPT.out _).mono ?_
      rintro e w3 ⟨rfl, bb2⟩
      have BPT := Lib.hid (BPF.out.trans (bb2.mono BPF.out.size))
      have HO := Lib.hid ((bb2.block _ (row_lt HO.out)).trans HO.out)
      clear bb2 l0
      have uPT1 : ¬ 9223372036854775807 < x.1.length + 1 + x.2.2.1.1.length + 1 + PF.length + 1 := by omega
      have uPT2 : ¬ 9223372036854775807 < x.1.length + 1 + x.2.2.1.1.length + 1 + PF.length + 1 + PT.length := by omega
      have c13 := (cells14_row HO.out) 13 _ rfl
      rw [HV.out] at c13
      go_wp2_with fail
      refine (HD.out _).mono ?_
      rintro e w5 ⟨rfl, bb5⟩
      have B5 := Lib.hid (BPT.out.trans (bb5.mono BPT.out.size))
      clear bb5 c13
      have v3 : ¬ 9223372036854775807 < x.1.length + 1 + x.2.2.1.1.length + 1 + PF.length + 1 + PT.length + 1 := by omega
      have v4 : ¬ 9223372036854775807 < x.1.length + 1 + x.2.2.1.1.length + 1 + PF.length + 1 + PT.length + 1 + (Lib.itoa (v : Int)).length := by omega
      go_wp2_with fail
      go_ret
      refine ⟨?_, B5.out⟩
      rw [HTX.out]
      show Ending.returned (.string ((⟨(x.1).toArray⟩ : ByteArray) ++ (⟨#[32]⟩ : ByteArray) ++ (⟨(x.2.2.1.1).toArray⟩ : ByteArray) ++ (⟨#[32]⟩ : ByteArray) ++ (⟨(PF).toArray⟩ : ByteArray) ++ (⟨#[32]⟩ : ByteArray) ++ (⟨(PT).toArray⟩ : ByteArray) ++ (⟨#[32]⟩ : ByteArray) ++ (⟨((Lib.itoa (v : Int))).toArray⟩ : ByteArray))) = _
      rw [show (⟨#[32]⟩ : ByteArray) = ⟨[32].toArray⟩ from rfl, mk_app, mk_app, mk_app, mk_app, mk_app, mk_app, mk_app, mk_app]
      simp [joinL]

theorem refEntT_any (x : EntV) (w : World) (hs : ShortE x) :
    Calls Tryz.prog 12 #[.agg (encEnt x).toArray] w fun e w' => e = .returned (.string ⟨(entText x).toArray⟩) ∧ Below w.heap.size w w' := by
  by_cases he : entE x = 0
  · rcases ent_kind0 he with h | h | ⟨h1, h2, h3⟩
    · exact refEntT_goods x w hs h he
    · exact refEntT_lot x w hs h he
    · exact refEntT_pieces x w hs h1 h2 h3 he
  · exact refEntT_err x w hs he
end Go.Proofs.YtpifbahafnaejaaGreatDoor
namespace Go.Proofs.YtpifbahafnaejaaGreatDoor
open Go.RowKit Go.Sort Go.Proofs

theorem entE_pieces {x : EntV} (h : isP x.1 = true) : entE x = piecesE x := by
  obtain ⟨-, h2, h3⟩ := isP_kind h
  unfold entE
  rw [if_neg h2, if_neg h3, if_pos h]
theorem entE_kind {x : EntV} (h1 : x.1 ≠ kGoods) (h2 : x.1 ≠ kLot) (h : isP x.1 = false) : entE x = 4 := by
  unfold entE
  rw [if_neg h1, if_neg h2, if_neg (by simp [h])]

theorem ent_step {W w2 : World} {eb : Nat} {row : Array Value} {t : TypeId} (hb : Below W.drew.heap.size W.drew w2) (x : EntV) (hc : Cells14 W eb x) (hf : W.heap[eb + 1]? = some (.cells row t (0, 0))) :
    Cells14 w2 eb x ∧ w2.heap[eb + 1]? = some (.cells row t (0, 0)) :=
  ⟨Cells14.below (w := W.drew) hc hb, (hb.block _ (show eb + 1 < W.heap.size from row_lt hf)).trans hf⟩
theorem row_cells {W : World} {b : Nat} {row : Array Value} {t : TypeId} (hf : W.heap[b]? = some (.cells row t (0, 0))) (i : Nat) (v : Value) (hv : row[i]? = some v) : W.cell? ⟨b, i, none⟩ = some v ∧ W.frozen? ⟨b, i, none⟩ = false :=
  ⟨(cell_of_row _ _ _ _ _ _ hf).trans hv, frozen_of_row _ _ _ _ _ hf⟩

theorem want_goods {W : World} {eb : Nat} {x : EntV} {k : List UInt8} {g1 : List UInt8} {g2 : Int} (hc : Cells14 W eb x)
    (hf : W.heap[eb + 1]? = some (.cells #[.string ⟨k.toArray⟩, .string ⟨#[]⟩, .int .i64 0, .string ⟨#[]⟩, .string ⟨#[]⟩, .int .i64 0, .int .i64 0, .string ⟨#[]⟩, .int .i64 0, .int .i64 0, .string ⟨#[]⟩, .int .i64 0, .int .i64 0, .int .i64 0] 29 (0, 0))) :
    Cells14 ((W.setCell ⟨eb + 1, 1, none⟩ (.string ⟨g1.toArray⟩)).setCell ⟨eb + 1, 2, none⟩ (.int .i64 g2)) eb x ∧
    Cells14 ((W.setCell ⟨eb + 1, 1, none⟩ (.string ⟨g1.toArray⟩)).setCell ⟨eb + 1, 2, none⟩ (.int .i64 g2)) (eb + 1) (k, (g1, g2), ([], [], 0, 0), ([], 0, 0), ([], 0, 0), 0) := by
  have h1 := heap_setCell_same W (eb + 1) 1 _ _ (.string ⟨g1.toArray⟩) hf
  have h2 := heap_setCell_same _ (eb + 1) 2 _ _ (.int .i64 g2) h1
  constructor
  · intro i v hv
    have := World.cell?_setCells_out (eb + 1) [.string ⟨g1.toArray⟩, .int .i64 g2] 1 W ⟨eb, i, none⟩ (fun h => absurd (show eb = eb + 1 from h) (by omega))
    exact (show _ = _ from this).trans (hc i v hv)
  · intro i v hv
    exact (cell_of_row _ _ _ _ _ _ h2).trans (by simpa [encEnt] using hv)
theorem want_lot {W : World} {eb : Nat} {x : EntV} {k : List UInt8} {l1 l2 : List UInt8} {l3 l4 : Int} (hc : Cells14 W eb x)
    (hf : W.heap[eb + 1]? = some (.cells #[.string ⟨k.toArray⟩, .string ⟨#[]⟩, .int .i64 0, .string ⟨#[]⟩, .string ⟨#[]⟩, .int .i64 0, .int .i64 0, .string ⟨#[]⟩, .int .i64 0, .int .i64 0, .string ⟨#[]⟩, .int .i64 0, .int .i64 0, .int .i64 0] 29 (0, 0))) :
    Cells14 ((((W.setCell ⟨eb + 1, 3, none⟩ (.string ⟨l1.toArray⟩)).setCell ⟨eb + 1, 4, none⟩ (.string ⟨l2.toArray⟩)).setCell ⟨eb + 1, 5, none⟩ (.int .i64 l3)).setCell ⟨eb + 1, 6, none⟩ (.int .i64 l4)) eb x ∧
    Cells14 ((((W.setCell ⟨eb + 1, 3, none⟩ (.string ⟨l1.toArray⟩)).setCell ⟨eb + 1, 4, none⟩ (.string ⟨l2.toArray⟩)).setCell ⟨eb + 1, 5, none⟩ (.int .i64 l3)).setCell ⟨eb + 1, 6, none⟩ (.int .i64 l4)) (eb + 1) (k, ([], 0), (l1, l2, l3, l4), ([], 0, 0), ([], 0, 0), 0) := by
  have h1 := heap_setCell_same W (eb + 1) 3 _ _ (.string ⟨l1.toArray⟩) hf
  have h2 := heap_setCell_same _ (eb + 1) 4 _ _ (.string ⟨l2.toArray⟩) h1
  have h3 := heap_setCell_same _ (eb + 1) 5 _ _ (.int .i64 l3) h2
  have h4 := heap_setCell_same _ (eb + 1) 6 _ _ (.int .i64 l4) h3
  constructor
  · intro i v hv
    have := World.cell?_setCells_out (eb + 1) [.string ⟨l1.toArray⟩, .string ⟨l2.toArray⟩, .int .i64 l3, .int .i64 l4] 3 W ⟨eb, i, none⟩ (fun h => absurd (show eb = eb + 1 from h) (by omega))
    exact (show _ = _ from this).trans (hc i v hv)
  · intro i v hv
    exact (cell_of_row _ _ _ _ _ _ h4).trans (by simpa [encEnt] using hv)

set_option maxHeartbeats 3200000 in
set_option maxRecDepth 100000 in
theorem checkEnt_any (E : Nat → Addr) (x : EntV) (h1 : x.2.2.1.1.length ≤ 1000000000) (h2 : x.2.2.1.2.1.length ≤ 1000000000) (w : World) (hG : EntG E w) :
    Calls Tryz.prog 9 #[.agg (encEnt x).toArray] w fun e w' => e = .returned (errOf E (entE x)) ∧ Below w.heap.size w w' := by
  have HFO := Lib.hid (fun W => formOf_any x.1 W)
  have HPC := Lib.hid (fun W h => pieces_any E x (isP x.1) W h)
  have HGO := Lib.hid (fun W (h : ReadG E W) => checkGoods_any E x.2.1 W h.name h.bound)
  have HLO := Lib.hid (fun W (h : ReadG E W) => checkLot_any E x.2.2.1 h1 h2 W h.lot)
  have HQ := Lib.hid (fun y W => neqEnt x y W)
  have HEP := Lib.hid (entE_pieces (x := x))
  have HEK := Lib.hid (entE_kind (x := x))
  have HEG : Hid (x.1 = kGoods → entE x = if goodsE x.2.1 ≠ 0 then goodsE x.2.1 else if x ≠ (x.1, x.2.1, zeroLot, zeroPlace, zeroPlace, 0) then 3 else 0) := fun h => by unfold entE; rw [if_pos h]
  have HEL : Hid (x.1 = kLot → entE x = if lotE x.2.2.1 ≠ 0 then lotE x.2.2.1 else if x ≠ (x.1, zeroGoods, x.2.2.1, zeroPlace, zeroPlace, 0) then 3 else 0) := fun h => by unfold entE; rw [if_neg (by rw [h]; decide), if_pos h]
  have HG := Lib.hid (fun W (h : Below w.heap.size w W) => hG.below h)
  have b0 := below_one w (.cells (encEnt x).toArray 29)
  have hc := Cells14.new w x
  obtain ⟨r, hr⟩ : ∃ r, r = entE x := ⟨_, rfl⟩
  rw [← hr] at HEP HEK HEG HEL ⊢
  clear hr hG h1 h2
  obtain ⟨k, ⟨g1, g2⟩, ⟨l1, l2, l3, l4⟩, ⟨f1, f2, f3⟩, ⟨t1, t2, t3⟩, n⟩ := x
  simp only [encEnt, encGoods, encLot] at HFO HPC HGO HLO HQ HEP HEK HEG HEL b0 hc ⊢
  generalize piecesE (k, (g1, g2), (l1, l2, l3, l4), (f1, f2, f3), (t1, t2, t3), n) = pe at HPC HEP
  generalize hbP : isP k = bP at *
  clear hbP
  go_enter Tryz.func9, Tryz.ntmps9
  go_wp2_with fail
  have hwant : ((w.alloc (.cells #[.string ⟨k.toArray⟩, .string ⟨g1.toArray⟩, .int .i64 g2, .string ⟨l1.toArray⟩, .string ⟨l2.toArray⟩, .int .i64 l3, .int .i64 l4, .string ⟨f1.toArray⟩, .int .i64 f2, .int .i64 f3, .string ⟨t1.toArray⟩, .int .i64 t2, .int .i64 t3, .int .i64 n] 29)).alloc (.cells #[.string ⟨k.toArray⟩, .string ⟨#[]⟩, .int .i64 0, .string ⟨#[]⟩, .string ⟨#[]⟩, .int .i64 0, .int .i64 0, .string ⟨#[]⟩, .int .i64 0, .int .i64 0, .string ⟨#[]⟩, .int .i64 0, .int .i64 0, .int .i64 0] 29)).heap[w.heap.size + 1]? = some (.cells #[.string ⟨k.toArray⟩, .string ⟨#[]⟩, .int .i64 0, .string ⟨#[]⟩, .string ⟨#[]⟩, .int .i64 0, .int .i64 0, .string ⟨#[]⟩, .int .i64 0, .int .i64 0, .string ⟨#[]⟩, .int .i64 0, .int .i64 0, .int .i64 0] 29 (0, 0)) := by
    have := heap_alloc_new (w.alloc (.cells #[.string ⟨k.toArray⟩, .string ⟨g1.toArray⟩, .int .i64 g2, .string ⟨l1.toArray⟩, .string ⟨l2.toArray⟩, .int .i64 l3, .int .i64 l4, .string ⟨f1.toArray⟩, .int .i64 f2, .int .i64 f3, .string ⟨t1.toArray⟩, .int .i64 t2, .int .i64 t3, .int .i64 n] 29)) (.cells #[.string ⟨k.toArray⟩, .string ⟨#[]⟩, .int .i64 0, .string ⟨#[]⟩, .string ⟨#[]⟩, .int .i64 0, .int .i64 0, .string ⟨#[]⟩, .int .i64 0, .int .i64 0, .string ⟨#[]⟩, .int .i64 0, .int .i64 0, .int .i64 0] 29)
    simpa using this
  have hc' := hc.below (below_one _ (.cells #[.string ⟨k.toArray⟩, .string ⟨#[]⟩, .int .i64 0, .string ⟨#[]⟩, .string ⟨#[]⟩, .int .i64 0, .int .i64 0, .string ⟨#[]⟩, .int .i64 0, .int .i64 0, .string ⟨#[]⟩, .int .i64 0, .int .i64 0, .int .i64 0] 29))
  have b0' := b0.alloc b0.size (.cells #[.string ⟨k.toArray⟩, .string ⟨#[]⟩, .int .i64 0, .string ⟨#[]⟩, .string ⟨#[]⟩, .int .i64 0, .int .i64 0, .string ⟨#[]⟩, .int .i64 0, .int .i64 0, .string ⟨#[]⟩, .int .i64 0, .int .i64 0, .int .i64 0] 29)
  generalize ((w.alloc (.cells #[.string ⟨k.toArray⟩, .string ⟨g1.toArray⟩, .int .i64 g2, .string ⟨l1.toArray⟩, .string ⟨l2.toArray⟩, .int .i64 l3, .int .i64 l4, .string ⟨f1.toArray⟩, .int .i64 f2, .int .i64 f3, .string ⟨t1.toArray⟩, .int .i64 t2, .int .i64 t3, .int .i64 n] 29)).alloc (.cells #[.string ⟨k.toArray⟩, .string ⟨#[]⟩, .int .i64 0, .string ⟨#[]⟩, .string ⟨#[]⟩, .int .i64 0, .int .i64 0, .string ⟨#[]⟩, .int .i64 0, .int .i64 0, .string ⟨#[]⟩, .int .i64 0, .int .i64 0, .int .i64 0] 29)) = W0 at hwant hc' b0' ⊢
  clear hc b0
  refine (HFO.out W0).mono ?_
  rintro e w1 ⟨rfl, b1⟩
  have B1 := Lib.hid (b0'.trans (b1.mono b0'.size))
  have bo := below_one w1 (.cells #[.bool (hasF k), .bool (hasT k), .bool bP] 45)
  have C1 := Lib.hid ((hc'.below b1).below bo)
  have f1 := (b1.block _ (row_lt hwant)).trans hwant
  have F1 := Lib.hid ((bo.block _ (row_lt f1)).trans f1)
  have df : (w1.alloc (.cells #[.bool (hasF k), .bool (hasT k), .bool bP] 45)).cell? ⟨w1.heap.size, 0, none⟩ = some (.bool (hasF k)) := cell_of_row _ _ _ _ _ _ (heap_alloc_new _ _)
  have dt : (w1.alloc (.cells #[.bool (hasF k), .bool (hasT k), .bool bP] 45)).cell? ⟨w1.heap.size, 1, none⟩ = some (.bool (hasT k)) := cell_of_row _ _ _ _ _ _ (heap_alloc_new _ _)
  have di : (w1.alloc (.cells #[.bool (hasF k), .bool (hasT k), .bool bP] 45)).cell? ⟨w1.heap.size, 2, none⟩ = some (.bool bP) := cell_of_row _ _ _ _ _ _ (heap_alloc_new _ _)
  have B2 := Lib.hid (B1.out.trans (bo.mono B1.out.size))
  clear bo f1
  clear b1 b0' hc' hwant HFO B1
  obtain ⟨c0, c1, c2, c3, c4, c5, c6, c7, c8, c9, c10, c11, c12, c13⟩ := C1.out.all
  simp only at c0 c1 c2 c3 c4 c5 c6 c7 c8 c9 c10 c11 c12 c13
  rcases Decidable.em (k = kGoods) with hkg | hkg
  · have HKG := Lib.hid hkg
    have hk : (k == [103, 111, 111, 100, 115]) = true := by rw [hkg]; rfl
    clear hkg
    go_wp2_with fail
    go_region_with (go_at_call 27; refine (HGO.out _ (HG.out _ B2.out.drew).read).mono ?_; rintro e w2 ⟨rfl, b2⟩; obtain ⟨C2, F2⟩ := ent_step b2 _ C1.out F1.out; have e1 := C2 1 _ rfl; have e2 := C2 2 _ rfl; obtain ⟨k1, fr1⟩ := row_cells F2 1 _ rfl; obtain ⟨k2, fr2⟩ := row_cells F2 2 _ rfl)
    all_goals
      obtain ⟨C3, N3⟩ := want_goods (g1 := g1) (g2 := g2) C2 F2
      have B3 := Lib.hid (((B2.out.drew.trans (b2.mono B2.out.drew.size)).setCell (p := ⟨w.heap.size + 1, 1, none⟩) (Nat.le_succ _) (.string ⟨g1.toArray⟩)).setCell (p := ⟨w.heap.size + 1, 2, none⟩) (Nat.le_succ _) (.int .i64 g2))
      generalize ((w2.setCell ⟨w.heap.size + 1, 1, none⟩ (.string ⟨g1.toArray⟩)).setCell ⟨w.heap.size + 1, 2, none⟩ (.int .i64 g2)) = W3 at C3 N3 B3 ⊢
      clear C2 F2 b2
      have HER := HEG.out HKG.out
      obtain ⟨c0, c1, c2, c3, c4, c5, c6, c7, c8, c9, c10, c11, c12, c13⟩ := C3.all
      obtain ⟨n0, n1, n2, n3, n4, n5, n6, n7, n8, n9, n10, n11, n12, n13⟩ := N3.all
      simp only at c0 c1 c2 c3 c4 c5 c6 c7 c8 c9 c10 c11 c12 c13 n0 n1 n2 n3 n4 n5 n6 n7 n8 n9 n10 n11 n12 n13
      clear C3 N3
      by_cases h0 : goodsE (g1, g2) = 0
      · rw [h0, errOf_zero]
        have hq := fun W => HQ.out (k, (g1, g2), ([], [], 0, 0), ([], 0, 0), ([], 0, 0), 0) W
        simp only at hq
        have hsh := (HG.out W3 B3.out).shape
        unfold ErrAt at hsh
        by_cases hd : (k, (g1, g2), (l1, l2, l3, l4), (f1, f2, f3), (t1, t2, t3), n) = ((k, (g1, g2), ([], [], 0, 0), ([], 0, 0), ([], 0, 0), 0) : EntV)
        · have HR := Lib.hid (show r = 0 from HER.trans ((if_neg (by simp [h0])).trans (if_neg (fun h => h hd))))
          have hdd : decide ((k, (g1, g2), (l1, l2, l3, l4), (f1, f2, f3), (t1, t2, t3), n) = ((k, (g1, g2), ([], [], 0, 0), ([], 0, 0), ([], 0, 0), 0) : EntV)) = true := decide_eq_true hd
          simp only [hdd, Bool.not_true] at hq
          clear hdd hd h0 HER
          go_wp2_with fail
          go_ret
          rw [HR.out]
          exact ⟨rfl, B3.out⟩
        · have HR := Lib.hid (show r = 3 from HER.trans ((if_neg (by simp [h0])).trans (if_pos hd)))
          have hdd : decide ((k, (g1, g2), (l1, l2, l3, l4), (f1, f2, f3), (t1, t2, t3), n) = ((k, (g1, g2), ([], [], 0, 0), ([], 0, 0), ([], 0, 0), 0) : EntV)) = false := decide_eq_false hd
          simp only [hdd, Bool.not_false] at hq
          clear hdd hd h0 HER
          go_wp2_with fail
          go_ret
          rw [HR.out]
          exact ⟨rfl, B3.out⟩
      · have HR := Lib.hid (show r = goodsE (g1, g2) from HER.trans (if_pos h0))
        rw [errOf_pos _ _ h0]
        have H0 := Lib.hid h0
        clear h0 HER
        go_wp2_with fail
        go_ret
        rw [HR.out, errOf_pos _ _ H0.out]
        exact ⟨rfl, B3.out⟩
  have hk : (k == [103, 111, 111, 100, 115]) = false := beq_eq_false_iff_ne.2 hkg
  have HKG := Lib.hid hkg
  clear hkg
  rcases Decidable.em (k = kLot) with hkl | hkl
  · have HKL := Lib.hid hkl
    have hk2 : (k == [108, 111, 116]) = true := by rw [hkl]; rfl
    clear hkl
    go_wp2_with fail
    go_region_with (go_at_call 28; refine (HLO.out _ (HG.out _ B2.out.drew).read).mono ?_; rintro e w2 ⟨rfl, b2⟩; obtain ⟨C2, F2⟩ := ent_step b2 _ C1.out F1.out; have e3 := C2 3 _ rfl; have e4 := C2 4 _ rfl; have e5 := C2 5 _ rfl; have e6 := C2 6 _ rfl; obtain ⟨k3, fr3⟩ := row_cells F2 3 _ rfl; obtain ⟨k4, fr4⟩ := row_cells F2 4 _ rfl; obtain ⟨k5, fr5⟩ := row_cells F2 5 _ rfl; obtain ⟨k6, fr6⟩ := row_cells F2 6 _ rfl)
    all_goals
      obtain ⟨C3, N3⟩ := want_lot (l1 := l1) (l2 := l2) (l3 := l3) (l4 := l4) C2 F2
      have B3 := Lib.hid (((((B2.out.drew.trans (b2.mono B2.out.drew.size)).setCell (p := ⟨w.heap.size + 1, 3, none⟩) (Nat.le_succ _) (.string ⟨l1.toArray⟩)).setCell (p := ⟨w.heap.size + 1, 4, none⟩) (Nat.le_succ _) (.string ⟨l2.toArray⟩)).setCell (p := ⟨w.heap.size + 1, 5, none⟩) (Nat.le_succ _) (.int .i64 l3)).setCell (p := ⟨w.heap.size + 1, 6, none⟩) (Nat.le_succ _) (.int .i64 l4))
      generalize ((((w2.setCell ⟨w.heap.size + 1, 3, none⟩ (.string ⟨l1.toArray⟩)).setCell ⟨w.heap.size + 1, 4, none⟩ (.string ⟨l2.toArray⟩)).setCell ⟨w.heap.size + 1, 5, none⟩ (.int .i64 l3)).setCell ⟨w.heap.size + 1, 6, none⟩ (.int .i64 l4)) = W3 at C3 N3 B3 ⊢
      clear C2 F2 b2
      have HER := HEL.out HKL.out
      obtain ⟨c0, c1, c2, c3, c4, c5, c6, c7, c8, c9, c10, c11, c12, c13⟩ := C3.all
      obtain ⟨n0, n1, n2, n3, n4, n5, n6, n7, n8, n9, n10, n11, n12, n13⟩ := N3.all
      simp only at c0 c1 c2 c3 c4 c5 c6 c7 c8 c9 c10 c11 c12 c13 n0 n1 n2 n3 n4 n5 n6 n7 n8 n9 n10 n11 n12 n13
      clear C3 N3
      by_cases h0 : lotE (l1, l2, l3, l4) = 0
      · rw [h0, errOf_zero]
        have hq := fun W => HQ.out (k, ([], 0), (l1, l2, l3, l4), ([], 0, 0), ([], 0, 0), 0) W
        simp only at hq
        have hsh := (HG.out W3 B3.out).shape
        unfold ErrAt at hsh
        by_cases hd : (k, (g1, g2), (l1, l2, l3, l4), (f1, f2, f3), (t1, t2, t3), n) = ((k, ([], 0), (l1, l2, l3, l4), ([], 0, 0), ([], 0, 0), 0) : EntV)
        · have HR := Lib.hid (show r = 0 from HER.trans ((if_neg (by simp [h0])).trans (if_neg (fun h => h hd))))
          have hdd : decide ((k, (g1, g2), (l1, l2, l3, l4), (f1, f2, f3), (t1, t2, t3), n) = ((k, ([], 0), (l1, l2, l3, l4), ([], 0, 0), ([], 0, 0), 0) : EntV)) = true := decide_eq_true hd
          simp only [hdd, Bool.not_true] at hq
          clear hdd hd h0 HER
          go_wp2_with fail
          go_ret
          rw [HR.out]
          exact ⟨rfl, B3.out⟩
        · have HR := Lib.hid (show r = 3 from HER.trans ((if_neg (by simp [h0])).trans (if_pos hd)))
          have hdd : decide ((k, (g1, g2), (l1, l2, l3, l4), (f1, f2, f3), (t1, t2, t3), n) = ((k, ([], 0), (l1, l2, l3, l4), ([], 0, 0), ([], 0, 0), 0) : EntV)) = false := decide_eq_false hd
          simp only [hdd, Bool.not_false] at hq
          clear hdd hd h0 HER
          go_wp2_with fail
          go_ret
          rw [HR.out]
          exact ⟨rfl, B3.out⟩
      · have HR := Lib.hid (show r = lotE (l1, l2, l3, l4) from HER.trans (if_pos h0))
        rw [errOf_pos _ _ h0]
        have H0 := Lib.hid h0
        clear h0 HER
        go_wp2_with fail
        go_ret
        rw [HR.out, errOf_pos _ _ H0.out]
        exact ⟨rfl, B3.out⟩
  have hk2 : (k == [108, 111, 116]) = false := beq_eq_false_iff_ne.2 hkl
  have HKL := Lib.hid hkl
  clear hkl
  cases bP with
  | true =>
    go_wp2_with fail
    refine (HPC.out _ (HG.out _ B2.out)).mono ?_
    rintro e w2 ⟨rfl, b2⟩
    have B3 := Lib.hid (B2.out.trans (b2.mono B2.out.size))
    have HR := Lib.hid (HEP.out (by simp))
    clear b2 c0 c1 c2 c3 c4 c5 c6 c7 c8 c9 c10 c11 c12 c13 df dt di
    go_wp2
    go_ret
    rw [HR.out]
    exact ⟨rfl, B3.out⟩
  | false =>
    have hkd := (HG.out _ B2.out).kind
    unfold ErrAt at hkd
    have HR := Lib.hid (HEK.out HKG.out HKL.out rfl)
    go_wp2_with fail
    go_ret
    rw [HR.out]
    exact ⟨rfl, B2.out⟩
end Go.Proofs.YtpifbahafnaejaaGreatDoor
namespace Go.Proofs.YtpifbahafnaejaaGreatDoor
open Go.RowKit Go.Sort Go.Proofs

theorem entGoods_len {ws : List (List UInt8)} (h : ws.length ≠ 3) : entGoods ws = (zeroEnt, 1) := by
  unfold entGoods
  split
  · simp at h
  · rfl

set_option maxHeartbeats 6400000 in
set_option maxRecDepth 100000 in
theorem readGoods_any (E : Nat → Addr) (ws : List (List UInt8)) (A : Option Addr) (cap : Nat) (w : World) (hS : StrsAt w A ws) (hle : ∀ x ∈ ws, x.length ≤ 1000000) (hln : ws.length ≤ 1000000000) (hG : ReadG E w) :
    Calls Tryz.prog 15 #[.slice A ws.length cap] w fun e w' => e = .returned (.tuple #[.agg (encEnt (entGoods ws).1).toArray, errOf E (entGoods ws).2]) ∧ Below w.heap.size w w' := by
  have b0 := below_one w (.cells #[.string ⟨#[]⟩, .string ⟨#[]⟩, .int .i64 0, .string ⟨#[]⟩, .string ⟨#[]⟩, .int .i64 0, .int .i64 0, .string ⟨#[]⟩, .int .i64 0, .int .i64 0, .string ⟨#[]⟩, .int .i64 0, .int .i64 0, .int .i64 0] 29)
  have hz0 : (w.alloc (.cells #[.string ⟨#[]⟩, .string ⟨#[]⟩, .int .i64 0, .string ⟨#[]⟩, .string ⟨#[]⟩, .int .i64 0, .int .i64 0, .string ⟨#[]⟩, .int .i64 0, .int .i64 0, .string ⟨#[]⟩, .int .i64 0, .int .i64 0, .int .i64 0] 29)).heap[w.heap.size]? = some (.cells #[.string ⟨#[]⟩, .string ⟨#[]⟩, .int .i64 0, .string ⟨#[]⟩, .string ⟨#[]⟩, .int .i64 0, .int .i64 0, .string ⟨#[]⟩, .int .i64 0, .int .i64 0, .string ⟨#[]⟩, .int .i64 0, .int .i64 0, .int .i64 0] 29 (0, 0)) := heap_alloc_new _ _
  have HG0 := Lib.hid (hG.below b0)
  have hg0 := HG0.out.text
  have lg := lt_of_cell hG.text
  simp only at lg
  unfold ErrAt at hg0
  have hgrb : 2 ≠ w.heap.size := by omega
  have B0 := Lib.hid b0
  by_cases h3 : ws.length = 3
  · obtain ⟨a, b, c, rfl⟩ := three h3
    have hcl := hle c (by simp)
    obtain ⟨bl, o, rfl, hl, p0, p1, p2⟩ := strs3 hS
    have l3 : [a, b, c].length = 3 := rfl
    rw [l3]
    have q0 := (b0.cell (p := ⟨_, _, none⟩) (lt_of_cell p0)).trans p0
    have q1 := (b0.cell (p := ⟨_, _, none⟩) (lt_of_cell p1)).trans p1
    have q2 := (b0.cell (p := ⟨_, _, none⟩) (lt_of_cell p2)).trans p2
    have HW := Lib.hid (show entGoods [a, b, c] = match numQ c 13 with
      | some v => ((kGoods, (b, (v : Int)), zeroLot, zeroPlace, zeroPlace, 0), 0)
      | none => (zeroEnt, 1) from rfl)
    have LG := Lib.hid lg
    clear hS l3 hle h3 hln p0 p1 p2 b0 lg hG
    go_enter Tryz.func15, Tryz.ntmps15
    go_wp2_with fail
    refine (numb_any c 13 (by omega) (by omega) _ HG0.out.tab HG0.out.atoi).mono ?_
    rintro e w1 ⟨u, rfl, hu, b1⟩
    have r1 := (b1.cell (p := ⟨_, _, none⟩) (lt_of_cell q1)).trans q1
    have hz1 := (b1.block w.heap.size (row_lt hz0)).trans hz0
    have hg1 := (b1.cell (p := ⟨_, 0, none⟩) (lt_of_cell hg0)).trans hg0
    have B1 := Lib.hid (B0.out.trans (b1.mono B0.out.size))
    have HU := Lib.hid hu
    clear b1 hu q0 q1 q2 hz0 hg0 B0 HG0
    have z0 : w1.cell? ⟨w.heap.size, 0, none⟩ = some (.string ⟨#[]⟩) := cell_of_row _ _ _ _ _ _ hz1
    have f0 := frozen_of_row (w1) w.heap.size 0 _ _ hz1
    have z1 : w1.cell? ⟨w.heap.size, 1, none⟩ = some (.string ⟨#[]⟩) := cell_of_row _ _ _ _ _ _ hz1
    have f1 := frozen_of_row (w1) w.heap.size 1 _ _ hz1
    have z2 : w1.cell? ⟨w.heap.size, 2, none⟩ = some (.int .i64 0) := cell_of_row _ _ _ _ _ _ hz1
    have f2 := frozen_of_row (w1) w.heap.size 2 _ _ hz1
    have z3 : w1.cell? ⟨w.heap.size, 3, none⟩ = some (.string ⟨#[]⟩) := cell_of_row _ _ _ _ _ _ hz1
    have f3 := frozen_of_row (w1) w.heap.size 3 _ _ hz1
    have z4 : w1.cell? ⟨w.heap.size, 4, none⟩ = some (.string ⟨#[]⟩) := cell_of_row _ _ _ _ _ _ hz1
    have f4 := frozen_of_row (w1) w.heap.size 4 _ _ hz1
    have z5 : w1.cell? ⟨w.heap.size, 5, none⟩ = some (.int .i64 0) := cell_of_row _ _ _ _ _ _ hz1
    have f5 := frozen_of_row (w1) w.heap.size 5 _ _ hz1
    have z6 : w1.cell? ⟨w.heap.size, 6, none⟩ = some (.int .i64 0) := cell_of_row _ _ _ _ _ _ hz1
    have f6 := frozen_of_row (w1) w.heap.size 6 _ _ hz1
    have z7 : w1.cell? ⟨w.heap.size, 7, none⟩ = some (.string ⟨#[]⟩) := cell_of_row _ _ _ _ _ _ hz1
    have f7 := frozen_of_row (w1) w.heap.size 7 _ _ hz1
    have z8 : w1.cell? ⟨w.heap.size, 8, none⟩ = some (.int .i64 0) := cell_of_row _ _ _ _ _ _ hz1
    have f8 := frozen_of_row (w1) w.heap.size 8 _ _ hz1
    have z9 : w1.cell? ⟨w.heap.size, 9, none⟩ = some (.int .i64 0) := cell_of_row _ _ _ _ _ _ hz1
    have f9 := frozen_of_row (w1) w.heap.size 9 _ _ hz1
    have z10 : w1.cell? ⟨w.heap.size, 10, none⟩ = some (.string ⟨#[]⟩) := cell_of_row _ _ _ _ _ _ hz1
    have f10 := frozen_of_row (w1) w.heap.size 10 _ _ hz1
    have z11 : w1.cell? ⟨w.heap.size, 11, none⟩ = some (.int .i64 0) := cell_of_row _ _ _ _ _ _ hz1
    have f11 := frozen_of_row (w1) w.heap.size 11 _ _ hz1
    have z12 : w1.cell? ⟨w.heap.size, 12, none⟩ = some (.int .i64 0) := cell_of_row _ _ _ _ _ _ hz1
    have f12 := frozen_of_row (w1) w.heap.size 12 _ _ hz1
    have z13 : w1.cell? ⟨w.heap.size, 13, none⟩ = some (.int .i64 0) := cell_of_row _ _ _ _ _ _ hz1
    have f13 := frozen_of_row (w1) w.heap.size 13 _ _ hz1
    cases hq : numQ c 13 with
    | none =>
      rw [hq] at HW
      go_wp2_with fail
      go_region
      all_goals
        have hrow := puts_row [.string ⟨#[]⟩, .string ⟨#[]⟩, .int .i64 0, .string ⟨#[]⟩, .string ⟨#[]⟩, .int .i64 0, .int .i64 0, .string ⟨#[]⟩, .int .i64 0, .int .i64 0, .string ⟨#[]⟩, .int .i64 0, .int .i64 0, .int .i64 0] hz1 rfl
        have hbel := puts_below (Nat.le_refl _) [.string ⟨#[]⟩, .string ⟨#[]⟩, .int .i64 0, .string ⟨#[]⟩, .string ⟨#[]⟩, .int .i64 0, .int .i64 0, .string ⟨#[]⟩, .int .i64 0, .int .i64 0, .string ⟨#[]⟩, .int .i64 0, .int .i64 0, .int .i64 0] _ 0 B1.out
        simp only [puts, Nat.zero_add, Nat.reduceAdd] at hrow hbel
        go_wp2_with fail
        (try simp only [Exit.inBlock, Exit.then])
        generalize ((((((((((((((w1.setCell ⟨w.heap.size, 0, none⟩ (.string ⟨#[]⟩)).setCell ⟨w.heap.size, 1, none⟩ (.string ⟨#[]⟩)).setCell ⟨w.heap.size, 2, none⟩ (.int .i64 0)).setCell ⟨w.heap.size, 3, none⟩ (.string ⟨#[]⟩)).setCell ⟨w.heap.size, 4, none⟩ (.string ⟨#[]⟩)).setCell ⟨w.heap.size, 5, none⟩ (.int .i64 0)).setCell ⟨w.heap.size, 6, none⟩ (.int .i64 0)).setCell ⟨w.heap.size, 7, none⟩ (.string ⟨#[]⟩)).setCell ⟨w.heap.size, 8, none⟩ (.int .i64 0)).setCell ⟨w.heap.size, 9, none⟩ (.int .i64 0)).setCell ⟨w.heap.size, 10, none⟩ (.string ⟨#[]⟩)).setCell ⟨w.heap.size, 11, none⟩ (.int .i64 0)).setCell ⟨w.heap.size, 12, none⟩ (.int .i64 0)).setCell ⟨w.heap.size, 13, none⟩ (.int .i64 0)) = W9 at hrow hbel ⊢
        refine bodyPost_ret (results_cell_row2 rfl _ _ w.heap.size 29 #[.string ⟨#[]⟩, .string ⟨#[]⟩, .int .i64 0, .string ⟨#[]⟩, .string ⟨#[]⟩, .int .i64 0, .int .i64 0, .string ⟨#[]⟩, .int .i64 0, .int .i64 0, .string ⟨#[]⟩, .int .i64 0, .int .i64 0, .int .i64 0] (0, 0) _ rfl (show W9.drew.heap[w.heap.size]? = _ from hrow) Tryz.underlying29 rfl (by kernel_rfl)) rfl ?_
        rw [HW.out]
        exact ⟨rfl, hbel.drew⟩
    | some uu =>
      have hu := HU.out uu hq
      subst hu
      rw [hq] at HW
      all_goals
        have hrow := puts_row [.string ⟨#[103, 111, 111, 100, 115]⟩, .string ⟨b.toArray⟩, .int .i64 (uu : Nat), .string ⟨#[]⟩, .string ⟨#[]⟩, .int .i64 0, .int .i64 0, .string ⟨#[]⟩, .int .i64 0, .int .i64 0, .string ⟨#[]⟩, .int .i64 0, .int .i64 0, .int .i64 0] hz1 rfl
        have hbel := puts_below (Nat.le_refl _) [.string ⟨#[103, 111, 111, 100, 115]⟩, .string ⟨b.toArray⟩, .int .i64 (uu : Nat), .string ⟨#[]⟩, .string ⟨#[]⟩, .int .i64 0, .int .i64 0, .string ⟨#[]⟩, .int .i64 0, .int .i64 0, .string ⟨#[]⟩, .int .i64 0, .int .i64 0, .int .i64 0] _ 0 B1.out
        simp only [puts, Nat.zero_add, Nat.reduceAdd] at hrow hbel
        go_wp2_with fail
        (try simp only [Exit.inBlock, Exit.then])
        generalize ((((((((((((((w1.setCell ⟨w.heap.size, 0, none⟩ (.string ⟨#[103, 111, 111, 100, 115]⟩)).setCell ⟨w.heap.size, 1, none⟩ (.string ⟨b.toArray⟩)).setCell ⟨w.heap.size, 2, none⟩ (.int .i64 (uu : Nat))).setCell ⟨w.heap.size, 3, none⟩ (.string ⟨#[]⟩)).setCell ⟨w.heap.size, 4, none⟩ (.string ⟨#[]⟩)).setCell ⟨w.heap.size, 5, none⟩ (.int .i64 0)).setCell ⟨w.heap.size, 6, none⟩ (.int .i64 0)).setCell ⟨w.heap.size, 7, none⟩ (.string ⟨#[]⟩)).setCell ⟨w.heap.size, 8, none⟩ (.int .i64 0)).setCell ⟨w.heap.size, 9, none⟩ (.int .i64 0)).setCell ⟨w.heap.size, 10, none⟩ (.string ⟨#[]⟩)).setCell ⟨w.heap.size, 11, none⟩ (.int .i64 0)).setCell ⟨w.heap.size, 12, none⟩ (.int .i64 0)).setCell ⟨w.heap.size, 13, none⟩ (.int .i64 0)) = W9 at hrow hbel ⊢
        refine bodyPost_ret (results_cell_row2 rfl _ _ w.heap.size 29 #[.string ⟨#[103, 111, 111, 100, 115]⟩, .string ⟨b.toArray⟩, .int .i64 (uu : Nat), .string ⟨#[]⟩, .string ⟨#[]⟩, .int .i64 0, .int .i64 0, .string ⟨#[]⟩, .int .i64 0, .int .i64 0, .string ⟨#[]⟩, .int .i64 0, .int .i64 0, .int .i64 0] (0, 0) _ rfl (show W9.heap[w.heap.size]? = _ from hrow) Tryz.underlying29 rfl (by kernel_rfl)) rfl ?_
        rw [HW.out]
        exact ⟨rfl, hbel⟩
  · have HW := Lib.hid (entGoods_len h3)
    have h3' : ((ws.length : Int) == 3) = false := by rw [beq_eq_false_iff_ne]; omega
    clear hS hle b0 hG lg
    go_enter Tryz.func15, Tryz.ntmps15
    go_wp2_with fail
    clear HG0
    generalize (w.alloc (.cells #[.string ⟨#[]⟩, .string ⟨#[]⟩, .int .i64 0, .string ⟨#[]⟩, .string ⟨#[]⟩, .int .i64 0, .int .i64 0, .string ⟨#[]⟩, .int .i64 0, .int .i64 0, .string ⟨#[]⟩, .int .i64 0, .int .i64 0, .int .i64 0] 29)) = V0 at hz0 hg0 B0 ⊢
    have z0 : V0.cell? ⟨w.heap.size, 0, none⟩ = some (.string ⟨#[]⟩) := cell_of_row _ _ _ _ _ _ hz0
    have f0 := frozen_of_row (V0) w.heap.size 0 _ _ hz0
    have z1 : V0.cell? ⟨w.heap.size, 1, none⟩ = some (.string ⟨#[]⟩) := cell_of_row _ _ _ _ _ _ hz0
    have f1 := frozen_of_row (V0) w.heap.size 1 _ _ hz0
    have z2 : V0.cell? ⟨w.heap.size, 2, none⟩ = some (.int .i64 0) := cell_of_row _ _ _ _ _ _ hz0
    have f2 := frozen_of_row (V0) w.heap.size 2 _ _ hz0
    have z3 : V0.cell? ⟨w.heap.size, 3, none⟩ = some (.string ⟨#[]⟩) := cell_of_row _ _ _ _ _ _ hz0
    have f3 := frozen_of_row (V0) w.heap.size 3 _ _ hz0
    have z4 : V0.cell? ⟨w.heap.size, 4, none⟩ = some (.string ⟨#[]⟩) := cell_of_row _ _ _ _ _ _ hz0
    have f4 := frozen_of_row (V0) w.heap.size 4 _ _ hz0
    have z5 : V0.cell? ⟨w.heap.size, 5, none⟩ = some (.int .i64 0) := cell_of_row _ _ _ _ _ _ hz0
    have f5 := frozen_of_row (V0) w.heap.size 5 _ _ hz0
    have z6 : V0.cell? ⟨w.heap.size, 6, none⟩ = some (.int .i64 0) := cell_of_row _ _ _ _ _ _ hz0
    have f6 := frozen_of_row (V0) w.heap.size 6 _ _ hz0
    have z7 : V0.cell? ⟨w.heap.size, 7, none⟩ = some (.string ⟨#[]⟩) := cell_of_row _ _ _ _ _ _ hz0
    have f7 := frozen_of_row (V0) w.heap.size 7 _ _ hz0
    have z8 : V0.cell? ⟨w.heap.size, 8, none⟩ = some (.int .i64 0) := cell_of_row _ _ _ _ _ _ hz0
    have f8 := frozen_of_row (V0) w.heap.size 8 _ _ hz0
    have z9 : V0.cell? ⟨w.heap.size, 9, none⟩ = some (.int .i64 0) := cell_of_row _ _ _ _ _ _ hz0
    have f9 := frozen_of_row (V0) w.heap.size 9 _ _ hz0
    have z10 : V0.cell? ⟨w.heap.size, 10, none⟩ = some (.string ⟨#[]⟩) := cell_of_row _ _ _ _ _ _ hz0
    have f10 := frozen_of_row (V0) w.heap.size 10 _ _ hz0
    have z11 : V0.cell? ⟨w.heap.size, 11, none⟩ = some (.int .i64 0) := cell_of_row _ _ _ _ _ _ hz0
    have f11 := frozen_of_row (V0) w.heap.size 11 _ _ hz0
    have z12 : V0.cell? ⟨w.heap.size, 12, none⟩ = some (.int .i64 0) := cell_of_row _ _ _ _ _ _ hz0
    have f12 := frozen_of_row (V0) w.heap.size 12 _ _ hz0
    have z13 : V0.cell? ⟨w.heap.size, 13, none⟩ = some (.int .i64 0) := cell_of_row _ _ _ _ _ _ hz0
    have f13 := frozen_of_row (V0) w.heap.size 13 _ _ hz0
    go_wp2_with fail
    go_region
    all_goals
      have hrow := puts_row [.string ⟨#[]⟩, .string ⟨#[]⟩, .int .i64 0, .string ⟨#[]⟩, .string ⟨#[]⟩, .int .i64 0, .int .i64 0, .string ⟨#[]⟩, .int .i64 0, .int .i64 0, .string ⟨#[]⟩, .int .i64 0, .int .i64 0, .int .i64 0] hz0 rfl
      have hbel := puts_below (Nat.le_refl _) [.string ⟨#[]⟩, .string ⟨#[]⟩, .int .i64 0, .string ⟨#[]⟩, .string ⟨#[]⟩, .int .i64 0, .int .i64 0, .string ⟨#[]⟩, .int .i64 0, .int .i64 0, .string ⟨#[]⟩, .int .i64 0, .int .i64 0, .int .i64 0] _ 0 B0.out
      simp only [puts, Nat.zero_add, Nat.reduceAdd] at hrow hbel
      go_wp2_with fail
      (try simp only [Exit.inBlock, Exit.then])
      generalize ((((((((((((((V0.setCell ⟨w.heap.size, 0, none⟩ (.string ⟨#[]⟩)).setCell ⟨w.heap.size, 1, none⟩ (.string ⟨#[]⟩)).setCell ⟨w.heap.size, 2, none⟩ (.int .i64 0)).setCell ⟨w.heap.size, 3, none⟩ (.string ⟨#[]⟩)).setCell ⟨w.heap.size, 4, none⟩ (.string ⟨#[]⟩)).setCell ⟨w.heap.size, 5, none⟩ (.int .i64 0)).setCell ⟨w.heap.size, 6, none⟩ (.int .i64 0)).setCell ⟨w.heap.size, 7, none⟩ (.string ⟨#[]⟩)).setCell ⟨w.heap.size, 8, none⟩ (.int .i64 0)).setCell ⟨w.heap.size, 9, none⟩ (.int .i64 0)).setCell ⟨w.heap.size, 10, none⟩ (.string ⟨#[]⟩)).setCell ⟨w.heap.size, 11, none⟩ (.int .i64 0)).setCell ⟨w.heap.size, 12, none⟩ (.int .i64 0)).setCell ⟨w.heap.size, 13, none⟩ (.int .i64 0)) = W9 at hrow hbel ⊢
      refine bodyPost_ret (results_cell_row2 rfl _ _ w.heap.size 29 #[.string ⟨#[]⟩, .string ⟨#[]⟩, .int .i64 0, .string ⟨#[]⟩, .string ⟨#[]⟩, .int .i64 0, .int .i64 0, .string ⟨#[]⟩, .int .i64 0, .int .i64 0, .string ⟨#[]⟩, .int .i64 0, .int .i64 0, .int .i64 0] (0, 0) _ rfl (show W9.drew.heap[w.heap.size]? = _ from hrow) Tryz.underlying29 rfl (by kernel_rfl)) rfl ?_
      rw [HW.out]
      exact ⟨rfl, hbel.drew⟩
end Go.Proofs.YtpifbahafnaejaaGreatDoor
