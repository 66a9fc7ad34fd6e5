/- Lots: the document's error, text, order; Good. -/
import Derived.Test.YtllcddlflcpmbaaGreatDoorLotT
import Derived.Test.YtllcddlflcpmbaaGreatDoorLotSo
import Derived.Test.YtllcddlflcpmbaaGreatDoorRName
import Derived.Test.YtllcddlflcpmbaaGreatDoorWith
import Derived.Test.YtllcddlflcpmbaaGreatDoorDec
namespace Go.Proofs.YtllcddlflcpmbaaGreatDoor
open Go.RowKit Go.Sort Go.Proofs

set_option maxHeartbeats 800000 in
theorem refLotE_any (x : LotV) (h1 : x.1.length ≤ 1000000000) (h2 : x.2.1.length ≤ 1000000000) (w : World) :
    Calls Tryz.prog 11 #[.agg (encLot x).toArray] w fun e w' => e = .returned (.int .i64 (lotE x : Nat)) ∧ Below w.heap.size w w' := by
  have HE := Lib.hid (show lotE x = if (nameB x.1 && nameB x.2.1) = false then 5 else if x.2.2.1 < 0 ∨ 100000 < x.2.2.1 ∨ x.2.2.2 < 0 ∨ 1048576 < x.2.2.2 then 2 else 0 from rfl)
  obtain ⟨a1, a2, a3, a4⟩ := x
  have HN1 := Lib.hid (fun W => isName_any a1 h1 W)
  have HN2 := Lib.hid (fun W => isName_any a2 h2 W)
  simp only [encLot] at HE ⊢
  have B1 := Lib.hid (below_one w (.cells #[.string ⟨a1.toArray⟩, .string ⟨a2.toArray⟩, .int .i64 a3, .int .i64 a4] 23))
  generalize nameB a1 = n1 at HN1 HE
  generalize nameB a2 = n2 at HN2 HE
  have hcase : (n1 = false) ∨ (n1 = true ∧ n2 = false) ∨ (n1 = true ∧ n2 = true ∧ a3 < 0) ∨ (n1 = true ∧ n2 = true ∧ ¬ a3 < 0 ∧ 100000 < a3) ∨ (n1 = true ∧ n2 = true ∧ ¬ a3 < 0 ∧ ¬ 100000 < a3 ∧ a4 < 0) ∨ (n1 = true ∧ n2 = true ∧ ¬ a3 < 0 ∧ ¬ 100000 < a3 ∧ ¬ a4 < 0 ∧ 1048576 < a4) ∨ (n1 = true ∧ n2 = true ∧ ¬ a3 < 0 ∧ ¬ 100000 < a3 ∧ ¬ a4 < 0 ∧ ¬ 1048576 < a4) := by
    cases n1
    · exact .inl rfl
    · cases n2
      · exact .inr (.inl ⟨rfl, rfl⟩)
      · simp only [true_and, Bool.true_eq_false, false_or]
        omega
  go_enter Tryz.func11, Tryz.ntmps11
  go_wp2_with fail
  refine (HN1.out _).mono ?_
  rintro e w1 ⟨rfl, rfl⟩
  go_wp2_with fail
  refine (HN2.out _).mono ?_
  rintro e w1 ⟨rfl, rfl⟩
  rcases hcase with rfl | ⟨rfl, rfl⟩ | ⟨rfl, rfl, q1⟩ | ⟨rfl, rfl, q1, q2⟩ | ⟨rfl, rfl, q1, q2, q3⟩ | ⟨rfl, rfl, q1, q2, q3, q4⟩ | ⟨rfl, rfl, q1, q2, q3, q4⟩
  · go_wp2
    go_ret
    rw [HE.out, if_pos (by simp)]
    exact ⟨rfl, B1.out⟩
  · go_wp2
    go_ret
    rw [HE.out, if_pos (by simp)]
    exact ⟨rfl, B1.out⟩
  · go_wp2
    go_ret
    rw [HE.out, if_neg (by simp), if_pos (by omega)]
    exact ⟨rfl, B1.out⟩
  · go_wp2
    go_ret
    rw [HE.out, if_neg (by simp), if_pos (by omega)]
    exact ⟨rfl, B1.out⟩
  · go_wp2
    go_ret
    rw [HE.out, if_neg (by simp), if_pos (by omega)]
    exact ⟨rfl, B1.out⟩
  · go_wp2
    go_ret
    rw [HE.out, if_neg (by simp), if_pos (by omega)]
    exact ⟨rfl, B1.out⟩
  · go_wp2
    go_ret
    rw [HE.out, if_neg (by simp), if_neg (by omega)]
    exact ⟨rfl, B1.out⟩

theorem lotE_zero {x : LotV} (h : lotE x = 0) : nameB x.1 = true ∧ nameB x.2.1 = true ∧ 0 ≤ x.2.2.1 ∧ x.2.2.1 ≤ 100000 ∧ 0 ≤ x.2.2.2 ∧ x.2.2.2 ≤ 1048576 := by
  unfold lotE at h
  split at h
  · cases h
  · rename_i h1
    split at h
    · cases h
    · rename_i h2
      simp at h1
      refine ⟨h1.1, h1.2, ?_⟩
      omega

set_option maxHeartbeats 800000 in
theorem refLotText_any (x : LotV) (h1 : x.1.length ≤ 1000000000) (h2 : x.2.1.length ≤ 1000000000) (w : World) :
    Calls Tryz.prog 13 #[.agg (encLot x).toArray] w fun e w' => e = .returned (.string ⟨(lotText x).toArray⟩) ∧ Below w.heap.size w w' := by
  have HCK := Lib.hid (fun W => refLotE_any x h1 h2 W)
  by_cases hE : lotE x = 0
  · have hx := lotE_zero hE
    have HTX := Lib.hid (show lotText x = x.1 ++ [32] ++ x.2.1 ++ [32] ++ Lib.itoa x.2.2.1 ++ [32] ++ Lib.itoa x.2.2.2 by unfold lotText; rw [if_pos hE])
    rw [hE] at HCK
    obtain ⟨a1, a2, a3, a4⟩ := x
    simp only at hx
    obtain ⟨x1, x2, x3, x4, x5, x6⟩ := hx
    obtain ⟨u, rfl⟩ : ∃ u : Nat, a3 = (u : Int) := ⟨a3.toNat, by omega⟩
    obtain ⟨v, rfl⟩ : ∃ v : Nat, a4 = (v : Int) := ⟨a4.toNat, by omega⟩
    simp only [encLot] at HCK HTX ⊢
    have hl8 : ∀ l, nameB l = true → l.length ≤ 8 := fun l h => by
      unfold nameB at h
      simp at h
      exact h.1.2
    have l1 := hl8 _ x1
    have l2 := hl8 _ x2
    have n3 := Lib.itoa_length_le (u : Int) (by omega) (by omega)
    have n4 := Lib.itoa_length_le (v : Int) (by omega) (by omega)
    have HD1 := Lib.hid (fun W => decimal_nat u (by omega) W)
    have HD2 := Lib.hid (fun W => decimal_nat v (by omega) W)
    clear hE hl8 x1 x2 h1 h2
    go_enter Tryz.func13, Tryz.ntmps13
    go_wp2_with fail
    refine (HCK.out _).mono ?_
    rintro e w1 ⟨rfl, bb1⟩
    have hh := (bb1.block w.heap.size (by simp)).trans (heap_alloc_new w (.cells #[.string ⟨a1.toArray⟩, .string ⟨a2.toArray⟩, .int .i64 (u : Int), .int .i64 (v : Int)] 23))
    have lw := heap_two bb1
    have b1 := (below_one w (.cells #[.string ⟨a1.toArray⟩, .string ⟨a2.toArray⟩, .int .i64 (u : Int), .int .i64 (v : Int)] 23)).trans (bb1.mono (by simp))
    have c0 : w1.cell? ⟨w.heap.size, 0, none⟩ = some (.string ⟨a1.toArray⟩) := by rw [cell_of_row w1 _ _ _ _ _ hh]; rfl
    have c1 : w1.cell? ⟨w.heap.size, 1, none⟩ = some (.string ⟨a2.toArray⟩) := by rw [cell_of_row w1 _ _ _ _ _ hh]; rfl
    have c2 : w1.cell? ⟨w.heap.size, 2, none⟩ = some (.int .i64 (u : Int)) := by rw [cell_of_row w1 _ _ _ _ _ hh]; rfl
    have c3 : w1.cell? ⟨w.heap.size, 3, none⟩ = some (.int .i64 (v : Int)) := by rw [cell_of_row w1 _ _ _ _ _ hh]; rfl
    clear hh bb1 HCK
    go_wp2_with fail
    have hd : Below w.heap.size w w1.drew := b1.drew
    have s1 : (⟨a1.toArray⟩ : ByteArray).size = a1.length := by simp [ByteArray.size]
    have s2 : (⟨a2.toArray⟩ : ByteArray).size = a2.length := by simp [ByteArray.size]
    have v1 : ¬ 9223372036854775807 < a1.length + 1 := by omega
    have v2 : ¬ 9223372036854775807 < a1.length + 1 + a2.length := by omega
    have v3 : ¬ 9223372036854775807 < a1.length + 1 + a2.length + 1 := by omega
    have v4 : ¬ 9223372036854775807 < a1.length + 1 + a2.length + 1 + (Lib.itoa (u : Int)).length := by omega
    have v5 : ¬ 9223372036854775807 < a1.length + 1 + a2.length + 1 + (Lib.itoa (u : Int)).length + 1 := by omega
    have v6 : ¬ 9223372036854775807 < a1.length + 1 + a2.length + 1 + (Lib.itoa (u : Int)).length + 1 + (Lib.itoa (v : Int)).length := by omega
    go_region_held3 (fun w' => w'.cell? ⟨w.heap.size, 0, none⟩ = some (.string ⟨a1.toArray⟩) ∧ w'.cell? ⟨w.heap.size, 1, none⟩ = some (.string ⟨a2.toArray⟩) ∧ w'.cell? ⟨w.heap.size, 2, none⟩ = some (.int .i64 (u : Int)) ∧ w'.cell? ⟨w.heap.size, 3, none⟩ = some (.int .i64 (v : Int)) ∧ Below w.heap.size w w')
      (first | exact ⟨c0, c1, c2, c3, hd⟩ | exact ⟨(q4.cell lw).trans c0, (q4.cell lw).trans c1, (q4.cell lw).trans c2, (q4.cell lw).trans c3, b4⟩ | exact ⟨(q3.cell lw).trans c0, (q3.cell lw).trans c1, (q3.cell lw).trans c2, (q3.cell lw).trans c3, b3⟩ | go_keep)
      (first
        | (go_at_call_of 33 (Value.int .i64 (u : Int)); refine (HD1.out _).mono ?_; rintro e w3 ⟨rfl, bb3⟩; have q3 : Below w1.heap.size w1 w3 := (Below.refl w1.heap.size w1).drew.trans bb3; have b3 := b1.trans (q3.mono b1.size))
        | (go_at_call_of 33 (Value.int .i64 (v : Int)); refine (HD2.out _).mono ?_; rintro e w4 ⟨rfl, bb4⟩; have q4 := q3.trans (bb4.mono q3.size); have b4 := b1.trans (q4.mono b1.size)))
    all_goals
      have B4 := Lib.hid b4
      clear b4 q4 q3 b3 bb3 bb4 hd b1 c0 c1 c2 c3
      go_wp2_with fail
      go_ret
      refine ⟨?_, B4.out⟩
      rw [HTX.out]
      show Ending.returned (.string ((⟨a1.toArray⟩ : ByteArray) ++ (⟨#[32]⟩ : ByteArray) ++ (⟨a2.toArray⟩ : ByteArray) ++ (⟨#[32]⟩ : ByteArray) ++ (⟨(Lib.itoa (u : Int)).toArray⟩ : ByteArray) ++ (⟨#[32]⟩ : ByteArray) ++ (⟨(Lib.itoa (v : Int)).toArray⟩ : ByteArray))) = _
      rw [show (⟨#[32]⟩ : ByteArray) = ⟨[32].toArray⟩ from rfl, mk_app, mk_app, mk_app, mk_app, mk_app, mk_app]
  · have HTX := Lib.hid (show lotText x = [] by unfold lotText; rw [if_neg hE])
    have hpos : 0 < lotE x := Nat.pos_of_ne_zero hE
    generalize lotE x = k at HCK hpos
    have hpi : 0 < (k : Int) := by omega
    obtain ⟨a1, a2, a3, a4⟩ := x
    simp only [encLot] at HCK ⊢
    clear hE
    go_enter Tryz.func13, Tryz.ntmps13
    go_wp2_with fail
    refine (HCK.out _).mono ?_
    rintro e w1 ⟨rfl, bb1⟩
    have B1 := Lib.hid ((below_one w (.cells #[.string ⟨a1.toArray⟩, .string ⟨a2.toArray⟩, .int .i64 a3, .int .i64 a4] 23)).trans (bb1.mono (by simp)))
    clear bb1
    go_wp2_with fail
    go_ret
    rw [HTX.out]
    exact ⟨rfl, B1.out⟩

theorem less_cmp (a : List UInt8) : ∀ b, Op.bytesLess a b = decide (Lib.compareBytes a b < 0) := by
  induction a with
  | nil => intro b; cases b <;> simp [Op.bytesLess, Lib.compareBytes]
  | cons x r ih =>
    intro b
    cases b with
    | nil => simp [Op.bytesLess, Lib.compareBytes]
    | cons y s =>
      simp only [Op.bytesLess, Lib.compareBytes, ih]
      by_cases h1 : x < y
      · simp [h1]
      · by_cases h2 : y < x
        · have h3 : ¬ x = y := fun e => by subst e; exact h1 h2
          simp [h1, h2, h3]
        · have h3 : x = y := by
            have a1 : ¬ x.toNat < y.toNat := h1
            have a2 : ¬ y.toNat < x.toNat := h2
            exact UInt8.toNat_inj.1 (by omega)
          subst h3
          simp [h1]

set_option maxHeartbeats 400000 in
theorem isSooner_any (x y : LotV) (W : World) : Calls Tryz.prog 14 #[.agg (encLot x).toArray, .agg (encLot y).toArray] W fun e w' => e = .returned (.bool (ltOf cfLot x y)) ∧ Below W.heap.size W w' := by
  have HL := Lib.hid (ltLot x y)
  obtain ⟨a1, a2, a3, a4⟩ := x
  obtain ⟨b1, b2, b3, b4⟩ := y
  simp only [encLot] at HL ⊢
  have B1 := Lib.hid (below_two W (.cells #[.string ⟨a1.toArray⟩, .string ⟨a2.toArray⟩, .int .i64 a3, .int .i64 a4] 23) (.cells #[.string ⟨b1.toArray⟩, .string ⟨b2.toArray⟩, .int .i64 b3, .int .i64 b4] 23))
  rcases (show a3 < b3 ∨ a3 = b3 ∨ (¬ a3 < b3 ∧ ¬ a3 = b3) by omega) with h | h | ⟨h, h'⟩
  · go_enter Tryz.func14, Tryz.ntmps14
    go_wp2
    go_ret
    refine ⟨?_, B1.out⟩
    rw [HL.out, decide_eq_true (.inl h)]; rfl
  · subst h
    have hne : ¬ a3 < a3 := by omega
    have HB := Lib.hid (show ltOf cfLot (a1, a2, a3, a4) (b1, b2, a3, b4) = Op.bytesLess a1 b1 by rw [HL.out, less_cmp]; simp)
    go_enter Tryz.func14, Tryz.ntmps14
    go_wp2
    go_ret
    refine ⟨?_, B1.out⟩
    rw [HB.out]; rfl
  · have hb : (a3 == b3) = false := by simpa using h'
    go_enter Tryz.func14, Tryz.ntmps14
    go_wp2
    go_ret
    refine ⟨?_, B1.out⟩
    rw [HL.out, decide_eq_false (by omega)]; rfl

set_option maxHeartbeats 400000 in
theorem good_any (x : LotV) (d : Int) (W : World) : Calls Tryz.prog 16 #[.agg (encLot x).toArray, .int .i64 d] W fun e w' => e = .returned (.bool (decide (d ≤ x.2.2.1))) ∧ Below W.heap.size W w' := by
  obtain ⟨a1, a2, a3, a4⟩ := x
  simp only [encLot]
  have B1 := Lib.hid (below_one W (.cells #[.string ⟨a1.toArray⟩, .string ⟨a2.toArray⟩, .int .i64 a3, .int .i64 a4] 23))
  go_enter Tryz.func16, Tryz.ntmps16
  go_wp2
  go_ret
  exact ⟨rfl, B1.out⟩
end Go.Proofs.YtllcddlflcpmbaaGreatDoor
