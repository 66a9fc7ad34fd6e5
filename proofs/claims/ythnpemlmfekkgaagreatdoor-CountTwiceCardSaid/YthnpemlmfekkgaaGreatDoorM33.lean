/- The document's book: FindGoods, FindLot. Printed by gen/bkfind.py. Kinds of entries, of the document: hasFrom, hasTo, IsKind. Lots: Sooner. Lots: the document's error, text, order; Good. Goods: the document's error of them. -/
import Derived.Test.YthnpemlmfekkgaaGreatDoorM01
import Derived.Test.YthnpemlmfekkgaaGreatDoorM10
import Derived.Test.YthnpemlmfekkgaaGreatDoorM14
import Derived.Test.YthnpemlmfekkgaaGreatDoorM16
import Derived.Test.YthnpemlmfekkgaaGreatDoorM20
import Derived.Test.YthnpemlmfekkgaaGreatDoorM21
import Derived.Test.YthnpemlmfekkgaaGreatDoorM27
namespace Go.Proofs.YthnpemlmfekkgaaGreatDoor
open Go.RowKit Go.Sort Go.Proofs

/-- The cells of an element, as a walk reads them. -/
theorem range6L {w : World} {b o : Nat} {x : GoS} (h : ∀ c v, (encGoS x)[c]? = some v → w.cell? ⟨b, o + c, none⟩ = some v) : w.cell? ⟨b, o, none⟩ = some (.string ⟨x.1.1.toArray⟩) := h 0 _ rfl
theorem rangeLo {w : World} {b o : Nat} {x : LoH} (h : ∀ c v, (encLoH x)[c]? = some v → w.cell? ⟨b, o + c, none⟩ = some v) : w.cell? ⟨b, o, none⟩ = some (.string ⟨x.1.1.toArray⟩) := h 0 _ rfl

set_option maxHeartbeats 800000 in
set_option maxRecDepth 100000 in
theorem findG_any (q : Nat) (A : Option Addr) (cap : Nat) (l : List GoS) (c : List UInt8) (w : World) (c0 : w.cell? ⟨q, 0, none⟩ = some (.slice A l.length cap)) (hrow : RowAt encGoS 6 w A l) (hl : l.length ≤ 100000) :
    Calls Tryz.prog 55 #[.pointer (some ⟨q, 0, none⟩), .string ⟨c.toArray⟩] w fun e w' => e = .returned (.int .i64 (idxK (fun x : GoS => x.1.1) l c)) ∧ Below w.heap.size w w' := by
  obtain ⟨N, hN⟩ : ∃ N, N = l.length := ⟨_, rfl⟩
  have HN := Lib.hid hN
  have HROW := Lib.hid hrow
  have HC := Lib.hid c0
  rw [← hN] at hl HC
  have HF := Lib.hid (fun k h1 h2 => idxK_step (fun x : GoS => x.1.1) l c k h1 h2)
  generalize idxK (fun x : GoS => x.1.1) l c = R at HF ⊢
  clear hN hrow c0
  go_enter Tryz.func55, Tryz.ntmps55
  go_wp2_with fail
  go_loopw [5] (fun n wr => ∃ k : Nat, k ≤ N ∧ n = .int .i64 k ∧ Hid (∀ j (h : j < l.length), j < k → l[j].1.1 ≠ c) ∧ Below w.heap.size w wr) (fun n _ => N - (intOf n).toNat)
  case atStart => exact ⟨0, by omega, rfl, fun j _ h => absurd h (Nat.not_lt_zero _), Below.refl _ _⟩
  case round =>
    obtain ⟨k, hk, rfl, HNO, hb⟩ := hrel
    have HB := Lib.hid hb
    have c0 : wr.cell? ⟨q, 0, none⟩ = some (.slice A N cap) := (hb.cell (p := ⟨_, 0, none⟩) (lt_of_cell HC.out)).trans HC.out
    clear hb
    by_cases hkN : k < N
    · have hkx : k < l.length := by rw [← HN.out]; exact hkN
      obtain ⟨g, o, rfl, lg, cg⟩ := HROW.out.resolve_left (fun h => by rw [h] at hkx; simp at hkx)
      obtain ⟨x, hx⟩ : ∃ x, x = l[k] := ⟨_, rfl⟩
      have e0 := range6L (x := x) (w := wr) (b := g) (o := o + k * 6) (fun cc v hv => by
        have h1 := cg k hkx cc v (by rw [← hx]; exact hv)
        exact (HB.out.cell (p := ⟨g, o + k * 6 + cc, none⟩) lg).trans h1)
      have HX := Lib.hid hx
      clear hx cg
      by_cases h2 : x.1.1 = c
      · have HT : Hid (R = (k : Int)) := by
          have := HF.out k HNO.out (fun h => by rw [← HX.out]; exact h2)
          rw [if_pos hkx] at this
          exact this
        obtain ⟨⟨a1, a2⟩, a3⟩ := x
        simp only at e0 h2
        have hb4 : (a1 == c) = true := by simpa using h2
        clear h2 HF
        go_wp2_with fail
        go_ret
        rw [HT.out]
        exact ⟨rfl, HB.out⟩
      · have HNX : Hid (∀ j (h : j < l.length), j < k + 1 → l[j].1.1 ≠ c) := fun j hj hjk => by
          rcases Nat.lt_succ_iff_lt_or_eq.1 hjk with h | rfl
          · exact HNO.out j hj h
          · rw [← HX.out]; exact h2
        obtain ⟨⟨a1, a2⟩, a3⟩ := x
        simp only at e0 h2
        have hb4 : (a1 == c) = false := by simpa using h2
        clear h2 HF
        go_wp2_with fail
        go_roundw
        case rel => exact ⟨k + 1, by omega, by go_num, HNX.out, HB.out⟩
        case measure => simp [intOf]; omega
    · obtain rfl : k = N := by omega
      have HT : Hid (R = -1) := by
        have := HF.out k HNO.out (fun h => by rw [← HN.out] at h; omega)
        rw [if_neg (by rw [← HN.out]; omega)] at this
        exact this
      go_wp2_with fail
      go_ret
      rw [HT.out]
      exact ⟨rfl, HB.out⟩

set_option maxHeartbeats 800000 in
set_option maxRecDepth 100000 in
theorem findL_any (q : Nat) (A : Option Addr) (cap : Nat) (l : List LoH) (c : List UInt8) (w : World) (c0 : w.cell? ⟨q, 1, none⟩ = some (.slice A l.length cap)) (hrow : RowAt encLoH 5 w A l) (hl : l.length ≤ 100000) :
    Calls Tryz.prog 56 #[.pointer (some ⟨q, 0, none⟩), .string ⟨c.toArray⟩] w fun e w' => e = .returned (.int .i64 (idxK (fun x : LoH => x.1.1) l c)) ∧ Below w.heap.size w w' := by
  obtain ⟨N, hN⟩ : ∃ N, N = l.length := ⟨_, rfl⟩
  have HN := Lib.hid hN
  have HROW := Lib.hid hrow
  have HC := Lib.hid c0
  rw [← hN] at hl HC
  have HF := Lib.hid (fun k h1 h2 => idxK_step (fun x : LoH => x.1.1) l c k h1 h2)
  generalize idxK (fun x : LoH => x.1.1) l c = R at HF ⊢
  clear hN hrow c0
  go_enter Tryz.func56, Tryz.ntmps56
  go_wp2_with fail
  go_loopw [5] (fun n wr => ∃ k : Nat, k ≤ N ∧ n = .int .i64 k ∧ Hid (∀ j (h : j < l.length), j < k → l[j].1.1 ≠ c) ∧ Below w.heap.size w wr) (fun n _ => N - (intOf n).toNat)
  case atStart => exact ⟨0, by omega, rfl, fun j _ h => absurd h (Nat.not_lt_zero _), Below.refl _ _⟩
  case round =>
    obtain ⟨k, hk, rfl, HNO, hb⟩ := hrel
    have HB := Lib.hid hb
    have c0 : wr.cell? ⟨q, 1, none⟩ = some (.slice A N cap) := (hb.cell (p := ⟨_, 1, none⟩) (lt_of_cell HC.out)).trans HC.out
    clear hb
    by_cases hkN : k < N
    · have hkx : k < l.length := by rw [← HN.out]; exact hkN
      obtain ⟨g, o, rfl, lg, cg⟩ := HROW.out.resolve_left (fun h => by rw [h] at hkx; simp at hkx)
      obtain ⟨x, hx⟩ : ∃ x, x = l[k] := ⟨_, rfl⟩
      have e0 := rangeLo (x := x) (w := wr) (b := g) (o := o + k * 5) (fun cc v hv => by
        have h1 := cg k hkx cc v (by rw [← hx]; exact hv)
        exact (HB.out.cell (p := ⟨g, o + k * 5 + cc, none⟩) lg).trans h1)
      have HX := Lib.hid hx
      clear hx cg
      by_cases h2 : x.1.1 = c
      · have HT : Hid (R = (k : Int)) := by
          have := HF.out k HNO.out (fun h => by rw [← HX.out]; exact h2)
          rw [if_pos hkx] at this
          exact this
        obtain ⟨⟨a1, a2⟩, a3⟩ := x
        simp only at e0 h2
        have hb4 : (a1 == c) = true := by simpa using h2
        clear h2 HF
        go_wp2_with fail
        go_ret
        rw [HT.out]
        exact ⟨rfl, HB.out⟩
      · have HNX : Hid (∀ j (h : j < l.length), j < k + 1 → l[j].1.1 ≠ c) := fun j hj hjk => by
          rcases Nat.lt_succ_iff_lt_or_eq.1 hjk with h | rfl
          · exact HNO.out j hj h
          · rw [← HX.out]; exact h2
        obtain ⟨⟨a1, a2⟩, a3⟩ := x
        simp only at e0 h2
        have hb4 : (a1 == c) = false := by simpa using h2
        clear h2 HF
        go_wp2_with fail
        go_roundw
        case rel => exact ⟨k + 1, by omega, by go_num, HNX.out, HB.out⟩
        case measure => simp [intOf]; omega
    · obtain rfl : k = N := by omega
      have HT : Hid (R = -1) := by
        have := HF.out k HNO.out (fun h => by rw [← HN.out] at h; omega)
        rw [if_neg (by rw [← HN.out]; omega)] at this
        exact this
      go_wp2_with fail
      go_ret
      rw [HT.out]
      exact ⟨rfl, HB.out⟩
end Go.Proofs.YthnpemlmfekkgaaGreatDoor
namespace Go.Proofs.YthnpemlmfekkgaaGreatDoor
open Go.RowKit Go.Sort Go.Proofs

set_option maxHeartbeats 800000 in
theorem hasFrom_any (k : List UInt8) (w : World) : Calls Tryz.prog 97 #[.string ⟨k.toArray⟩] w fun e w' => e = .returned (.bool (hasF k)) ∧ w = w' := by
  rcases kind_cases k with rfl | rfl | rfl | rfl | rfl | rfl | rfl | ⟨h1, h2, h3, h4, h5, h6, h7, e1, e2, e3⟩
  case' inr.inr.inr.inr.inr.inr.inr =>
    rw [e1]
    clear e1 e2 e3
  all_goals
    go_enter Tryz.func97, Tryz.ntmps97
    go_wp2
    go_ret
    exact ⟨rfl, rfl⟩
set_option maxHeartbeats 800000 in
theorem hasTo_any (k : List UInt8) (w : World) : Calls Tryz.prog 98 #[.string ⟨k.toArray⟩] w fun e w' => e = .returned (.bool (hasT k)) ∧ w = w' := by
  rcases kind_cases k with rfl | rfl | rfl | rfl | rfl | rfl | rfl | ⟨h1, h2, h3, h4, h5, h6, h7, e1, e2, e3⟩
  case' inr.inr.inr.inr.inr.inr.inr =>
    rw [e2]
    clear e1 e2 e3
  all_goals
    go_enter Tryz.func98, Tryz.ntmps98
    go_wp2
    go_ret
    exact ⟨rfl, rfl⟩
/-- Is a word an entry's kind? -/
def isKB (k : List UInt8) : Bool := decide (k = kGoods) || decide (k = kLot) || isP k
set_option maxHeartbeats 1600000 in
theorem isKind_any (k : List UInt8) (w : World) : Calls Tryz.prog 93 #[.string ⟨k.toArray⟩] w fun e w' => e = .returned (.bool (isKB k)) ∧ w = w' := by
  have HF := Lib.hid (fun W => hasFrom_any k W)
  have HT := Lib.hid (fun W => hasTo_any k W)
  have hcase : (k = kGoods ∨ k = kLot) ∨ (k ≠ kGoods ∧ k ≠ kLot) := by
    by_cases h1 : k = kGoods
    · exact .inl (.inl h1)
    · by_cases h2 : k = kLot
      · exact .inl (.inr h2)
      · exact .inr ⟨h1, h2⟩
  rcases hcase with (rfl | rfl) | ⟨g1, g2⟩
  · go_enter Tryz.func93, Tryz.ntmps93
    go_wp2_with fail
    refine (HF.out _).mono ?_
    rintro e w1 ⟨rfl, rfl⟩
    go_wp2_with fail
    refine (HT.out _).mono ?_
    rintro e w1 ⟨rfl, rfl⟩
    go_wp2
    go_ret
    exact ⟨rfl, rfl⟩
  · go_enter Tryz.func93, Tryz.ntmps93
    go_wp2_with fail
    refine (HF.out _).mono ?_
    rintro e w1 ⟨rfl, rfl⟩
    go_wp2_with fail
    refine (HT.out _).mono ?_
    rintro e w1 ⟨rfl, rfl⟩
    go_wp2
    go_ret
    exact ⟨rfl, rfl⟩
  · have hg : (k == [103, 111, 111, 100, 115]) = false := beq_eq_false_iff_ne.2 g1
    have hl : (k == [108, 111, 116]) = false := beq_eq_false_iff_ne.2 g2
    have HK := Lib.hid (show isKB k = isP k by unfold isKB; rw [decide_eq_false g1, decide_eq_false g2]; rfl)
    rcases kind_cases k with rfl | rfl | rfl | rfl | rfl | rfl | rfl | ⟨h1, h2, h3, h4, h5, h6, h7, e1, e2, e3⟩
    case' inr.inr.inr.inr.inr.inr.inr =>
      rw [e3] at HK
      rw [e1] at HF
      rw [e2] at HT
      clear e1 e2 e3
    all_goals
      clear g1 g2
      go_enter Tryz.func93, Tryz.ntmps93
      go_wp2_with fail
      refine (HF.out _).mono ?_
      rintro e w1 ⟨rfl, rfl⟩
      go_wp2_with fail
      refine (HT.out _).mono ?_
      rintro e w1 ⟨rfl, rfl⟩
      go_wp2
      go_ret
      rw [HK.out]
      exact ⟨rfl, rfl⟩
end Go.Proofs.YthnpemlmfekkgaaGreatDoor
namespace Go.Proofs.YthnpemlmfekkgaaGreatDoor
open Go.RowKit Go.Sort Go.Proofs

set_option maxHeartbeats 400000 in
theorem sooner_any (x y : LotV) (W : World) : Calls Tryz.prog 24 #[.agg (encLot x).toArray, .agg (encLot y).toArray] W fun e w' => e = .returned (.bool (ltOf cfLot x y)) ∧ Below W.heap.size W w' := by
  have hc := fun W' => cmpLot_any x y W'
  have HL := Lib.hid (show ltOf cfLot x y = decide (cfLot x y < 0) from rfl)
  obtain ⟨a1, a2, a3, a4⟩ := x
  obtain ⟨b1, b2, b3, b4⟩ := y
  simp only [encLot] at hc ⊢
  have HC := Lib.hid hc
  clear hc
  generalize cfLot (a1, a2, a3, a4) (b1, b2, b3, b4) = c at HC HL
  go_enter Tryz.func24, Tryz.ntmps24
  go_wp2_with fail
  refine (HC.out _).mono ?_
  rintro e w1 ⟨rfl, q, os, hw⟩
  have hb := below_grown ((W.alloc (.cells #[.string ⟨a1.toArray⟩, .string ⟨a2.toArray⟩, .int .i64 a3, .int .i64 a4] 39)).alloc (.cells #[.string ⟨b1.toArray⟩, .string ⟨b2.toArray⟩, .int .i64 b3, .int .i64 b4] 39)) q os
  have B1 : Hid (Below W.heap.size W w1) := by
    rw [hw]
    exact (((Below.refl W.heap.size W).alloc (Nat.le_refl _) _).alloc (by simp) _).trans (hb.mono (by simp; omega))
  clear hw HC hb
  go_wp2
  go_ret
  exact ⟨by rw [HL.out]; rfl, B1.out⟩
end Go.Proofs.YthnpemlmfekkgaaGreatDoor
namespace Go.Proofs.YthnpemlmfekkgaaGreatDoor
open Go.RowKit Go.Sort Go.Proofs

set_option maxHeartbeats 800000 in
theorem refLotE_any (x : LotV) (h1 : x.1.length ≤ 1000000000) (h2 : x.2.1.length ≤ 1000000000) (w : World) :
    Calls Tryz.prog 95 #[.agg (encLot x).toArray] w fun e w' => e = .returned (.int .i64 (lotE x : Nat)) ∧ Below w.heap.size w w' := by
  have HE := Lib.hid (show lotE x = if (nameB x.1 && nameB x.2.1) = false then 5 else if x.2.2.1 < 0 ∨ 100000 < x.2.2.1 ∨ x.2.2.2 < 0 ∨ 1048576 < x.2.2.2 then 2 else 0 from rfl)
  obtain ⟨a1, a2, a3, a4⟩ := x
  have HN1 := Lib.hid (fun W => isName_any a1 h1 W)
  have HN2 := Lib.hid (fun W => isName_any a2 h2 W)
  simp only [encLot] at HE ⊢
  have B1 := Lib.hid (below_one w (.cells #[.string ⟨a1.toArray⟩, .string ⟨a2.toArray⟩, .int .i64 a3, .int .i64 a4] 39))
  generalize nameB a1 = n1 at HN1 HE
  generalize nameB a2 = n2 at HN2 HE
  have hcase : (n1 = false) ∨ (n1 = true ∧ n2 = false) ∨ (n1 = true ∧ n2 = true ∧ a3 < 0) ∨ (n1 = true ∧ n2 = true ∧ ¬ a3 < 0 ∧ 100000 < a3) ∨ (n1 = true ∧ n2 = true ∧ ¬ a3 < 0 ∧ ¬ 100000 < a3 ∧ a4 < 0) ∨ (n1 = true ∧ n2 = true ∧ ¬ a3 < 0 ∧ ¬ 100000 < a3 ∧ ¬ a4 < 0 ∧ 1048576 < a4) ∨ (n1 = true ∧ n2 = true ∧ ¬ a3 < 0 ∧ ¬ 100000 < a3 ∧ ¬ a4 < 0 ∧ ¬ 1048576 < a4) := by
    cases n1
    · exact .inl rfl
    · cases n2
      · exact .inr (.inl ⟨rfl, rfl⟩)
      · simp only [true_and, Bool.true_eq_false, false_or]
        omega
  go_enter Tryz.func95, Tryz.ntmps95
  go_wp2_with fail
  refine (HN1.out _).mono ?_
  rintro e w1 ⟨rfl, rfl⟩
  go_wp2_with fail
  refine (HN2.out _).mono ?_
  rintro e w1 ⟨rfl, rfl⟩
  rcases hcase with rfl | ⟨rfl, rfl⟩ | ⟨rfl, rfl, q1⟩ | ⟨rfl, rfl, q1, q2⟩ | ⟨rfl, rfl, q1, q2, q3⟩ | ⟨rfl, rfl, q1, q2, q3, q4⟩ | ⟨rfl, rfl, q1, q2, q3, q4⟩
  · go_wp2
    go_ret
    rw [HE.out, if_pos (by simp)]
    exact ⟨rfl, B1.out⟩
  · go_wp2
    go_ret
    rw [HE.out, if_pos (by simp)]
    exact ⟨rfl, B1.out⟩
  · go_wp2
    go_ret
    rw [HE.out, if_neg (by simp), if_pos (by omega)]
    exact ⟨rfl, B1.out⟩
  · go_wp2
    go_ret
    rw [HE.out, if_neg (by simp), if_pos (by omega)]
    exact ⟨rfl, B1.out⟩
  · go_wp2
    go_ret
    rw [HE.out, if_neg (by simp), if_pos (by omega)]
    exact ⟨rfl, B1.out⟩
  · go_wp2
    go_ret
    rw [HE.out, if_neg (by simp), if_pos (by omega)]
    exact ⟨rfl, B1.out⟩
  · go_wp2
    go_ret
    rw [HE.out, if_neg (by simp), if_neg (by omega)]
    exact ⟨rfl, B1.out⟩

theorem lotE_zero {x : LotV} (h : lotE x = 0) : nameB x.1 = true ∧ nameB x.2.1 = true ∧ 0 ≤ x.2.2.1 ∧ x.2.2.1 ≤ 100000 ∧ 0 ≤ x.2.2.2 ∧ x.2.2.2 ≤ 1048576 := by
  unfold lotE at h
  split at h
  · cases h
  · rename_i h1
    split at h
    · cases h
    · rename_i h2
      simp at h1
      refine ⟨h1.1, h1.2, ?_⟩
      omega

end Go.Proofs.YthnpemlmfekkgaaGreatDoor
namespace Go.Proofs.YthnpemlmfekkgaaGreatDoor
open Go.RowKit

set_option maxHeartbeats 400000 in
theorem refGoods_any (x : GoodsV) (hl : x.1.length ≤ 1000000000) (w : World) :
    Calls Tryz.prog 94 #[.agg (encGoods x).toArray] w fun e w' => e = .returned (.int .i64 (goodsE x : Nat)) ∧ Below w.heap.size w w' := by
  have HE := Lib.hid (show goodsE x = if nameB x.1 = false then 5 else if wiB x.2 1 1000 = false then 2 else 0 from rfl)
  obtain ⟨a1, a2⟩ := x
  have HN := Lib.hid (fun W => isName_any a1 hl W)
  have HW := Lib.hid (show wiB a2 1 1000 = decide (1 ≤ a2 ∧ a2 ≤ 1000) from rfl)
  simp only [encGoods] at HE ⊢
  clear hl
  generalize nameB a1 = nm at HN HE
  have b1 := below_one w (.cells #[.string ⟨a1.toArray⟩, .int .i64 a2] 37)
  have B1 := Lib.hid b1
  clear b1
  cases nm with
  | false =>
    go_enter Tryz.func94, Tryz.ntmps94
    go_wp2_with fail
    refine (HN.out _).mono ?_
    rintro e w1 ⟨rfl, rfl⟩
    go_wp2_with fail
    go_ret
    rw [HE.out]
    exact ⟨rfl, B1.out⟩
  | true =>
    by_cases h1 : a2 < 1
    · have HE' := Lib.hid (show goodsE (a1, a2) = 2 by rw [HE.out, if_neg (by simp), HW.out, if_pos (by simp; omega)])
      go_enter Tryz.func94, Tryz.ntmps94
      go_wp2_with fail
      refine (HN.out _).mono ?_
      rintro e w1 ⟨rfl, rfl⟩
      go_wp2_with fail
      go_ret
      rw [HE'.out]
      exact ⟨rfl, B1.out⟩
    · by_cases h2 : 1000 < a2
      · have HE' := Lib.hid (show goodsE (a1, a2) = 2 by rw [HE.out, if_neg (by simp), HW.out, if_pos (by simp; omega)])
        go_enter Tryz.func94, Tryz.ntmps94
        go_wp2_with fail
        refine (HN.out _).mono ?_
        rintro e w1 ⟨rfl, rfl⟩
        go_wp2_with fail
        go_ret
        rw [HE'.out]
        exact ⟨rfl, B1.out⟩
      · have HE' := Lib.hid (show goodsE (a1, a2) = 0 by rw [HE.out, if_neg (by simp), HW.out, if_neg (by simp; omega)])
        go_enter Tryz.func94, Tryz.ntmps94
        go_wp2_with fail
        refine (HN.out _).mono ?_
        rintro e w1 ⟨rfl, rfl⟩
        go_wp2_with fail
        go_ret
        rw [HE'.out]
        exact ⟨rfl, B1.out⟩

end Go.Proofs.YthnpemlmfekkgaaGreatDoor
