/- The document's book: FindGoods, FindLot. Printed by gen/bkfind.py. Kinds of entries, of the document: hasFrom, hasTo, IsKind. Lots: Sooner. Lots: the document's error, text, order; Good. Goods: the document's error of them. -/
import Derived.Test.YtchiojiicehpeaaGreatDoorM01
import Derived.Test.YtchiojiicehpeaaGreatDoorM10
import Derived.Test.YtchiojiicehpeaaGreatDoorM15
import Derived.Test.YtchiojiicehpeaaGreatDoorM18
import Derived.Test.YtchiojiicehpeaaGreatDoorM21
import Derived.Test.YtchiojiicehpeaaGreatDoorM23
import Derived.Test.YtchiojiicehpeaaGreatDoorM27
namespace Go.Proofs.YtchiojiicehpeaaGreatDoor
open Go.RowKit Go.Sort Go.Proofs
theorem range6L {w : World} {b o : Nat} {x : GoS} (h : ∀ c v, (encGoS x)[c]? = some v → w.cell? ⟨b, o + c, none⟩ = some v) : w.cell? ⟨b, o, none⟩ = some (.string ⟨x.1.1.toArray⟩) := h 0 _ rfl
theorem rangeLo {w : World} {b o : Nat} {x : LoH} (h : ∀ c v, (encLoH x)[c]? = some v → w.cell? ⟨b, o + c, none⟩ = some v) : w.cell? ⟨b, o, none⟩ = some (.string ⟨x.1.1.toArray⟩) := h 0 _ rfl
set_option maxHeartbeats 800000 in
set_option maxRecDepth 100000 in
theorem findG_any (q : Nat) (A : Option Addr) (cap : Nat) (l : List GoS) (c : List UInt8) (w : World) (c0 : w.cell? ⟨q, 0, none⟩ = some (.slice A l.length cap)) (hrow : RowAt encGoS 6 w A l) (hl : l.length ≤ 100000) :
  Calls Tryz.prog 109 #[.pointer (some ⟨q, 0, none⟩), .string ⟨c.toArray⟩] w fun e w' => e = .returned (.int .i64 (idxK (fun x : GoS => x.1.1) l c)) ∧ Below w.heap.size w w' := by
 obtain ⟨N, hN⟩ : ∃ N, N = l.length := ⟨_, rfl⟩
 have HN := Lib.hid hN
 have HROW := Lib.hid hrow
 have HC := Lib.hid c0
 rw [← hN] at hl HC
 have HF := Lib.hid (fun k h1 h2 => idxK_step (fun x : GoS => x.1.1) l c k h1 h2)
 generalize idxK (fun x : GoS => x.1.1) l c = R at HF ⊢
 clear hN hrow c0
 go_enter Tryz.func109, Tryz.ntmps109
 go_wp2_with fail
 go_loopw [5] (fun n wr => ∃ k : Nat, k ≤ N ∧ n = .int .i64 k ∧ Hid (∀ j (h : j < l.length), j < k → l[j].1.1 ≠ c) ∧ Below w.heap.size w wr) (fun n _ => N - (intOf n).toNat)
 case atStart => exact ⟨0, by omega, rfl, fun j _ h => absurd h (Nat.not_lt_zero _), Below.refl _ _⟩
 case round =>
  obtain ⟨k, hk, rfl, HNO, hb⟩ := hrel
  have HB := Lib.hid hb
  have c0 : wr.cell? ⟨q, 0, none⟩ = some (.slice A N cap) := (hb.cell (p := ⟨_, 0, none⟩) (lt_of_cell HC.out)).trans HC.out
  clear hb
  by_cases hkN : k < N
  ·have hkx : k < l.length := by rw [← HN.out]; exact hkN
   obtain ⟨g, o, rfl, lg, cg⟩ := HROW.out.resolve_left (fun h => by rw [h] at hkx; simp at hkx)
   obtain ⟨x, hx⟩ : ∃ x, x = l[k] := ⟨_, rfl⟩
   have e0 := range6L (x := x) (w := wr) (b := g) (o := o + k * 6) (fun cc v hv => by
    have h1 := cg k hkx cc v (by rw [← hx]; exact hv)
    exact (HB.out.cell (p := ⟨g, o + k * 6 + cc, none⟩) lg).trans h1)
   have HX := Lib.hid hx
   clear hx cg
   by_cases h2 : x.1.1 = c
   ·have HT : Hid (R = (k : Int)) := by
     have := HF.out k HNO.out (fun h => by rw [← HX.out]; exact h2)
     rw [if_pos hkx] at this
     exact this
    obtain ⟨⟨a1, a2⟩, a3⟩ := x
    simp only at e0 h2
    have hb4 : (a1 == c) = true := by simpa using h2
    clear h2 HF
    go_wp2_with fail
    go_ret
    rw [HT.out]
    exact ⟨rfl, HB.out⟩
   ·have HNX : Hid (∀ j (h : j < l.length), j < k + 1 → l[j].1.1 ≠ c) := fun j hj hjk => by
     rcases Nat.lt_succ_iff_lt_or_eq.1 hjk with h | rfl
     ·exact HNO.out j hj h
     ·rw [← HX.out]; exact h2
    obtain ⟨⟨a1, a2⟩, a3⟩ := x
    simp only at e0 h2
    have hb4 : (a1 == c) = false := by simpa using h2
    clear h2 HF
    go_wp2_with fail
    go_roundw
    case rel => exact ⟨k + 1, by omega, by go_num, HNX.out, HB.out⟩
    case measure => simp [intOf]; omega
  ·obtain rfl : k = N := by omega
   have HT : Hid (R = -1) := by
    have := HF.out k HNO.out (fun h => by rw [← HN.out] at h; omega)
    rw [if_neg (by rw [← HN.out]; omega)] at this
    exact this
   go_wp2_with fail
   go_ret
   rw [HT.out]
   exact ⟨rfl, HB.out⟩
set_option maxHeartbeats 800000 in
set_option maxRecDepth 100000 in
theorem findL_any (q : Nat) (A : Option Addr) (cap : Nat) (l : List LoH) (c : List UInt8) (w : World) (c0 : w.cell? ⟨q, 1, none⟩ = some (.slice A l.length cap)) (hrow : RowAt encLoH 5 w A l) (hl : l.length ≤ 100000) :
  Calls Tryz.prog 110 #[.pointer (some ⟨q, 0, none⟩), .string ⟨c.toArray⟩] w fun e w' => e = .returned (.int .i64 (idxK (fun x : LoH => x.1.1) l c)) ∧ Below w.heap.size w w' := by
 obtain ⟨N, hN⟩ : ∃ N, N = l.length := ⟨_, rfl⟩
 have HN := Lib.hid hN
 have HROW := Lib.hid hrow
 have HC := Lib.hid c0
 rw [← hN] at hl HC
 have HF := Lib.hid (fun k h1 h2 => idxK_step (fun x : LoH => x.1.1) l c k h1 h2)
 generalize idxK (fun x : LoH => x.1.1) l c = R at HF ⊢
 clear hN hrow c0
 go_enter Tryz.func110, Tryz.ntmps110
 go_wp2_with fail
 go_loopw [5] (fun n wr => ∃ k : Nat, k ≤ N ∧ n = .int .i64 k ∧ Hid (∀ j (h : j < l.length), j < k → l[j].1.1 ≠ c) ∧ Below w.heap.size w wr) (fun n _ => N - (intOf n).toNat)
 case atStart => exact ⟨0, by omega, rfl, fun j _ h => absurd h (Nat.not_lt_zero _), Below.refl _ _⟩
 case round =>
  obtain ⟨k, hk, rfl, HNO, hb⟩ := hrel
  have HB := Lib.hid hb
  have c0 : wr.cell? ⟨q, 1, none⟩ = some (.slice A N cap) := (hb.cell (p := ⟨_, 1, none⟩) (lt_of_cell HC.out)).trans HC.out
  clear hb
  by_cases hkN : k < N
  ·have hkx : k < l.length := by rw [← HN.out]; exact hkN
   obtain ⟨g, o, rfl, lg, cg⟩ := HROW.out.resolve_left (fun h => by rw [h] at hkx; simp at hkx)
   obtain ⟨x, hx⟩ : ∃ x, x = l[k] := ⟨_, rfl⟩
   have e0 := rangeLo (x := x) (w := wr) (b := g) (o := o + k * 5) (fun cc v hv => by
    have h1 := cg k hkx cc v (by rw [← hx]; exact hv)
    exact (HB.out.cell (p := ⟨g, o + k * 5 + cc, none⟩) lg).trans h1)
   have HX := Lib.hid hx
   clear hx cg
   by_cases h2 : x.1.1 = c
   ·have HT : Hid (R = (k : Int)) := by
     have := HF.out k HNO.out (fun h => by rw [← HX.out]; exact h2)
     rw [if_pos hkx] at this
     exact this
    obtain ⟨⟨a1, a2⟩, a3⟩ := x
    simp only at e0 h2
    have hb4 : (a1 == c) = true := by simpa using h2
    clear h2 HF
    go_wp2_with fail
    go_ret
    rw [HT.out]
    exact ⟨rfl, HB.out⟩
   ·have HNX : Hid (∀ j (h : j < l.length), j < k + 1 → l[j].1.1 ≠ c) := fun j hj hjk => by
     rcases Nat.lt_succ_iff_lt_or_eq.1 hjk with h | rfl
     ·exact HNO.out j hj h
     ·rw [← HX.out]; exact h2
    obtain ⟨⟨a1, a2⟩, a3⟩ := x
    simp only at e0 h2
    have hb4 : (a1 == c) = false := by simpa using h2
    clear h2 HF
    go_wp2_with fail
    go_roundw
    case rel => exact ⟨k + 1, by omega, by go_num, HNX.out, HB.out⟩
    case measure => simp [intOf]; omega
  ·obtain rfl : k = N := by omega
   have HT : Hid (R = -1) := by
    have := HF.out k HNO.out (fun h => by rw [← HN.out] at h; omega)
    rw [if_neg (by rw [← HN.out]; omega)] at this
    exact this
   go_wp2_with fail
   go_ret
   rw [HT.out]
   exact ⟨rfl, HB.out⟩
end Go.Proofs.YtchiojiicehpeaaGreatDoor
namespace Go.Proofs.YtchiojiicehpeaaGreatDoor
open Go.RowKit Go.Sort Go.Proofs
set_option maxHeartbeats 800000 in
theorem hasFrom_any (k : List UInt8) (w : World) : Calls Tryz.prog 169 #[.string ⟨k.toArray⟩] w fun e w' => e = .returned (.bool (hasF k)) ∧ w = w' := by
 rcases kind_cases k with rfl | rfl | rfl | rfl | rfl | rfl | rfl | ⟨h1, h2, h3, h4, h5, h6, h7, e1, e2, e3⟩
 case' inr.inr.inr.inr.inr.inr.inr =>
  rw [e1]
  clear e1 e2 e3
 all_goals
  go_enter Tryz.func169, Tryz.ntmps169
  go_wp2
  go_ret
  exact ⟨rfl, rfl⟩
set_option maxHeartbeats 800000 in
theorem hasTo_any (k : List UInt8) (w : World) : Calls Tryz.prog 170 #[.string ⟨k.toArray⟩] w fun e w' => e = .returned (.bool (hasT k)) ∧ w = w' := by
 rcases kind_cases k with rfl | rfl | rfl | rfl | rfl | rfl | rfl | ⟨h1, h2, h3, h4, h5, h6, h7, e1, e2, e3⟩
 case' inr.inr.inr.inr.inr.inr.inr =>
  rw [e2]
  clear e1 e2 e3
 all_goals
  go_enter Tryz.func170, Tryz.ntmps170
  go_wp2
  go_ret
  exact ⟨rfl, rfl⟩
def isKB (k : List UInt8) : Bool := decide (k = kGoods) || decide (k = kLot) || isP k
set_option maxHeartbeats 1600000 in
theorem isKind_any (k : List UInt8) (w : World) : Calls Tryz.prog 167 #[.string ⟨k.toArray⟩] w fun e w' => e = .returned (.bool (isKB k)) ∧ w = w' := by
 have HF := Lib.hid (fun W => hasFrom_any k W)
 have HT := Lib.hid (fun W => hasTo_any k W)
 have hcase : (k = kGoods ∨ k = kLot) ∨ (k ≠ kGoods ∧ k ≠ kLot) := by
  by_cases h1 : k = kGoods
  ·exact .inl (.inl h1)
  ·by_cases h2 : k = kLot
   ·exact .inl (.inr h2)
   ·exact .inr ⟨h1, h2⟩
 rcases hcase with (rfl | rfl) | ⟨g1, g2⟩
 ·go_enter Tryz.func167, Tryz.ntmps167
  go_wp2_with fail
  refine (HF.out _).mono ?_
  rintro e w1 ⟨rfl, rfl⟩
  go_wp2_with fail
  refine (HT.out _).mono ?_
  rintro e w1 ⟨rfl, rfl⟩
  go_wp2
  go_ret
  exact ⟨rfl, rfl⟩
 ·go_enter Tryz.func167, Tryz.ntmps167
  go_wp2_with fail
  refine (HF.out _).mono ?_
  rintro e w1 ⟨rfl, rfl⟩
  go_wp2_with fail
  refine (HT.out _).mono ?_
  rintro e w1 ⟨rfl, rfl⟩
  go_wp2
  go_ret
  exact ⟨rfl, rfl⟩
 ·have hg : (k == [103, 111, 111, 100, 115]) = false := beq_eq_false_iff_ne.2 g1
  have hl : (k == [108, 111, 116]) = false := beq_eq_false_iff_ne.2 g2
  have HK := Lib.hid (show isKB k = isP k by unfold isKB; rw [decide_eq_false g1, decide_eq_false g2]; rfl)
  rcases kind_cases k with rfl | rfl | rfl | rfl | rfl | rfl | rfl | ⟨h1, h2, h3, h4, h5, h6, h7, e1, e2, e3⟩
  case' inr.inr.inr.inr.inr.inr.inr =>
   rw [e3] at HK
   rw [e1] at HF
   rw [e2] at HT
   clear e1 e2 e3
  all_goals
   clear g1 g2
   go_enter Tryz.func167, Tryz.ntmps167
   go_wp2_with fail
   refine (HF.out _).mono ?_
   rintro e w1 ⟨rfl, rfl⟩
   go_wp2_with fail
   refine (HT.out _).mono ?_
   rintro e w1 ⟨rfl, rfl⟩
   go_wp2
   go_ret
   rw [HK.out]
   exact ⟨rfl, rfl⟩
end Go.Proofs.YtchiojiicehpeaaGreatDoor
namespace Go.Proofs.YtchiojiicehpeaaGreatDoor
open Go.RowKit Go.Sort Go.Proofs
end Go.Proofs.YtchiojiicehpeaaGreatDoor
namespace Go.Proofs.YtchiojiicehpeaaGreatDoor
open Go.RowKit Go.Sort Go.Proofs
set_option maxHeartbeats 800000 in
theorem refLotE_any (x : LotV) (h1 : x.1.length ≤ 1000000000) (h2 : x.2.1.length ≤ 1000000000) (w : World) :
  Calls Tryz.prog 164 #[.agg (encLot x).toArray] w fun e w' => e = .returned (.int .i64 (lotE x : Nat)) ∧ Below w.heap.size w w' := by
 have HE := Lib.hid (show lotE x = if (nameB x.1 && nameB x.2.1) = false then 5 else if x.2.2.1 < 0 ∨ 100000 < x.2.2.1 ∨ x.2.2.2 < 0 ∨ 1048576 < x.2.2.2 then 2 else 0 from rfl)
 obtain ⟨a1, a2, a3, a4⟩ := x
 have HN1 := Lib.hid (fun W => isName_any a1 h1 W)
 have HN2 := Lib.hid (fun W => isName_any a2 h2 W)
 simp only [encLot] at HE ⊢
 have B1 := Lib.hid (below_one w (.cells #[.string ⟨a1.toArray⟩, .string ⟨a2.toArray⟩, .int .i64 a3, .int .i64 a4] 65))
 generalize nameB a1 = n1 at HN1 HE
 generalize nameB a2 = n2 at HN2 HE
 have hcase : (n1 = false) ∨ (n1 = true ∧ n2 = false) ∨ (n1 = true ∧ n2 = true ∧ a3 < 0) ∨ (n1 = true ∧ n2 = true ∧ ¬ a3 < 0 ∧ 100000 < a3) ∨ (n1 = true ∧ n2 = true ∧ ¬ a3 < 0 ∧ ¬ 100000 < a3 ∧ a4 < 0) ∨ (n1 = true ∧ n2 = true ∧ ¬ a3 < 0 ∧ ¬ 100000 < a3 ∧ ¬ a4 < 0 ∧ 1048576 < a4) ∨ (n1 = true ∧ n2 = true ∧ ¬ a3 < 0 ∧ ¬ 100000 < a3 ∧ ¬ a4 < 0 ∧ ¬ 1048576 < a4) := by
  cases n1
  ·exact .inl rfl
  ·cases n2
   ·exact .inr (.inl ⟨rfl, rfl⟩)
   ·simp only [true_and, Bool.true_eq_false, false_or]
    omega
 go_enter Tryz.func164, Tryz.ntmps164
 go_wp2_with fail
 refine (HN1.out _).mono ?_
 rintro e w1 ⟨rfl, rfl⟩
 go_wp2_with fail
 refine (HN2.out _).mono ?_
 rintro e w1 ⟨rfl, rfl⟩
 rcases hcase with rfl | ⟨rfl, rfl⟩ | ⟨rfl, rfl, q1⟩ | ⟨rfl, rfl, q1, q2⟩ | ⟨rfl, rfl, q1, q2, q3⟩ | ⟨rfl, rfl, q1, q2, q3, q4⟩ | ⟨rfl, rfl, q1, q2, q3, q4⟩
 ·go_wp2
  go_ret
  rw [HE.out, if_pos (by simp)]
  exact ⟨rfl, B1.out⟩
 ·go_wp2
  go_ret
  rw [HE.out, if_pos (by simp)]
  exact ⟨rfl, B1.out⟩
 ·go_wp2
  go_ret
  rw [HE.out, if_neg (by simp), if_pos (by omega)]
  exact ⟨rfl, B1.out⟩
 ·go_wp2
  go_ret
  rw [HE.out, if_neg (by simp), if_pos (by omega)]
  exact ⟨rfl, B1.out⟩
 ·go_wp2
  go_ret
  rw [HE.out, if_neg (by simp), if_pos (by omega)]
  exact ⟨rfl, B1.out⟩
 ·go_wp2
  go_ret
  rw [HE.out, if_neg (by simp), if_pos (by omega)]
  exact ⟨rfl, B1.out⟩
 ·go_wp2
  go_ret
  rw [HE.out, if_neg (by simp), if_neg (by omega)]
  exact ⟨rfl, B1.out⟩
theorem lotE_zero {x : LotV} (h : lotE x = 0) : nameB x.1 = true ∧ nameB x.2.1 = true ∧ 0 ≤ x.2.2.1 ∧ x.2.2.1 ≤ 100000 ∧ 0 ≤ x.2.2.2 ∧ x.2.2.2 ≤ 1048576 := by
 unfold lotE at h
 split at h
 ·cases h
 ·rename_i h1
  split at h
  ·cases h
  ·rename_i h2
   simp at h1
   refine ⟨h1.1, h1.2, ?_⟩
   omega
set_option maxHeartbeats 800000 in
theorem refLotText_any (x : LotV) (h1 : x.1.length ≤ 1000000000) (h2 : x.2.1.length ≤ 1000000000) (w : World) :
  Calls Tryz.prog 103 #[.agg (encLot x).toArray] w fun e w' => e = .returned (.string ⟨(lotText x).toArray⟩) ∧ Below w.heap.size w w' := by
 have HCK := Lib.hid (fun W => refLotE_any x h1 h2 W)
 by_cases hE : lotE x = 0
 ·have hx := lotE_zero hE
  have HTX := Lib.hid (show lotText x = x.1 ++ [32] ++ x.2.1 ++ [32] ++ Lib.itoa x.2.2.1 ++ [32] ++ Lib.itoa x.2.2.2 by unfold lotText; rw [if_pos hE])
  rw [hE] at HCK
  obtain ⟨a1, a2, a3, a4⟩ := x
  simp only at hx
  obtain ⟨x1, x2, x3, x4, x5, x6⟩ := hx
  obtain ⟨u, rfl⟩ : ∃ u : Nat, a3 = (u : Int) := ⟨a3.toNat, by omega⟩
  obtain ⟨v, rfl⟩ : ∃ v : Nat, a4 = (v : Int) := ⟨a4.toNat, by omega⟩
  simp only [encLot] at HCK HTX ⊢
  have hl8 : ∀ l, nameB l = true → l.length ≤ 8 := fun l h => by
   unfold nameB at h
   simp at h
   exact h.1.2
  have l1 := hl8 _ x1
  have l2 := hl8 _ x2
  have n3 := Lib.itoa_length_le (u : Int) (by omega) (by omega)
  have n4 := Lib.itoa_length_le (v : Int) (by omega) (by omega)
  have HD1 := Lib.hid (fun W => decimal_nat u (by omega) W)
  have HD2 := Lib.hid (fun W => decimal_nat v (by omega) W)
  clear hE hl8 x1 x2 h1 h2
  go_enter Tryz.func103, Tryz.ntmps103
  go_wp2_with fail
  refine (HCK.out _).mono ?_
  rintro e w1 ⟨rfl, bb1⟩
  have hh := (bb1.block w.heap.size (by simp)).trans (heap_alloc_new w (.cells #[.string ⟨a1.toArray⟩, .string ⟨a2.toArray⟩, .int .i64 (u : Int), .int .i64 (v : Int)] 65))
  have lw := heap_two bb1
  have b1 := (below_one w (.cells #[.string ⟨a1.toArray⟩, .string ⟨a2.toArray⟩, .int .i64 (u : Int), .int .i64 (v : Int)] 65)).trans (bb1.mono (by simp))
  have c0 : w1.cell? ⟨w.heap.size, 0, none⟩ = some (.string ⟨a1.toArray⟩) := by rw [cell_of_row w1 _ _ _ _ _ hh]; rfl
  have c1 : w1.cell? ⟨w.heap.size, 1, none⟩ = some (.string ⟨a2.toArray⟩) := by rw [cell_of_row w1 _ _ _ _ _ hh]; rfl
  have c2 : w1.cell? ⟨w.heap.size, 2, none⟩ = some (.int .i64 (u : Int)) := by rw [cell_of_row w1 _ _ _ _ _ hh]; rfl
  have c3 : w1.cell? ⟨w.heap.size, 3, none⟩ = some (.int .i64 (v : Int)) := by rw [cell_of_row w1 _ _ _ _ _ hh]; rfl
  clear hh bb1 HCK
  go_wp2_with fail
  have hd : Below w.heap.size w w1.drew := b1.drew
  have s1 : (⟨a1.toArray⟩ : ByteArray).size = a1.length := by simp [ByteArray.size]
  have s2 : (⟨a2.toArray⟩ : ByteArray).size = a2.length := by simp [ByteArray.size]
  have v1 : ¬ 9223372036854775807 < a1.length + 1 := by omega
  have v2 : ¬ 9223372036854775807 < a1.length + 1 + a2.length := by omega
  have v3 : ¬ 9223372036854775807 < a1.length + 1 + a2.length + 1 := by omega
  have v4 : ¬ 9223372036854775807 < a1.length + 1 + a2.length + 1 + (Lib.itoa (u : Int)).length := by omega
  have v5 : ¬ 9223372036854775807 < a1.length + 1 + a2.length + 1 + (Lib.itoa (u : Int)).length + 1 := by omega
  have v6 : ¬ 9223372036854775807 < a1.length + 1 + a2.length + 1 + (Lib.itoa (u : Int)).length + 1 + (Lib.itoa (v : Int)).length := by omega
  go_region_held3 (fun w' => w'.cell? ⟨w.heap.size, 0, none⟩ = some (.string ⟨a1.toArray⟩) ∧ w'.cell? ⟨w.heap.size, 1, none⟩ = some (.string ⟨a2.toArray⟩) ∧ w'.cell? ⟨w.heap.size, 2, none⟩ = some (.int .i64 (u : Int)) ∧ w'.cell? ⟨w.heap.size, 3, none⟩ = some (.int .i64 (v : Int)) ∧ Below w.heap.size w w')
   (first | exact ⟨c0, c1, c2, c3, hd⟩ | exact ⟨(q4.cell lw).trans c0, (q4.cell lw).trans c1, (q4.cell lw).trans c2, (q4.cell lw).trans c3, b4⟩ | exact ⟨(q3.cell lw).trans c0, (q3.cell lw).trans c1, (q3.cell lw).trans c2, (q3.cell lw).trans c3, b3⟩ | go_keep)
   (first
    |(go_at_call_of 102 (Value.int .i64 (u : Int)); refine (HD1.out _).mono ?_; rintro e w3 ⟨rfl, bb3⟩; have q3 : Below w1.heap.size w1 w3 := (Below.refl w1.heap.size w1).drew.trans bb3; have b3 := b1.trans (q3.mono b1.size))
    |(go_at_call_of 102 (Value.int .i64 (v : Int)); refine (HD2.out _).mono ?_; rintro e w4 ⟨rfl, bb4⟩; have q4 := q3.trans (bb4.mono q3.size); have b4 := b1.trans (q4.mono b1.size)))
  all_goals
   have B4 := Lib.hid b4
   clear b4 q4 q3 b3 bb3 bb4 hd b1 c0 c1 c2 c3
   go_wp2_with fail
   go_ret
   refine ⟨?_, B4.out⟩
   rw [HTX.out]
   show Ending.returned (.string ((⟨a1.toArray⟩ : ByteArray) ++ (⟨#[32]⟩ : ByteArray) ++ (⟨a2.toArray⟩ : ByteArray) ++ (⟨#[32]⟩ : ByteArray) ++ (⟨(Lib.itoa (u : Int)).toArray⟩ : ByteArray) ++ (⟨#[32]⟩ : ByteArray) ++ (⟨(Lib.itoa (v : Int)).toArray⟩ : ByteArray))) = _
   rw [show (⟨#[32]⟩ : ByteArray) = ⟨[32].toArray⟩ from rfl, mk_app, mk_app, mk_app, mk_app, mk_app, mk_app]
 ·have HTX := Lib.hid (show lotText x = [] by unfold lotText; rw [if_neg hE])
  have hpos : 0 < lotE x := Nat.pos_of_ne_zero hE
  generalize lotE x = k at HCK hpos
  have hpi : 0 < (k : Int) := by omega
  obtain ⟨a1, a2, a3, a4⟩ := x
  simp only [encLot] at HCK ⊢
  clear hE
  go_enter Tryz.func103, Tryz.ntmps103
  go_wp2_with fail
  refine (HCK.out _).mono ?_
  rintro e w1 ⟨rfl, bb1⟩
  have B1 := Lib.hid ((below_one w (.cells #[.string ⟨a1.toArray⟩, .string ⟨a2.toArray⟩, .int .i64 a3, .int .i64 a4] 65)).trans (bb1.mono (by simp)))
  clear bb1
  go_wp2_with fail
  go_ret
  rw [HTX.out]
  exact ⟨rfl, B1.out⟩
set_option maxHeartbeats 400000 in
theorem isSooner_any (x y : LotV) (W : World) : Calls Tryz.prog 143 #[.agg (encLot x).toArray, .agg (encLot y).toArray] W fun e w' => e = .returned (.bool (ltOf cfLot x y)) ∧ Below W.heap.size W w' := by
 have HL := Lib.hid (ltLot x y)
 obtain ⟨a1, a2, a3, a4⟩ := x
 obtain ⟨b1, b2, b3, b4⟩ := y
 simp only [encLot] at HL ⊢
 have B1 := Lib.hid (below_two W (.cells #[.string ⟨a1.toArray⟩, .string ⟨a2.toArray⟩, .int .i64 a3, .int .i64 a4] 65) (.cells #[.string ⟨b1.toArray⟩, .string ⟨b2.toArray⟩, .int .i64 b3, .int .i64 b4] 65))
 rcases (show a3 < b3 ∨ a3 = b3 ∨ (¬ a3 < b3 ∧ ¬ a3 = b3) by omega) with h | h | ⟨h, h'⟩
 ·go_enter Tryz.func143, Tryz.ntmps143
  go_wp2
  go_ret
  refine ⟨?_, B1.out⟩
  rw [HL.out, decide_eq_true (.inl h)]; rfl
 ·subst h
  have hne : ¬ a3 < a3 := by omega
  have HB := Lib.hid (show ltOf cfLot (a1, a2, a3, a4) (b1, b2, a3, b4) = Op.bytesLess a1 b1 by rw [HL.out, less_cmp]; simp)
  go_enter Tryz.func143, Tryz.ntmps143
  go_wp2
  go_ret
  refine ⟨?_, B1.out⟩
  rw [HB.out]; rfl
 ·have hb : (a3 == b3) = false := by simpa using h'
  go_enter Tryz.func143, Tryz.ntmps143
  go_wp2
  go_ret
  refine ⟨?_, B1.out⟩
  rw [HL.out, decide_eq_false (by omega)]; rfl
end Go.Proofs.YtchiojiicehpeaaGreatDoor
namespace Go.Proofs.YtchiojiicehpeaaGreatDoor
open Go.RowKit
set_option maxHeartbeats 400000 in
theorem refGoods_any (x : GoodsV) (hl : x.1.length ≤ 1000000000) (w : World) :
  Calls Tryz.prog 168 #[.agg (encGoods x).toArray] w fun e w' => e = .returned (.int .i64 (goodsE x : Nat)) ∧ Below w.heap.size w w' := by
 have HE := Lib.hid (show goodsE x = if nameB x.1 = false then 5 else if wiB x.2 1 1000 = false then 2 else 0 from rfl)
 obtain ⟨a1, a2⟩ := x
 have HN := Lib.hid (fun W => isName_any a1 hl W)
 have HW := Lib.hid (show wiB a2 1 1000 = decide (1 ≤ a2 ∧ a2 ≤ 1000) from rfl)
 simp only [encGoods] at HE ⊢
 clear hl
 generalize nameB a1 = nm at HN HE
 have b1 := below_one w (.cells #[.string ⟨a1.toArray⟩, .int .i64 a2] 63)
 have B1 := Lib.hid b1
 clear b1
 cases nm with
 |false =>
  go_enter Tryz.func168, Tryz.ntmps168
  go_wp2_with fail
  refine (HN.out _).mono ?_
  rintro e w1 ⟨rfl, rfl⟩
  go_wp2_with fail
  go_ret
  rw [HE.out]
  exact ⟨rfl, B1.out⟩
 |true =>
  by_cases h1 : a2 < 1
  ·have HE' := Lib.hid (show goodsE (a1, a2) = 2 by rw [HE.out, if_neg (by simp), HW.out, if_pos (by simp; omega)])
   go_enter Tryz.func168, Tryz.ntmps168
   go_wp2_with fail
   refine (HN.out _).mono ?_
   rintro e w1 ⟨rfl, rfl⟩
   go_wp2_with fail
   go_ret
   rw [HE'.out]
   exact ⟨rfl, B1.out⟩
  ·by_cases h2 : 1000 < a2
   ·have HE' := Lib.hid (show goodsE (a1, a2) = 2 by rw [HE.out, if_neg (by simp), HW.out, if_pos (by simp; omega)])
    go_enter Tryz.func168, Tryz.ntmps168
    go_wp2_with fail
    refine (HN.out _).mono ?_
    rintro e w1 ⟨rfl, rfl⟩
    go_wp2_with fail
    go_ret
    rw [HE'.out]
    exact ⟨rfl, B1.out⟩
   ·have HE' := Lib.hid (show goodsE (a1, a2) = 0 by rw [HE.out, if_neg (by simp), HW.out, if_neg (by simp; omega)])
    go_enter Tryz.func168, Tryz.ntmps168
    go_wp2_with fail
    refine (HN.out _).mono ?_
    rintro e w1 ⟨rfl, rfl⟩
    go_wp2_with fail
    go_ret
    rw [HE'.out]
    exact ⟨rfl, B1.out⟩
end Go.Proofs.YtchiojiicehpeaaGreatDoor
