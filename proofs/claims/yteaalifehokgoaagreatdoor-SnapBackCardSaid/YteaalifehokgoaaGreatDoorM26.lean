/- The document's book: FindGoods, FindLot. Printed by gen/bkfind.py. Kinds of entries, of the document: hasFrom, hasTo, IsKind. Lots: their compare. Lots: Sooner. Lots: the document's error, text, order; Good. Goods: the document's error of them. Entries of the document: EntryError. -/
import Derived.Test.YteaalifehokgoaaGreatDoorM01
import Derived.Test.YteaalifehokgoaaGreatDoorM09
import Derived.Test.YteaalifehokgoaaGreatDoorM13
import Derived.Test.YteaalifehokgoaaGreatDoorM14
import Derived.Test.YteaalifehokgoaaGreatDoorM16
import Derived.Test.YteaalifehokgoaaGreatDoorM19
import Derived.Test.YteaalifehokgoaaGreatDoorM23
import Derived.Test.YteaalifehokgoaaGreatDoorM25
namespace Go.Proofs.YteaalifehokgoaaGreatDoor
open Go.RowKit Go.Sort Go.Proofs
theorem range6L {w : World} {b o : Nat} {x : GoS} (h : ∀ c v, (encGoS x)[c]? = some v → w.cell? ⟨b, o + c, none⟩ = some v) : w.cell? ⟨b, o, none⟩ = some (.string ⟨x.1.1.toArray⟩) := h 0 _ rfl
theorem rangeLo {w : World} {b o : Nat} {x : LoH} (h : ∀ c v, (encLoH x)[c]? = some v → w.cell? ⟨b, o + c, none⟩ = some v) : w.cell? ⟨b, o, none⟩ = some (.string ⟨x.1.1.toArray⟩) := h 0 _ rfl
set_option maxHeartbeats 800000 in
set_option maxRecDepth 100000 in
theorem findG_any (q : Nat) (A : Option Addr) (cap : Nat) (l : List GoS) (c : List UInt8) (w : World) (c0 : w.cell? ⟨q, 0, none⟩ = some (.slice A l.length cap)) (hrow : RowAt encGoS 6 w A l) (hl : l.length ≤ 100000) :
  Calls Tryz.prog 58 #[.pointer (some ⟨q, 0, none⟩), .string ⟨c.toArray⟩] w fun e w' => e = .returned (.int .i64 (idxK (fun x : GoS => x.1.1) l c)) ∧ Below w.heap.size w w' := by
 obtain ⟨N, hN⟩ : ∃ N, N = l.length := ⟨_, rfl⟩
 have HN := Lib.hid hN
 have HROW := Lib.hid hrow
 have HC := Lib.hid c0
 rw [← hN] at hl HC
 have HF := Lib.hid (fun k h1 h2 => idxK_step (fun x : GoS => x.1.1) l c k h1 h2)
 generalize idxK (fun x : GoS => x.1.1) l c = R at HF ⊢
 clear hN hrow c0
 go_enter Tryz.func58, Tryz.ntmps58
 go_wp2_with fail
 go_loopw [5] (fun n wr => ∃ k : Nat, k ≤ N ∧ n = .int .i64 k ∧ Hid (∀ j (h : j < l.length), j < k → l[j].1.1 ≠ c) ∧ Below w.heap.size w wr) (fun n _ => N - (intOf n).toNat)
 case atStart => exact ⟨0, by omega, rfl, fun j _ h => absurd h (Nat.not_lt_zero _), Below.refl _ _⟩
 case round =>
  obtain ⟨k, hk, rfl, HNO, hb⟩ := hrel
  have HB := Lib.hid hb
  have c0 : wr.cell? ⟨q, 0, none⟩ = some (.slice A N cap) := (hb.cell (p := ⟨_, 0, none⟩) (lt_of_cell HC.out)).trans HC.out
  clear hb
  by_cases hkN : k < N
  ·have hkx : k < l.length := by rw [← HN.out]; exact hkN
   obtain ⟨g, o, rfl, lg, cg⟩ := HROW.out.resolve_left (fun h => by rw [h] at hkx; simp at hkx)
   obtain ⟨x, hx⟩ : ∃ x, x = l[k] := ⟨_, rfl⟩
   have e0 := range6L (x := x) (w := wr) (b := g) (o := o + k * 6) (fun cc v hv => by
    have h1 := cg k hkx cc v (by rw [← hx]; exact hv)
    exact (HB.out.cell (p := ⟨g, o + k * 6 + cc, none⟩) lg).trans h1)
   have HX := Lib.hid hx
   clear hx cg
   by_cases h2 : x.1.1 = c
   ·have HT : Hid (R = (k : Int)) := by
     have := HF.out k HNO.out (fun h => by rw [← HX.out]; exact h2)
     rw [if_pos hkx] at this
     exact this
    obtain ⟨⟨a1, a2⟩, a3⟩ := x
    simp only at e0 h2
    have hb4 : (a1 == c) = true := by simpa using h2
    clear h2 HF
    go_wp2_with fail
    go_ret
    rw [HT.out]
    exact ⟨rfl, HB.out⟩
   ·have HNX : Hid (∀ j (h : j < l.length), j < k + 1 → l[j].1.1 ≠ c) := fun j hj hjk => by
     rcases Nat.lt_succ_iff_lt_or_eq.1 hjk with h | rfl
     ·exact HNO.out j hj h
     ·rw [← HX.out]; exact h2
    obtain ⟨⟨a1, a2⟩, a3⟩ := x
    simp only at e0 h2
    have hb4 : (a1 == c) = false := by simpa using h2
    clear h2 HF
    go_wp2_with fail
    go_roundw
    case rel => exact ⟨k + 1, by omega, by go_num, HNX.out, HB.out⟩
    case measure => simp [intOf]; omega
  ·obtain rfl : k = N := by omega
   have HT : Hid (R = -1) := by
    have := HF.out k HNO.out (fun h => by rw [← HN.out] at h; omega)
    rw [if_neg (by rw [← HN.out]; omega)] at this
    exact this
   go_wp2_with fail
   go_ret
   rw [HT.out]
   exact ⟨rfl, HB.out⟩
set_option maxHeartbeats 800000 in
set_option maxRecDepth 100000 in
theorem findL_any (q : Nat) (A : Option Addr) (cap : Nat) (l : List LoH) (c : List UInt8) (w : World) (c0 : w.cell? ⟨q, 1, none⟩ = some (.slice A l.length cap)) (hrow : RowAt encLoH 5 w A l) (hl : l.length ≤ 100000) :
  Calls Tryz.prog 60 #[.pointer (some ⟨q, 0, none⟩), .string ⟨c.toArray⟩] w fun e w' => e = .returned (.int .i64 (idxK (fun x : LoH => x.1.1) l c)) ∧ Below w.heap.size w w' := by
 obtain ⟨N, hN⟩ : ∃ N, N = l.length := ⟨_, rfl⟩
 have HN := Lib.hid hN
 have HROW := Lib.hid hrow
 have HC := Lib.hid c0
 rw [← hN] at hl HC
 have HF := Lib.hid (fun k h1 h2 => idxK_step (fun x : LoH => x.1.1) l c k h1 h2)
 generalize idxK (fun x : LoH => x.1.1) l c = R at HF ⊢
 clear hN hrow c0
 go_enter Tryz.func60, Tryz.ntmps60
 go_wp2_with fail
 go_loopw [5] (fun n wr => ∃ k : Nat, k ≤ N ∧ n = .int .i64 k ∧ Hid (∀ j (h : j < l.length), j < k → l[j].1.1 ≠ c) ∧ Below w.heap.size w wr) (fun n _ => N - (intOf n).toNat)
 case atStart => exact ⟨0, by omega, rfl, fun j _ h => absurd h (Nat.not_lt_zero _), Below.refl _ _⟩
 case round =>
  obtain ⟨k, hk, rfl, HNO, hb⟩ := hrel
  have HB := Lib.hid hb
  have c0 : wr.cell? ⟨q, 1, none⟩ = some (.slice A N cap) := (hb.cell (p := ⟨_, 1, none⟩) (lt_of_cell HC.out)).trans HC.out
  clear hb
  by_cases hkN : k < N
  ·have hkx : k < l.length := by rw [← HN.out]; exact hkN
   obtain ⟨g, o, rfl, lg, cg⟩ := HROW.out.resolve_left (fun h => by rw [h] at hkx; simp at hkx)
   obtain ⟨x, hx⟩ : ∃ x, x = l[k] := ⟨_, rfl⟩
   have e0 := rangeLo (x := x) (w := wr) (b := g) (o := o + k * 5) (fun cc v hv => by
    have h1 := cg k hkx cc v (by rw [← hx]; exact hv)
    exact (HB.out.cell (p := ⟨g, o + k * 5 + cc, none⟩) lg).trans h1)
   have HX := Lib.hid hx
   clear hx cg
   by_cases h2 : x.1.1 = c
   ·have HT : Hid (R = (k : Int)) := by
     have := HF.out k HNO.out (fun h => by rw [← HX.out]; exact h2)
     rw [if_pos hkx] at this
     exact this
    obtain ⟨⟨a1, a2⟩, a3⟩ := x
    simp only at e0 h2
    have hb4 : (a1 == c) = true := by simpa using h2
    clear h2 HF
    go_wp2_with fail
    go_ret
    rw [HT.out]
    exact ⟨rfl, HB.out⟩
   ·have HNX : Hid (∀ j (h : j < l.length), j < k + 1 → l[j].1.1 ≠ c) := fun j hj hjk => by
     rcases Nat.lt_succ_iff_lt_or_eq.1 hjk with h | rfl
     ·exact HNO.out j hj h
     ·rw [← HX.out]; exact h2
    obtain ⟨⟨a1, a2⟩, a3⟩ := x
    simp only at e0 h2
    have hb4 : (a1 == c) = false := by simpa using h2
    clear h2 HF
    go_wp2_with fail
    go_roundw
    case rel => exact ⟨k + 1, by omega, by go_num, HNX.out, HB.out⟩
    case measure => simp [intOf]; omega
  ·obtain rfl : k = N := by omega
   have HT : Hid (R = -1) := by
    have := HF.out k HNO.out (fun h => by rw [← HN.out] at h; omega)
    rw [if_neg (by rw [← HN.out]; omega)] at this
    exact this
   go_wp2_with fail
   go_ret
   rw [HT.out]
   exact ⟨rfl, HB.out⟩
end Go.Proofs.YteaalifehokgoaaGreatDoor
namespace Go.Proofs.YteaalifehokgoaaGreatDoor
open Go.RowKit Go.Sort Go.Proofs
set_option maxHeartbeats 800000 in
theorem hasFrom_any (k : List UInt8) (w : World) : Calls Tryz.prog 120 #[.string ⟨k.toArray⟩] w fun e w' => e = .returned (.bool (hasF k)) ∧ w = w' := by
 rcases kind_cases k with rfl | rfl | rfl | rfl | rfl | rfl | rfl | ⟨h1, h2, h3, h4, h5, h6, h7, e1, e2, e3⟩
 case' inr.inr.inr.inr.inr.inr.inr =>
  rw [e1]
  clear e1 e2 e3
 all_goals
  go_enter Tryz.func120, Tryz.ntmps120
  go_wp2
  go_ret
  exact ⟨rfl, rfl⟩
set_option maxHeartbeats 800000 in
theorem hasTo_any (k : List UInt8) (w : World) : Calls Tryz.prog 121 #[.string ⟨k.toArray⟩] w fun e w' => e = .returned (.bool (hasT k)) ∧ w = w' := by
 rcases kind_cases k with rfl | rfl | rfl | rfl | rfl | rfl | rfl | ⟨h1, h2, h3, h4, h5, h6, h7, e1, e2, e3⟩
 case' inr.inr.inr.inr.inr.inr.inr =>
  rw [e2]
  clear e1 e2 e3
 all_goals
  go_enter Tryz.func121, Tryz.ntmps121
  go_wp2
  go_ret
  exact ⟨rfl, rfl⟩
def isKB (k : List UInt8) : Bool := decide (k = kGoods) || decide (k = kLot) || isP k
set_option maxHeartbeats 1600000 in
theorem isKind_any (k : List UInt8) (w : World) : Calls Tryz.prog 118 #[.string ⟨k.toArray⟩] w fun e w' => e = .returned (.bool (isKB k)) ∧ w = w' := by
 have HF := Lib.hid (fun W => hasFrom_any k W)
 have HT := Lib.hid (fun W => hasTo_any k W)
 have hcase : (k = kGoods ∨ k = kLot) ∨ (k ≠ kGoods ∧ k ≠ kLot) := by
  by_cases h1 : k = kGoods
  ·exact .inl (.inl h1)
  ·by_cases h2 : k = kLot
   ·exact .inl (.inr h2)
   ·exact .inr ⟨h1, h2⟩
 rcases hcase with (rfl | rfl) | ⟨g1, g2⟩
 ·go_enter Tryz.func118, Tryz.ntmps118
  go_wp2_with fail
  refine (HF.out _).mono ?_
  rintro e w1 ⟨rfl, rfl⟩
  go_wp2_with fail
  refine (HT.out _).mono ?_
  rintro e w1 ⟨rfl, rfl⟩
  go_wp2
  go_ret
  exact ⟨rfl, rfl⟩
 ·go_enter Tryz.func118, Tryz.ntmps118
  go_wp2_with fail
  refine (HF.out _).mono ?_
  rintro e w1 ⟨rfl, rfl⟩
  go_wp2_with fail
  refine (HT.out _).mono ?_
  rintro e w1 ⟨rfl, rfl⟩
  go_wp2
  go_ret
  exact ⟨rfl, rfl⟩
 ·have hg : (k == [103, 111, 111, 100, 115]) = false := beq_eq_false_iff_ne.2 g1
  have hl : (k == [108, 111, 116]) = false := beq_eq_false_iff_ne.2 g2
  have HK := Lib.hid (show isKB k = isP k by unfold isKB; rw [decide_eq_false g1, decide_eq_false g2]; rfl)
  rcases kind_cases k with rfl | rfl | rfl | rfl | rfl | rfl | rfl | ⟨h1, h2, h3, h4, h5, h6, h7, e1, e2, e3⟩
  case' inr.inr.inr.inr.inr.inr.inr =>
   rw [e3] at HK
   rw [e1] at HF
   rw [e2] at HT
   clear e1 e2 e3
  all_goals
   clear g1 g2
   go_enter Tryz.func118, Tryz.ntmps118
   go_wp2_with fail
   refine (HF.out _).mono ?_
   rintro e w1 ⟨rfl, rfl⟩
   go_wp2_with fail
   refine (HT.out _).mono ?_
   rintro e w1 ⟨rfl, rfl⟩
   go_wp2
   go_ret
   rw [HK.out]
   exact ⟨rfl, rfl⟩
end Go.Proofs.YteaalifehokgoaaGreatDoor
namespace Go.Proofs.YteaalifehokgoaaGreatDoor
open Go.RowKit Go.Sort Go.Proofs
end Go.Proofs.YteaalifehokgoaaGreatDoor
namespace Go.Proofs.YteaalifehokgoaaGreatDoor
open Go.RowKit Go.Sort Go.Proofs
end Go.Proofs.YteaalifehokgoaaGreatDoor
namespace Go.Proofs.YteaalifehokgoaaGreatDoor
open Go.RowKit Go.Sort Go.Proofs
set_option maxHeartbeats 800000 in
theorem refLotE_any (x : LotV) (h1 : x.1.length ≤ 1000000000) (h2 : x.2.1.length ≤ 1000000000) (w : World) :
  Calls Tryz.prog 108 #[.agg (encLot x).toArray] w fun e w' => e = .returned (.int .i64 (lotE x : Nat)) ∧ Below w.heap.size w w' := by
 have HE := Lib.hid (show lotE x = if (nameB x.1 && nameB x.2.1) = false then 5 else if x.2.2.1 < 0 ∨ 100000 < x.2.2.1 ∨ x.2.2.2 < 0 ∨ 1048576 < x.2.2.2 then 2 else 0 from rfl)
 obtain ⟨a1, a2, a3, a4⟩ := x
 have HN1 := Lib.hid (fun W => isName_any a1 h1 W)
 have HN2 := Lib.hid (fun W => isName_any a2 h2 W)
 simp only [encLot] at HE ⊢
 have B1 := Lib.hid (below_one w (.cells #[.string ⟨a1.toArray⟩, .string ⟨a2.toArray⟩, .int .i64 a3, .int .i64 a4] 39))
 generalize nameB a1 = n1 at HN1 HE
 generalize nameB a2 = n2 at HN2 HE
 have hcase : (n1 = false) ∨ (n1 = true ∧ n2 = false) ∨ (n1 = true ∧ n2 = true ∧ a3 < 0) ∨ (n1 = true ∧ n2 = true ∧ ¬ a3 < 0 ∧ 100000 < a3) ∨ (n1 = true ∧ n2 = true ∧ ¬ a3 < 0 ∧ ¬ 100000 < a3 ∧ a4 < 0) ∨ (n1 = true ∧ n2 = true ∧ ¬ a3 < 0 ∧ ¬ 100000 < a3 ∧ ¬ a4 < 0 ∧ 1048576 < a4) ∨ (n1 = true ∧ n2 = true ∧ ¬ a3 < 0 ∧ ¬ 100000 < a3 ∧ ¬ a4 < 0 ∧ ¬ 1048576 < a4) := by
  cases n1
  ·exact .inl rfl
  ·cases n2
   ·exact .inr (.inl ⟨rfl, rfl⟩)
   ·simp only [true_and, Bool.true_eq_false, false_or]
    omega
 go_enter Tryz.func108, Tryz.ntmps108
 go_wp2_with fail
 refine (HN1.out _).mono ?_
 rintro e w1 ⟨rfl, rfl⟩
 go_wp2_with fail
 refine (HN2.out _).mono ?_
 rintro e w1 ⟨rfl, rfl⟩
 rcases hcase with rfl | ⟨rfl, rfl⟩ | ⟨rfl, rfl, q1⟩ | ⟨rfl, rfl, q1, q2⟩ | ⟨rfl, rfl, q1, q2, q3⟩ | ⟨rfl, rfl, q1, q2, q3, q4⟩ | ⟨rfl, rfl, q1, q2, q3, q4⟩
 ·go_wp2
  go_ret
  rw [HE.out, if_pos (by simp)]
  exact ⟨rfl, B1.out⟩
 ·go_wp2
  go_ret
  rw [HE.out, if_pos (by simp)]
  exact ⟨rfl, B1.out⟩
 ·go_wp2
  go_ret
  rw [HE.out, if_neg (by simp), if_pos (by omega)]
  exact ⟨rfl, B1.out⟩
 ·go_wp2
  go_ret
  rw [HE.out, if_neg (by simp), if_pos (by omega)]
  exact ⟨rfl, B1.out⟩
 ·go_wp2
  go_ret
  rw [HE.out, if_neg (by simp), if_pos (by omega)]
  exact ⟨rfl, B1.out⟩
 ·go_wp2
  go_ret
  rw [HE.out, if_neg (by simp), if_pos (by omega)]
  exact ⟨rfl, B1.out⟩
 ·go_wp2
  go_ret
  rw [HE.out, if_neg (by simp), if_neg (by omega)]
  exact ⟨rfl, B1.out⟩
end Go.Proofs.YteaalifehokgoaaGreatDoor
namespace Go.Proofs.YteaalifehokgoaaGreatDoor
open Go.RowKit
set_option maxHeartbeats 400000 in
theorem refGoods_any (x : GoodsV) (hl : x.1.length ≤ 1000000000) (w : World) :
  Calls Tryz.prog 119 #[.agg (encGoods x).toArray] w fun e w' => e = .returned (.int .i64 (goodsE x : Nat)) ∧ Below w.heap.size w w' := by
 have HE := Lib.hid (show goodsE x = if nameB x.1 = false then 5 else if wiB x.2 1 1000 = false then 2 else 0 from rfl)
 obtain ⟨a1, a2⟩ := x
 have HN := Lib.hid (fun W => isName_any a1 hl W)
 have HW := Lib.hid (show wiB a2 1 1000 = decide (1 ≤ a2 ∧ a2 ≤ 1000) from rfl)
 simp only [encGoods] at HE ⊢
 clear hl
 generalize nameB a1 = nm at HN HE
 have b1 := below_one w (.cells #[.string ⟨a1.toArray⟩, .int .i64 a2] 37)
 have B1 := Lib.hid b1
 clear b1
 cases nm with
 |false =>
  go_enter Tryz.func119, Tryz.ntmps119
  go_wp2_with fail
  refine (HN.out _).mono ?_
  rintro e w1 ⟨rfl, rfl⟩
  go_wp2_with fail
  go_ret
  rw [HE.out]
  exact ⟨rfl, B1.out⟩
 |true =>
  by_cases h1 : a2 < 1
  ·have HE' := Lib.hid (show goodsE (a1, a2) = 2 by rw [HE.out, if_neg (by simp), HW.out, if_pos (by simp; omega)])
   go_enter Tryz.func119, Tryz.ntmps119
   go_wp2_with fail
   refine (HN.out _).mono ?_
   rintro e w1 ⟨rfl, rfl⟩
   go_wp2_with fail
   go_ret
   rw [HE'.out]
   exact ⟨rfl, B1.out⟩
  ·by_cases h2 : 1000 < a2
   ·have HE' := Lib.hid (show goodsE (a1, a2) = 2 by rw [HE.out, if_neg (by simp), HW.out, if_pos (by simp; omega)])
    go_enter Tryz.func119, Tryz.ntmps119
    go_wp2_with fail
    refine (HN.out _).mono ?_
    rintro e w1 ⟨rfl, rfl⟩
    go_wp2_with fail
    go_ret
    rw [HE'.out]
    exact ⟨rfl, B1.out⟩
   ·have HE' := Lib.hid (show goodsE (a1, a2) = 0 by rw [HE.out, if_neg (by simp), HW.out, if_neg (by simp; omega)])
    go_enter Tryz.func119, Tryz.ntmps119
    go_wp2_with fail
    refine (HN.out _).mono ?_
    rintro e w1 ⟨rfl, rfl⟩
    go_wp2_with fail
    go_ret
    rw [HE'.out]
    exact ⟨rfl, B1.out⟩
end Go.Proofs.YteaalifehokgoaaGreatDoor
namespace Go.Proofs.YteaalifehokgoaaGreatDoor
open Go.RowKit Go.Sort Go.Proofs
theorem neqLotV (x y : LotV) (W : World) : (binOp .neq 39 (.agg (encLot x).toArray) (.agg (encLot y).toArray)).run Tryz.prog W = .ok (.bool (!decide (x = y))) W := by
 rw [run_neq_struct, eqInLotV]
 rfl
theorem eqInGoods (x y : GoodsV) (W : World) : (Op.equalIn 10000 37 (.agg (encGoods x).toArray) (.agg (encGoods y).toArray)).run Tryz.prog W = .ok (decide (x = y)) W := by
 have u3 := Tryz.underlying3
 have u9 := Tryz.underlying9
 have hS : Tryz.prog.underlying 37 = some (.struct (Tryz.prog.fieldsOf 37)) := by kernel_rfl
 have hp : Tryz.prog.stoodInHeld 37 = false := by kernel_rfl
 simp only [encGoods]
 rw [show (10000 : Nat) = 9999 + 1 from rfl, run_equalIn_agg W 9999 37 _ _ hS hp]
 simp only [Program.fieldsOf, Tryz.underlying37]
 go_simp
 obtain ⟨a1, a2⟩ := x
 obtain ⟨b1, b2⟩ := y
 by_cases h1 : a1 = b1 <;> by_cases h2 : a2 = b2 <;> simp [h1, h2]
theorem neqGoods (x y : GoodsV) (W : World) : (binOp .neq 37 (.agg (encGoods x).toArray) (.agg (encGoods y).toArray)).run Tryz.prog W = .ok (.bool (!decide (x = y))) W := by
 rw [run_neq_struct, eqInGoods]
 rfl
theorem piecesE_parts (x : EntV) : piecesE x = if nameB x.2.2.1.1 = false then 5 else if hasF x.1 = true ∧ placeE x.2.2.2.1 ≠ 0 then placeE x.2.2.2.1 else if hasT x.1 = true ∧ placeE x.2.2.2.2.1 ≠ 0 then placeE x.2.2.2.2.1
  else if wiB x.2.2.2.2.2 1 1099511627776 = false then 2 else if x.1 = kMove ∧ x.2.2.2.1 = x.2.2.2.2.1 then 3
  else if hasF x.1 = false ∧ x.2.2.2.1 ≠ zeroPlace then 3 else if hasT x.1 = false ∧ x.2.2.2.2.1 ≠ zeroPlace then 3 else if x.2.1 ≠ zeroGoods then 3 else if x.2.2.1.2.1 ≠ [] then 3 else if x.2.2.1.2.2.1 ≠ 0 then 3 else if x.2.2.1.2.2.2 ≠ 0 then 3 else 0 := by
 obtain ⟨k, g, ⟨l1, l2, l3, l4⟩, f, t, n⟩ := x
 unfold piecesE placesE wantP
 simp only
 by_cases h0 : nameB l1 = false
 ·rw [if_pos h0, if_pos h0]
 rw [if_neg h0, if_neg h0]
 by_cases h1 : hasF k = true ∧ placeE f ≠ 0
 ·rw [if_pos h1, if_pos h1, if_pos h1.2]
 rw [if_neg h1, if_neg h1]
 by_cases h2 : hasT k = true ∧ placeE t ≠ 0
 ·rw [if_pos h2.1, if_pos h2, if_pos h2.2]
 rw [if_neg h2, if_neg (fun h => by split at h; exact h2 ⟨‹_›, h⟩; exact h rfl)]
 by_cases h3 : wiB n 1 1099511627776 = false
 ·rw [if_pos h3, if_pos h3]
 rw [if_neg h3, if_neg h3]
 by_cases h4 : k = kMove ∧ f = t
 ·rw [if_pos (.inl h4), if_pos h4]
 rw [if_neg h4]
 simp only [h4, false_or]
 clear h4
 cases hF : hasF k <;> cases hT : hasT k <;> by_cases hf : f = zeroPlace <;> by_cases ht : t = zeroPlace <;> by_cases hg : g = zeroGoods <;> by_cases e2 : l2 = [] <;> by_cases e3 : l3 = 0 <;> by_cases e4 : l4 = 0 <;> simp [hf, ht, hg, e2, e3, e4]
set_option maxHeartbeats 3200000 in
set_option maxRecDepth 100000 in
theorem refEntE_none (x : EntV) (w : World) (hk : isKB x.1 = false) :
  Calls Tryz.prog 72 #[.agg (encEnt x).toArray] w fun e w' => e = .returned (.int .i64 4) ∧ Below w.heap.size w w' := by
 have b0 := Lib.hid (below_two w (.cells (encEnt x).toArray 43) (.cells (encPlace zeroPlace).toArray 41))
 have hc := (Cells14.new w x).below (below_one _ (.cells (encPlace zeroPlace).toArray 41))
 have HK := Lib.hid (fun W => isKind_any x.1 W)
 rw [hk] at HK
 obtain ⟨k, ⟨g1, g2⟩, ⟨l1, l2, l3, l4⟩, ⟨f1, f2, f3⟩, ⟨t1, t2, t3⟩, n⟩ := x
 obtain ⟨c0, -⟩ := hc.all
 simp only [encEnt, encPlace, zeroPlace] at *
 clear hc hk
 go_enter Tryz.func72, Tryz.ntmps72
 go_wp2_with fail
 refine (HK.out _).mono ?_
 rintro e w1 ⟨rfl, rfl⟩
 go_wp2
 go_ret
 exact ⟨rfl, b0.out⟩
structure EB (x : EntV) (b : Nat) (W : World) : Prop where
 own : W.heap[b]? = some (.cells (encEnt x).toArray 43 (0, 0))
 none_ : W.heap[b + 1]? = some (.cells #[.string ⟨#[]⟩, .int .i64 0, .int .i64 0] 41 (0, 0))
theorem EB.below {x : EntV} {b : Nat} {W W' : World} (h : EB x b W) (hb : Below W.heap.size W W') : EB x b W' :=
 ⟨(hb.block _ (row_lt h.own)).trans h.own, (hb.block _ (row_lt h.none_)).trans h.none_⟩
theorem EB.start (x : EntV) (w : World) : EB x w.heap.size ((w.alloc (.cells (encEnt x).toArray 43)).alloc (.cells #[.string ⟨#[]⟩, .int .i64 0, .int .i64 0] 41)) := by
 refine ⟨((below_one (w.alloc (.cells (encEnt x).toArray 43)) _).block _ (by simp)).trans (heap_alloc_new _ _), ?_⟩
 have := heap_alloc_new (w.alloc (.cells (encEnt x).toArray 43)) (.cells #[.string ⟨#[]⟩, .int .i64 0, .int .i64 0] 41)
 simpa using this
section
variable {x : EntV} {b : Nat} {W : World} (h : EB x b W)
include h
theorem EB.at_ (i : Nat) (v : Value) (hv : (encEnt x)[i]? = some v) : W.cell? ⟨b, i, none⟩ = some v := by
 rw [cell_of_row _ _ _ _ _ _ h.own]
 simpa using hv
theorem EB.goods : Lies W b 1 (encGoods x.2.1) := Lies.sub _ h.own 1 _ fun j v hv => by
 match j, hv with
 |0, hv => simpa [encGoods, encEnt] using hv
 |1, hv => simpa [encGoods, encEnt] using hv
theorem EB.lot : Lies W b 3 (encLot x.2.2.1) := Lies.sub _ h.own 3 _ fun j v hv => by
 match j, hv with
 |0, hv => simpa [encLot, encEnt] using hv
 |1, hv => simpa [encLot, encEnt] using hv
 |2, hv => simpa [encLot, encEnt] using hv
 |3, hv => simpa [encLot, encEnt] using hv
theorem EB.from_ : Lies W b 7 (encPlace x.2.2.2.1) := Lies.sub _ h.own 7 _ fun j v hv => by
 match j, hv with
 |0, hv => simpa [encPlace, encEnt] using hv
 |1, hv => simpa [encPlace, encEnt] using hv
 |2, hv => simpa [encPlace, encEnt] using hv
theorem EB.to_ : Lies W b 10 (encPlace x.2.2.2.2.1) := Lies.sub _ h.own 10 _ fun j v hv => by
 match j, hv with
 |0, hv => simpa [encPlace, encEnt] using hv
 |1, hv => simpa [encPlace, encEnt] using hv
 |2, hv => simpa [encPlace, encEnt] using hv
theorem EB.all : W.cell? ⟨b, 0, none⟩ = some (.string ⟨x.1.toArray⟩) ∧ W.cell? ⟨b, 1, none⟩ = some (.string ⟨x.2.1.1.toArray⟩) ∧ W.cell? ⟨b, 2, none⟩ = some (.int .i64 x.2.1.2) ∧ W.cell? ⟨b, 3, none⟩ = some (.string ⟨x.2.2.1.1.toArray⟩) ∧ W.cell? ⟨b, 4, none⟩ = some (.string ⟨x.2.2.1.2.1.toArray⟩) ∧ W.cell? ⟨b, 5, none⟩ = some (.int .i64 x.2.2.1.2.2.1) ∧ W.cell? ⟨b, 6, none⟩ = some (.int .i64 x.2.2.1.2.2.2) ∧
  W.cell? ⟨b, 7, none⟩ = some (.string ⟨x.2.2.2.1.1.toArray⟩) ∧ W.cell? ⟨b, 8, none⟩ = some (.int .i64 x.2.2.2.1.2.1) ∧ W.cell? ⟨b, 9, none⟩ = some (.int .i64 x.2.2.2.1.2.2) ∧ W.cell? ⟨b, 10, none⟩ = some (.string ⟨x.2.2.2.2.1.1.toArray⟩) ∧ W.cell? ⟨b, 11, none⟩ = some (.int .i64 x.2.2.2.2.1.2.1) ∧ W.cell? ⟨b, 12, none⟩ = some (.int .i64 x.2.2.2.2.1.2.2) ∧ W.cell? ⟨b, 13, none⟩ = some (.int .i64 x.2.2.2.2.2) :=
 ⟨h.at_ 0 _ rfl, h.at_ 1 _ rfl, h.at_ 2 _ rfl, h.at_ 3 _ rfl, h.at_ 4 _ rfl, h.at_ 5 _ rfl, h.at_ 6 _ rfl, h.at_ 7 _ rfl, h.at_ 8 _ rfl, h.at_ 9 _ rfl, h.at_ 10 _ rfl, h.at_ 11 _ rfl, h.at_ 12 _ rfl, h.at_ 13 _ rfl⟩
theorem EB.zeros : W.cell? ⟨b + 1, 0, none⟩ = some (.string ⟨#[]⟩) ∧ W.cell? ⟨b + 1, 1, none⟩ = some (.int .i64 0) ∧ W.cell? ⟨b + 1, 2, none⟩ = some (.int .i64 0) := ⟨cell_of_row _ _ _ _ _ _ h.none_, cell_of_row _ _ _ _ _ _ h.none_, cell_of_row _ _ _ _ _ _ h.none_⟩
theorem EB.zero : Lies W (b + 1) 0 [.string ⟨#[]⟩, .int .i64 0, .int .i64 0] := Lies.row [.string ⟨#[]⟩, .int .i64 0, .int .i64 0] h.none_
end
set_option maxHeartbeats 3200000 in
set_option maxRecDepth 100000 in
theorem refEntE_goods (x : EntV) (w : World) (hk : x.1 = kGoods) (hg : x.2.1.1.length ≤ 1000000000) :
  Calls Tryz.prog 72 #[.agg (encEnt x).toArray] w fun e w' => e = .returned (.int .i64 (entE x : Nat)) ∧ Below w.heap.size w w' := by
 have hE : entE x = if goodsE x.2.1 ≠ 0 then goodsE x.2.1 else if decide (x.2.2.1 = zeroLot) = false then 3 else if decide (x.2.2.2.1 = zeroPlace) = false then 3 else if decide (x.2.2.2.2.1 = zeroPlace) = false then 3 else if x.2.2.2.2.2 ≠ 0 then 3 else 0 := by
  obtain ⟨k, g, l, f, t, n⟩ := x
  unfold entE
  simp only at hk ⊢
  rw [if_pos hk]
  by_cases h0 : goodsE g ≠ 0
  ·rw [if_pos h0, if_pos h0]
  rw [if_neg h0, if_neg h0]
  by_cases h1 : l = zeroLot <;> by_cases h2 : f = zeroPlace <;> by_cases h3 : t = zeroPlace <;> by_cases h4 : n = 0 <;> simp [h1, h2, h3, h4]
 have HE := Lib.hid hE
 have b0 := Lib.hid (below_two w (.cells (encEnt x).toArray 43) (.cells #[.string ⟨#[]⟩, .int .i64 0, .int .i64 0] 41))
 have h0 := EB.start x w
 have HK := Lib.hid (fun W => isKind_any x.1 W)
 have HGE := Lib.hid (fun W => refGoods_any x.2.1 hg W)
 rw [hk, show isKB kGoods = true from by decide] at HK
 have hql := fun W => neqLotV x.2.2.1 zeroLot W
 have hqf := fun W => neqPlace x.2.2.2.1 zeroPlace W
 have hqt := fun W => neqPlace x.2.2.2.2.1 zeroPlace W
 generalize decide (x.2.2.1 = zeroLot) = dl at HE hql
 generalize decide (x.2.2.2.1 = zeroPlace) = df at HE hqf
 generalize decide (x.2.2.2.2.1 = zeroPlace) = dt at HE hqt
 generalize goodsE x.2.1 = ge at HE HGE
 have H0 := Lib.hid h0
 have c0 := h0.at_ 0 _ rfl
 rw [hk] at c0
 simp only [encLot, encPlace, zeroLot, zeroPlace, kGoods] at hql hqf hqt c0 HK
 have HQ := Lib.hid (And.intro hql (And.intro hqf hqt))
 have hlen : (encEnt x).length = 14 := rfl
 have HL := Lib.hid (show (∀ W, EB x w.heap.size W → W.heap[w.heap.size]? = some (.cells (encEnt x).toArray 43 (0, 0))) from fun W h => h.own)
 clear hE hql hqf hqt h0 hk hg
 obtain ⟨r, hr⟩ : ∃ r, r = entE x := ⟨_, rfl⟩
 rw [← hr] at HE ⊢
 clear hr
 obtain ⟨L, hLL⟩ : ∃ L, L = encEnt x := ⟨_, rfl⟩
 have HLL := Lib.hid hLL
 rw [← hLL] at c0 b0 ⊢
 clear hLL hlen HL
 go_enter Tryz.func72, Tryz.ntmps72
 go_wp2_with fail
 refine (HK.out _).mono ?_
 rintro e w1 ⟨rfl, rfl⟩
 have h0 := H0.out
 rw [← HLL.out] at h0
 have lg := h0.goods
 generalize (w.alloc (.cells L.toArray 43)).alloc (.cells #[.string ⟨#[]⟩, .int .i64 0, .int .i64 0] 41) = W at *
 have H0 := Lib.hid h0
 clear h0
 go_wp2_with (refine wpList_load_at rfl 37 (.tmp 21) rfl w.heap.size 1 rfl (encGoods x.2.1) lg _ Tryz.underlying37 rfl (by kernel_rfl) ?_)
 refine (HGE.out _).mono ?_
 rintro e w1 ⟨rfl, bb1⟩
 have h1 := H0.out.below bb1
 have B1 := Lib.hid (b0.out.trans (bb1.mono b0.out.size))
 clear bb1 c0 lg
 by_cases hge : ge = 0
 ·subst hge
  obtain ⟨c0, c1, c2, c3, c4, c5, c6, c7, c8, c9, c10, c11, c12, c13⟩ := h1.all
  obtain ⟨z0, z1, z2⟩ := h1.zeros
  obtain ⟨k, ⟨g1, g2⟩, ⟨l1, l2, l3, l4⟩, ⟨f1, f2, f3⟩, ⟨t1, t2, t3⟩, n⟩ := x
  simp only at c0 c1 c2 c3 c4 c5 c6 c7 c8 c9 c10 c11 c12 c13 HE HQ
  obtain ⟨hql, hqf, hqt⟩ := HQ.out
  clear h1 c0
  cases dl with
  |false =>
   have HE3 := Lib.hid (show r = 3 by rw [HE.out]; simp)
   go_wp2_with fail
   go_ret
   rw [HE3.out]
   exact ⟨rfl, B1.out⟩
  |true =>
   cases df with
   |false =>
    have HE3 := Lib.hid (show r = 3 by rw [HE.out]; simp)
    go_wp2_with fail
    go_ret
    rw [HE3.out]
    exact ⟨rfl, B1.out⟩
   |true =>
    cases dt with
    |false =>
     have HE3 := Lib.hid (show r = 3 by rw [HE.out]; simp)
     go_wp2_with fail
     go_ret
     rw [HE3.out]
     exact ⟨rfl, B1.out⟩
    |true =>
     by_cases hn : n = 0
     ·have HE3 := Lib.hid (show r = 0 by rw [HE.out]; simp [hn])
      subst hn
      go_wp2_with fail
      go_ret
      rw [HE3.out]
      exact ⟨rfl, B1.out⟩
     ·have HE3 := Lib.hid (show r = 3 by rw [HE.out]; simp [hn])
      have hnb : (n == 0) = false := by simpa using hn
      go_wp2_with fail
      go_ret
      rw [HE3.out]
      exact ⟨rfl, B1.out⟩
 ·have hpos : 0 < (ge : Int) := by omega
  have HE3 := Lib.hid (show r = ge by rw [HE.out, if_pos hge])
  go_wp2_with fail
  go_ret
  rw [HE3.out]
  exact ⟨rfl, B1.out⟩
set_option maxHeartbeats 3200000 in
set_option maxRecDepth 100000 in
theorem refEntE_lot (x : EntV) (w : World) (hk : x.1 = kLot) (hg : x.2.2.1.1.length ≤ 1000000000 ∧ x.2.2.1.2.1.length ≤ 1000000000) :
  Calls Tryz.prog 72 #[.agg (encEnt x).toArray] w fun e w' => e = .returned (.int .i64 (entE x : Nat)) ∧ Below w.heap.size w w' := by
 have hE : entE x = if lotE x.2.2.1 ≠ 0 then lotE x.2.2.1 else if decide (x.2.1 = zeroGoods) = false then 3 else if decide (x.2.2.2.1 = zeroPlace) = false then 3 else if decide (x.2.2.2.2.1 = zeroPlace) = false then 3 else if x.2.2.2.2.2 ≠ 0 then 3 else 0 := by
  obtain ⟨k, g, l, f, t, n⟩ := x
  unfold entE
  simp only at hk ⊢
  rw [if_neg (by rw [hk]; decide), if_pos hk]
  by_cases h0 : lotE l ≠ 0
  ·rw [if_pos h0, if_pos h0]
  rw [if_neg h0, if_neg h0]
  by_cases h1 : g = zeroGoods <;> by_cases h2 : f = zeroPlace <;> by_cases h3 : t = zeroPlace <;> by_cases h4 : n = 0 <;> simp [h1, h2, h3, h4]
 have HE := Lib.hid hE
 have b0 := Lib.hid (below_two w (.cells (encEnt x).toArray 43) (.cells #[.string ⟨#[]⟩, .int .i64 0, .int .i64 0] 41))
 have h0 := EB.start x w
 have HK := Lib.hid (fun W => isKind_any x.1 W)
 have HGE := Lib.hid (fun W => refLotE_any x.2.2.1 hg.1 hg.2 W)
 rw [hk, show isKB kLot = true from by decide] at HK
 have hql := fun W => neqGoods x.2.1 zeroGoods W
 have hqf := fun W => neqPlace x.2.2.2.1 zeroPlace W
 have hqt := fun W => neqPlace x.2.2.2.2.1 zeroPlace W
 generalize decide (x.2.1 = zeroGoods) = dl at HE hql
 generalize decide (x.2.2.2.1 = zeroPlace) = df at HE hqf
 generalize decide (x.2.2.2.2.1 = zeroPlace) = dt at HE hqt
 generalize lotE x.2.2.1 = ge at HE HGE
 have H0 := Lib.hid h0
 have c0 := h0.at_ 0 _ rfl
 rw [hk] at c0
 simp only [encGoods, encPlace, zeroGoods, zeroPlace, kLot] at hql hqf hqt c0 HK
 have HQ := Lib.hid (And.intro hql (And.intro hqf hqt))
 have hlen : (encEnt x).length = 14 := rfl
 have HL := Lib.hid (show (∀ W, EB x w.heap.size W → W.heap[w.heap.size]? = some (.cells (encEnt x).toArray 43 (0, 0))) from fun W h => h.own)
 clear hE hql hqf hqt h0 hk hg
 obtain ⟨r, hr⟩ : ∃ r, r = entE x := ⟨_, rfl⟩
 rw [← hr] at HE ⊢
 clear hr
 obtain ⟨L, hLL⟩ : ∃ L, L = encEnt x := ⟨_, rfl⟩
 have HLL := Lib.hid hLL
 rw [← hLL] at c0 b0 ⊢
 clear hLL hlen HL
 go_enter Tryz.func72, Tryz.ntmps72
 go_wp2_with fail
 refine (HK.out _).mono ?_
 rintro e w1 ⟨rfl, rfl⟩
 have h0 := H0.out
 rw [← HLL.out] at h0
 have lg := h0.lot
 generalize (w.alloc (.cells L.toArray 43)).alloc (.cells #[.string ⟨#[]⟩, .int .i64 0, .int .i64 0] 41) = W at *
 have H0 := Lib.hid h0
 clear h0
 go_wp2_with (refine wpList_load_at rfl 39 (.tmp 51) rfl w.heap.size 3 rfl (encLot x.2.2.1) lg _ Tryz.underlying39 rfl (by kernel_rfl) ?_)
 refine (HGE.out _).mono ?_
 rintro e w1 ⟨rfl, bb1⟩
 have h1 := H0.out.below bb1
 have B1 := Lib.hid (b0.out.trans (bb1.mono b0.out.size))
 clear bb1 c0 lg
 by_cases hge : ge = 0
 ·subst hge
  obtain ⟨c0, c1, c2, c3, c4, c5, c6, c7, c8, c9, c10, c11, c12, c13⟩ := h1.all
  obtain ⟨z0, z1, z2⟩ := h1.zeros
  obtain ⟨k, ⟨g1, g2⟩, ⟨l1, l2, l3, l4⟩, ⟨f1, f2, f3⟩, ⟨t1, t2, t3⟩, n⟩ := x
  simp only at c0 c1 c2 c3 c4 c5 c6 c7 c8 c9 c10 c11 c12 c13 HE HQ
  obtain ⟨hql, hqf, hqt⟩ := HQ.out
  clear h1 c0
  cases dl with
  |false =>
   have HE3 := Lib.hid (show r = 3 by rw [HE.out]; simp)
   go_wp2_with fail
   go_ret
   rw [HE3.out]
   exact ⟨rfl, B1.out⟩
  |true =>
   cases df with
   |false =>
    have HE3 := Lib.hid (show r = 3 by rw [HE.out]; simp)
    go_wp2_with fail
    go_ret
    rw [HE3.out]
    exact ⟨rfl, B1.out⟩
   |true =>
    cases dt with
    |false =>
     have HE3 := Lib.hid (show r = 3 by rw [HE.out]; simp)
     go_wp2_with fail
     go_ret
     rw [HE3.out]
     exact ⟨rfl, B1.out⟩
    |true =>
     by_cases hn : n = 0
     ·have HE3 := Lib.hid (show r = 0 by rw [HE.out]; simp [hn])
      subst hn
      go_wp2_with fail
      go_ret
      rw [HE3.out]
      exact ⟨rfl, B1.out⟩
     ·have HE3 := Lib.hid (show r = 3 by rw [HE.out]; simp [hn])
      have hnb : (n == 0) = false := by simpa using hn
      go_wp2_with fail
      go_ret
      rw [HE3.out]
      exact ⟨rfl, B1.out⟩
 ·have hpos : 0 < (ge : Int) := by omega
  have HE3 := Lib.hid (show r = ge by rw [HE.out, if_pos hge])
  go_wp2_with fail
  go_ret
  rw [HE3.out]
  exact ⟨rfl, B1.out⟩
end Go.Proofs.YteaalifehokgoaaGreatDoor
