/- The law GoodsTell, walked. -/
import Derived.Test.YtchamhjckindiaaGreatDoorRPieces
import Derived.Test.YtchamhjckindiaaGreatDoorRName
import Derived.Test.YtchamhjckindiaaGreatDoorTold
import Derived.Test.YtchamhjckindiaaGreatDoorCoded
import Derived.Test.YtchamhjckindiaaGreatDoorDec
import Derived.Test.YtchamhjckindiaaGreatDoorWith
namespace Go.Proofs.YtchamhjckindiaaGreatDoor
open Go.RowKit

/-- Goods: the code, the pack. -/
abbrev GoodsV := List UInt8 × Int
def encGoods (x : GoodsV) : List Value := [.string ⟨x.1.toArray⟩, .int .i64 x.2]
def goodsE (x : GoodsV) : Nat := if nameB x.1 = false then 5 else if wiB x.2 1 1000 = false then 2 else 0
theorem goodsE_le (x : GoodsV) : goodsE x ≤ 12 := by unfold goodsE; split <;> (try split) <;> omega

set_option maxHeartbeats 400000 in
theorem checkGoods_any (E : Nat → Addr) (x : GoodsV) (w : World) (g1 : ErrAt 2 (E 5) w) (g2 : ErrAt 0 (E 2) w) :
    Calls Tryz.prog 14 #[.agg (encGoods x).toArray] w fun e w' => e = .returned (errOf E (goodsE x)) ∧ Below w.heap.size w w' := by
  have HE := Lib.hid (show goodsE x = if nameB x.1 = false then 5 else if wiB x.2 1 1000 = false then 2 else 0 from rfl)
  obtain ⟨a1, a2⟩ := x
  have HN := Lib.hid (fun W => name_wide a1 W)
  have H2 := Lib.hid (within_any a2 1 1000)
  have l1 := lt_of_cell g1
  have l2 := lt_of_cell g2
  simp only at l1 l2
  unfold ErrAt at g1 g2
  simp only [encGoods] at HE ⊢
  generalize nameB a1 = nm at HN HE
  generalize wiB a2 1 1000 = p2 at H2 HE
  go_enter Tryz.func14, Tryz.ntmps14
  go_wp2_with fail
  refine (HN.out _).mono ?_
  rintro e w1 ⟨rfl, b1⟩
  obtain ⟨hc, hf⟩ := bcell b1
  have B1 : Hid (Below w.heap.size w w1) := (below_one _ _).trans (b1.mono (by simp))
  clear b1 HN
  cases nm with
  | false =>
    go_wp2_with fail
    go_ret
    rw [HE.out]
    exact ⟨rfl, B1.out⟩
  | true =>
    go_wp2_with fail
    refine (H2.out _).mono ?_
    rintro e w2 ⟨rfl, rfl⟩
    cases p2 with
    | false =>
      go_wp2_with fail
      go_ret
      rw [HE.out]
      exact ⟨rfl, B1.out⟩
    | true =>
      go_wp2_with fail
      go_ret
      rw [HE.out]
      exact ⟨rfl, B1.out⟩

set_option maxHeartbeats 400000 in
theorem refGoods_any (x : GoodsV) (hl : x.1.length ≤ 1000000000) (w : World) :
    Calls Tryz.prog 15 #[.agg (encGoods x).toArray] w fun e w' => e = .returned (.int .i64 (goodsE x : Nat)) ∧ Below w.heap.size w w' := by
  have HE := Lib.hid (show goodsE x = if nameB x.1 = false then 5 else if wiB x.2 1 1000 = false then 2 else 0 from rfl)
  obtain ⟨a1, a2⟩ := x
  have HN := Lib.hid (fun W => isName_any a1 hl W)
  have HW := Lib.hid (show wiB a2 1 1000 = decide (1 ≤ a2 ∧ a2 ≤ 1000) from rfl)
  simp only [encGoods] at HE ⊢
  clear hl
  generalize nameB a1 = nm at HN HE
  have b1 := below_one w (.cells #[.string ⟨a1.toArray⟩, .int .i64 a2] 23)
  have B1 := Lib.hid b1
  clear b1
  cases nm with
  | false =>
    go_enter Tryz.func15, Tryz.ntmps15
    go_wp2_with fail
    refine (HN.out _).mono ?_
    rintro e w1 ⟨rfl, rfl⟩
    go_wp2_with fail
    go_ret
    rw [HE.out]
    exact ⟨rfl, B1.out⟩
  | true =>
    by_cases h1 : a2 < 1
    · have HE' := Lib.hid (show goodsE (a1, a2) = 2 by rw [HE.out, if_neg (by simp), HW.out, if_pos (by simp; omega)])
      go_enter Tryz.func15, Tryz.ntmps15
      go_wp2_with fail
      refine (HN.out _).mono ?_
      rintro e w1 ⟨rfl, rfl⟩
      go_wp2_with fail
      go_ret
      rw [HE'.out]
      exact ⟨rfl, B1.out⟩
    · by_cases h2 : 1000 < a2
      · have HE' := Lib.hid (show goodsE (a1, a2) = 2 by rw [HE.out, if_neg (by simp), HW.out, if_pos (by simp; omega)])
        go_enter Tryz.func15, Tryz.ntmps15
        go_wp2_with fail
        refine (HN.out _).mono ?_
        rintro e w1 ⟨rfl, rfl⟩
        go_wp2_with fail
        go_ret
        rw [HE'.out]
        exact ⟨rfl, B1.out⟩
      · have HE' := Lib.hid (show goodsE (a1, a2) = 0 by rw [HE.out, if_neg (by simp), HW.out, if_neg (by simp; omega)])
        go_enter Tryz.func15, Tryz.ntmps15
        go_wp2_with fail
        refine (HN.out _).mono ?_
        rintro e w1 ⟨rfl, rfl⟩
        go_wp2_with fail
        go_ret
        rw [HE'.out]
        exact ⟨rfl, B1.out⟩

/-- Pieces as text, of any numbers. -/
def textI (n pack : Int) : List UInt8 := if 0 ≤ n ∧ n ≤ 1099511627776 ∧ 1 ≤ pack ∧ pack ≤ 1000 then textL n.toNat pack.toNat else []
theorem text_any (n pack : Int) (w : World) (hT : TabG w) :
    Calls Tryz.prog 16 #[.int .i64 n, .int .i64 pack] w fun e w' => e = .returned (.string ⟨(textI n pack).toArray⟩) ∧ Below w.heap.size w w' := by
  by_cases h : 0 ≤ n ∧ n ≤ 1099511627776 ∧ 1 ≤ pack ∧ pack ≤ 1000
  · rw [show textI n pack = textL n.toNat pack.toNat from if_pos h]
    have := text_ok n.toNat pack.toNat (by omega) (by omega) (by omega) w hT
    rwa [Int.toNat_of_nonneg h.1, Int.toNat_of_nonneg (by omega)] at this
  · rw [show textI n pack = [] from if_neg h]
    exact (text_bad n pack (by omega) w).mono fun e w' ⟨he, hw⟩ => ⟨he, by subst hw; exact Below.refl _ _⟩
set_option maxHeartbeats 800000 in
theorem pText_ok (n pack : Nat) (hn : n ≤ 1099511627776) (hp : 1 ≤ pack) (hp2 : pack ≤ 1000) (w : World) :
    Calls Tryz.prog 17 #[.int .i64 n, .int .i64 pack] w fun e w' => e = .returned (.string ⟨(textL n pack).toArray⟩) ∧ Below w.heap.size w w' := by
  have HD := Lib.hid (fun (u : Nat) (hu : u ≤ 9223372036854775807) W => show Calls Tryz.prog 74 #[.int .i64 (u : Nat)] W fun e w' => e = .returned (.string ⟨(Lib.decDigits u).toArray⟩) ∧ Below W.heap.size W w' from by have := decimal_nat u hu W; rwa [Lib.itoa_nonneg] at this)
  have n0 : ¬ (n : Int) < 0 := by omega
  have n1 : ¬ 1099511627776 < (n : Int) := by omega
  have p0 : ¬ (pack : Int) < 1 := by omega
  have p1 : ¬ 1000 < (pack : Int) := by omega
  by_cases h1 : pack = 1
  · subst h1
    have HT := Lib.hid (text_plain (n := n) (pack := 1) (.inl rfl))
    go_enter Tryz.func17, Tryz.ntmps17
    go_wp2_with fail
    refine (HD.out n (by omega) _).mono ?_
    rintro e w1 ⟨rfl, b1⟩
    go_wp2_with fail
    go_ret
    rw [HT.out]
    exact ⟨rfl, b1⟩
  have q1 : ((pack : Int) == 1) = false := by simpa using by omega
  by_cases h2 : n < pack
  · have HT := Lib.hid (text_plain (.inr h2 : pack = 1 ∨ n < pack))
    have q2 : (n : Int) < (pack : Int) := by omega
    clear h1
    go_enter Tryz.func17, Tryz.ntmps17
    go_wp2_with fail
    refine (HD.out n (by omega) _).mono ?_
    rintro e w1 ⟨rfl, b1⟩
    go_wp2_with fail
    go_ret
    rw [HT.out]
    exact ⟨rfl, b1⟩
  have q2 : ¬ (n : Int) < (pack : Int) := by omega
  have hno : ¬ (pack = 1 ∨ n < pack) := by omega
  have HE := Lib.hid (text_even hno)
  have HO := Lib.hid (text_odd hno)
  obtain ⟨q, hq⟩ : ∃ q, q = n / pack := ⟨_, rfl⟩
  obtain ⟨r, hr⟩ : ∃ r, r = n % pack := ⟨_, rfl⟩
  have hdm : q * pack + r = n := by rw [hq, hr, Nat.mul_comm]; exact Nat.div_add_mod n pack
  have hqn : q ≤ n := by rw [hq]; exact Nat.div_le_self _ _
  have hrp : r < pack := by rw [hr]; exact Nat.mod_lt _ (by omega)
  have e0 : ((q * pack : Nat) : Int) = (q : Int) * (pack : Int) := by simp
  have d1 : (n : Int) / (pack : Int) = (q : Int) := by rw [hq]; simp
  have d2 : (n : Int) - (q : Int) * (pack : Int) = (r : Int) := by omega
  have d3 : (0 : Int) ≤ (q : Int) * (pack : Int) := by omega
  have d4 : (q : Int) * (pack : Int) ≤ 1099511627776 := by omega
  have d5 : (q : Int) * (pack : Int) ≤ (n : Int) := by omega
  rw [← hq, ← hr] at HO
  rw [← hq, ← hr] at HE
  have hql : q ≤ 9223372036854775807 := by omega
  have hrl : r ≤ 9223372036854775807 := by omega
  have QL := Lib.hid (And.intro hql hrl)
  have z1 : (0 : Int) ≤ (q : Int) := by omega
  have z2 : (q : Int) ≤ 1099511627776 := by omega
  have z3 : (0 : Int) ≤ (r : Int) := by omega
  have z4 : (r : Int) ≤ 1000 := by omega
  have lr : (Lib.decDigits r).length ≤ 13 := dec_len_le r 13 (by omega) (by omega)
  have lq : (Lib.decDigits q).length ≤ 13 := dec_len_le q 13 (by omega) (by omega)
  clear hq hr hdm hqn hrp e0 hno h1 h2 hql hrl
  by_cases h0 : r = 0
  · have HT := Lib.hid (HE.out h0)
    subst h0
    go_enter Tryz.func17, Tryz.ntmps17
    go_wp2_with fail
    refine (HD.out q QL.out.1 _).mono ?_
    rintro e w1 ⟨rfl, b1⟩
    go_wp2_with fail
    go_ret
    rw [HT.out]
    refine ⟨?_, b1⟩
    show Ending.returned (.string ((⟨(Lib.decDigits q).toArray⟩ : ByteArray) ++ (⟨[99].toArray⟩ : ByteArray))) = _
    rw [mk_app]
  · have HT := Lib.hid (HO.out h0)
    have q3 : ((r : Int) == 0) = false := by simpa using h0
    clear h0
    go_enter Tryz.func17, Tryz.ntmps17
    go_wp2_with fail
    refine (HD.out q QL.out.1 _).mono ?_
    rintro e w1 ⟨rfl, b1⟩
    go_wp2_with fail
    refine (HD.out r QL.out.2 _).mono ?_
    rintro e w2 ⟨rfl, b2⟩
    have bb := b1.trans (b2.mono b1.size)
    clear b1 b2
    go_wp2_with fail
    go_ret
    rw [HT.out]
    refine ⟨?_, bb⟩
    show Ending.returned (.string ((⟨(Lib.decDigits q).toArray⟩ : ByteArray) ++ (⟨[99].toArray⟩ : ByteArray) ++ (⟨(Lib.decDigits r).toArray⟩ : ByteArray))) = _
    rw [mk_app, mk_app]
    simp
theorem pText_any (n pack : Int) (w : World) :
    Calls Tryz.prog 17 #[.int .i64 n, .int .i64 pack] w fun e w' => e = .returned (.string ⟨(textI n pack).toArray⟩) ∧ Below w.heap.size w w' := by
  by_cases h : 0 ≤ n ∧ n ≤ 1099511627776 ∧ 1 ≤ pack ∧ pack ≤ 1000
  · rw [show textI n pack = textL n.toNat pack.toNat from if_pos h]
    have := pText_ok n.toNat pack.toNat (by omega) (by omega) (by omega) w
    rwa [Int.toNat_of_nonneg h.1, Int.toNat_of_nonneg (by omega)] at this
  · rw [show textI n pack = [] from if_neg h]
    have h' : n < 0 ∨ ¬ n < 0 ∧ 1099511627776 < n ∨ ¬ n < 0 ∧ ¬ 1099511627776 < n ∧ pack < 1 ∨ ¬ n < 0 ∧ ¬ 1099511627776 < n ∧ ¬ pack < 1 ∧ 1000 < pack := by omega
    clear h
    rcases h' with h | ⟨h1, h2⟩ | ⟨h1, h2, h3⟩ | ⟨h1, h2, h3, h4⟩
    all_goals
      go_enter Tryz.func17, Tryz.ntmps17
      go_wp2
      go_ret
      exact ⟨rfl, Below.refl _ _⟩
end Go.Proofs.YtchamhjckindiaaGreatDoor
