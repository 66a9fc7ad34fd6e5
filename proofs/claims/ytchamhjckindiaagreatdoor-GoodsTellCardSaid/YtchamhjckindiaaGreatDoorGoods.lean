/- goods.Text and goods.Read: what they compute. -/
import Derived.Test.YtchamhjckindiaaGreatDoorItoa
import Derived.Lib.ItoaLen
import Derived.Deep.RegionWith
import Derived.Deep.QuietTactic
import Derived.BigQuiet
namespace Go.Proofs.YtchamhjckindiaaGreatDoor
open Go.RowKit

/-- The text of n pieces in cases of pack. -/
def textL (n pack : Nat) : List UInt8 :=
  if pack = 1 ∨ n < pack then Lib.decDigits n
  else if n % pack = 0 then Lib.decDigits (n / pack) ++ [99]
  else Lib.decDigits (n / pack) ++ [99] ++ Lib.decDigits (n % pack)

set_option maxHeartbeats 400000 in
theorem text_ok (n pack : Nat) (hn : n ≤ 1099511627776) (hp : 1 ≤ pack) (hp2 : pack ≤ 1000) (w : World) (hT : TabG w) :
    Calls Tryz.prog 16 #[.int .i64 n, .int .i64 pack] w fun e w' => e = .returned (.string ⟨(textL n pack).toArray⟩) ∧ Below w.heap.size w w' := by
  by_cases h1 : pack = 1
  · subst h1
    have hfin : Lib.itoa (n : Int) = textL n 1 := by rw [itoa_nat _ (by omega)]; simp [textL]
    have HF := Lib.hid hfin
    clear hfin
    go_enter Tryz.func16, Tryz.ntmps16
    go_wp2_with fail
    refine (within_yes _ _ _ _ (by omega) (by omega)).mono ?_
    rintro e w1 ⟨rfl, rfl⟩
    go_wp2_with fail
    refine (within_yes _ _ _ _ (by omega) (by omega)).mono ?_
    rintro e w1 ⟨rfl, rfl⟩
    go_wp2_with fail
    refine (itoa_any n (by omega) (by omega) _ hT).mono ?_
    rintro e w1 ⟨rfl, hb⟩
    go_wp2_with fail
    go_ret
    exact ⟨by rw [HF.out]; rfl, hb⟩
  · have e1 : ((pack : Int) == 1) = false := by rw [beq_eq_false_iff_ne]; omega
    by_cases h2 : n < pack
    · have hfin : Lib.itoa (n : Int) = textL n pack := by rw [itoa_nat _ (by omega)]; simp [textL, h2]
      have HF := Lib.hid hfin
      clear hfin
      go_enter Tryz.func16, Tryz.ntmps16
      go_wp2_with fail
      refine (within_yes _ _ _ _ (by omega) (by omega)).mono ?_
      rintro e w1 ⟨rfl, rfl⟩
      go_wp2_with fail
      refine (within_yes _ _ _ _ (by omega) (by omega)).mono ?_
      rintro e w1 ⟨rfl, rfl⟩
      go_wp2_with fail
      refine (itoa_any n (by omega) (by omega) _ hT).mono ?_
      rintro e w1 ⟨rfl, hb⟩
      go_wp2_with fail
      go_ret
      exact ⟨by rw [HF.out]; rfl, hb⟩
    · have q0 : (0 : Int) ≤ (n : Int) / (pack : Int) := Int.ediv_nonneg (by omega) (by omega)
      have q1 : (n : Int) / (pack : Int) ≤ n := Int.ediv_le_self _ (by omega)
      have r0 : (0 : Int) ≤ (n : Int) % (pack : Int) := Int.emod_nonneg _ (by omega)
      have r1 : (n : Int) % (pack : Int) < pack := Int.emod_lt_of_pos _ (by omega)
      have l0 := Lib.itoa_length_le ((n : Int) / (pack : Int)) (by omega) (by omega)
      have l1 := Lib.itoa_length_le ((n : Int) % (pack : Int)) (by omega) (by omega)
      have r2 : ((n : Int) / (pack : Int)).toNat = n / pack := rfl
      have r3 : ((n : Int) % (pack : Int)).toNat = n % pack := rfl
      by_cases h3 : n % pack = 0
      · have hfin : Lib.itoa ((n : Int) / (pack : Int)) ++ [99] = textL n pack := by
          rw [itoa_nat _ q0, r2]; simp [textL, h1, h2, h3]
        have HF := Lib.hid hfin
        have e3 : ((n : Int) % (pack : Int) == 0) = true := by rw [beq_iff_eq]; omega
        clear hfin r2 r3 h3
        go_enter Tryz.func16, Tryz.ntmps16
        go_wp2_with fail
        refine (within_yes _ _ _ _ (by omega) (by omega)).mono ?_
        rintro e w1 ⟨rfl, rfl⟩
        go_wp2_with fail
        refine (within_yes _ _ _ _ (by omega) (by omega)).mono ?_
        rintro e w1 ⟨rfl, rfl⟩
        go_wp2_with fail
        refine (itoa_any _ (by omega) (by omega) _ hT).mono ?_
        rintro e w1 ⟨rfl, hb⟩
        go_wp2_with fail
        go_ret
        refine ⟨?_, hb⟩
        rw [← HF.out, ← mk_app]
        rfl
      · have hfin : Lib.itoa ((n : Int) / (pack : Int)) ++ [99] ++ Lib.itoa ((n : Int) % (pack : Int)) = textL n pack := by
          rw [itoa_nat _ q0, itoa_nat _ r0, r2, r3]; simp [textL, h1, h2, h3]
        have HF := Lib.hid hfin
        have e3 : ((n : Int) % (pack : Int) == 0) = false := by rw [beq_eq_false_iff_ne]; omega
        clear hfin r2 r3 h3
        go_enter Tryz.func16, Tryz.ntmps16
        go_wp2_with fail
        refine (within_yes _ _ _ _ (by omega) (by omega)).mono ?_
        rintro e w1 ⟨rfl, rfl⟩
        go_wp2_with fail
        refine (within_yes _ _ _ _ (by omega) (by omega)).mono ?_
        rintro e w1 ⟨rfl, rfl⟩
        go_wp2_with fail
        have p0 : -9223372036854775808 ≤ (n : Int) / (pack : Int) := by omega
        have p1 : (n : Int) / (pack : Int) ≤ 9223372036854775807 := by omega
        have p2 : -9223372036854775808 ≤ (n : Int) % (pack : Int) := by omega
        have p3 : (n : Int) % (pack : Int) ≤ 9223372036854775807 := by omega
        have et : (n : Int).tmod (pack : Int) = (n : Int) % (pack : Int) := Int.tmod_eq_emod_of_nonneg (by omega)
        have eq : (n : Int).tdiv (pack : Int) = (n : Int) / (pack : Int) := Int.tdiv_eq_ediv_of_nonneg (by omega)
        have ew : IntKind.i64.wrap ((n : Int) / (pack : Int)) = (n : Int) / (pack : Int) := IntWalk.i64_in _ ⟨p0, p1⟩
        go_region_with (first
          | (go_at_call_of 73 (Value.int .i64 ((n : Int) / (pack : Int))); refine (itoa_any _ p0 p1 _ ?_).mono ?_; exact hT.drew; rintro e w1 ⟨rfl, hb1⟩)
          | (go_at_call_of 73 (Value.int .i64 ((n : Int) % (pack : Int))); refine (itoa_any _ p2 p3 _ ?_).mono ?_; exact hT.drew.below hb1; rintro e w2 ⟨rfl, hb2⟩))
        all_goals clear ew et eq
        all_goals go_wp2_with fail
        all_goals go_ret
        all_goals
          refine ⟨?_, ((Below.refl w.heap.size w).drew.trans hb1).trans (hb2.mono hb1.size)⟩
          rw [← HF.out, ← mk_app, ← mk_app]
          rfl

set_option maxHeartbeats 400000 in
theorem text_bad (n pack : Int) (h : n < 0 ∨ 1099511627776 < n ∨ pack < 1 ∨ 1000 < pack) (w : World) :
    Calls Tryz.prog 16 #[.int .i64 n, .int .i64 pack] w fun e w' => e = .returned (.string ⟨#[]⟩) ∧ w = w' := by
  by_cases h1 : n < 0 ∨ 1099511627776 < n
  · go_enter Tryz.func16, Tryz.ntmps16
    go_wp2_with fail
    refine (within_no _ _ _ _ (by omega)).mono ?_
    rintro e w1 ⟨rfl, rfl⟩
    go_wp2_with fail
    go_ret
    exact ⟨rfl, rfl⟩
  · go_enter Tryz.func16, Tryz.ntmps16
    go_wp2_with fail
    refine (within_yes _ _ _ _ (by omega) (by omega)).mono ?_
    rintro e w1 ⟨rfl, rfl⟩
    go_wp2_with fail
    refine (within_no _ _ _ _ (by omega)).mono ?_
    rintro e w1 ⟨rfl, rfl⟩
    go_wp2_with fail
    go_ret
    exact ⟨rfl, rfl⟩
end Go.Proofs.YtchamhjckindiaaGreatDoor
