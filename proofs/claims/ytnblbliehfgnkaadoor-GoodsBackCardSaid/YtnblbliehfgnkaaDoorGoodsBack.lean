/- The walk of the statement GoodsBack: pieces are read as they were written; of two numbers the text is one only if they are one. No conditions. -/
import Derived.Test.YtnblbliehfgnkaaDoorGoodsLaw
namespace Go.Proofs.YtnblbliehfgnkaaDoor
open Go.RowKit

/-- What the walks of the laws over goods lean on in the first world. -/
structure GoodsG (E : Nat → Addr) (w : World) : Prop where
  tab : TabG w
  atoi : AtoiG w
  maxl : MaxG w
  e1 : ErrAt 0 (E 1) w
  e2 : ErrAt 1 (E 2) w
theorem GoodsG.below {E : Nat → Addr} {w w' : World} (h : GoodsG E w) (hb : Below w.heap.size w w') : GoodsG E w' :=
  ⟨h.tab.below hb, h.atoi.below hb, h.maxl.below hb, h.e1.below hb, h.e2.below hb⟩

theorem read_text (E : Nat → Addr) (n pack : Nat) (w : World) (hn : n ≤ 1099511627776) (hp : 1 ≤ pack) (hp2 : pack ≤ 1000) (hG : GoodsG E w) :
    Calls Tryd.prog 32 #[.string ⟨(textL n pack).toArray⟩, .int .i64 pack] w fun e w' => e = .returned (.tuple #[.int .i64 n, .nilIface]) ∧ Below w.heap.size w w' := by
  have hl := text_len n pack hn hp hp2
  have h := read_any E ⟨(textL n pack).toArray⟩ pack w hp hp2 (by show (textL n pack).toArray.size < _; simp; omega) hG.tab hG.atoi hG.maxl hG.e1 hG.e2
  rw [show (⟨(textL n pack).toArray⟩ : ByteArray).data.toList = textL n pack from rfl, back n pack hn hp hp2] at h
  exact h

set_option maxHeartbeats 400000 in
theorem told_any (E : Nat → Addr) (w : World) (hG : GoodsG E w) : Calls Tryd.prog 30 #[] w fun e w' => e = .returned (.bool true) ∧ Below w.heap.size w w' := by
  have h1 := read_text E 38 12 w (by omega) (by omega) (by omega) hG
  rw [text_told] at h1
  have H1 := Lib.hid h1
  have H2 := Lib.hid text_told
  clear h1
  go_enter Tryd.func30, Tryd.ntmps30
  go_wp2_with fail
  refine H1.out.mono ?_
  rintro e w1 ⟨rfl, hb⟩
  go_wp2_with fail
  refine (text_ok 38 12 (by omega) (by omega) (by omega) _ (hG.tab.below hb)).mono ?_
  rw [H2.out]
  rintro e w2 ⟨rfl, hb2⟩
  go_wp2_with fail
  go_ret
  exact ⟨rfl, hb.trans (hb2.mono hb.size)⟩

set_option maxHeartbeats 400000 in
theorem goodsBack_walk (E : Nat → Addr) (n m pack : Int) (w : World) (hG : GoodsG E w) :
    Calls Tryd.prog 7 #[.int .i64 n, .int .i64 m, .int .i64 pack] w fun e w' => e = .returned (.bool true) ∧ Below w.heap.size w w' := by
  by_cases hin : 0 ≤ n ∧ n ≤ 1099511627776 ∧ 0 ≤ m ∧ m ≤ 1099511627776 ∧ 1 ≤ pack ∧ pack ≤ 1000
  · obtain ⟨n0, n1, m0, m1, p0, p1⟩ := hin
    obtain ⟨n, rfl⟩ := Int.eq_ofNat_of_zero_le n0
    obtain ⟨m, rfl⟩ := Int.eq_ofNat_of_zero_le m0
    obtain ⟨pack, rfl⟩ := Int.eq_ofNat_of_zero_le (show 0 ≤ pack by omega)
    have hfin : ((textL n pack == textL m pack) == ((n : Int) == (m : Int))) = true := by
      have := text_inj n m pack (by omega) (by omega) (by omega) (by omega)
      rw [beq_iff_eq, Bool.eq_iff_iff, beq_iff_eq, beq_iff_eq, this]
      omega
    have HF := Lib.hid hfin
    clear hfin
    go_enter Tryd.func7, Tryd.ntmps7
    go_wp2_with fail
    refine (told_any E _ hG).mono ?_
    rintro e w1 ⟨rfl, hb1⟩
    go_wp2_with fail
    refine (text_ok n pack (by omega) (by omega) (by omega) _ (hG.below hb1).tab).mono ?_
    rintro e w2 ⟨rfl, hb2⟩
    go_wp2_with fail
    refine (read_text E n pack _ (by omega) (by omega) (by omega) ((hG.below hb1).below hb2)).mono ?_
    rintro e w3 ⟨rfl, hb3⟩
    go_wp2_with fail
    refine (text_ok m pack (by omega) (by omega) (by omega) _ (((hG.below hb1).below hb2).below hb3).tab).mono ?_
    rintro e w4 ⟨rfl, hb4⟩
    go_wp2_with fail
    go_ret
    have hh := ((hb1.trans (hb2.mono hb1.size)).trans (hb3.mono (Nat.le_trans hb1.size hb2.size))).trans (hb4.mono (Nat.le_trans (Nat.le_trans hb1.size hb2.size) hb3.size))
    refine ⟨?_, hh⟩
    show Ending.returned (.bool ((textL n pack == textL m pack) == ((n : Int) == (m : Int)))) = _
    rw [HF.out]
  · go_enter Tryd.func7, Tryd.ntmps7
    go_wp2_with fail
    refine (told_any E _ hG).mono ?_
    rintro e w1 ⟨rfl, hb1⟩
    have hin' : ¬ ((((((0 ≤ n ∧ n ≤ 1099511627776) ∧ 0 ≤ m) ∧ m ≤ 1099511627776) ∧ 1 ≤ pack) ∧ pack ≤ 1000)) := by omega
    clear hin
    go_wp2_with fail
    all_goals go_ret
    all_goals exact ⟨rfl, hb1⟩
end Go.Proofs.YtnblbliehfgnkaaDoor
