/- The closed fact on goods. -/
import Derived.Test.YtchamhjckindiaaGreatDoorGoodsLaw
namespace Go.Proofs.YtchamhjckindiaaGreatDoor
open Go.RowKit

/-- What the walks of the laws over goods lean on in the first world. -/
structure GoodsG (E : Nat → Addr) (w : World) : Prop where
  tab : TabG w
  atoi : AtoiG w
  maxl : MaxG w
  e1 : ErrAt 1 (E 1) w
  e2 : ErrAt 0 (E 2) w
theorem GoodsG.below {E : Nat → Addr} {w w' : World} (h : GoodsG E w) (hb : Below w.heap.size w w') : GoodsG E w' :=
  ⟨h.tab.below hb, h.atoi.below hb, h.maxl.below hb, h.e1.below hb, h.e2.below hb⟩

theorem read_text (E : Nat → Addr) (n pack : Nat) (w : World) (hn : n ≤ 1099511627776) (hp : 1 ≤ pack) (hp2 : pack ≤ 1000) (hG : GoodsG E w) :
    Calls Tryz.prog 11 #[.string ⟨(textL n pack).toArray⟩, .int .i64 pack] w fun e w' => e = .returned (.tuple #[.int .i64 n, .nilIface]) ∧ Below w.heap.size w w' := by
  have hl := text_len n pack hn hp hp2
  have h := read_any E ⟨(textL n pack).toArray⟩ pack w hp hp2 (by show (textL n pack).toArray.size < _; simp; omega) hG.tab hG.atoi hG.maxl hG.e1 hG.e2
  rw [show (⟨(textL n pack).toArray⟩ : ByteArray).data.toList = textL n pack from rfl, back n pack hn hp hp2] at h
  exact h

set_option maxHeartbeats 400000 in
theorem told_any (E : Nat → Addr) (w : World) (hG : GoodsG E w) : Calls Tryz.prog 10 #[] w fun e w' => e = .returned (.bool true) ∧ Below w.heap.size w w' := by
  have h1 := read_text E 38 12 w (by omega) (by omega) (by omega) hG
  rw [text_told] at h1
  have H1 := Lib.hid h1
  have H2 := Lib.hid text_told
  clear h1
  go_enter Tryz.func10, Tryz.ntmps10
  go_wp2_with fail
  refine H1.out.mono ?_
  rintro e w1 ⟨rfl, hb⟩
  go_wp2_with fail
  refine (text_ok 38 12 (by omega) (by omega) (by omega) _ (hG.tab.below hb)).mono ?_
  rw [H2.out]
  rintro e w2 ⟨rfl, hb2⟩
  go_wp2_with fail
  go_ret
  exact ⟨rfl, hb.trans (hb2.mono hb.size)⟩
end Go.Proofs.YtchamhjckindiaaGreatDoor
