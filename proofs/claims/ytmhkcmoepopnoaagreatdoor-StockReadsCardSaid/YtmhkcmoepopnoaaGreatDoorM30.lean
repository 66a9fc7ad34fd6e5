/- A closed fact on a stock: stocked. What a row's list gives, more: errors' own variable; how large the first heap is; the texts of the sentinels. The twelve sentinels together. The law StockReads, walked. -/
import Derived.LaidHandle
import Derived.Lay
import Derived.Stop.Joined
import Derived.Test.YtmhkcmoepopnoaaGreatDoorM01
import Derived.Test.YtmhkcmoepopnoaaGreatDoorM03
import Derived.Test.YtmhkcmoepopnoaaGreatDoorM21
import Derived.Test.YtmhkcmoepopnoaaGreatDoorM26
import Derived.Test.YtmhkcmoepopnoaaGreatDoorM27
import Derived.Test.YtmhkcmoepopnoaaGreatDoorM29
namespace Go.Proofs.YtmhkcmoepopnoaaGreatDoor
open Go.RowKit Go.Sort Go.Proofs

theorem stk1 : putE [] ([97], 1, 2) [108, 49] 5 = 0 := by decide
theorem stk2 : putM [] ([97], 1, 2) [108, 49] 5 = [((([97], 1, 2), [108, 49]), 5)] := by decide
theorem stk3 : takeE [((([97], 1, 2), [108, 49]), 5)] ([97], 1, 2) [108, 49] 2 = 0 := by decide
theorem stk4 : takeM [((([97], 1, 2), [108, 49]), 5)] ([97], 1, 2) [108, 49] 2 = [((([97], 1, 2), [108, 49]), 3)] := by decide
theorem stk5 : textM [((([97], 1, 2), [108, 49]), 3)] = [97, 45, 49, 45, 50, 32, 108, 49, 32, 51, 10] := by
  have h : linesM [((([97], 1, 2), [108, 49]), 3)] = [(([97], 1, 2), [108, 49], 3)] := Stab.srt_one _ _
  unfold textM
  rw [h]
  decide +kernel

set_option maxHeartbeats 1600000 in
set_option maxRecDepth 100000 in
theorem stocked_any (E : Nat → Addr) (w : World) (hG : StkG E w) :
    Calls Tryz.prog 7 #[] w fun e w' => e = .returned (.bool true) ∧ Below w.heap.size w w' := by
  have HNW := Lib.hid (newStock_any w)
  have HG := Lib.hid (fun W (h : Below w.heap.size w W) => hG.below h)
  have i1 := (StkI.nil.put ([97], 1, 2) [108, 49] 5)
  have i2 := i1.take ([97], 1, 2) [108, 49] 2
  rw [stk2] at i1 i2
  rw [stk4] at i2
  have HP := Lib.hid (fun p b W h hg => putStock_any E p b [] ([97], 1, 2) [108, 49] 5 W h (by rw [ofM_nil]; omega) hg)
  have HT := Lib.hid (fun p b W h hg => takeStock_any E p b [((([97], 1, 2), [108, 49]), 5)] ([97], 1, 2) [108, 49] 2 W h (by decide) hg)
  have HA := Lib.hid (fun p b W h => atStock_any p b [((([97], 1, 2), [108, 49]), 3)] ([97], 1, 2) [108, 49] W h)
  have HX := Lib.hid (fun p b W h hg => textStock_any E p b [((([97], 1, 2), [108, 49]), 3)] W h i2.well hg)
  rw [stk1, stk2] at HP
  rw [stk3, stk4] at HT
  rw [show atM [((([97], 1, 2), [108, 49]), 3)] (([97], 1, 2), [108, 49]) = 3 from by decide] at HA
  rw [stk5] at HX
  clear i1 i2 hG
  simp only [encPlace] at HP HT HA
  go_enter Tryz.func7, Tryz.ntmps7
  go_wp2_with fail
  refine HNW.out.mono ?_
  rintro e w1 ⟨rfl, hS1, b1⟩
  have b2 := b1.alloc b1.size (.cells #[.string ⟨#[97]⟩, .int .i64 1, .int .i64 2] 24)
  have hS2 := hS1.below (below_one w1 (.cells #[.string ⟨#[97]⟩, .int .i64 1, .int .i64 2] 24))
  have hx2 := heap_alloc_new w1 (.cells #[.string ⟨#[97]⟩, .int .i64 1, .int .i64 2] 24)
  have hb := hS1.lt.2
  have B2 := Lib.hid b2
  have HS2 := Lib.hid hS2
  obtain ⟨c0, c1, c2⟩ := row3 hx2
  clear b1 hS1 b2 hS2 HNW
  go_wp2_with fail
  generalize w1.alloc (.cells #[.string ⟨#[97]⟩, .int .i64 1, .int .i64 2] 24) = w2 at *
  generalize w1.heap.size = q at *
  refine (HP.out _ _ w2 HS2.out (HG.out _ B2.out)).mono ?_
  rintro e w3 ⟨rfl, hS3, t3⟩
  have B3 := Lib.hid (t3.below B2.out (Nat.le_refl _) B2.out.size)
  have hx3 := (t3.block q (heap_lt hx2) (by omega)).trans hx2
  have HS3 := Lib.hid hS3
  clear c0 c1 c2 hx2 hS3 t3 HS2 B2
  obtain ⟨c0, c1, c2⟩ := row3 hx3
  rw [errOf_zero]
  go_wp2_with fail
  refine (HT.out _ _ w3 HS3.out (HG.out _ B3.out)).mono ?_
  rintro e w4 ⟨rfl, hS4, t4⟩
  have B4 := Lib.hid (t4.below B3.out (Nat.le_refl _) B3.out.size)
  have hx4 := (t4.block q (heap_lt hx3) (by omega)).trans hx3
  have HS4 := Lib.hid hS4
  clear c0 c1 c2 hx3 hS4 t4 HS3 B3
  obtain ⟨c0, c1, c2⟩ := row3 hx4
  rw [errOf_zero]
  go_wp2_with fail
  refine (HA.out _ _ w4 HS4.out).mono ?_
  rintro e w5 ⟨rfl, b5⟩
  have B5 := Lib.hid (B4.out.trans (b5.mono B4.out.size))
  have HS5 := Lib.hid (HS4.out.below b5)
  clear b5 HS4 B4 c0 c1 c2 hx4
  go_wp2_with fail
  refine (HX.out _ _ w5 HS5.out (HG.out _ B5.out).place).mono ?_
  rintro e w6 ⟨rfl, b6⟩
  have B6 := Lib.hid (B5.out.trans (b6.mono B5.out.size))
  clear b6
  go_wp2_with fail
  go_ret
  exact ⟨rfl, B6.out⟩
end Go.Proofs.YtmhkcmoepopnoaaGreatDoor
namespace Go.Proofs.YtmhkcmoepopnoaaGreatDoor
open Go.RowKit Go.ChangeShapes

/-- The first heap holds the table. -/
theorem tab_big {W : World} (h : Lib.TabIs Tryz.prog W "internal/strconv.uint64pow10" .u64 Lib.pow10Tab) : 14 < W.heap.size := by
  have c0 : W.cell? ⟨14, 0, none⟩ = _ := World.var?_cell (P := Tryz.prog) (by kernel_rfl) h 0
  exact lt_of_cell (c0.trans (show _ = some (Value.int .u64 1) from rfl))

theorem et : Tryz.prog.globalNamed "errors.errorType" = some 12 := by kernel_rfl
theorem rt : (Tryz.prog.cutTypes.find? (·.1 == "internal/reflectlite.rtype")).map (·.2) = some 179 := by kernel_rfl
theorem oneRow : ((List.range 277).filter fun t => Tryz.prog.rowNamed t [101, 114, 114, 111, 114]) = [34] := by kernel_rfl
theorem tsize : Tryz.prog.types.size = 277 := by kernel_rfl

theorem handle_of {W : World} (h : handlesMet Tryz.prog [("errors.errorType", .iface "internal/reflectlite.rtype" (.agg [.ptr (.lit (.string [101, 114, 114, 111, 114]))]))] W) :
    W.cell? ⟨12, 0, none⟩ = some (.iface 179 (.agg #[.pointer (some ⟨21, 34, none⟩)])) := by
  obtain ⟨name, u, ty, e1, e2, e3, e4, e5⟩ := h _ (List.mem_singleton.2 rfl)
  have en : name = [101, 114, 114, 111, 114] := (Option.some.inj e1).symm
  subst en
  obtain rfl := Option.some.inj (rt.symm.trans e2)
  have hm : ty ∈ (List.range 277).filter fun t => Tryz.prog.rowNamed t [101, 114, 114, 111, 114] := List.mem_filter.2 ⟨List.mem_range.2 (by rw [← tsize]; exact e3), e4⟩
  rw [oneRow] at hm
  obtain rfl := List.mem_singleton.1 hm
  have hh : typeHandle Tryz.prog 34 = .pointer (some ⟨21, 34, none⟩) := by kernel_rfl
  rw [hh] at e5
  simpa using World.var?_cell et e5 0

/-- Two sentinels of unlike texts are unlike. -/
theorem sent_ne {g g' : Nat} {a a' : Addr} {l l' : List UInt8} {w : World} (h : Sent g a l w) (h' : Sent g' a' l' w) (hne : l ≠ l') : a ≠ a' := by
  rintro rfl
  obtain ⟨s, hs, ht⟩ := h.text
  obtain ⟨s', hs', ht'⟩ := h'.text
  rw [hs] at hs'
  injection hs' with hs'
  injection hs' with hs'
  subst hs'
  exact hne (ht.symm.trans ht')

/-- All the listed data laid over a world. -/
theorem laidMet_over {P : Program} {w0 : World} {laid : List (String × DataW Unit)} (args : Array Value)
    (hf : w0.layFits P laid [] = true) (hi : w0.layIfaces P laid (w0.layVars P laid) = true) :
    laidMet P laid ((w0.layVars P laid).forCall (fun _ _ => 0) ⟨#[], args, []⟩).memory := by
  have e1 : (laid.filter fun x => (laid.map (·.1)).contains x.1) = laid := List.filter_eq_self.2 fun x hx => List.contains_iff_mem.2 (List.mem_map.2 ⟨x, hx, rfl⟩)
  have e2 : (laid.filter fun x => !(laid.map (·.1)).contains x.1) = [] := List.filter_eq_nil_iff.2 fun x hx => by rw [List.contains_iff_mem.2 (List.mem_map.2 ⟨x, hx, rfl⟩)]; simp
  have h : laidMet P laid (w0.layVars P laid) := laidMet_layVars (w0 := w0) (laid.map (·.1)) [] (by rw [e1]) (by rw [e1]; exact hf) (by rw [e1]; exact hi) (by rw [e2]; exact LaidIn.none)
  exact h.of_heap (by simp [World.memory, World.forCall, Input.heap])
end Go.Proofs.YtmhkcmoepopnoaaGreatDoor
namespace Go.Proofs.YtmhkcmoepopnoaaGreatDoor
open Go.RowKit

/-- The number of a sentinel, by its text. -/
def textNo (l : List UInt8) : Nat :=
  if l = [116, 105, 116, 104, 101, 98, 97, 114, 110, 58, 32, 116, 101, 120, 116] then 1 else
  if l = [116, 105, 116, 104, 101, 98, 97, 114, 110, 58, 32, 98, 111, 117, 110, 100] then 2 else
  if l = [116, 105, 116, 104, 101, 98, 97, 114, 110, 58, 32, 115, 104, 97, 112, 101] then 3 else
  if l = [116, 105, 116, 104, 101, 98, 97, 114, 110, 58, 32, 107, 105, 110, 100] then 4 else
  if l = [116, 105, 116, 104, 101, 98, 97, 114, 110, 58, 32, 110, 97, 109, 101] then 5 else
  if l = [116, 105, 116, 104, 101, 98, 97, 114, 110, 58, 32, 110, 111, 110, 101] then 6 else
  if l = [116, 105, 116, 104, 101, 98, 97, 114, 110, 58, 32, 101, 120, 105, 115, 116] then 7 else
  if l = [116, 105, 116, 104, 101, 98, 97, 114, 110, 58, 32, 102, 117, 108, 108] then 8 else
  if l = [116, 105, 116, 104, 101, 98, 97, 114, 110, 58, 32, 115, 104, 111, 114, 116] then 9 else
  if l = [116, 105, 116, 104, 101, 98, 97, 114, 110, 58, 32, 111, 114, 100, 101, 114] then 10 else
  if l = [116, 105, 116, 104, 101, 98, 97, 114, 110, 58, 32, 115, 116, 97, 116, 101] then 11 else
  if l = [116, 105, 116, 104, 101, 98, 97, 114, 110, 58, 32, 111, 102, 102] then 12 else 0

theorem errG_of {W : World} {a1 a2 a3 a4 a5 a6 a7 a8 a9 a10 a11 a12 : Addr}
    (h1 : Sent 6 a1 [116, 105, 116, 104, 101, 98, 97, 114, 110, 58, 32, 116, 101, 120, 116] W)
    (h2 : Sent 1 a2 [116, 105, 116, 104, 101, 98, 97, 114, 110, 58, 32, 98, 111, 117, 110, 100] W)
    (h3 : Sent 4 a3 [116, 105, 116, 104, 101, 98, 97, 114, 110, 58, 32, 115, 104, 97, 112, 101] W)
    (h4 : Sent 5 a4 [116, 105, 116, 104, 101, 98, 97, 114, 110, 58, 32, 107, 105, 110, 100] W)
    (h5 : Sent 0 a5 [116, 105, 116, 104, 101, 98, 97, 114, 110, 58, 32, 110, 97, 109, 101] W)
    (h6 : Sent 8 a6 [116, 105, 116, 104, 101, 98, 97, 114, 110, 58, 32, 110, 111, 110, 101] W)
    (h7 : Sent 9 a7 [116, 105, 116, 104, 101, 98, 97, 114, 110, 58, 32, 101, 120, 105, 115, 116] W)
    (h8 : Sent 2 a8 [116, 105, 116, 104, 101, 98, 97, 114, 110, 58, 32, 102, 117, 108, 108] W)
    (h9 : Sent 3 a9 [116, 105, 116, 104, 101, 98, 97, 114, 110, 58, 32, 115, 104, 111, 114, 116] W)
    (h10 : Sent 7 a10 [116, 105, 116, 104, 101, 98, 97, 114, 110, 58, 32, 111, 114, 100, 101, 114] W)
    (h11 : Sent 10 a11 [116, 105, 116, 104, 101, 98, 97, 114, 110, 58, 32, 115, 116, 97, 116, 101] W)
    (h12 : Sent 11 a12 [116, 105, 116, 104, 101, 98, 97, 114, 110, 58, 32, 111, 102, 102] W)
    (hty : W.cell? ⟨12, 0, none⟩ = some (.iface 179 (.agg #[.pointer (some ⟨21, 34, none⟩)]))) :
    ErrG (fun k => if k = 1 then a1 else if k = 2 then a2 else if k = 3 then a3 else if k = 4 then a4 else if k = 5 then a5 else if k = 6 then a6 else if k = 7 then a7 else if k = 8 then a8 else if k = 9 then a9 else if k = 10 then a10 else if k = 11 then a11 else a12) W := by
  refine ⟨?_, ?_, ?_, hty⟩
  · intro k k1 k2
    rcases (show k = 1 ∨ k = 2 ∨ k = 3 ∨ k = 4 ∨ k = 5 ∨ k = 6 ∨ k = 7 ∨ k = 8 ∨ k = 9 ∨ k = 10 ∨ k = 11 ∨ k = 12 by omega) with rfl | rfl | rfl | rfl | rfl | rfl | rfl | rfl | rfl | rfl | rfl | rfl
    · exact h1.at_
    · exact h2.at_
    · exact h3.at_
    · exact h4.at_
    · exact h5.at_
    · exact h6.at_
    · exact h7.at_
    · exact h8.at_
    · exact h9.at_
    · exact h10.at_
    · exact h11.at_
    · exact h12.at_
  · intro k k1 k2
    rcases (show k = 1 ∨ k = 2 ∨ k = 3 ∨ k = 4 ∨ k = 5 ∨ k = 6 ∨ k = 7 ∨ k = 8 ∨ k = 9 ∨ k = 10 ∨ k = 11 ∨ k = 12 by omega) with rfl | rfl | rfl | rfl | rfl | rfl | rfl | rfl | rfl | rfl | rfl | rfl
    · exact h1.row
    · exact h2.row
    · exact h3.row
    · exact h4.row
    · exact h5.row
    · exact h6.row
    · exact h7.row
    · exact h8.row
    · exact h9.row
    · exact h10.row
    · exact h11.row
    · exact h12.row
  · have T : ∀ k, 1 ≤ k → k ≤ 12 → ∃ g l, Sent g ((fun k => if k = 1 then a1 else if k = 2 then a2 else if k = 3 then a3 else if k = 4 then a4 else if k = 5 then a5 else if k = 6 then a6 else if k = 7 then a7 else if k = 8 then a8 else if k = 9 then a9 else if k = 10 then a10 else if k = 11 then a11 else a12) k) l W ∧ textNo l = k := by
      intro k k1 k2
      rcases (show k = 1 ∨ k = 2 ∨ k = 3 ∨ k = 4 ∨ k = 5 ∨ k = 6 ∨ k = 7 ∨ k = 8 ∨ k = 9 ∨ k = 10 ∨ k = 11 ∨ k = 12 by omega) with rfl | rfl | rfl | rfl | rfl | rfl | rfl | rfl | rfl | rfl | rfl | rfl
      · exact ⟨_, _, h1, by decide⟩
      · exact ⟨_, _, h2, by decide⟩
      · exact ⟨_, _, h3, by decide⟩
      · exact ⟨_, _, h4, by decide⟩
      · exact ⟨_, _, h5, by decide⟩
      · exact ⟨_, _, h6, by decide⟩
      · exact ⟨_, _, h7, by decide⟩
      · exact ⟨_, _, h8, by decide⟩
      · exact ⟨_, _, h9, by decide⟩
      · exact ⟨_, _, h10, by decide⟩
      · exact ⟨_, _, h11, by decide⟩
      · exact ⟨_, _, h12, by decide⟩
    intro i j i1 i2 j1 j2 he
    obtain ⟨g, l, s, e⟩ := T i i1 i2
    obtain ⟨g', l', s', e'⟩ := T j j1 j2
    rcases Decidable.em (l = l') with hl | hl
    · rw [← e, ← e', hl]
    · exact absurd he (sent_ne s s' hl)
end Go.Proofs.YtmhkcmoepopnoaaGreatDoor
namespace Go.Proofs.YtmhkcmoepopnoaaGreatDoor
open Go.RowKit Go.Sort Go.Proofs

structure SReadG (E : Nat → Addr) (w : World) : Prop where
  err : ErrG E w
  rd : RdG E w
theorem SReadG.below {E : Nat → Addr} {w w' : World} (h : SReadG E w) (hb : Below w.heap.size w w') : SReadG E w' := ⟨h.err.below hb, h.rd.below hb⟩

set_option maxHeartbeats 800000 in
theorem readStock_long (E : Nat → Addr) (s : ByteArray) (hs : 20000 < s.size) (w : World) (hG : RdG E w) :
    Calls Tryz.prog 31 #[.string s] w fun e w' => e = .returned (.tuple #[.pointer none, .iface 245 (.pointer (some (E 2)))]) ∧ Below w.heap.size w w' := by
  have hg := hG.read.bound
  unfold ErrAt at hg
  have b := Lib.hid (Below.refl w.heap.size w)
  have hsi : (20000 : Int) < (s.size : Int) := by omega
  go_enter Tryz.func31, Tryz.ntmps31
  go_wp2_with fail
  go_quiet (fail)
  go_wp2
  go_ret2
  exact ⟨rfl, below_drewN b.out _⟩
set_option maxHeartbeats 1600000 in
set_option maxRecDepth 100000 in
theorem refReadStock_long (s : ByteArray) (hs : 20000 < s.size) (w : World) :
    Calls Tryz.prog 32 #[.string s] w fun e w' => e = .returned (.tuple #[.agg #[.slice none 0 0], .agg #[.int .i64 2, .int .i64 (-1)]]) ∧ Below w.heap.size w w' := by
  have bz := below_two w (.cells #[.slice none 0 0] 30) (.cells #[.int .i64 0, .int .i64 0] 64)
  have hz0 := ((below_one (w.alloc (.cells #[.slice none 0 0] 30)) (.cells #[.int .i64 0, .int .i64 0] 64)).block w.heap.size (by simp)).trans (heap_alloc_new w (.cells #[.slice none 0 0] 30))
  have hz1 := heap_new2 w (.cells #[.slice none 0 0] 30) (.cells #[.int .i64 0, .int .i64 0] 64)
  have hsi : (20000 : Int) < (s.size : Int) := by omega
  go_enter Tryz.func32, Tryz.ntmps32
  go_wp2_with fail
  refine (bare_any 2 _).mono ?_
  rintro e w1 ⟨rfl, b1⟩
  have HY0 := Lib.hid (at_b b1 hz0 (row_lt hz0))
  have HY1 := Lib.hid (at_b b1 hz1 (row_lt hz1))
  have HB := Lib.hid (bz.trans (b1.mono bz.size))
  clear b1 bz hz0 hz1
  go_wp2_with (first | (refine wpList_store_box rfl 30 _ _ rfl w.heap.size [.slice none 0 0] rfl rfl 30 [.slice none 0 0] HY0.out (by kernel_rfl) rfl (oneSl _ _ _) ?_; intro wf hf tf; have hq9 := (tf.block (w.heap.size + 1) (Nat.succ_ne_self _)).trans HY1.out) | (refine wpList_store_box rfl 64 _ _ rfl (w.heap.size + 1) [.int .i64 2, .int .i64 (-1)] rfl rfl 64 [.int .i64 0, .int .i64 0] hq9 (by kernel_rfl) rfl (oneII _ _) ?_; intro wg hg tg))
  (try simp only [Exit.inBlock, Exit.then])
  refine bodyPost_ret (results_cell_cell rfl _ _ w.heap.size (w.heap.size + 1) 30 64 #[.slice none 0 0] #[.int .i64 2, .int .i64 (-1)] (0, 0) (0, 0) _ _ rfl ((tg.block _ (Nat.succ_ne_self _).symm).trans hf) Tryz.underlying30 rfl (by kernel_rfl) rfl hg Tryz.underlying64 rfl (by kernel_rfl)) rfl ?_
  exact ⟨rfl, HB.out.trans ((tf.below (Nat.le_refl _)).trans (tg.below (Nat.le_succ _)))⟩

set_option maxHeartbeats 1600000 in
set_option maxRecDepth 100000 in
theorem sread_out (E : Nat → Addr) (s : ByteArray) (w : World) (hG : SReadG E w) (h1 : 1500 < s.size) (h2 : s.size ≠ 20001) :
    Calls Tryz.prog 6 #[.string s] w fun e w' => e = .returned (.bool true) ∧ Below w.heap.size w w' := by
  have HST := Lib.hid (stocked_any E w hG.rd.stk)
  have g1 : (1500 : Int) < (s.size : Int) := by omega
  have g2 : ((s.size : Int) == 20001) = false := by simp; omega
  have g3 : ((s.size : Int) != 20001) = true := by simp; omega
  clear hG h1 h2
  go_enter Tryz.func6, Tryz.ntmps6
  go_wp2_with fail
  refine HST.out.mono ?_
  rintro e w1 ⟨rfl, b1⟩
  have B1 := Lib.hid b1
  clear b1
  go_wp2
  go_ret
  exact ⟨rfl, B1.out⟩

set_option maxHeartbeats 1600000 in
set_option maxRecDepth 100000 in
theorem sread_long (E : Nat → Addr) (s : ByteArray) (w : World) (hG : SReadG E w) (h2 : s.size = 20001) :
    Calls Tryz.prog 6 #[.string s] w fun e w' => e = .returned (.bool true) ∧ Below w.heap.size w w' := by
  have HST := Lib.hid (stocked_any E w hG.rd.stk)
  have HG := Lib.hid (fun W (h : Below w.heap.size w W) => hG.below h)
  have HRD := Lib.hid (fun W hg => readStock_long E s (by omega) W hg)
  have HRR := Lib.hid (fun W => refReadStock_long s (by omega) W)
  have HFL := Lib.hid (fun W hg => faulted1_sent E 2 (by omega) (by omega) W hg)
  have g1 : (1500 : Int) < (s.size : Int) := by omega
  have g2 : ((s.size : Int) == 20001) = true := by simp; omega
  have g3 : ((s.size : Int) != 20001) = false := by simp; omega
  clear hG h2
  go_enter Tryz.func6, Tryz.ntmps6
  go_wp2_with fail
  refine HST.out.mono ?_
  rintro e w1 ⟨rfl, b1⟩
  have B1 := Lib.hid b1
  clear b1 HST
  go_wp2_with fail
  refine (HRD.out _ (HG.out _ B1.out).rd).mono ?_
  rintro e w2 ⟨rfl, b2⟩
  have B2 := Lib.hid (B1.out.trans (b2.mono B1.out.size))
  clear b2 B1 HRD
  go_wp2_with fail
  refine (HRR.out _).mono ?_
  rintro e w3 ⟨rfl, b3⟩
  have B3 := Lib.hid (B2.out.trans (b3.mono B2.out.size))
  have b4 := below_two w3 (.cells #[.slice none 0 0] 30) (.cells #[.int .i64 2, .int .i64 (-1)] 64)
  have B4 := Lib.hid (B3.out.trans (b4.mono B3.out.size))
  clear b3 b4 B2 HRR
  go_wp2_with fail
  refine (HFL.out _ (HG.out _ B4.out).err).mono ?_
  rintro e w5 ⟨rfl, b5⟩
  have B5 := Lib.hid (B4.out.trans (b5.mono B4.out.size))
  clear b5
  go_wp2
  go_ret
  exact ⟨rfl, B5.out⟩

set_option maxHeartbeats 3200000 in
set_option maxRecDepth 100000 in
theorem sread_in (E : Nat → Addr) (l : List UInt8) (w : World) (hG : SReadG E w) (hl : l.length ≤ 1500) :
    Calls Tryz.prog 6 #[.string ⟨l.toArray⟩] w fun e w' => e = .returned (.bool true) ∧ Below w.heap.size w w' := by
  have hbs : (⟨l.toArray⟩ : ByteArray).size = l.length := by simp [ByteArray.size]
  have HST := Lib.hid (stocked_any E w hG.rd.stk)
  have HG := Lib.hid (fun W (h : Below w.heap.size w W) => hG.below h)
  have HRD := Lib.hid (fun W hg => readStock_any E l (by omega) W hg)
  have HRR := Lib.hid (fun W => refReadStock_any ⟨l.toArray⟩ (by rw [hbs]; omega) W)
  rw [show bts ⟨l.toArray⟩ = l from rfl] at HRR
  have HTX := Lib.hid (fun d h => read_text (s := l) (d := d) h)
  have HIV := Lib.hid (fun d h => rdGo_inv (splitL 10 l) 0 [] d RdI.nil h)
  have HCD := Lib.hid (fun c i h => rdGo_code (splitL 10 l) 0 [] c i h)
  have g1 : ¬ (1500 : Int) < (l.length : Int) := by omega
  generalize rdGo (splitL 10 l) 0 [] = R at HRD HRR HTX HIV HCD
  clear hG
  go_enter Tryz.func6, Tryz.ntmps6
  go_wp2_with fail
  refine HST.out.mono ?_
  rintro e w1 ⟨rfl, b1⟩
  have B1 := Lib.hid b1
  clear b1 HST
  go_wp2_with fail
  refine (HRD.out _ (HG.out _ B1.out).rd).mono ?_
  rintro e w2 ⟨b2, h2⟩
  have B2 := Lib.hid (B1.out.trans (b2.mono B1.out.size))
  cases R with
  | inl ci =>
    obtain ⟨c, i⟩ := ci
    obtain ⟨f, rfl, hf⟩ := h2
    obtain ⟨hc1, hc2, -⟩ := HCD.out c i rfl
    have HF2 := Lib.hid hf
    clear b2 B1 HRD hf HTX HIV HCD
    go_wp2_with fail
    refine (HRR.out _).mono ?_
    rintro e w3 ⟨b3, rfl⟩
    have B3 := Lib.hid (B2.out.trans (b3.mono B2.out.size))
    have b4 := below_two w3 (.cells #[.slice none 0 0] 30) (.cells #[.int .i64 (c : Nat), .int .i64 (i : Nat)] 64)
    have B4 := Lib.hid (B3.out.trans (b4.mono B3.out.size))
    have HF4 := Lib.hid (at_b b4 (at_b b3 HF2.out (row_lt HF2.out)) (Nat.lt_of_lt_of_le (row_lt HF2.out) b3.size))
    have hci : (0 : Int) < (c : Int) := by omega
    have HFL := Lib.hid (fun W hg hf => faulted1_fault E f c i hc1 hc2 W hg hf)
    clear b3 b4 B2 HRR HF2
    go_wp2_with fail
    refine (HFL.out _ (HG.out _ B4.out).err HF4.out).mono ?_
    rintro e w5 ⟨rfl, b5⟩
    have B5 := Lib.hid (B4.out.trans (b5.mono B4.out.size))
    clear b5
    go_wp2
    go_ret
    exact ⟨rfl, B5.out⟩
  | inr d =>
    obtain ⟨p, b, rfl, hS, hp, hb⟩ := h2
    have hI := HIV.out d rfl
    have HS2 := Lib.hid hS
    have HT := Lib.hid (HTX.out d rfl)
    have HII := Lib.hid hI
    clear b2 B1 HRD hS HTX HIV HCD hI
    go_wp2_with fail
    refine (HRR.out _).mono ?_
    rintro e w3 ⟨b3, A, cap, rfl, hr⟩
    have B3 := Lib.hid (B2.out.trans (b3.mono B2.out.size))
    have b4 := below_two w3 (.cells #[.slice A d.length cap] 30) (.cells #[.int .i64 0, .int .i64 (-1)] 64)
    have B4 := Lib.hid (B3.out.trans (b4.mono B3.out.size))
    have HS4 := Lib.hid ((HS2.out.below b3).below b4)
    have HR4 := Lib.hid (hr.below b4)
    clear b3 b4 B2 HRR HS2 hr
    have HAS := Lib.hid (fun W h hr hg => asStock_any E p b HII.out.inv A cap W h (by rw [HII.out.lines]; exact hr) hg)
    rw [show (toM d).length = d.length by simp [toM]] at HAS
    have HTT := Lib.hid (fun W h hg => textStock_any E p b (toM d) W h HII.out.inv.well hg)
    rw [HT.out] at HTT
    go_wp2_with fail
    refine (HAS.out _ HS4.out HR4.out (HG.out _ B4.out).rd.stk.place).mono ?_
    rintro e w5 ⟨rfl, b5⟩
    have B5 := Lib.hid (B4.out.trans (b5.mono B4.out.size))
    have HS5 := Lib.hid (HS4.out.below b5)
    clear b5 HAS HR4 HS4 B4
    go_wp2_with fail
    refine (HTT.out _ HS5.out (HG.out _ B5.out).rd.stk.place).mono ?_
    rintro e w6 ⟨rfl, b6⟩
    have B6 := Lib.hid (B5.out.trans (b6.mono B5.out.size))
    clear b6
    go_wp2
    go_ret
    exact ⟨rfl, B6.out⟩
theorem sread_walk (E : Nat → Addr) (s : ByteArray) (w : World) (hG : SReadG E w) :
    Calls Tryz.prog 6 #[.string s] w fun e w' => e = .returned (.bool true) ∧ Below w.heap.size w w' := by
  by_cases h1 : s.size ≤ 1500
  · have hs : s = ⟨s.data.toList.toArray⟩ := by rw [Array.toArray_toList]
    rw [hs]
    exact sread_in E _ w hG (by rw [Array.length_toList]; exact h1)
  · by_cases h2 : s.size = 20001
    · exact sread_long E s w hG h2
    · exact sread_out E s w hG (by omega) h2
end Go.Proofs.YtmhkcmoepopnoaaGreatDoor
