/- plain.Code at each make of error; coded. What a row's list gives, more: errors' own variable; how large the first heap is; the texts of the sentinels. The twelve sentinels together. The law EntryTells, walked. Printed by gen/etell.py. Entries that come in as arguments, opened. Printed by gen/opener.py. The row's last step for a statement that answers true and only adds to memory: each argument reads as it did. -/
import Derived.LaidHandle
import Derived.Lay
import Derived.Stop.Joined
import Derived.Deep.Slices
import Derived.OpenShut
import Derived.SliceStrings
import Derived.Below
import Derived.Carry
import Derived.ChangeSame
import Derived.Test.YtpifbahafnaejaaGreatDoorM03
import Derived.Test.YtpifbahafnaejaaGreatDoorM12
namespace Go.Proofs.YtpifbahafnaejaaGreatDoor
open Go.RowKit

/-- Sentinel number j: errors.Is answers of it just for itself. -/
theorem isK_sent (E : Nat → Addr) (j : Nat) (h1 : 1 ≤ j) (h2 : j ≤ 12) (w : World) (hG : ErrG E w) : IsK E (.iface 177 (.pointer (some (E j)))) j w := by
  intro k W k1 k2 hb
  have hW := hG.below hb
  by_cases h : k = j
  · subst h
    rw [show decide (k = k) = true by simp]
    exact is_same (E k) W
  · rw [show decide (k = j) = false by simpa using h]
    obtain ⟨ca, ta, ra⟩ := hW.row j h1 h2
    obtain ⟨cb, tb, rb⟩ := hW.row k k1 k2
    exact is_other (E j) (E k) ca cb ta tb W (fun e => h (hG.inj j k h1 h2 k1 k2 e).symm) ra rb

/-- Another error of errors.New's make. -/
theorem isK_other (E : Nat → Addr) (a : Addr) (w : World) (hG : ErrG E w) (ca : Array Value) (ta : TypeId) (ha : w.heap[a.block]? = some (.cells ca ta (0, 0))) (hne : ∀ k, 1 ≤ k → k ≤ 12 → a ≠ E k) :
    IsK E (.iface 177 (.pointer (some a))) 0 w := by
  intro k W k1 k2 hb
  have hW := hG.below hb
  rw [show decide (k = 0) = false by simp; omega]
  obtain ⟨cb, tb, rb⟩ := hW.row k k1 k2
  exact is_other a (E k) ca cb ta tb W (hne k k1 k2) ((hb.block _ (lt_of_row ha)).trans ha) rb

/-- A fault that wraps sentinel number j. -/
theorem isK_fault (E : Nat → Addr) (pb po : Nat) (j : Nat) (h1 : 1 ≤ j) (h2 : j ≤ 12) (w : World) (hG : ErrG E w) (hc : w.cell? ⟨pb, po + 1, none⟩ = some (.iface 177 (.pointer (some (E j))))) :
    IsK E (.iface 83 (.pointer (some ⟨pb, po, none⟩))) j w := by
  intro k W k1 k2 hb
  have hW := hG.below hb
  have hc' : W.cell? ⟨pb, po + 1, none⟩ = some (.iface 177 (.pointer (some (E j)))) := (hb.cell (lt_of_cell hc)).trans hc
  by_cases h : k = j
  · subst h
    rw [show decide (k = k) = true by simp]
    exact is_fault_same pb po (E k) W hc'
  · rw [show decide (k = j) = false by simpa using h]
    obtain ⟨ca, ta, ra⟩ := hW.row j h1 h2
    obtain ⟨cb, tb, rb⟩ := hW.row k k1 k2
    exact is_fault_other pb po (E k) (E j) ca cb ta tb W hc' (fun e => h (hG.inj j k h1 h2 k1 k2 e).symm) ra rb

theorem as_miss_of (E : Nat → Addr) (a : Addr) (w : World) (hG : ErrG E w) : ∀ (t : Addr) (old : Value) (W : World), Below w.heap.size w W → W.cell? t = some old → Calls Tryz.prog 46 #[.iface 177 (.pointer (some a)), .iface 85 (.pointer (some t))] W fun ev w' => ev = .returned (.bool false) ∧ Below W.heap.size W w' :=
  fun t old W hb ht => as_miss a t old W (hG.below hb).ty ht

theorem code_sent (E : Nat → Addr) (j : Nat) (h1 : 1 ≤ j) (h2 : j ≤ 12) (w : World) (hG : ErrG E w) :
    Calls Tryz.prog 26 #[.iface 177 (.pointer (some (E j)))] w fun e w' => e = .returned (.tuple #[.int .i64 j, .int .i64 (-1)]) ∧ Below w.heap.size w w' := by
  have h := code_miss E _ _ j w hG h2 (isK_sent E j h1 h2 w hG) (as_miss_of E _ w hG)
  rw [show codeOf j = (j : Int) by unfold codeOf; rw [if_neg (by omega)]] at h
  exact h

theorem code_other (E : Nat → Addr) (a : Addr) (w : World) (hG : ErrG E w) (ca : Array Value) (ta : TypeId) (ha : w.heap[a.block]? = some (.cells ca ta (0, 0))) (hne : ∀ k, 1 ≤ k → k ≤ 12 → a ≠ E k) :
    Calls Tryz.prog 26 #[.iface 177 (.pointer (some a))] w fun e w' => e = .returned (.tuple #[.int .i64 (-1), .int .i64 (-1)]) ∧ Below w.heap.size w w' :=
  code_miss E _ _ 0 w hG (by omega) (isK_other E a w hG ca ta ha hne) (as_miss_of E _ w hG)

theorem code_fault (E : Nat → Addr) (pb po : Nat) (n : Int) (j : Nat) (h1 : 1 ≤ j) (h2 : j ≤ 12) (w : World) (hG : ErrG E w) (h0 : w.cell? ⟨pb, po, none⟩ = some (.int .i64 n)) (hc : w.cell? ⟨pb, po + 1, none⟩ = some (.iface 177 (.pointer (some (E j))))) :
    Calls Tryz.prog 26 #[.iface 83 (.pointer (some ⟨pb, po, none⟩))] w fun e w' => e = .returned (.tuple #[.int .i64 j, .int .i64 n]) ∧ Below w.heap.size w w' := by
  have h := code_hit E ⟨pb, po, none⟩ n j w hG h2 h0 (isK_fault E pb po j h1 h2 w hG hc)
  rw [show codeOf j = (j : Int) by unfold codeOf; rw [if_neg (by omega)]] at h
  exact h

set_option maxHeartbeats 400000 in
theorem coded1 (E : Nat → Addr) (j : Nat) (h2 : j ≤ 12) (n : Int) (w : World) (hG : ErrG E w) :
    Calls Tryz.prog 8 #[errOf E j, .int .i64 n] w fun e w' => e = .returned (.bool ((j : Int) == n)) ∧ Below w.heap.size w w' := by
  by_cases h0 : j = 0
  · subst h0
    rw [errOf_zero]
    have HC := Lib.hid (code_nil w)
    go_enter Tryz.func8, Tryz.ntmps8
    go_wp2_with fail
    refine HC.out.mono ?_
    rintro e w1 ⟨rfl, rfl⟩
    go_wp2_with fail
    all_goals go_ret
    all_goals exact ⟨by simp; assumption, Below.refl _ _⟩
  · rw [errOf_pos _ _ h0]
    have HC := Lib.hid (code_sent E j (by omega) h2 w hG)
    go_enter Tryz.func8, Tryz.ntmps8
    go_wp2_with fail
    refine HC.out.mono ?_
    rintro e w1 ⟨rfl, hb⟩
    go_wp2_with fail
    all_goals go_ret
    all_goals exact ⟨by simp; assumption, hb⟩
theorem coded1_is (E : Nat → Addr) (j : Nat) (h1 : 1 ≤ j) (h2 : j ≤ 12) (n : Int) (hn : n = j) (w : World) (hG : ErrG E w) :
    Calls Tryz.prog 8 #[.iface 177 (.pointer (some (E j))), .int .i64 n] w fun e w' => e = .returned (.bool true) ∧ Below w.heap.size w w' := by
  have h := coded1 E j h2 n w hG
  rw [errOf_pos _ _ (by omega), hn, beq_self_eq_true] at h
  rw [hn]
  exact h
end Go.Proofs.YtpifbahafnaejaaGreatDoor
namespace Go.Proofs.YtpifbahafnaejaaGreatDoor
open Go.RowKit Go.ChangeShapes

/-- The first heap holds the table. -/
theorem tab_big {W : World} (h : Lib.TabIs Tryz.prog W "internal/strconv.uint64pow10" .u64 Lib.pow10Tab) : 14 < W.heap.size := by
  have c0 : W.cell? ⟨14, 0, none⟩ = _ := World.var?_cell (P := Tryz.prog) (by kernel_rfl) h 0
  exact lt_of_cell (c0.trans (show _ = some (Value.int .u64 1) from rfl))

theorem et : Tryz.prog.globalNamed "errors.errorType" = some 12 := by kernel_rfl
theorem rt : (Tryz.prog.cutTypes.find? (·.1 == "internal/reflectlite.rtype")).map (·.2) = some 119 := by kernel_rfl
theorem oneRow : ((List.range 210).filter fun t => Tryz.prog.rowNamed t [101, 114, 114, 111, 114]) = [33] := by kernel_rfl
theorem tsize : Tryz.prog.types.size = 210 := by kernel_rfl

theorem handle_of {W : World} (h : handlesMet Tryz.prog [("errors.errorType", .iface "internal/reflectlite.rtype" (.agg [.ptr (.lit (.string [101, 114, 114, 111, 114]))]))] W) :
    W.cell? ⟨12, 0, none⟩ = some (.iface 119 (.agg #[.pointer (some ⟨21, 33, none⟩)])) := by
  obtain ⟨name, u, ty, e1, e2, e3, e4, e5⟩ := h _ (List.mem_singleton.2 rfl)
  have en : name = [101, 114, 114, 111, 114] := (Option.some.inj e1).symm
  subst en
  obtain rfl := Option.some.inj (rt.symm.trans e2)
  have hm : ty ∈ (List.range 210).filter fun t => Tryz.prog.rowNamed t [101, 114, 114, 111, 114] := List.mem_filter.2 ⟨List.mem_range.2 (by rw [← tsize]; exact e3), e4⟩
  rw [oneRow] at hm
  obtain rfl := List.mem_singleton.1 hm
  have hh : typeHandle Tryz.prog 33 = .pointer (some ⟨21, 33, none⟩) := by kernel_rfl
  rw [hh] at e5
  simpa using World.var?_cell et e5 0

/-- Two sentinels of unlike texts are unlike. -/
theorem sent_ne {g g' : Nat} {a a' : Addr} {l l' : List UInt8} {w : World} (h : Sent g a l w) (h' : Sent g' a' l' w) (hne : l ≠ l') : a ≠ a' := by
  rintro rfl
  obtain ⟨s, hs, ht⟩ := h.text
  obtain ⟨s', hs', ht'⟩ := h'.text
  rw [hs] at hs'
  injection hs' with hs'
  injection hs' with hs'
  subst hs'
  exact hne (ht.symm.trans ht')

/-- All the listed data laid over a world. -/
theorem laidMet_over {P : Program} {w0 : World} {laid : List (String × DataW Unit)} (args : Array Value)
    (hf : w0.layFits P laid [] = true) (hi : w0.layIfaces P laid (w0.layVars P laid) = true) :
    laidMet P laid ((w0.layVars P laid).forCall (fun _ _ => 0) ⟨#[], args, []⟩).memory := by
  have e1 : (laid.filter fun x => (laid.map (·.1)).contains x.1) = laid := List.filter_eq_self.2 fun x hx => List.contains_iff_mem.2 (List.mem_map.2 ⟨x, hx, rfl⟩)
  have e2 : (laid.filter fun x => !(laid.map (·.1)).contains x.1) = [] := List.filter_eq_nil_iff.2 fun x hx => by rw [List.contains_iff_mem.2 (List.mem_map.2 ⟨x, hx, rfl⟩)]; simp
  have h : laidMet P laid (w0.layVars P laid) := laidMet_layVars (w0 := w0) (laid.map (·.1)) [] (by rw [e1]) (by rw [e1]; exact hf) (by rw [e1]; exact hi) (by rw [e2]; exact LaidIn.none)
  exact h.of_heap (by simp [World.memory, World.forCall, Input.heap])
end Go.Proofs.YtpifbahafnaejaaGreatDoor
namespace Go.Proofs.YtpifbahafnaejaaGreatDoor
open Go.RowKit

/-- The number of a sentinel, by its text. -/
def textNo (l : List UInt8) : Nat :=
  if l = [116, 105, 116, 104, 101, 98, 97, 114, 110, 58, 32, 116, 101, 120, 116] then 1 else
  if l = [116, 105, 116, 104, 101, 98, 97, 114, 110, 58, 32, 98, 111, 117, 110, 100] then 2 else
  if l = [116, 105, 116, 104, 101, 98, 97, 114, 110, 58, 32, 115, 104, 97, 112, 101] then 3 else
  if l = [116, 105, 116, 104, 101, 98, 97, 114, 110, 58, 32, 107, 105, 110, 100] then 4 else
  if l = [116, 105, 116, 104, 101, 98, 97, 114, 110, 58, 32, 110, 97, 109, 101] then 5 else
  if l = [116, 105, 116, 104, 101, 98, 97, 114, 110, 58, 32, 110, 111, 110, 101] then 6 else
  if l = [116, 105, 116, 104, 101, 98, 97, 114, 110, 58, 32, 101, 120, 105, 115, 116] then 7 else
  if l = [116, 105, 116, 104, 101, 98, 97, 114, 110, 58, 32, 102, 117, 108, 108] then 8 else
  if l = [116, 105, 116, 104, 101, 98, 97, 114, 110, 58, 32, 115, 104, 111, 114, 116] then 9 else
  if l = [116, 105, 116, 104, 101, 98, 97, 114, 110, 58, 32, 111, 114, 100, 101, 114] then 10 else
  if l = [116, 105, 116, 104, 101, 98, 97, 114, 110, 58, 32, 115, 116, 97, 116, 101] then 11 else
  if l = [116, 105, 116, 104, 101, 98, 97, 114, 110, 58, 32, 111, 102, 102] then 12 else 0

theorem errG_of {W : World} {a1 a2 a3 a4 a5 a6 a7 a8 a9 a10 a11 a12 : Addr}
    (h1 : Sent 2 a1 [116, 105, 116, 104, 101, 98, 97, 114, 110, 58, 32, 116, 101, 120, 116] W)
    (h2 : Sent 3 a2 [116, 105, 116, 104, 101, 98, 97, 114, 110, 58, 32, 98, 111, 117, 110, 100] W)
    (h3 : Sent 1 a3 [116, 105, 116, 104, 101, 98, 97, 114, 110, 58, 32, 115, 104, 97, 112, 101] W)
    (h4 : Sent 0 a4 [116, 105, 116, 104, 101, 98, 97, 114, 110, 58, 32, 107, 105, 110, 100] W)
    (h5 : Sent 4 a5 [116, 105, 116, 104, 101, 98, 97, 114, 110, 58, 32, 110, 97, 109, 101] W)
    (h6 : Sent 5 a6 [116, 105, 116, 104, 101, 98, 97, 114, 110, 58, 32, 110, 111, 110, 101] W)
    (h7 : Sent 6 a7 [116, 105, 116, 104, 101, 98, 97, 114, 110, 58, 32, 101, 120, 105, 115, 116] W)
    (h8 : Sent 7 a8 [116, 105, 116, 104, 101, 98, 97, 114, 110, 58, 32, 102, 117, 108, 108] W)
    (h9 : Sent 8 a9 [116, 105, 116, 104, 101, 98, 97, 114, 110, 58, 32, 115, 104, 111, 114, 116] W)
    (h10 : Sent 9 a10 [116, 105, 116, 104, 101, 98, 97, 114, 110, 58, 32, 111, 114, 100, 101, 114] W)
    (h11 : Sent 10 a11 [116, 105, 116, 104, 101, 98, 97, 114, 110, 58, 32, 115, 116, 97, 116, 101] W)
    (h12 : Sent 11 a12 [116, 105, 116, 104, 101, 98, 97, 114, 110, 58, 32, 111, 102, 102] W)
    (hty : W.cell? ⟨12, 0, none⟩ = some (.iface 119 (.agg #[.pointer (some ⟨21, 33, none⟩)]))) :
    ErrG (fun k => if k = 1 then a1 else if k = 2 then a2 else if k = 3 then a3 else if k = 4 then a4 else if k = 5 then a5 else if k = 6 then a6 else if k = 7 then a7 else if k = 8 then a8 else if k = 9 then a9 else if k = 10 then a10 else if k = 11 then a11 else a12) W := by
  refine ⟨?_, ?_, ?_, hty⟩
  · intro k k1 k2
    rcases (show k = 1 ∨ k = 2 ∨ k = 3 ∨ k = 4 ∨ k = 5 ∨ k = 6 ∨ k = 7 ∨ k = 8 ∨ k = 9 ∨ k = 10 ∨ k = 11 ∨ k = 12 by omega) with rfl | rfl | rfl | rfl | rfl | rfl | rfl | rfl | rfl | rfl | rfl | rfl
    · exact h1.at_
    · exact h2.at_
    · exact h3.at_
    · exact h4.at_
    · exact h5.at_
    · exact h6.at_
    · exact h7.at_
    · exact h8.at_
    · exact h9.at_
    · exact h10.at_
    · exact h11.at_
    · exact h12.at_
  · intro k k1 k2
    rcases (show k = 1 ∨ k = 2 ∨ k = 3 ∨ k = 4 ∨ k = 5 ∨ k = 6 ∨ k = 7 ∨ k = 8 ∨ k = 9 ∨ k = 10 ∨ k = 11 ∨ k = 12 by omega) with rfl | rfl | rfl | rfl | rfl | rfl | rfl | rfl | rfl | rfl | rfl | rfl
    · exact h1.row
    · exact h2.row
    · exact h3.row
    · exact h4.row
    · exact h5.row
    · exact h6.row
    · exact h7.row
    · exact h8.row
    · exact h9.row
    · exact h10.row
    · exact h11.row
    · exact h12.row
  · have T : ∀ k, 1 ≤ k → k ≤ 12 → ∃ g l, Sent g ((fun k => if k = 1 then a1 else if k = 2 then a2 else if k = 3 then a3 else if k = 4 then a4 else if k = 5 then a5 else if k = 6 then a6 else if k = 7 then a7 else if k = 8 then a8 else if k = 9 then a9 else if k = 10 then a10 else if k = 11 then a11 else a12) k) l W ∧ textNo l = k := by
      intro k k1 k2
      rcases (show k = 1 ∨ k = 2 ∨ k = 3 ∨ k = 4 ∨ k = 5 ∨ k = 6 ∨ k = 7 ∨ k = 8 ∨ k = 9 ∨ k = 10 ∨ k = 11 ∨ k = 12 by omega) with rfl | rfl | rfl | rfl | rfl | rfl | rfl | rfl | rfl | rfl | rfl | rfl
      · exact ⟨_, _, h1, by decide⟩
      · exact ⟨_, _, h2, by decide⟩
      · exact ⟨_, _, h3, by decide⟩
      · exact ⟨_, _, h4, by decide⟩
      · exact ⟨_, _, h5, by decide⟩
      · exact ⟨_, _, h6, by decide⟩
      · exact ⟨_, _, h7, by decide⟩
      · exact ⟨_, _, h8, by decide⟩
      · exact ⟨_, _, h9, by decide⟩
      · exact ⟨_, _, h10, by decide⟩
      · exact ⟨_, _, h11, by decide⟩
      · exact ⟨_, _, h12, by decide⟩
    intro i j i1 i2 j1 j2 he
    obtain ⟨g, l, s, e⟩ := T i i1 i2
    obtain ⟨g', l', s', e'⟩ := T j j1 j2
    rcases Decidable.em (l = l') with hl | hl
    · rw [← e, ← e', hl]
    · exact absurd he (sent_ne s s' hl)
end Go.Proofs.YtpifbahafnaejaaGreatDoor
namespace Go.Proofs.YtpifbahafnaejaaGreatDoor
open Go.RowKit Go.Sort Go.Proofs

theorem goodsE_le5 (x : GoodsV) : goodsE x ≤ 12 := by
  unfold goodsE
  split
  · omega
  · split <;> omega
theorem lotE_le5 (x : LotV) : lotE x ≤ 12 := by
  unfold lotE
  split
  · omega
  · split <;> omega
theorem placeE_le5 (x : PlaceV) : placeE x ≤ 12 := by
  unfold placeE
  split
  · omega
  · split <;> omega
theorem piecesE_le (x : EntV) : piecesE x ≤ 12 := by
  have h1 := placeE_le5 x.2.2.2.1
  have h2 := placeE_le5 x.2.2.2.2.1
  rw [piecesE_parts]
  repeat' split
  all_goals omega
theorem entE_le (x : EntV) : entE x ≤ 12 := by
  have h1 := goodsE_le5 x.2.1
  have h2 := lotE_le5 x.2.2.1
  have h3 := piecesE_le x
  unfold entE
  repeat' split
  all_goals omega
theorem lotWords_le5 (ws : List (List UInt8)) : (lotWords ws).2 ≤ 12 := by
  unfold lotWords
  split
  · split
    · split
      · exact Nat.zero_le _
      · exact lotE_le5 _
    · show 1 ≤ 12; omega
  · show 1 ≤ 12; omega
theorem placeWords_le5 (ws : List (List UInt8)) : (placeWords ws).2 ≤ 12 := by
  unfold placeWords
  split
  · split
    · split
      · exact Nat.zero_le _
      · exact placeE_le5 _
    · show 1 ≤ 12; omega
  · show 1 ≤ 12; omega
theorem entGoods_le (ws : List (List UInt8)) : (entGoods ws).2 ≤ 12 := by
  unfold entGoods
  split
  · split
    · exact Nat.zero_le _
    · exact (show 1 ≤ 12 by decide)
  · exact (show 1 ≤ 12 by decide)
theorem pick_le {f t : PlaceV × Nat} (hf : f.2 ≤ 12) (ht : t.2 ≤ 12) : (if f.2 ≠ 0 then f.2 else t.2) ≤ 12 := by
  split
  · exact hf
  · exact ht
theorem pw_le (c : Prop) [Decidable c] (a : List (List UInt8)) : (if c then placeWords a else (zeroPlace, 0)).2 ≤ 12 := by
  split
  · exact placeWords_le5 _
  · exact Nat.zero_le _
theorem entPieces_le (k : List UInt8) (ws : List (List UInt8)) : (entPieces k ws).2 ≤ 12 := by
  by_cases hl : ws.length ≠ 3 + (if hasF k then 1 else 0) + (if hasT k then 1 else 0)
  · rw [entPieces_len hl]
    exact (show 1 ≤ 12 by decide)
  · unfold entPieces
    rw [if_neg hl]
    cases numQ (ws.getLast?.getD []) 13 with
    | none => exact (show 1 ≤ 12 by decide)
    | some n => exact pick_le (pw_le _ _) (pw_le _ _)
theorem entWords_le (ws : List (List UInt8)) : (entWords ws).2 ≤ 12 := by
  unfold entWords
  simp only
  split
  · exact entGoods_le _
  split
  · exact lotWords_le5 _
  split
  · exact entPieces_le _ _
  · exact (show 4 ≤ 12 by decide)
theorem entRead_le (s : List UInt8) : (entRead s).2 ≤ 12 := by
  rw [entRead_fin]
  have h1 := entWords_le (splitL 32 s)
  have h2 := entE_le (entWords (splitL 32 s)).1
  unfold finEnt
  split
  · exact h1
  split
  · exact h2
  · exact Nat.zero_le _

/-- What the law leans on. -/
structure ETellG (E : Nat → Addr) (w : World) : Prop where
  err : ErrG E w
  ent : EntG E w
theorem ETellG.below {E : Nat → Addr} {w w' : World} (h : ETellG E w) (hb : Below w.heap.size w w') : ETellG E w' := ⟨h.err.below hb, h.ent.below hb⟩

set_option maxHeartbeats 1600000 in
set_option maxRecDepth 100000 in
theorem etell_out (E : Nat → Addr) (x : EntV) (s : List UInt8) (w : World) (hG : ETellG E w) (h : longN x = 1 ∨ (longN x = 0 ∧ 100 < s.length)) :
    Calls Tryz.prog 3 #[.agg (encEnt x).toArray, .string ⟨s.toArray⟩] w fun e w' => e = .returned (.bool true) ∧ Below w.heap.size w w' := by
  have HEN := Lib.hid (fun W h => entered_any E W h)
  have HLX := Lib.hid (fun W => longEnt_any x W)
  have HG := Lib.hid (fun W (h : Below w.heap.size w W) => hG.below h)
  have b0 := below_one w (.cells (encEnt x).toArray 29)
  have lx := Lies.row (w := w.alloc (.cells (encEnt x).toArray 29)) (encEnt x) (heap_alloc_new _ _)
  have s4 : (⟨s.toArray⟩ : ByteArray).size = s.length := by simp [ByteArray.size]
  clear hG
  generalize longN x = n at h HLX
  obtain ⟨LX, hLX⟩ : ∃ L, L = encEnt x := ⟨_, rfl⟩
  have hx14 : LX.length = 14 := by rw [hLX]; rfl
  rw [← hLX] at HLX lx b0 ⊢
  clear hLX
  obtain ⟨u0, u1, u2, u3, u4, u5, u6, u7, u8, u9, u10, u11, u12, u13, rfl⟩ := len14 hx14
  clear hx14
  rcases h with rfl | ⟨rfl, h⟩
  all_goals
    go_enter Tryz.func3, Tryz.ntmps3
    go_wp2_with fail
    refine (HEN.out _ (HG.out _ b0).ent).mono ?_
    rintro e w1 ⟨rfl, b1⟩
    have B1 := Lib.hid (b0.trans (b1.mono b0.size))
    have hx := lx.below b1
    have K0 : w1.cell? ⟨w.heap.size, 0, none⟩ = some u0 ∧ w1.cell? ⟨w.heap.size, 1, none⟩ = some u1 ∧ w1.cell? ⟨w.heap.size, 2, none⟩ = some u2 ∧ w1.cell? ⟨w.heap.size, 3, none⟩ = some u3 ∧ w1.cell? ⟨w.heap.size, 4, none⟩ = some u4 ∧ w1.cell? ⟨w.heap.size, 5, none⟩ = some u5 ∧ w1.cell? ⟨w.heap.size, 6, none⟩ = some u6 ∧ w1.cell? ⟨w.heap.size, 7, none⟩ = some u7 ∧ w1.cell? ⟨w.heap.size, 8, none⟩ = some u8 ∧ w1.cell? ⟨w.heap.size, 9, none⟩ = some u9 ∧ w1.cell? ⟨w.heap.size, 10, none⟩ = some u10 ∧ w1.cell? ⟨w.heap.size, 11, none⟩ = some u11 ∧ w1.cell? ⟨w.heap.size, 12, none⟩ = some u12 ∧ w1.cell? ⟨w.heap.size, 13, none⟩ = some u13 := ⟨hx.at 0 _ rfl, hx.at 1 _ rfl, hx.at 2 _ rfl, hx.at 3 _ rfl, hx.at 4 _ rfl, hx.at 5 _ rfl, hx.at 6 _ rfl, hx.at 7 _ rfl, hx.at 8 _ rfl, hx.at 9 _ rfl, hx.at 10 _ rfl, hx.at 11 _ rfl, hx.at 12 _ rfl, hx.at 13 _ rfl⟩
    clear b1 b0 lx HEN hx
    go_wp2_with fail
    refine (HLX.out _).mono ?_
    rintro e w2 ⟨rfl, b2⟩
    have B2 := Lib.hid (B1.out.trans (b2.mono B1.out.size))
    clear b2 K0
    go_wp2_with fail
    go_ret
    exact ⟨rfl, B2.out⟩

set_option maxHeartbeats 6400000 in
set_option maxRecDepth 100000 in
theorem etell_in (E : Nat → Addr) (x : EntV) (s : List UInt8) (w : World) (hG : ETellG E w) (h1 : longN x = 0) (h2 : s.length ≤ 100) (hs : ShortE x) :
    Calls Tryz.prog 3 #[.agg (encEnt x).toArray, .string ⟨s.toArray⟩] w fun e w' => e = .returned (.bool true) ∧ Below w.heap.size w w' := by
  have HEN := Lib.hid (fun W h => entered_any E W h)
  have HLX := Lib.hid (fun W => longEnt_any x W)
  rw [h1] at HLX
  have s4 : (⟨s.toArray⟩ : ByteArray).size = s.length := by simp [ByteArray.size]
  have hge := entE_le x
  have hre := entRead_le s
  obtain ⟨ev1, hev1⟩ : ∃ v, v = errOf E (entE x) := ⟨_, rfl⟩
  obtain ⟨ge, hge'⟩ : ∃ g, g = entE x := ⟨_, rfl⟩
  obtain ⟨ev2, hev2⟩ : ∃ v, v = errOf E (entRead s).2 := ⟨_, rfl⟩
  obtain ⟨re, hre'⟩ : ∃ g, g = (entRead s).2 := ⟨_, rfl⟩
  have HC := Lib.hid (fun W (h : EntG E W) => show Calls Tryz.prog 9 #[.agg (encEnt x).toArray] W fun e w' => e = .returned ev1 ∧ Below W.heap.size W w' from by rw [hev1]; exact checkEnt_any E x (by have := hs.2.1; omega) (by have := hs.2.2.1; omega) W h)
  have HR := Lib.hid (fun W => show Calls Tryz.prog 10 #[.agg (encEnt x).toArray] W fun e w' => e = .returned (.int .i64 (ge : Nat)) ∧ Below W.heap.size W w' from by rw [hge']; exact refEntE_any x W hs)
  have HK1 := Lib.hid (fun W (h : ErrG E W) => show Calls Tryz.prog 8 #[ev1, .int .i64 (ge : Nat)] W fun e w' => e = .returned (.bool true) ∧ Below W.heap.size W w' from by
    have := coded1 E (entE x) (by omega) (entE x : Nat) W h
    rw [hev1, hge']
    rwa [beq_self_eq_true] at this)
  have HK2 := Lib.hid (fun W (h : ErrG E W) => show Calls Tryz.prog 8 #[ev2, .int .i64 (re : Nat)] W fun e w' => e = .returned (.bool true) ∧ Below W.heap.size W w' from by
    have := coded1 E (entRead s).2 (by omega) ((entRead s).2 : Nat) W h
    rw [hev2, hre']
    rwa [beq_self_eq_true] at this)
  have HTX := Lib.hid (fun W (h : EntG E W) => textEnt_any E x (by have := hs.2.1; omega) (by have := hs.2.2.1; omega) W h)
  have HTR := Lib.hid (fun W => refEntT_any x W hs)
  have HRD := Lib.hid (fun W (h : EntG E W) => readEnt_any E ⟨s.toArray⟩ (by rw [s4]; omega) W h)
  have HRR := Lib.hid (fun W => refReadE_any ⟨s.toArray⟩ (by rw [s4]; omega) W)
  unfold RdEnt at HRR
  rw [show bts ⟨s.toArray⟩ = s from rfl] at HRD HRR
  rw [← hev2] at HRD
  rw [← hre'] at HRR
  have hq := fun W => eqEnt (entRead s).1 (entRead s).1 W
  rw [decide_eq_true rfl] at hq
  have HO := Lib.hid (encEnt_one (entRead s).1)
  clear hge hge' hre hre' hev1 hev2
  generalize entText x = tx at HTX HTR
  have htx : (tx == tx) = true := beq_self_eq_true _
  have HG := Lib.hid (fun W (h : Below w.heap.size w W) => hG.below h)
  have b0 := below_one w (.cells (encEnt x).toArray 29)
  have lx := Lies.row (w := w.alloc (.cells (encEnt x).toArray 29)) (encEnt x) (heap_alloc_new _ _)
  clear hG h1 hs
  obtain ⟨LX, hLX⟩ : ∃ L, L = encEnt x := ⟨_, rfl⟩
  obtain ⟨LY, hLY⟩ : ∃ L, L = encEnt (entRead s).1 := ⟨_, rfl⟩
  have hx14 : LX.length = 14 := by rw [hLX]; rfl
  have hy14 : LY.length = 14 := by rw [hLY]; rfl
  rw [← hLX] at HLX lx b0 HC HR HTX HTR ⊢
  rw [← hLY] at HRD HRR hq HO
  clear hLX hLY
  obtain ⟨u0, u1, u2, u3, u4, u5, u6, u7, u8, u9, u10, u11, u12, u13, rfl⟩ := len14 hx14
  obtain ⟨v0, v1, v2, v3, v4, v5, v6, v7, v8, v9, v10, v11, v12, v13, rfl⟩ := len14 hy14
  clear hx14 hy14
  have HQ := Lib.hid hq
  clear hq
  have h2' : ¬ (100 : Int) < (s.length : Int) := by omega
  go_enter Tryz.func3, Tryz.ntmps3
  go_wp2_with fail
  refine (HEN.out _ (HG.out _ b0).ent).mono ?_
  rintro e w1 ⟨rfl, b1⟩
  have B1 := Lib.hid (b0.trans (b1.mono b0.size))
  have hx := lx.below b1
  have K0 : w1.cell? ⟨w.heap.size, 0, none⟩ = some u0 ∧ w1.cell? ⟨w.heap.size, 1, none⟩ = some u1 ∧ w1.cell? ⟨w.heap.size, 2, none⟩ = some u2 ∧ w1.cell? ⟨w.heap.size, 3, none⟩ = some u3 ∧ w1.cell? ⟨w.heap.size, 4, none⟩ = some u4 ∧ w1.cell? ⟨w.heap.size, 5, none⟩ = some u5 ∧ w1.cell? ⟨w.heap.size, 6, none⟩ = some u6 ∧ w1.cell? ⟨w.heap.size, 7, none⟩ = some u7 ∧ w1.cell? ⟨w.heap.size, 8, none⟩ = some u8 ∧ w1.cell? ⟨w.heap.size, 9, none⟩ = some u9 ∧ w1.cell? ⟨w.heap.size, 10, none⟩ = some u10 ∧ w1.cell? ⟨w.heap.size, 11, none⟩ = some u11 ∧ w1.cell? ⟨w.heap.size, 12, none⟩ = some u12 ∧ w1.cell? ⟨w.heap.size, 13, none⟩ = some u13 := ⟨hx.at 0 _ rfl, hx.at 1 _ rfl, hx.at 2 _ rfl, hx.at 3 _ rfl, hx.at 4 _ rfl, hx.at 5 _ rfl, hx.at 6 _ rfl, hx.at 7 _ rfl, hx.at 8 _ rfl, hx.at 9 _ rfl, hx.at 10 _ rfl, hx.at 11 _ rfl, hx.at 12 _ rfl, hx.at 13 _ rfl⟩
  have HX1 := Lib.hid hx
  clear b1 b0 lx HEN hx
  go_wp2_with fail
  refine (HLX.out _).mono ?_
  rintro e w2 ⟨rfl, b2⟩
  have B2 := Lib.hid (B1.out.trans (b2.mono B1.out.size))
  have HX2 := Lib.hid (HX1.out.below b2)
  clear b2 K0 HX1 HLX B1
  go_wp2_with fail
  refine (HRD.out _ (HG.out _ B2.out).ent).mono ?_
  rintro e w3 ⟨rfl, b3⟩
  have B3 := Lib.hid (B2.out.trans (b3.mono B2.out.size))
  have HX3 := Lib.hid (HX2.out.below b3)
  have hz3 := heap_alloc_new w3 (.cells #[.string ⟨#[]⟩, .string ⟨#[]⟩, .int .i64 0, .string ⟨#[]⟩, .string ⟨#[]⟩, .int .i64 0, .int .i64 0, .string ⟨#[]⟩, .int .i64 0, .int .i64 0, .string ⟨#[]⟩, .int .i64 0, .int .i64 0, .int .i64 0] 29)
  have bo := below_one w3 (.cells #[.string ⟨#[]⟩, .string ⟨#[]⟩, .int .i64 0, .string ⟨#[]⟩, .string ⟨#[]⟩, .int .i64 0, .int .i64 0, .string ⟨#[]⟩, .int .i64 0, .int .i64 0, .string ⟨#[]⟩, .int .i64 0, .int .i64 0, .int .i64 0] 29)
  have B4 := Lib.hid (B3.out.trans (bo.mono B3.out.size))
  have HX4 := Lib.hid (HX3.out.below bo)
  have hxn : w.heap.size ≠ w3.heap.size := Nat.ne_of_lt (lt_of_cell (HX3.out.at 0 _ rfl))
  have hw3 := B3.out.size
  clear b3 HX2 HRD B2 bo
  go_wp2_with (refine wpList_store_box rfl 29 (.tmp 6) _ rfl w3.heap.size [v0, v1, v2, v3, v4, v5, v6, v7, v8, v9, v10, v11, v12, v13] rfl rfl _ [.string ⟨#[]⟩, .string ⟨#[]⟩, .int .i64 0, .string ⟨#[]⟩, .string ⟨#[]⟩, .int .i64 0, .int .i64 0, .string ⟨#[]⟩, .int .i64 0, .int .i64 0, .string ⟨#[]⟩, .int .i64 0, .int .i64 0, .int .i64 0] hz3 (by kernel_rfl) rfl HO.out ?_; intro w4 he4 t4; have B5 := Lib.hid (B4.out.trans (t4.below hw3)); have HX5 := Lib.hid (HX4.out.turned t4 hxn); clear t4 hz3)
  generalize w3.heap.size = b1 at he4 ⊢
  refine (HRR.out _).mono ?_
  rintro e w5 ⟨rfl, b5⟩
  have he5 := (b5.block b1 (row_lt he4)).trans he4
  have B6 := Lib.hid (B5.out.trans (b5.mono B5.out.size))
  have HX6 := Lib.hid (HX5.out.below b5)
  have hz5 := heap_alloc_new w5 (.cells #[.string ⟨#[]⟩, .string ⟨#[]⟩, .int .i64 0, .string ⟨#[]⟩, .string ⟨#[]⟩, .int .i64 0, .int .i64 0, .string ⟨#[]⟩, .int .i64 0, .int .i64 0, .string ⟨#[]⟩, .int .i64 0, .int .i64 0, .int .i64 0] 29)
  have bo := below_one w5 (.cells #[.string ⟨#[]⟩, .string ⟨#[]⟩, .int .i64 0, .string ⟨#[]⟩, .string ⟨#[]⟩, .int .i64 0, .int .i64 0, .string ⟨#[]⟩, .int .i64 0, .int .i64 0, .string ⟨#[]⟩, .int .i64 0, .int .i64 0, .int .i64 0] 29)
  have B7 := Lib.hid (B6.out.trans (bo.mono B6.out.size))
  have HX7 := Lib.hid (HX6.out.below bo)
  have he7 := (bo.block b1 (row_lt he5)).trans he5
  have hxn5 : w.heap.size ≠ w5.heap.size := Nat.ne_of_lt (lt_of_cell (HX6.out.at 0 _ rfl))
  have hb15 : b1 ≠ w5.heap.size := Nat.ne_of_lt (row_lt he5)
  have hw5 := B6.out.size
  clear b5 bo HRR he4 he5 B5 B4 B3 HX5 HX4 HX3
  go_wp2_with (refine wpList_store_box rfl 29 (.tmp 8) _ rfl w5.heap.size [v0, v1, v2, v3, v4, v5, v6, v7, v8, v9, v10, v11, v12, v13] rfl rfl _ [.string ⟨#[]⟩, .string ⟨#[]⟩, .int .i64 0, .string ⟨#[]⟩, .string ⟨#[]⟩, .int .i64 0, .int .i64 0, .string ⟨#[]⟩, .int .i64 0, .int .i64 0, .string ⟨#[]⟩, .int .i64 0, .int .i64 0, .int .i64 0] hz5 (by kernel_rfl) rfl HO.out ?_; intro w6 hf6 t6; have B8 := Lib.hid (B7.out.trans (t6.below hw5)); have HX8 := Lib.hid (HX7.out.turned t6 hxn5); have he6 := t6.heap he7 hb15; clear t6 hz5 he7)
  generalize w5.heap.size = b2 at hf6 ⊢
  have le6 := Lies.row (w := w6) [v0, v1, v2, v3, v4, v5, v6, v7, v8, v9, v10, v11, v12, v13] he6
  have lf6 := Lies.row (w := w6) [v0, v1, v2, v3, v4, v5, v6, v7, v8, v9, v10, v11, v12, v13] hf6
  have HK : Hid (∀ W, Below w6.heap.size w6 W → W.cell? ⟨w.heap.size, 0, none⟩ = some u0 ∧ W.cell? ⟨w.heap.size, 1, none⟩ = some u1 ∧ W.cell? ⟨w.heap.size, 2, none⟩ = some u2 ∧ W.cell? ⟨w.heap.size, 3, none⟩ = some u3 ∧ W.cell? ⟨w.heap.size, 4, none⟩ = some u4 ∧ W.cell? ⟨w.heap.size, 5, none⟩ = some u5 ∧ W.cell? ⟨w.heap.size, 6, none⟩ = some u6 ∧ W.cell? ⟨w.heap.size, 7, none⟩ = some u7 ∧ W.cell? ⟨w.heap.size, 8, none⟩ = some u8 ∧ W.cell? ⟨w.heap.size, 9, none⟩ = some u9 ∧ W.cell? ⟨w.heap.size, 10, none⟩ = some u10 ∧ W.cell? ⟨w.heap.size, 11, none⟩ = some u11 ∧ W.cell? ⟨w.heap.size, 12, none⟩ = some u12 ∧ W.cell? ⟨w.heap.size, 13, none⟩ = some u13 ∧ W.cell? ⟨b1, 0, none⟩ = some v0 ∧ W.cell? ⟨b1, 1, none⟩ = some v1 ∧ W.cell? ⟨b1, 2, none⟩ = some v2 ∧ W.cell? ⟨b1, 3, none⟩ = some v3 ∧ W.cell? ⟨b1, 4, none⟩ = some v4 ∧ W.cell? ⟨b1, 5, none⟩ = some v5 ∧ W.cell? ⟨b1, 6, none⟩ = some v6 ∧ W.cell? ⟨b1, 7, none⟩ = some v7 ∧ W.cell? ⟨b1, 8, none⟩ = some v8 ∧ W.cell? ⟨b1, 9, none⟩ = some v9 ∧ W.cell? ⟨b1, 10, none⟩ = some v10 ∧ W.cell? ⟨b1, 11, none⟩ = some v11 ∧ W.cell? ⟨b1, 12, none⟩ = some v12 ∧ W.cell? ⟨b1, 13, none⟩ = some v13 ∧ W.cell? ⟨b2, 0, none⟩ = some v0 ∧ W.cell? ⟨b2, 1, none⟩ = some v1 ∧ W.cell? ⟨b2, 2, none⟩ = some v2 ∧ W.cell? ⟨b2, 3, none⟩ = some v3 ∧ W.cell? ⟨b2, 4, none⟩ = some v4 ∧ W.cell? ⟨b2, 5, none⟩ = some v5 ∧ W.cell? ⟨b2, 6, none⟩ = some v6 ∧ W.cell? ⟨b2, 7, none⟩ = some v7 ∧ W.cell? ⟨b2, 8, none⟩ = some v8 ∧ W.cell? ⟨b2, 9, none⟩ = some v9 ∧ W.cell? ⟨b2, 10, none⟩ = some v10 ∧ W.cell? ⟨b2, 11, none⟩ = some v11 ∧ W.cell? ⟨b2, 12, none⟩ = some v12 ∧ W.cell? ⟨b2, 13, none⟩ = some v13) := fun W h => by
    have h1 := HX8.out.below h
    have h2 := le6.below h
    have h3 := lf6.below h
    exact ⟨h1.at 0 _ rfl, h1.at 1 _ rfl, h1.at 2 _ rfl, h1.at 3 _ rfl, h1.at 4 _ rfl, h1.at 5 _ rfl, h1.at 6 _ rfl, h1.at 7 _ rfl, h1.at 8 _ rfl, h1.at 9 _ rfl, h1.at 10 _ rfl, h1.at 11 _ rfl, h1.at 12 _ rfl, h1.at 13 _ rfl, h2.at 0 _ rfl, h2.at 1 _ rfl, h2.at 2 _ rfl, h2.at 3 _ rfl, h2.at 4 _ rfl, h2.at 5 _ rfl, h2.at 6 _ rfl, h2.at 7 _ rfl, h2.at 8 _ rfl, h2.at 9 _ rfl, h2.at 10 _ rfl, h2.at 11 _ rfl, h2.at 12 _ rfl, h2.at 13 _ rfl, h3.at 0 _ rfl, h3.at 1 _ rfl, h3.at 2 _ rfl, h3.at 3 _ rfl, h3.at 4 _ rfl, h3.at 5 _ rfl, h3.at 6 _ rfl, h3.at 7 _ rfl, h3.at 8 _ rfl, h3.at 9 _ rfl, h3.at 10 _ rfl, h3.at 11 _ rfl, h3.at 12 _ rfl, h3.at 13 _ rfl⟩
  have d0 : Below w6.heap.size w6 w6.drew := (Below.refl _ _).drew
  have K0 := HK.out _ d0
  have hq := HQ.out
  clear le6 lf6 he6 hf6 HX8 HX7 HX6 B7 B6 hb15 hxn hxn5 hw3 hw5 HQ HO
  go_wp2_with fail
  go_region_held3 (fun W => W.cell? ⟨w.heap.size, 0, none⟩ = some u0 ∧ W.cell? ⟨w.heap.size, 1, none⟩ = some u1 ∧ W.cell? ⟨w.heap.size, 2, none⟩ = some u2 ∧ W.cell? ⟨w.heap.size, 3, none⟩ = some u3 ∧ W.cell? ⟨w.heap.size, 4, none⟩ = some u4 ∧ W.cell? ⟨w.heap.size, 5, none⟩ = some u5 ∧ W.cell? ⟨w.heap.size, 6, none⟩ = some u6 ∧ W.cell? ⟨w.heap.size, 7, none⟩ = some u7 ∧ W.cell? ⟨w.heap.size, 8, none⟩ = some u8 ∧ W.cell? ⟨w.heap.size, 9, none⟩ = some u9 ∧ W.cell? ⟨w.heap.size, 10, none⟩ = some u10 ∧ W.cell? ⟨w.heap.size, 11, none⟩ = some u11 ∧ W.cell? ⟨w.heap.size, 12, none⟩ = some u12 ∧ W.cell? ⟨w.heap.size, 13, none⟩ = some u13 ∧ W.cell? ⟨b1, 0, none⟩ = some v0 ∧ W.cell? ⟨b1, 1, none⟩ = some v1 ∧ W.cell? ⟨b1, 2, none⟩ = some v2 ∧ W.cell? ⟨b1, 3, none⟩ = some v3 ∧ W.cell? ⟨b1, 4, none⟩ = some v4 ∧ W.cell? ⟨b1, 5, none⟩ = some v5 ∧ W.cell? ⟨b1, 6, none⟩ = some v6 ∧ W.cell? ⟨b1, 7, none⟩ = some v7 ∧ W.cell? ⟨b1, 8, none⟩ = some v8 ∧ W.cell? ⟨b1, 9, none⟩ = some v9 ∧ W.cell? ⟨b1, 10, none⟩ = some v10 ∧ W.cell? ⟨b1, 11, none⟩ = some v11 ∧ W.cell? ⟨b1, 12, none⟩ = some v12 ∧ W.cell? ⟨b1, 13, none⟩ = some v13 ∧ W.cell? ⟨b2, 0, none⟩ = some v0 ∧ W.cell? ⟨b2, 1, none⟩ = some v1 ∧ W.cell? ⟨b2, 2, none⟩ = some v2 ∧ W.cell? ⟨b2, 3, none⟩ = some v3 ∧ W.cell? ⟨b2, 4, none⟩ = some v4 ∧ W.cell? ⟨b2, 5, none⟩ = some v5 ∧ W.cell? ⟨b2, 6, none⟩ = some v6 ∧ W.cell? ⟨b2, 7, none⟩ = some v7 ∧ W.cell? ⟨b2, 8, none⟩ = some v8 ∧ W.cell? ⟨b2, 9, none⟩ = some v9 ∧ W.cell? ⟨b2, 10, none⟩ = some v10 ∧ W.cell? ⟨b2, 11, none⟩ = some v11 ∧ W.cell? ⟨b2, 12, none⟩ = some v12 ∧ W.cell? ⟨b2, 13, none⟩ = some v13)
    (first | exact K0 | exact K1 | exact K2 | exact K3 | exact K4 | exact K5 | exact K6 | go_keep)
    (first
      | (go_at_call 9; refine (HC.out _ (HG.out _ (B8.out.trans (d0.mono B8.out.size))).ent).mono ?_; rintro e w11 ⟨rfl, bb1⟩; have d1 := d0.trans (bb1.mono d0.size); have K1 := HK.out _ d1)
      | (go_at_call 10; refine (HR.out _).mono ?_; rintro e w12 ⟨rfl, bb2⟩; have d2 := d1.trans (bb2.mono d1.size); have K2 := HK.out _ d2)
      | (go_at_call_of 8 ev1; refine (HK1.out _ (HG.out _ (B8.out.trans (d2.mono B8.out.size))).err).mono ?_; rintro e w13 ⟨rfl, bb3⟩; have d3 := d2.trans (bb3.mono d2.size); have K3 := HK.out _ d3)
      | (go_at_call 11; refine (HTX.out _ (HG.out _ (B8.out.trans (d3.mono B8.out.size))).ent).mono ?_; rintro e w14 ⟨rfl, bb4⟩; have d4 := d3.trans (bb4.mono d3.size); have K4 := HK.out _ d4)
      | (go_at_call 12; refine (HTR.out _).mono ?_; rintro e w15 ⟨rfl, bb5⟩; have d5 := d4.trans (bb5.mono d4.size); have K5 := HK.out _ d5)
      | (go_at_call_of 8 ev2; refine (HK2.out _ (HG.out _ (B8.out.trans (d5.mono B8.out.size))).err).mono ?_; rintro e w16 ⟨rfl, bb6⟩; have d6 := d5.trans (bb6.mono d5.size); have K6 := HK.out _ d6))
  all_goals
    have BZ := Lib.hid (B8.out.trans (d6.mono B8.out.size))
    clear K0 K1 K2 K3 K4 K5 K6 d0 d1 d2 d3 d4 d5 d6 bb1 bb2 bb3 bb4 bb5 bb6
    go_wp2_with fail
    go_ret
    exact ⟨rfl, BZ.out⟩

theorem longN_parts {x : EntV} (h : longN x = 0) : ShortE x := by
  unfold longN at h
  split at h
  · cases h
  · rename_i h1
    exact ⟨by omega, by omega, by omega, by omega, by omega⟩
theorem etell_walk (E : Nat → Addr) (x : EntV) (s : ByteArray) (w : World) (hG : ETellG E w) :
    Calls Tryz.prog 3 #[.agg (encEnt x).toArray, .string s] w fun e w' => e = .returned (.bool true) ∧ Below w.heap.size w w' := by
  obtain ⟨l, rfl⟩ : ∃ l : List UInt8, s = ⟨l.toArray⟩ := ⟨s.data.toList, by simp⟩
  rcases longN_01 x with h | h
  · by_cases h2 : 100 < l.length
    · exact etell_out E x l w hG (.inr ⟨h, h2⟩)
    · exact etell_in E x l w hG h (by omega) (longN_parts h)
  · exact etell_out E x l w hG (.inl h)
end Go.Proofs.YtpifbahafnaejaaGreatDoor
namespace Go.Proofs.YtpifbahafnaejaaGreatDoor
open Go.RowKit Go.Sort Go.Proofs Go.ChangeShapes Go.WideShapes Go.Deep

set_option maxRecDepth 100000 in
set_option maxHeartbeats 1600000 in
theorem ent_of {H : Type} {enc : TypeId × Value → H} {W : World} {base : Nat} {v : Value} {d : DataW H} {p : List MemPlace} (hval : Value.okWide Tryz.prog W .any base 29 v)
    (h : DataW.Trod enc Tryz.prog W 0 (fun _ => true) true 29 v d p) : ∃ x : EntV, v = .agg (encEnt x).toArray := by
  obtain ⟨cs, rfl, hsz⟩ := okWide_struct Tryz.underlying29 hval
  obtain ⟨l⟩ := cs
  have hsz : l.length = 14 := hsz.trans (by kernel_rfl)
  obtain ⟨fuel, g⟩ := h
  obtain ⟨yg, ng, _, _, _, hlg, hg⟩ := DataW.trod_struct Tryz.underlying29 g
  have hlg : yg.length = 6 := hlg
  have g_0 := hg 0 _ rfl
  have g_1 := hg 1 _ rfl
  have g_2 := hg 2 _ rfl
  have g_3 := hg 3 _ rfl
  have g_4 := hg 4 _ rfl
  have g_5 := hg 5 _ rfl
  rw [List.getElem?_eq_getElem (by omega)] at g_0 g_1 g_2 g_3 g_4 g_5
  obtain ⟨s0, e0, _, wf0⟩ := DataW.trod_string Tryz.underlying9 g_0
  obtain ⟨yg_1, ng_1, _, _, _, hlg_1, hg_1⟩ := DataW.trod_struct Tryz.underlying23 g_1
  have hlg_1 : yg_1.length = 2 := hlg_1
  have g_1_0 := hg_1 0 _ rfl
  have g_1_1 := hg_1 1 _ rfl
  rw [List.getElem?_eq_getElem (by omega)] at g_1_0 g_1_1
  obtain ⟨s1, e1, _, wf1⟩ := DataW.trod_string Tryz.underlying9 g_1_0
  obtain ⟨n2, e2, _, wf2⟩ := DataW.trod_int Tryz.underlying3 g_1_1
  obtain ⟨yg_2, ng_2, _, _, _, hlg_2, hg_2⟩ := DataW.trod_struct Tryz.underlying25 g_2
  have hlg_2 : yg_2.length = 4 := hlg_2
  have g_2_0 := hg_2 0 _ rfl
  have g_2_1 := hg_2 1 _ rfl
  have g_2_2 := hg_2 2 _ rfl
  have g_2_3 := hg_2 3 _ rfl
  rw [List.getElem?_eq_getElem (by omega)] at g_2_0 g_2_1 g_2_2 g_2_3
  obtain ⟨s3, e3, _, wf3⟩ := DataW.trod_string Tryz.underlying9 g_2_0
  obtain ⟨s4, e4, _, wf4⟩ := DataW.trod_string Tryz.underlying9 g_2_1
  obtain ⟨n5, e5, _, wf5⟩ := DataW.trod_int Tryz.underlying3 g_2_2
  obtain ⟨n6, e6, _, wf6⟩ := DataW.trod_int Tryz.underlying3 g_2_3
  obtain ⟨yg_3, ng_3, _, _, _, hlg_3, hg_3⟩ := DataW.trod_struct Tryz.underlying27 g_3
  have hlg_3 : yg_3.length = 3 := hlg_3
  have g_3_0 := hg_3 0 _ rfl
  have g_3_1 := hg_3 1 _ rfl
  have g_3_2 := hg_3 2 _ rfl
  rw [List.getElem?_eq_getElem (by omega)] at g_3_0 g_3_1 g_3_2
  obtain ⟨s7, e7, _, wf7⟩ := DataW.trod_string Tryz.underlying9 g_3_0
  obtain ⟨n8, e8, _, wf8⟩ := DataW.trod_int Tryz.underlying3 g_3_1
  obtain ⟨n9, e9, _, wf9⟩ := DataW.trod_int Tryz.underlying3 g_3_2
  obtain ⟨yg_4, ng_4, _, _, _, hlg_4, hg_4⟩ := DataW.trod_struct Tryz.underlying27 g_4
  have hlg_4 : yg_4.length = 3 := hlg_4
  have g_4_0 := hg_4 0 _ rfl
  have g_4_1 := hg_4 1 _ rfl
  have g_4_2 := hg_4 2 _ rfl
  rw [List.getElem?_eq_getElem (by omega)] at g_4_0 g_4_1 g_4_2
  obtain ⟨s10, e10, _, wf10⟩ := DataW.trod_string Tryz.underlying9 g_4_0
  obtain ⟨n11, e11, _, wf11⟩ := DataW.trod_int Tryz.underlying3 g_4_1
  obtain ⟨n12, e12, _, wf12⟩ := DataW.trod_int Tryz.underlying3 g_4_2
  obtain ⟨n13, e13, _, wf13⟩ := DataW.trod_int Tryz.underlying3 g_5
  match l, hsz with
  | [v0, v1, v2, v3, v4, v5, v6, v7, v8, v9, v10, v11, v12, v13], _ =>
    have e0 : List.take (Tryz.prog.cellsOf 9) (List.drop 0 ((Value.agg #[v0, v1, v2, v3, v4, v5, v6, v7, v8, v9, v10, v11, v12, v13]).cells.toList)) = [.string s0] := e0
    rw [show Tryz.prog.cellsOf 9 = 1 by kernel_rfl] at e0
    have e1 : List.take (Tryz.prog.cellsOf 9) (List.drop 0 (List.take (Tryz.prog.cellsOf 23) (List.drop 1 ((Value.agg #[v0, v1, v2, v3, v4, v5, v6, v7, v8, v9, v10, v11, v12, v13]).cells.toList)))) = [.string s1] := e1
    rw [show Tryz.prog.cellsOf 23 = 2 by kernel_rfl, show Tryz.prog.cellsOf 9 = 1 by kernel_rfl] at e1
    have e2 : List.take (Tryz.prog.cellsOf 3) (List.drop 1 (List.take (Tryz.prog.cellsOf 23) (List.drop 1 ((Value.agg #[v0, v1, v2, v3, v4, v5, v6, v7, v8, v9, v10, v11, v12, v13]).cells.toList)))) = [.int .i64 n2] := e2
    rw [show Tryz.prog.cellsOf 23 = 2 by kernel_rfl, show Tryz.prog.cellsOf 3 = 1 by kernel_rfl] at e2
    have e3 : List.take (Tryz.prog.cellsOf 9) (List.drop 0 (List.take (Tryz.prog.cellsOf 25) (List.drop 3 ((Value.agg #[v0, v1, v2, v3, v4, v5, v6, v7, v8, v9, v10, v11, v12, v13]).cells.toList)))) = [.string s3] := e3
    rw [show Tryz.prog.cellsOf 25 = 4 by kernel_rfl, show Tryz.prog.cellsOf 9 = 1 by kernel_rfl] at e3
    have e4 : List.take (Tryz.prog.cellsOf 9) (List.drop 1 (List.take (Tryz.prog.cellsOf 25) (List.drop 3 ((Value.agg #[v0, v1, v2, v3, v4, v5, v6, v7, v8, v9, v10, v11, v12, v13]).cells.toList)))) = [.string s4] := e4
    rw [show Tryz.prog.cellsOf 25 = 4 by kernel_rfl, show Tryz.prog.cellsOf 9 = 1 by kernel_rfl] at e4
    have e5 : List.take (Tryz.prog.cellsOf 3) (List.drop 2 (List.take (Tryz.prog.cellsOf 25) (List.drop 3 ((Value.agg #[v0, v1, v2, v3, v4, v5, v6, v7, v8, v9, v10, v11, v12, v13]).cells.toList)))) = [.int .i64 n5] := e5
    rw [show Tryz.prog.cellsOf 25 = 4 by kernel_rfl, show Tryz.prog.cellsOf 3 = 1 by kernel_rfl] at e5
    have e6 : List.take (Tryz.prog.cellsOf 3) (List.drop 3 (List.take (Tryz.prog.cellsOf 25) (List.drop 3 ((Value.agg #[v0, v1, v2, v3, v4, v5, v6, v7, v8, v9, v10, v11, v12, v13]).cells.toList)))) = [.int .i64 n6] := e6
    rw [show Tryz.prog.cellsOf 25 = 4 by kernel_rfl, show Tryz.prog.cellsOf 3 = 1 by kernel_rfl] at e6
    have e7 : List.take (Tryz.prog.cellsOf 9) (List.drop 0 (List.take (Tryz.prog.cellsOf 27) (List.drop 7 ((Value.agg #[v0, v1, v2, v3, v4, v5, v6, v7, v8, v9, v10, v11, v12, v13]).cells.toList)))) = [.string s7] := e7
    rw [show Tryz.prog.cellsOf 27 = 3 by kernel_rfl, show Tryz.prog.cellsOf 9 = 1 by kernel_rfl] at e7
    have e8 : List.take (Tryz.prog.cellsOf 3) (List.drop 1 (List.take (Tryz.prog.cellsOf 27) (List.drop 7 ((Value.agg #[v0, v1, v2, v3, v4, v5, v6, v7, v8, v9, v10, v11, v12, v13]).cells.toList)))) = [.int .i64 n8] := e8
    rw [show Tryz.prog.cellsOf 27 = 3 by kernel_rfl, show Tryz.prog.cellsOf 3 = 1 by kernel_rfl] at e8
    have e9 : List.take (Tryz.prog.cellsOf 3) (List.drop 2 (List.take (Tryz.prog.cellsOf 27) (List.drop 7 ((Value.agg #[v0, v1, v2, v3, v4, v5, v6, v7, v8, v9, v10, v11, v12, v13]).cells.toList)))) = [.int .i64 n9] := e9
    rw [show Tryz.prog.cellsOf 27 = 3 by kernel_rfl, show Tryz.prog.cellsOf 3 = 1 by kernel_rfl] at e9
    have e10 : List.take (Tryz.prog.cellsOf 9) (List.drop 0 (List.take (Tryz.prog.cellsOf 27) (List.drop 10 ((Value.agg #[v0, v1, v2, v3, v4, v5, v6, v7, v8, v9, v10, v11, v12, v13]).cells.toList)))) = [.string s10] := e10
    rw [show Tryz.prog.cellsOf 27 = 3 by kernel_rfl, show Tryz.prog.cellsOf 9 = 1 by kernel_rfl] at e10
    have e11 : List.take (Tryz.prog.cellsOf 3) (List.drop 1 (List.take (Tryz.prog.cellsOf 27) (List.drop 10 ((Value.agg #[v0, v1, v2, v3, v4, v5, v6, v7, v8, v9, v10, v11, v12, v13]).cells.toList)))) = [.int .i64 n11] := e11
    rw [show Tryz.prog.cellsOf 27 = 3 by kernel_rfl, show Tryz.prog.cellsOf 3 = 1 by kernel_rfl] at e11
    have e12 : List.take (Tryz.prog.cellsOf 3) (List.drop 2 (List.take (Tryz.prog.cellsOf 27) (List.drop 10 ((Value.agg #[v0, v1, v2, v3, v4, v5, v6, v7, v8, v9, v10, v11, v12, v13]).cells.toList)))) = [.int .i64 n12] := e12
    rw [show Tryz.prog.cellsOf 27 = 3 by kernel_rfl, show Tryz.prog.cellsOf 3 = 1 by kernel_rfl] at e12
    have e13 : List.take (Tryz.prog.cellsOf 3) (List.drop 13 ((Value.agg #[v0, v1, v2, v3, v4, v5, v6, v7, v8, v9, v10, v11, v12, v13]).cells.toList)) = [.int .i64 n13] := e13
    rw [show Tryz.prog.cellsOf 3 = 1 by kernel_rfl] at e13
    obtain rfl : v0 = .string s0 := by simpa [Value.cells] using e0
    obtain rfl : v1 = .string s1 := by simpa [Value.cells] using e1
    obtain rfl : v2 = .int .i64 n2 := by simpa [Value.cells] using e2
    obtain rfl : v3 = .string s3 := by simpa [Value.cells] using e3
    obtain rfl : v4 = .string s4 := by simpa [Value.cells] using e4
    obtain rfl : v5 = .int .i64 n5 := by simpa [Value.cells] using e5
    obtain rfl : v6 = .int .i64 n6 := by simpa [Value.cells] using e6
    obtain rfl : v7 = .string s7 := by simpa [Value.cells] using e7
    obtain rfl : v8 = .int .i64 n8 := by simpa [Value.cells] using e8
    obtain rfl : v9 = .int .i64 n9 := by simpa [Value.cells] using e9
    obtain rfl : v10 = .string s10 := by simpa [Value.cells] using e10
    obtain rfl : v11 = .int .i64 n11 := by simpa [Value.cells] using e11
    obtain rfl : v12 = .int .i64 n12 := by simpa [Value.cells] using e12
    obtain rfl : v13 = .int .i64 n13 := by simpa [Value.cells] using e13
    exact ⟨(s0.data.toList, (s1.data.toList, n2), (s3.data.toList, s4.data.toList, n5, n6), (s7.data.toList, n8, n9), (s10.data.toList, n11, n12), n13), rfl⟩
end Go.Proofs.YtpifbahafnaejaaGreatDoor
namespace Go.Proofs.YtpifbahafnaejaaGreatDoor
open Go.RowKit Go.WideShapes Go.ChangeShapes

theorem args_of {args : Array Value} {l : List Value} (h : args.toList = l) : args = l.toArray := by
  cases args
  subst h
  rfl

section
variable {H : Type} {enc : TypeId × Value → H} {P : Program}

theorem below_trodAll (hl : laidOutB P = true) {W W' : World} (hb : Below W.heap.size W W') : ∀ {ts : List TypeId} {vs : List Value} {ds : List (DataW H)} {ps : List MemPlace},
    (ts.all fun t => P.readableRec t && decide (t < P.types.size)) = true → (∀ x ∈ ps, x.block < W.heap.size) → DataW.TrodAll enc P W 0 (fun _ => true) true ts vs ds ps →
    DataW.TrodAll enc P W' 0 (fun b => decide (b < W.heap.size)) true ts vs ds ps
  | [], vs, ds, ps, _, _, h => by
    obtain ⟨rfl, rfl, rfl⟩ := trodAll_nil h
    exact trodAll_mk0
  | t :: ts, vs, ds, ps, hall, hlt, h => by
    obtain ⟨v, vs', d, ds', p, q, rfl, rfl, rfl, h1, h2⟩ := trodAll_cons h
    simp only [List.all_cons, Bool.and_eq_true, decide_eq_true_eq] at hall
    exact ⟨p, q, Below.trod hl hall.1.1 hall.1.2 h1 hb (fun x hx => hlt x (List.mem_append_left _ hx)),
      below_trodAll hl hb (by simpa using hall.2) (fun x hx => hlt x (List.mem_append_right _ hx)) h2, rfl⟩

theorem law_post {f : Func} {s : ChangeSpec} {W W' : World} {args : Array Value} {ds gs : List (DataW H)} {before : List MemPlace} {bt : TypeId}
    (hl : laidOutB P = true) (hrd : (f.params.toList.all fun t => P.readableRec t && decide (t < P.types.size)) = true)
    (hW : DataW.Whole enc P f.params.toList s.vars false W args.toList ds gs before) (hv : s.vars = []) (hgs : gs = [])
    (hfn : s.fn H (ds ++ gs) = { results := [.lit (.bool true)], args := ds }) (hrt : f.resultTypes = #[bt]) (hbt : P.underlying bt = some .bool)
    (hb : Below W.heap.size W W') : s.post enc P f false true false false W args (.bool true) W' := by
  have hlt : ∀ p ∈ before, p.block < W.heap.size := fun p hp => hW.lt p hp
  have hW' := hW
  obtain ⟨p, q, hA, hV, rfl, _, _⟩ := hW
  refine ⟨ds, gs, p ++ q, [], p, [], hW', ?_, ?_, ?_, ?_, fun h => by cases h⟩
  · rw [hfn, hrt]
    exact trodAll_mk1 (shut_bool hbt true)
  · rw [hfn]
    exact below_trodAll hl hb hrd (fun x hx => hlt x (List.mem_append_left _ hx)) hA
  · rw [hfn, hv]
    rfl
  · have hq : q = [] := by
      rw [hv, hgs] at hV
      exact hV
    subst hq
    exact World.keptBut_mono (fun x hx => ⟨hx, Or.inr (Or.inl (by simpa using hx))⟩) (hb.frame (· ∈ p ++ []))
end
end Go.Proofs.YtpifbahafnaejaaGreatDoor
