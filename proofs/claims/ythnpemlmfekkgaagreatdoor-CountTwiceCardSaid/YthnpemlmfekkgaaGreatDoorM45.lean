/- A slice of lines that comes in as an argument, opened. Printed by gen/opener.py. What a row's list gives, more: errors' own variable; how large the first heap is; the texts of the sentinels. The twelve sentinels together. The row's last step for a statement that answers true and only adds to memory: each argument reads as it did. -/
import Derived.Deep.Slices
import Derived.OpenShut
import Derived.SliceStrings
import Derived.LaidHandle
import Derived.Lay
import Derived.Stop.Joined
import Derived.Below
import Derived.Carry
import Derived.ChangeSame
import Derived.Test.YthnpemlmfekkgaaGreatDoorM07
import Derived.Test.YthnpemlmfekkgaaGreatDoorM40
import Derived.Test.YthnpemlmfekkgaaGreatDoorM42
namespace Go.Proofs.YthnpemlmfekkgaaGreatDoor
open Go.RowKit Go.Sort Go.Proofs Go.ChangeShapes Go.WideShapes Go.Deep

set_option maxRecDepth 100000 in
set_option maxHeartbeats 1600000 in
theorem sheet_of {H : Type} {enc : TypeId × Value → H} {W : World} {base : Nat} {v : Value} {d : DataW H} {p : List MemPlace} (hval : Value.okWide Tryz.prog W .any base 23 v)
    (h : DataW.Trod enc Tryz.prog W 0 (fun _ => true) true 23 v d p) : ∃ A cap xs, v = .slice A (List.length xs) cap ∧ RowAt encLine 5 W A xs ∧ List.length xs ≤ cap := by
  obtain ⟨A, len, cap, rfl⟩ := okWide_slice Tryz.underlying23 hval
  obtain ⟨fuel, hf⟩ := h
  rcases open_slice Tryz.underlying23 hf with ⟨hcs, _⟩ | ⟨a, len', cap', m, n, D, Pl, hcs, _, hl, _, hm, _, hall⟩
  · simp [Value.cells] at hcs
    obtain ⟨rfl, rfl, rfl⟩ := hcs
    exact ⟨none, 0, [], rfl, .inl rfl, Nat.le_refl _⟩
  · simp [Value.cells] at hcs
    obtain ⟨rfl, rfl, rfl⟩ := hcs
    simp only [if_true] at hm
    have each : ∀ i, i < len → ∃ q : LineV, (∀ c u, (encLine q)[c]? = some u → W.cell? ((a.add (i * 5)).add c) = some u) := by
      intro i hi
      obtain ⟨cs, k1, g⟩ := hall i (by omega)
      rw [show Tryz.prog.cellsOf 48 = 5 by kernel_rfl] at k1
      obtain ⟨_, hlen, hcell⟩ := World.cells?_some k1
      obtain ⟨yg, ng, _, _, _, hlg, hg⟩ := DataW.trod_struct Tryz.underlying48 g
      have hlg : yg.length = 3 := hlg
      have g_0 := hg 0 _ rfl
      have g_1 := hg 1 _ rfl
      have g_2 := hg 2 _ rfl
      rw [List.getElem?_eq_getElem (by omega)] at g_0 g_1 g_2
      obtain ⟨yg_0, ng_0, _, _, _, hlg_0, hg_0⟩ := DataW.trod_struct Tryz.underlying41 g_0
      have hlg_0 : yg_0.length = 3 := hlg_0
      have g_0_0 := hg_0 0 _ rfl
      have g_0_1 := hg_0 1 _ rfl
      have g_0_2 := hg_0 2 _ rfl
      rw [List.getElem?_eq_getElem (by omega)] at g_0_0 g_0_1 g_0_2
      obtain ⟨s0, e0, _, wf0⟩ := DataW.trod_string Tryz.underlying9 g_0_0
      obtain ⟨n1, e1, _, wf1⟩ := DataW.trod_int Tryz.underlying3 g_0_1
      obtain ⟨n2, e2, _, wf2⟩ := DataW.trod_int Tryz.underlying3 g_0_2
      obtain ⟨s3, e3, _, wf3⟩ := DataW.trod_string Tryz.underlying9 g_1
      obtain ⟨n4, e4, _, wf4⟩ := DataW.trod_int Tryz.underlying3 g_2
      match cs, hlen with
      | [v0, v1, v2, v3, v4], _ =>
        have e0 : List.take (Tryz.prog.cellsOf 9) (List.drop 0 (List.take (Tryz.prog.cellsOf 41) (List.drop 0 ([v0, v1, v2, v3, v4])))) = [.string s0] := e0
        rw [show Tryz.prog.cellsOf 41 = 3 by kernel_rfl, show Tryz.prog.cellsOf 9 = 1 by kernel_rfl] at e0
        have e1 : List.take (Tryz.prog.cellsOf 3) (List.drop 1 (List.take (Tryz.prog.cellsOf 41) (List.drop 0 ([v0, v1, v2, v3, v4])))) = [.int .i64 n1] := e1
        rw [show Tryz.prog.cellsOf 41 = 3 by kernel_rfl, show Tryz.prog.cellsOf 3 = 1 by kernel_rfl] at e1
        have e2 : List.take (Tryz.prog.cellsOf 3) (List.drop 2 (List.take (Tryz.prog.cellsOf 41) (List.drop 0 ([v0, v1, v2, v3, v4])))) = [.int .i64 n2] := e2
        rw [show Tryz.prog.cellsOf 41 = 3 by kernel_rfl, show Tryz.prog.cellsOf 3 = 1 by kernel_rfl] at e2
        have e3 : List.take (Tryz.prog.cellsOf 9) (List.drop 3 ([v0, v1, v2, v3, v4])) = [.string s3] := e3
        rw [show Tryz.prog.cellsOf 9 = 1 by kernel_rfl] at e3
        have e4 : List.take (Tryz.prog.cellsOf 3) (List.drop 4 ([v0, v1, v2, v3, v4])) = [.int .i64 n4] := e4
        rw [show Tryz.prog.cellsOf 3 = 1 by kernel_rfl] at e4
        obtain rfl : v0 = .string s0 := by simpa [Value.cells] using e0
        obtain rfl : v1 = .int .i64 n1 := by simpa [Value.cells] using e1
        obtain rfl : v2 = .int .i64 n2 := by simpa [Value.cells] using e2
        obtain rfl : v3 = .string s3 := by simpa [Value.cells] using e3
        obtain rfl : v4 = .int .i64 n4 := by simpa [Value.cells] using e4
        refine ⟨((s0.data.toList, n1, n2), s3.data.toList, n4), fun c u hc => ?_⟩
        have hlt : c < 5 := (List.getElem?_eq_some_iff.1 hc).1
        rw [hcell c hlt, ← hc]
        rfl
    obtain ⟨q, hq⟩ := choose_lt each
    have hxs : ((List.range len).map q).length = len := by simp
    refine ⟨some a, cap, (List.range len).map q, by rw [hxs], ?_, by rw [hxs]; exact hl⟩
    rcases Nat.eq_zero_or_pos len with h0 | h0
    · subst h0; exact .inl (by simp)
    · obtain ⟨ab, ao, spot⟩ := a
      have hspot : spot = none := by simpa [Addr.add] using World.cell?_spot (hq 0 h0 0 _ rfl)
      subst hspot
      refine .inr ⟨ab, ao, rfl, ?_, fun i hi c u hc => ?_⟩
      · have := hq 0 h0 0 _ rfl
        rw [Addr.add_lit, Addr.add_lit] at this
        exact lt_of_cell this
      · rw [hxs] at hi
        have := hq i hi c u (by simpa using hc)
        rw [Addr.add_lit, Addr.add_lit] at this
        exact this
end Go.Proofs.YthnpemlmfekkgaaGreatDoor
namespace Go.Proofs.YthnpemlmfekkgaaGreatDoor
open Go.RowKit Go.ChangeShapes

/-- The first heap holds the table. -/
theorem tab_big {W : World} (h : Lib.TabIs Tryz.prog W "internal/strconv.uint64pow10" .u64 Lib.pow10Tab) : 14 < W.heap.size := by
  have c0 : W.cell? ⟨14, 0, none⟩ = _ := World.var?_cell (P := Tryz.prog) (by kernel_rfl) h 0
  exact lt_of_cell (c0.trans (show _ = some (Value.int .u64 1) from rfl))

theorem et : Tryz.prog.globalNamed "errors.errorType" = some 13 := by kernel_rfl
theorem rt : (Tryz.prog.cutTypes.find? (·.1 == "internal/reflectlite.rtype")).map (·.2) = some 217 := by kernel_rfl
theorem oneRow : ((List.range 299).filter fun t => Tryz.prog.rowNamed t [101, 114, 114, 111, 114]) = [32] := by kernel_rfl
theorem tsize : Tryz.prog.types.size = 299 := by kernel_rfl

theorem handle_of {W : World} (h : handlesMet Tryz.prog [("errors.errorType", .iface "internal/reflectlite.rtype" (.agg [.ptr (.lit (.string [101, 114, 114, 111, 114]))]))] W) :
    W.cell? ⟨13, 0, none⟩ = some (.iface 217 (.agg #[.pointer (some ⟨19, 32, none⟩)])) := by
  obtain ⟨name, u, ty, e1, e2, e3, e4, e5⟩ := h _ (List.mem_singleton.2 rfl)
  have en : name = [101, 114, 114, 111, 114] := (Option.some.inj e1).symm
  subst en
  obtain rfl := Option.some.inj (rt.symm.trans e2)
  have hm : ty ∈ (List.range 299).filter fun t => Tryz.prog.rowNamed t [101, 114, 114, 111, 114] := List.mem_filter.2 ⟨List.mem_range.2 (by rw [← tsize]; exact e3), e4⟩
  rw [oneRow] at hm
  obtain rfl := List.mem_singleton.1 hm
  have hh : typeHandle Tryz.prog 32 = .pointer (some ⟨19, 32, none⟩) := by kernel_rfl
  rw [hh] at e5
  simpa using World.var?_cell et e5 0

/-- Two sentinels of unlike texts are unlike. -/
theorem sent_ne {g g' : Nat} {a a' : Addr} {l l' : List UInt8} {w : World} (h : Sent g a l w) (h' : Sent g' a' l' w) (hne : l ≠ l') : a ≠ a' := by
  rintro rfl
  obtain ⟨s, hs, ht⟩ := h.text
  obtain ⟨s', hs', ht'⟩ := h'.text
  rw [hs] at hs'
  injection hs' with hs'
  injection hs' with hs'
  subst hs'
  exact hne (ht.symm.trans ht')

/-- All the listed data laid over a world. -/
theorem laidMet_over {P : Program} {w0 : World} {laid : List (String × DataW Unit)} (args : Array Value)
    (hf : w0.layFits P laid [] = true) (hi : w0.layIfaces P laid (w0.layVars P laid) = true) :
    laidMet P laid ((w0.layVars P laid).forCall (fun _ _ => 0) ⟨#[], args, []⟩).memory := by
  have e1 : (laid.filter fun x => (laid.map (·.1)).contains x.1) = laid := List.filter_eq_self.2 fun x hx => List.contains_iff_mem.2 (List.mem_map.2 ⟨x, hx, rfl⟩)
  have e2 : (laid.filter fun x => !(laid.map (·.1)).contains x.1) = [] := List.filter_eq_nil_iff.2 fun x hx => by rw [List.contains_iff_mem.2 (List.mem_map.2 ⟨x, hx, rfl⟩)]; simp
  have h : laidMet P laid (w0.layVars P laid) := laidMet_layVars (w0 := w0) (laid.map (·.1)) [] (by rw [e1]) (by rw [e1]; exact hf) (by rw [e1]; exact hi) (by rw [e2]; exact LaidIn.none)
  exact h.of_heap (by simp [World.memory, World.forCall, Input.heap])
end Go.Proofs.YthnpemlmfekkgaaGreatDoor
namespace Go.Proofs.YthnpemlmfekkgaaGreatDoor
open Go.RowKit

/-- The number of a sentinel, by its text. -/
def textNo (l : List UInt8) : Nat :=
  if l = [116, 105, 116, 104, 101, 98, 97, 114, 110, 58, 32, 116, 101, 120, 116] then 1 else
  if l = [116, 105, 116, 104, 101, 98, 97, 114, 110, 58, 32, 98, 111, 117, 110, 100] then 2 else
  if l = [116, 105, 116, 104, 101, 98, 97, 114, 110, 58, 32, 115, 104, 97, 112, 101] then 3 else
  if l = [116, 105, 116, 104, 101, 98, 97, 114, 110, 58, 32, 107, 105, 110, 100] then 4 else
  if l = [116, 105, 116, 104, 101, 98, 97, 114, 110, 58, 32, 110, 97, 109, 101] then 5 else
  if l = [116, 105, 116, 104, 101, 98, 97, 114, 110, 58, 32, 110, 111, 110, 101] then 6 else
  if l = [116, 105, 116, 104, 101, 98, 97, 114, 110, 58, 32, 101, 120, 105, 115, 116] then 7 else
  if l = [116, 105, 116, 104, 101, 98, 97, 114, 110, 58, 32, 102, 117, 108, 108] then 8 else
  if l = [116, 105, 116, 104, 101, 98, 97, 114, 110, 58, 32, 115, 104, 111, 114, 116] then 9 else
  if l = [116, 105, 116, 104, 101, 98, 97, 114, 110, 58, 32, 111, 114, 100, 101, 114] then 10 else
  if l = [116, 105, 116, 104, 101, 98, 97, 114, 110, 58, 32, 115, 116, 97, 116, 101] then 11 else
  if l = [116, 105, 116, 104, 101, 98, 97, 114, 110, 58, 32, 111, 102, 102] then 12 else 0

theorem errG_of {W : World} {a1 a2 a3 a4 a5 a6 a7 a8 a9 a10 a11 a12 : Addr}
    (h1 : Sent 8 a1 [116, 105, 116, 104, 101, 98, 97, 114, 110, 58, 32, 116, 101, 120, 116] W)
    (h2 : Sent 6 a2 [116, 105, 116, 104, 101, 98, 97, 114, 110, 58, 32, 98, 111, 117, 110, 100] W)
    (h3 : Sent 0 a3 [116, 105, 116, 104, 101, 98, 97, 114, 110, 58, 32, 115, 104, 97, 112, 101] W)
    (h4 : Sent 2 a4 [116, 105, 116, 104, 101, 98, 97, 114, 110, 58, 32, 107, 105, 110, 100] W)
    (h5 : Sent 7 a5 [116, 105, 116, 104, 101, 98, 97, 114, 110, 58, 32, 110, 97, 109, 101] W)
    (h6 : Sent 1 a6 [116, 105, 116, 104, 101, 98, 97, 114, 110, 58, 32, 110, 111, 110, 101] W)
    (h7 : Sent 3 a7 [116, 105, 116, 104, 101, 98, 97, 114, 110, 58, 32, 101, 120, 105, 115, 116] W)
    (h8 : Sent 4 a8 [116, 105, 116, 104, 101, 98, 97, 114, 110, 58, 32, 102, 117, 108, 108] W)
    (h9 : Sent 5 a9 [116, 105, 116, 104, 101, 98, 97, 114, 110, 58, 32, 115, 104, 111, 114, 116] W)
    (h10 : Sent 9 a10 [116, 105, 116, 104, 101, 98, 97, 114, 110, 58, 32, 111, 114, 100, 101, 114] W)
    (h11 : Sent 10 a11 [116, 105, 116, 104, 101, 98, 97, 114, 110, 58, 32, 115, 116, 97, 116, 101] W)
    (h12 : Sent 11 a12 [116, 105, 116, 104, 101, 98, 97, 114, 110, 58, 32, 111, 102, 102] W)
    (hty : W.cell? ⟨13, 0, none⟩ = some (.iface 217 (.agg #[.pointer (some ⟨19, 32, none⟩)]))) :
    ErrG (fun k => if k = 1 then a1 else if k = 2 then a2 else if k = 3 then a3 else if k = 4 then a4 else if k = 5 then a5 else if k = 6 then a6 else if k = 7 then a7 else if k = 8 then a8 else if k = 9 then a9 else if k = 10 then a10 else if k = 11 then a11 else a12) W := by
  refine ⟨?_, ?_, ?_, hty⟩
  · intro k k1 k2
    rcases (show k = 1 ∨ k = 2 ∨ k = 3 ∨ k = 4 ∨ k = 5 ∨ k = 6 ∨ k = 7 ∨ k = 8 ∨ k = 9 ∨ k = 10 ∨ k = 11 ∨ k = 12 by omega) with rfl | rfl | rfl | rfl | rfl | rfl | rfl | rfl | rfl | rfl | rfl | rfl
    · exact h1.at_
    · exact h2.at_
    · exact h3.at_
    · exact h4.at_
    · exact h5.at_
    · exact h6.at_
    · exact h7.at_
    · exact h8.at_
    · exact h9.at_
    · exact h10.at_
    · exact h11.at_
    · exact h12.at_
  · intro k k1 k2
    rcases (show k = 1 ∨ k = 2 ∨ k = 3 ∨ k = 4 ∨ k = 5 ∨ k = 6 ∨ k = 7 ∨ k = 8 ∨ k = 9 ∨ k = 10 ∨ k = 11 ∨ k = 12 by omega) with rfl | rfl | rfl | rfl | rfl | rfl | rfl | rfl | rfl | rfl | rfl | rfl
    · exact h1.row
    · exact h2.row
    · exact h3.row
    · exact h4.row
    · exact h5.row
    · exact h6.row
    · exact h7.row
    · exact h8.row
    · exact h9.row
    · exact h10.row
    · exact h11.row
    · exact h12.row
  · have T : ∀ k, 1 ≤ k → k ≤ 12 → ∃ g l, Sent g ((fun k => if k = 1 then a1 else if k = 2 then a2 else if k = 3 then a3 else if k = 4 then a4 else if k = 5 then a5 else if k = 6 then a6 else if k = 7 then a7 else if k = 8 then a8 else if k = 9 then a9 else if k = 10 then a10 else if k = 11 then a11 else a12) k) l W ∧ textNo l = k := by
      intro k k1 k2
      rcases (show k = 1 ∨ k = 2 ∨ k = 3 ∨ k = 4 ∨ k = 5 ∨ k = 6 ∨ k = 7 ∨ k = 8 ∨ k = 9 ∨ k = 10 ∨ k = 11 ∨ k = 12 by omega) with rfl | rfl | rfl | rfl | rfl | rfl | rfl | rfl | rfl | rfl | rfl | rfl
      · exact ⟨_, _, h1, by decide⟩
      · exact ⟨_, _, h2, by decide⟩
      · exact ⟨_, _, h3, by decide⟩
      · exact ⟨_, _, h4, by decide⟩
      · exact ⟨_, _, h5, by decide⟩
      · exact ⟨_, _, h6, by decide⟩
      · exact ⟨_, _, h7, by decide⟩
      · exact ⟨_, _, h8, by decide⟩
      · exact ⟨_, _, h9, by decide⟩
      · exact ⟨_, _, h10, by decide⟩
      · exact ⟨_, _, h11, by decide⟩
      · exact ⟨_, _, h12, by decide⟩
    intro i j i1 i2 j1 j2 he
    obtain ⟨g, l, s, e⟩ := T i i1 i2
    obtain ⟨g', l', s', e'⟩ := T j j1 j2
    rcases Decidable.em (l = l') with hl | hl
    · rw [← e, ← e', hl]
    · exact absurd he (sent_ne s s' hl)
end Go.Proofs.YthnpemlmfekkgaaGreatDoor
namespace Go.Proofs.YthnpemlmfekkgaaGreatDoor
open Go.RowKit Go.WideShapes Go.ChangeShapes

theorem args_of {args : Array Value} {l : List Value} (h : args.toList = l) : args = l.toArray := by
  cases args
  subst h
  rfl

section
variable {H : Type} {enc : TypeId × Value → H} {P : Program}

theorem below_trodAll (hl : laidOutB P = true) {W W' : World} (hb : Below W.heap.size W W') : ∀ {ts : List TypeId} {vs : List Value} {ds : List (DataW H)} {ps : List MemPlace},
    (ts.all fun t => P.readableRec t && decide (t < P.types.size)) = true → (∀ x ∈ ps, x.block < W.heap.size) → DataW.TrodAll enc P W 0 (fun _ => true) true ts vs ds ps →
    DataW.TrodAll enc P W' 0 (fun b => decide (b < W.heap.size)) true ts vs ds ps
  | [], vs, ds, ps, _, _, h => by
    obtain ⟨rfl, rfl, rfl⟩ := trodAll_nil h
    exact trodAll_mk0
  | t :: ts, vs, ds, ps, hall, hlt, h => by
    obtain ⟨v, vs', d, ds', p, q, rfl, rfl, rfl, h1, h2⟩ := trodAll_cons h
    simp only [List.all_cons, Bool.and_eq_true, decide_eq_true_eq] at hall
    exact ⟨p, q, Below.trod hl hall.1.1 hall.1.2 h1 hb (fun x hx => hlt x (List.mem_append_left _ hx)),
      below_trodAll hl hb (by simpa using hall.2) (fun x hx => hlt x (List.mem_append_right _ hx)) h2, rfl⟩

theorem law_post {f : Func} {s : ChangeSpec} {W W' : World} {args : Array Value} {ds gs : List (DataW H)} {before : List MemPlace} {bt : TypeId}
    (hl : laidOutB P = true) (hrd : (f.params.toList.all fun t => P.readableRec t && decide (t < P.types.size)) = true)
    (hW : DataW.Whole enc P f.params.toList s.vars false W args.toList ds gs before) (hv : s.vars = []) (hgs : gs = [])
    (hfn : s.fn H (ds ++ gs) = { results := [.lit (.bool true)], args := ds }) (hrt : f.resultTypes = #[bt]) (hbt : P.underlying bt = some .bool)
    (hb : Below W.heap.size W W') : s.post enc P f false true false false W args (.bool true) W' := by
  have hlt : ∀ p ∈ before, p.block < W.heap.size := fun p hp => hW.lt p hp
  have hW' := hW
  obtain ⟨p, q, hA, hV, rfl, _, _⟩ := hW
  refine ⟨ds, gs, p ++ q, [], p, [], hW', ?_, ?_, ?_, ?_, fun h => by cases h⟩
  · rw [hfn, hrt]
    exact trodAll_mk1 (shut_bool hbt true)
  · rw [hfn]
    exact below_trodAll hl hb hrd (fun x hx => hlt x (List.mem_append_left _ hx)) hA
  · rw [hfn, hv]
    rfl
  · have hq : q = [] := by
      rw [hv, hgs] at hV
      exact hV
    subst hq
    exact World.keptBut_mono (fun x hx => ⟨hx, Or.inr (Or.inl (by simpa using hx))⟩) (hb.frame (· ∈ p ++ []))
end
end Go.Proofs.YthnpemlmfekkgaaGreatDoor
