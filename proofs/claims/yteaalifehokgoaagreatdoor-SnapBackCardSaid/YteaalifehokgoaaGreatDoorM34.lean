/- A slice of entries that comes in as an argument, opened. Printed by gen/opener.py. What a row's list gives, more: errors' own variable; how large the first heap is; the texts of the sentinels. The row's last step for a statement that answers true and only adds to memory: each argument reads as it did. The twelve sentinels together. -/
import Derived.Deep.Slices
import Derived.OpenShut
import Derived.SliceStrings
import Derived.LaidHandle
import Derived.Lay
import Derived.Stop.Joined
import Derived.Below
import Derived.Carry
import Derived.ChangeSame
import Derived.Test.YteaalifehokgoaaGreatDoorM16
import Derived.Test.YteaalifehokgoaaGreatDoorM32
import Derived.Test.YteaalifehokgoaaGreatDoorM33
namespace Go.Proofs.YteaalifehokgoaaGreatDoor
open Go.RowKit Go.Sort Go.Proofs Go.ChangeShapes Go.WideShapes Go.Deep
set_option maxRecDepth 100000 in
set_option maxHeartbeats 1600000 in
theorem ents_of {H : Type} {enc : TypeId × Value → H} {W : World} {base : Nat} {v : Value} {d : DataW H} {p : List MemPlace} (hval : Value.okWide Tryz.prog W .any base 22 v)
  (h : DataW.Trod enc Tryz.prog W 0 (fun _ => true) true 22 v d p) : ∃ A cap xs, v = .slice A (List.length xs) cap ∧ RowAt encEnt 14 W A xs := by
 obtain ⟨A, len, cap, rfl⟩ := okWide_slice Tryz.underlying22 hval
 obtain ⟨fuel, hf⟩ := h
 rcases open_slice Tryz.underlying22 hf with ⟨hcs, _⟩ | ⟨a, len', cap', m, n, D, Pl, hcs, _, hl, _, hm, _, hall⟩
 ·simp [Value.cells] at hcs
  obtain ⟨rfl, rfl, rfl⟩ := hcs
  exact ⟨none, 0, [], rfl, .inl rfl⟩
 ·simp [Value.cells] at hcs
  obtain ⟨rfl, rfl, rfl⟩ := hcs
  simp only [if_true] at hm
  have each : ∀ i, i < len → ∃ q : EntV, (∀ c u, (encEnt q)[c]? = some u → W.cell? ((a.add (i * 14)).add c) = some u) := by
   intro i hi
   obtain ⟨cs, k1, g⟩ := hall i (by omega)
   rw [show Tryz.prog.cellsOf 43 = 14 by kernel_rfl] at k1
   obtain ⟨_, hlen, hcell⟩ := World.cells?_some k1
   obtain ⟨yg, ng, _, _, _, hlg, hg⟩ := DataW.trod_struct Tryz.underlying43 g
   have hlg : yg.length = 6 := hlg
   have g_0 := hg 0 _ rfl
   have g_1 := hg 1 _ rfl
   have g_2 := hg 2 _ rfl
   have g_3 := hg 3 _ rfl
   have g_4 := hg 4 _ rfl
   have g_5 := hg 5 _ rfl
   rw [List.getElem?_eq_getElem (by omega)] at g_0 g_1 g_2 g_3 g_4 g_5
   obtain ⟨s0, e0, _, wf0⟩ := DataW.trod_string Tryz.underlying9 g_0
   obtain ⟨yg_1, ng_1, _, _, _, hlg_1, hg_1⟩ := DataW.trod_struct Tryz.underlying37 g_1
   have hlg_1 : yg_1.length = 2 := hlg_1
   have g_1_0 := hg_1 0 _ rfl
   have g_1_1 := hg_1 1 _ rfl
   rw [List.getElem?_eq_getElem (by omega)] at g_1_0 g_1_1
   obtain ⟨s1, e1, _, wf1⟩ := DataW.trod_string Tryz.underlying9 g_1_0
   obtain ⟨n2, e2, _, wf2⟩ := DataW.trod_int Tryz.underlying3 g_1_1
   obtain ⟨yg_2, ng_2, _, _, _, hlg_2, hg_2⟩ := DataW.trod_struct Tryz.underlying39 g_2
   have hlg_2 : yg_2.length = 4 := hlg_2
   have g_2_0 := hg_2 0 _ rfl
   have g_2_1 := hg_2 1 _ rfl
   have g_2_2 := hg_2 2 _ rfl
   have g_2_3 := hg_2 3 _ rfl
   rw [List.getElem?_eq_getElem (by omega)] at g_2_0 g_2_1 g_2_2 g_2_3
   obtain ⟨s3, e3, _, wf3⟩ := DataW.trod_string Tryz.underlying9 g_2_0
   obtain ⟨s4, e4, _, wf4⟩ := DataW.trod_string Tryz.underlying9 g_2_1
   obtain ⟨n5, e5, _, wf5⟩ := DataW.trod_int Tryz.underlying3 g_2_2
   obtain ⟨n6, e6, _, wf6⟩ := DataW.trod_int Tryz.underlying3 g_2_3
   obtain ⟨yg_3, ng_3, _, _, _, hlg_3, hg_3⟩ := DataW.trod_struct Tryz.underlying41 g_3
   have hlg_3 : yg_3.length = 3 := hlg_3
   have g_3_0 := hg_3 0 _ rfl
   have g_3_1 := hg_3 1 _ rfl
   have g_3_2 := hg_3 2 _ rfl
   rw [List.getElem?_eq_getElem (by omega)] at g_3_0 g_3_1 g_3_2
   obtain ⟨s7, e7, _, wf7⟩ := DataW.trod_string Tryz.underlying9 g_3_0
   obtain ⟨n8, e8, _, wf8⟩ := DataW.trod_int Tryz.underlying3 g_3_1
   obtain ⟨n9, e9, _, wf9⟩ := DataW.trod_int Tryz.underlying3 g_3_2
   obtain ⟨yg_4, ng_4, _, _, _, hlg_4, hg_4⟩ := DataW.trod_struct Tryz.underlying41 g_4
   have hlg_4 : yg_4.length = 3 := hlg_4
   have g_4_0 := hg_4 0 _ rfl
   have g_4_1 := hg_4 1 _ rfl
   have g_4_2 := hg_4 2 _ rfl
   rw [List.getElem?_eq_getElem (by omega)] at g_4_0 g_4_1 g_4_2
   obtain ⟨s10, e10, _, wf10⟩ := DataW.trod_string Tryz.underlying9 g_4_0
   obtain ⟨n11, e11, _, wf11⟩ := DataW.trod_int Tryz.underlying3 g_4_1
   obtain ⟨n12, e12, _, wf12⟩ := DataW.trod_int Tryz.underlying3 g_4_2
   obtain ⟨n13, e13, _, wf13⟩ := DataW.trod_int Tryz.underlying3 g_5
   match cs, hlen with
   |[v0, v1, v2, v3, v4, v5, v6, v7, v8, v9, v10, v11, v12, v13], _ =>
    have e0 : List.take (Tryz.prog.cellsOf 9) (List.drop 0 ([v0, v1, v2, v3, v4, v5, v6, v7, v8, v9, v10, v11, v12, v13])) = [.string s0] := e0
    rw [show Tryz.prog.cellsOf 9 = 1 by kernel_rfl] at e0
    have e1 : List.take (Tryz.prog.cellsOf 9) (List.drop 0 (List.take (Tryz.prog.cellsOf 37) (List.drop 1 ([v0, v1, v2, v3, v4, v5, v6, v7, v8, v9, v10, v11, v12, v13])))) = [.string s1] := e1
    rw [show Tryz.prog.cellsOf 37 = 2 by kernel_rfl, show Tryz.prog.cellsOf 9 = 1 by kernel_rfl] at e1
    have e2 : List.take (Tryz.prog.cellsOf 3) (List.drop 1 (List.take (Tryz.prog.cellsOf 37) (List.drop 1 ([v0, v1, v2, v3, v4, v5, v6, v7, v8, v9, v10, v11, v12, v13])))) = [.int .i64 n2] := e2
    rw [show Tryz.prog.cellsOf 37 = 2 by kernel_rfl, show Tryz.prog.cellsOf 3 = 1 by kernel_rfl] at e2
    have e3 : List.take (Tryz.prog.cellsOf 9) (List.drop 0 (List.take (Tryz.prog.cellsOf 39) (List.drop 3 ([v0, v1, v2, v3, v4, v5, v6, v7, v8, v9, v10, v11, v12, v13])))) = [.string s3] := e3
    rw [show Tryz.prog.cellsOf 39 = 4 by kernel_rfl, show Tryz.prog.cellsOf 9 = 1 by kernel_rfl] at e3
    have e4 : List.take (Tryz.prog.cellsOf 9) (List.drop 1 (List.take (Tryz.prog.cellsOf 39) (List.drop 3 ([v0, v1, v2, v3, v4, v5, v6, v7, v8, v9, v10, v11, v12, v13])))) = [.string s4] := e4
    rw [show Tryz.prog.cellsOf 39 = 4 by kernel_rfl, show Tryz.prog.cellsOf 9 = 1 by kernel_rfl] at e4
    have e5 : List.take (Tryz.prog.cellsOf 3) (List.drop 2 (List.take (Tryz.prog.cellsOf 39) (List.drop 3 ([v0, v1, v2, v3, v4, v5, v6, v7, v8, v9, v10, v11, v12, v13])))) = [.int .i64 n5] := e5
    rw [show Tryz.prog.cellsOf 39 = 4 by kernel_rfl, show Tryz.prog.cellsOf 3 = 1 by kernel_rfl] at e5
    have e6 : List.take (Tryz.prog.cellsOf 3) (List.drop 3 (List.take (Tryz.prog.cellsOf 39) (List.drop 3 ([v0, v1, v2, v3, v4, v5, v6, v7, v8, v9, v10, v11, v12, v13])))) = [.int .i64 n6] := e6
    rw [show Tryz.prog.cellsOf 39 = 4 by kernel_rfl, show Tryz.prog.cellsOf 3 = 1 by kernel_rfl] at e6
    have e7 : List.take (Tryz.prog.cellsOf 9) (List.drop 0 (List.take (Tryz.prog.cellsOf 41) (List.drop 7 ([v0, v1, v2, v3, v4, v5, v6, v7, v8, v9, v10, v11, v12, v13])))) = [.string s7] := e7
    rw [show Tryz.prog.cellsOf 41 = 3 by kernel_rfl, show Tryz.prog.cellsOf 9 = 1 by kernel_rfl] at e7
    have e8 : List.take (Tryz.prog.cellsOf 3) (List.drop 1 (List.take (Tryz.prog.cellsOf 41) (List.drop 7 ([v0, v1, v2, v3, v4, v5, v6, v7, v8, v9, v10, v11, v12, v13])))) = [.int .i64 n8] := e8
    rw [show Tryz.prog.cellsOf 41 = 3 by kernel_rfl, show Tryz.prog.cellsOf 3 = 1 by kernel_rfl] at e8
    have e9 : List.take (Tryz.prog.cellsOf 3) (List.drop 2 (List.take (Tryz.prog.cellsOf 41) (List.drop 7 ([v0, v1, v2, v3, v4, v5, v6, v7, v8, v9, v10, v11, v12, v13])))) = [.int .i64 n9] := e9
    rw [show Tryz.prog.cellsOf 41 = 3 by kernel_rfl, show Tryz.prog.cellsOf 3 = 1 by kernel_rfl] at e9
    have e10 : List.take (Tryz.prog.cellsOf 9) (List.drop 0 (List.take (Tryz.prog.cellsOf 41) (List.drop 10 ([v0, v1, v2, v3, v4, v5, v6, v7, v8, v9, v10, v11, v12, v13])))) = [.string s10] := e10
    rw [show Tryz.prog.cellsOf 41 = 3 by kernel_rfl, show Tryz.prog.cellsOf 9 = 1 by kernel_rfl] at e10
    have e11 : List.take (Tryz.prog.cellsOf 3) (List.drop 1 (List.take (Tryz.prog.cellsOf 41) (List.drop 10 ([v0, v1, v2, v3, v4, v5, v6, v7, v8, v9, v10, v11, v12, v13])))) = [.int .i64 n11] := e11
    rw [show Tryz.prog.cellsOf 41 = 3 by kernel_rfl, show Tryz.prog.cellsOf 3 = 1 by kernel_rfl] at e11
    have e12 : List.take (Tryz.prog.cellsOf 3) (List.drop 2 (List.take (Tryz.prog.cellsOf 41) (List.drop 10 ([v0, v1, v2, v3, v4, v5, v6, v7, v8, v9, v10, v11, v12, v13])))) = [.int .i64 n12] := e12
    rw [show Tryz.prog.cellsOf 41 = 3 by kernel_rfl, show Tryz.prog.cellsOf 3 = 1 by kernel_rfl] at e12
    have e13 : List.take (Tryz.prog.cellsOf 3) (List.drop 13 ([v0, v1, v2, v3, v4, v5, v6, v7, v8, v9, v10, v11, v12, v13])) = [.int .i64 n13] := e13
    rw [show Tryz.prog.cellsOf 3 = 1 by kernel_rfl] at e13
    obtain rfl : v0 = .string s0 := by simpa [Value.cells] using e0
    obtain rfl : v1 = .string s1 := by simpa [Value.cells] using e1
    obtain rfl : v2 = .int .i64 n2 := by simpa [Value.cells] using e2
    obtain rfl : v3 = .string s3 := by simpa [Value.cells] using e3
    obtain rfl : v4 = .string s4 := by simpa [Value.cells] using e4
    obtain rfl : v5 = .int .i64 n5 := by simpa [Value.cells] using e5
    obtain rfl : v6 = .int .i64 n6 := by simpa [Value.cells] using e6
    obtain rfl : v7 = .string s7 := by simpa [Value.cells] using e7
    obtain rfl : v8 = .int .i64 n8 := by simpa [Value.cells] using e8
    obtain rfl : v9 = .int .i64 n9 := by simpa [Value.cells] using e9
    obtain rfl : v10 = .string s10 := by simpa [Value.cells] using e10
    obtain rfl : v11 = .int .i64 n11 := by simpa [Value.cells] using e11
    obtain rfl : v12 = .int .i64 n12 := by simpa [Value.cells] using e12
    obtain rfl : v13 = .int .i64 n13 := by simpa [Value.cells] using e13
    refine ⟨(s0.data.toList, (s1.data.toList, n2), (s3.data.toList, s4.data.toList, n5, n6), (s7.data.toList, n8, n9), (s10.data.toList, n11, n12), n13), fun c u hc => ?_⟩
    have hlt : c < 14 := (List.getElem?_eq_some_iff.1 hc).1
    rw [hcell c hlt, ← hc]
    rfl
  obtain ⟨q, hq⟩ := choose_lt each
  have hxs : ((List.range len).map q).length = len := by simp
  refine ⟨some a, cap, (List.range len).map q, by rw [hxs], ?_⟩
  rcases Nat.eq_zero_or_pos len with h0 | h0
  ·subst h0; exact .inl (by simp)
  ·obtain ⟨ab, ao, spot⟩ := a
   have hspot : spot = none := by simpa [Addr.add] using World.cell?_spot (hq 0 h0 0 _ rfl)
   subst hspot
   refine .inr ⟨ab, ao, rfl, ?_, fun i hi c u hc => ?_⟩
   ·have := hq 0 h0 0 _ rfl
    rw [Addr.add_lit, Addr.add_lit] at this
    exact lt_of_cell this
   ·rw [hxs] at hi
    have := hq i hi c u (by simpa using hc)
    rw [Addr.add_lit, Addr.add_lit] at this
    exact this
end Go.Proofs.YteaalifehokgoaaGreatDoor
namespace Go.Proofs.YteaalifehokgoaaGreatDoor
open Go.RowKit Go.ChangeShapes
theorem tab_big {W : World} (h : Lib.TabIs Tryz.prog W "internal/strconv.uint64pow10" .u64 Lib.pow10Tab) : 16 < W.heap.size := by
 have c0 : W.cell? ⟨16, 0, none⟩ = _ := World.var?_cell (P := Tryz.prog) (by kernel_rfl) h 0
 exact lt_of_cell (c0.trans (show _ = some (Value.int .u64 1) from rfl))
theorem et : Tryz.prog.globalNamed "errors.errorType" = some 12 := by kernel_rfl
theorem rt : (Tryz.prog.cutTypes.find? (·.1 == "internal/reflectlite.rtype")).map (·.2) = some 220 := by kernel_rfl
theorem oneRow : ((List.range 348).filter fun t => Tryz.prog.rowNamed t [101, 114, 114, 111, 114]) = [31] := by kernel_rfl
theorem tsize : Tryz.prog.types.size = 348 := by kernel_rfl
theorem handle_of {W : World} (h : handlesMet Tryz.prog [("errors.errorType", .iface "internal/reflectlite.rtype" (.agg [.ptr (.lit (.string [101, 114, 114, 111, 114]))]))] W) :
  W.cell? ⟨12, 0, none⟩ = some (.iface 220 (.agg #[.pointer (some ⟨21, 31, none⟩)])) := by
 obtain ⟨name, u, ty, e1, e2, e3, e4, e5⟩ := h _ (List.mem_singleton.2 rfl)
 have en : name = [101, 114, 114, 111, 114] := (Option.some.inj e1).symm
 subst en
 obtain rfl := Option.some.inj (rt.symm.trans e2)
 have hm : ty ∈ (List.range 348).filter fun t => Tryz.prog.rowNamed t [101, 114, 114, 111, 114] := List.mem_filter.2 ⟨List.mem_range.2 (by rw [← tsize]; exact e3), e4⟩
 rw [oneRow] at hm
 obtain rfl := List.mem_singleton.1 hm
 have hh : typeHandle Tryz.prog 31 = .pointer (some ⟨21, 31, none⟩) := by kernel_rfl
 rw [hh] at e5
 simpa using World.var?_cell et e5 0
theorem sent_ne {g g' : Nat} {a a' : Addr} {l l' : List UInt8} {w : World} (h : Sent g a l w) (h' : Sent g' a' l' w) (hne : l ≠ l') : a ≠ a' := by
 rintro rfl
 obtain ⟨s, hs, ht⟩ := h.text
 obtain ⟨s', hs', ht'⟩ := h'.text
 rw [hs] at hs'
 injection hs' with hs'
 injection hs' with hs'
 subst hs'
 exact hne (ht.symm.trans ht')
theorem laidMet_over {P : Program} {w0 : World} {laid : List (String × DataW Unit)} (args : Array Value)
  (hf : w0.layFits P laid [] = true) (hi : w0.layIfaces P laid (w0.layVars P laid) = true) :
  laidMet P laid ((w0.layVars P laid).forCall (fun _ _ => 0) ⟨#[], args, []⟩).memory := by
 have e1 : (laid.filter fun x => (laid.map (·.1)).contains x.1) = laid := List.filter_eq_self.2 fun x hx => List.contains_iff_mem.2 (List.mem_map.2 ⟨x, hx, rfl⟩)
 have e2 : (laid.filter fun x => !(laid.map (·.1)).contains x.1) = [] := List.filter_eq_nil_iff.2 fun x hx => by rw [List.contains_iff_mem.2 (List.mem_map.2 ⟨x, hx, rfl⟩)]; simp
 have h : laidMet P laid (w0.layVars P laid) := laidMet_layVars (w0 := w0) (laid.map (·.1)) [] (by rw [e1]) (by rw [e1]; exact hf) (by rw [e1]; exact hi) (by rw [e2]; exact LaidIn.none)
 exact h.of_heap (by simp [World.memory, World.forCall, Input.heap])
end Go.Proofs.YteaalifehokgoaaGreatDoor
namespace Go.Proofs.YteaalifehokgoaaGreatDoor
open Go.RowKit Go.WideShapes Go.ChangeShapes
theorem args_of {args : Array Value} {l : List Value} (h : args.toList = l) : args = l.toArray := by
 cases args
 subst h
 rfl
section
variable {H : Type} {enc : TypeId × Value → H} {P : Program}
theorem below_trodAll (hl : laidOutB P = true) {W W' : World} (hb : Below W.heap.size W W') : ∀ {ts : List TypeId} {vs : List Value} {ds : List (DataW H)} {ps : List MemPlace},
  (ts.all fun t => P.readableRec t && decide (t < P.types.size)) = true → (∀ x ∈ ps, x.block < W.heap.size) → DataW.TrodAll enc P W 0 (fun _ => true) true ts vs ds ps →
  DataW.TrodAll enc P W' 0 (fun b => decide (b < W.heap.size)) true ts vs ds ps
 |[], vs, ds, ps, _, _, h => by
  obtain ⟨rfl, rfl, rfl⟩ := trodAll_nil h
  exact trodAll_mk0
 |t :: ts, vs, ds, ps, hall, hlt, h => by
  obtain ⟨v, vs', d, ds', p, q, rfl, rfl, rfl, h1, h2⟩ := trodAll_cons h
  simp only [List.all_cons, Bool.and_eq_true, decide_eq_true_eq] at hall
  exact ⟨p, q, Below.trod hl hall.1.1 hall.1.2 h1 hb (fun x hx => hlt x (List.mem_append_left _ hx)),
   below_trodAll hl hb (by simpa using hall.2) (fun x hx => hlt x (List.mem_append_right _ hx)) h2, rfl⟩
theorem law_post {f : Func} {s : ChangeSpec} {W W' : World} {args : Array Value} {ds gs : List (DataW H)} {before : List MemPlace} {bt : TypeId}
  (hl : laidOutB P = true) (hrd : (f.params.toList.all fun t => P.readableRec t && decide (t < P.types.size)) = true)
  (hW : DataW.Whole enc P f.params.toList s.vars false W args.toList ds gs before) (hv : s.vars = []) (hgs : gs = [])
  (hfn : s.fn H (ds ++ gs) = { results := [.lit (.bool true)], args := ds }) (hrt : f.resultTypes = #[bt]) (hbt : P.underlying bt = some .bool)
  (hb : Below W.heap.size W W') : s.post enc P f false true false false W args (.bool true) W' := by
 have hlt : ∀ p ∈ before, p.block < W.heap.size := fun p hp => hW.lt p hp
 have hW' := hW
 obtain ⟨p, q, hA, hV, rfl, _, _⟩ := hW
 refine ⟨ds, gs, p ++ q, [], p, [], hW', ?_, ?_, ?_, ?_, fun h => by cases h⟩
 ·rw [hfn, hrt]
  exact trodAll_mk1 (shut_bool hbt true)
 ·rw [hfn]
  exact below_trodAll hl hb hrd (fun x hx => hlt x (List.mem_append_left _ hx)) hA
 ·rw [hfn, hv]
  rfl
 ·have hq : q = [] := by
   rw [hv, hgs] at hV
   exact hV
  subst hq
  exact World.keptBut_mono (fun x hx => ⟨hx, Or.inr (Or.inl (by simpa using hx))⟩) (hb.frame (· ∈ p ++ []))
end
end Go.Proofs.YteaalifehokgoaaGreatDoor
namespace Go.Proofs.YteaalifehokgoaaGreatDoor
open Go.RowKit
def textNo (l : List UInt8) : Nat :=
 if l = [116, 105, 116, 104, 101, 98, 97, 114, 110, 58, 32, 116, 101, 120, 116] then 1 else
 if l = [116, 105, 116, 104, 101, 98, 97, 114, 110, 58, 32, 98, 111, 117, 110, 100] then 2 else
 if l = [116, 105, 116, 104, 101, 98, 97, 114, 110, 58, 32, 115, 104, 97, 112, 101] then 3 else
 if l = [116, 105, 116, 104, 101, 98, 97, 114, 110, 58, 32, 107, 105, 110, 100] then 4 else
 if l = [116, 105, 116, 104, 101, 98, 97, 114, 110, 58, 32, 110, 97, 109, 101] then 5 else
 if l = [116, 105, 116, 104, 101, 98, 97, 114, 110, 58, 32, 110, 111, 110, 101] then 6 else
 if l = [116, 105, 116, 104, 101, 98, 97, 114, 110, 58, 32, 101, 120, 105, 115, 116] then 7 else
 if l = [116, 105, 116, 104, 101, 98, 97, 114, 110, 58, 32, 102, 117, 108, 108] then 8 else
 if l = [116, 105, 116, 104, 101, 98, 97, 114, 110, 58, 32, 115, 104, 111, 114, 116] then 9 else
 if l = [116, 105, 116, 104, 101, 98, 97, 114, 110, 58, 32, 111, 114, 100, 101, 114] then 10 else
 if l = [116, 105, 116, 104, 101, 98, 97, 114, 110, 58, 32, 115, 116, 97, 116, 101] then 11 else
 if l = [116, 105, 116, 104, 101, 98, 97, 114, 110, 58, 32, 111, 102, 102] then 12 else 0
theorem errG_of {W : World} {a1 a2 a3 a4 a5 a6 a7 a8 a9 a10 a11 a12 : Addr}
  (h1 : Sent 1 a1 [116, 105, 116, 104, 101, 98, 97, 114, 110, 58, 32, 116, 101, 120, 116] W)
  (h2 : Sent 0 a2 [116, 105, 116, 104, 101, 98, 97, 114, 110, 58, 32, 98, 111, 117, 110, 100] W)
  (h3 : Sent 2 a3 [116, 105, 116, 104, 101, 98, 97, 114, 110, 58, 32, 115, 104, 97, 112, 101] W)
  (h4 : Sent 3 a4 [116, 105, 116, 104, 101, 98, 97, 114, 110, 58, 32, 107, 105, 110, 100] W)
  (h5 : Sent 4 a5 [116, 105, 116, 104, 101, 98, 97, 114, 110, 58, 32, 110, 97, 109, 101] W)
  (h6 : Sent 5 a6 [116, 105, 116, 104, 101, 98, 97, 114, 110, 58, 32, 110, 111, 110, 101] W)
  (h7 : Sent 6 a7 [116, 105, 116, 104, 101, 98, 97, 114, 110, 58, 32, 101, 120, 105, 115, 116] W)
  (h8 : Sent 7 a8 [116, 105, 116, 104, 101, 98, 97, 114, 110, 58, 32, 102, 117, 108, 108] W)
  (h9 : Sent 8 a9 [116, 105, 116, 104, 101, 98, 97, 114, 110, 58, 32, 115, 104, 111, 114, 116] W)
  (h10 : Sent 9 a10 [116, 105, 116, 104, 101, 98, 97, 114, 110, 58, 32, 111, 114, 100, 101, 114] W)
  (h11 : Sent 10 a11 [116, 105, 116, 104, 101, 98, 97, 114, 110, 58, 32, 115, 116, 97, 116, 101] W)
  (h12 : Sent 11 a12 [116, 105, 116, 104, 101, 98, 97, 114, 110, 58, 32, 111, 102, 102] W)
  (hty : W.cell? ⟨12, 0, none⟩ = some (.iface 220 (.agg #[.pointer (some ⟨21, 31, none⟩)]))) :
  ErrG (fun k => if k = 1 then a1 else if k = 2 then a2 else if k = 3 then a3 else if k = 4 then a4 else if k = 5 then a5 else if k = 6 then a6 else if k = 7 then a7 else if k = 8 then a8 else if k = 9 then a9 else if k = 10 then a10 else if k = 11 then a11 else a12) W := by
 refine ⟨?_, ?_, ?_, hty⟩
 ·intro k k1 k2
  rcases (show k = 1 ∨ k = 2 ∨ k = 3 ∨ k = 4 ∨ k = 5 ∨ k = 6 ∨ k = 7 ∨ k = 8 ∨ k = 9 ∨ k = 10 ∨ k = 11 ∨ k = 12 by omega) with rfl | rfl | rfl | rfl | rfl | rfl | rfl | rfl | rfl | rfl | rfl | rfl
  ·exact h1.at_
  ·exact h2.at_
  ·exact h3.at_
  ·exact h4.at_
  ·exact h5.at_
  ·exact h6.at_
  ·exact h7.at_
  ·exact h8.at_
  ·exact h9.at_
  ·exact h10.at_
  ·exact h11.at_
  ·exact h12.at_
 ·intro k k1 k2
  rcases (show k = 1 ∨ k = 2 ∨ k = 3 ∨ k = 4 ∨ k = 5 ∨ k = 6 ∨ k = 7 ∨ k = 8 ∨ k = 9 ∨ k = 10 ∨ k = 11 ∨ k = 12 by omega) with rfl | rfl | rfl | rfl | rfl | rfl | rfl | rfl | rfl | rfl | rfl | rfl
  ·exact h1.row
  ·exact h2.row
  ·exact h3.row
  ·exact h4.row
  ·exact h5.row
  ·exact h6.row
  ·exact h7.row
  ·exact h8.row
  ·exact h9.row
  ·exact h10.row
  ·exact h11.row
  ·exact h12.row
 ·have T : ∀ k, 1 ≤ k → k ≤ 12 → ∃ g l, Sent g ((fun k => if k = 1 then a1 else if k = 2 then a2 else if k = 3 then a3 else if k = 4 then a4 else if k = 5 then a5 else if k = 6 then a6 else if k = 7 then a7 else if k = 8 then a8 else if k = 9 then a9 else if k = 10 then a10 else if k = 11 then a11 else a12) k) l W ∧ textNo l = k := by
   intro k k1 k2
   rcases (show k = 1 ∨ k = 2 ∨ k = 3 ∨ k = 4 ∨ k = 5 ∨ k = 6 ∨ k = 7 ∨ k = 8 ∨ k = 9 ∨ k = 10 ∨ k = 11 ∨ k = 12 by omega) with rfl | rfl | rfl | rfl | rfl | rfl | rfl | rfl | rfl | rfl | rfl | rfl
   ·exact ⟨_, _, h1, by decide⟩
   ·exact ⟨_, _, h2, by decide⟩
   ·exact ⟨_, _, h3, by decide⟩
   ·exact ⟨_, _, h4, by decide⟩
   ·exact ⟨_, _, h5, by decide⟩
   ·exact ⟨_, _, h6, by decide⟩
   ·exact ⟨_, _, h7, by decide⟩
   ·exact ⟨_, _, h8, by decide⟩
   ·exact ⟨_, _, h9, by decide⟩
   ·exact ⟨_, _, h10, by decide⟩
   ·exact ⟨_, _, h11, by decide⟩
   ·exact ⟨_, _, h12, by decide⟩
  intro i j i1 i2 j1 j2 he
  obtain ⟨g, l, s, e⟩ := T i i1 i2
  obtain ⟨g', l', s', e'⟩ := T j j1 j2
  rcases Decidable.em (l = l') with hl | hl
  ·rw [← e, ← e', hl]
  ·exact absurd he (sent_ne s s' hl)
end Go.Proofs.YteaalifehokgoaaGreatDoor
