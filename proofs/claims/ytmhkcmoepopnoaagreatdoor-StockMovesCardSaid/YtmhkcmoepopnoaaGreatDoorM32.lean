/- A slice of acts on a stock that comes in as an argument, opened. Printed by gen/opener.py. Structs that come in as arguments by value, opened. Printed by gen/opener (frame's kin). The row's last step for a statement that answers true and only adds to memory: each argument reads as it did. -/
import Derived.Deep.Slices
import Derived.OpenShut
import Derived.SliceStrings
import Derived.Below
import Derived.Carry
import Derived.ChangeSame
import Derived.Test.YtmhkcmoepopnoaaGreatDoorM05
import Derived.Test.YtmhkcmoepopnoaaGreatDoorM30
namespace Go.Proofs.YtmhkcmoepopnoaaGreatDoor
open Go.RowKit Go.Sort Go.Proofs Go.ChangeShapes Go.WideShapes Go.Deep

set_option maxRecDepth 100000 in
set_option maxHeartbeats 1600000 in
theorem acts_of {H : Type} {enc : TypeId × Value → H} {W : World} {base : Nat} {v : Value} {d : DataW H} {p : List MemPlace} (hval : Value.okWide Tryz.prog W .any base 22 v)
    (h : DataW.Trod enc Tryz.prog W 0 (fun _ => true) true 22 v d p) : ∃ A cap xs, v = .slice A (List.length xs) cap ∧ RowAt encAct 9 W A xs := by
  obtain ⟨A, len, cap, rfl⟩ := okWide_slice Tryz.underlying22 hval
  obtain ⟨fuel, hf⟩ := h
  rcases open_slice Tryz.underlying22 hf with ⟨hcs, _⟩ | ⟨a, len', cap', m, n, D, Pl, hcs, _, hl, _, hm, _, hall⟩
  · simp [Value.cells] at hcs
    obtain ⟨rfl, rfl, rfl⟩ := hcs
    exact ⟨none, 0, [], rfl, .inl rfl⟩
  · simp [Value.cells] at hcs
    obtain ⟨rfl, rfl, rfl⟩ := hcs
    simp only [if_true] at hm
    have each : ∀ i, i < len → ∃ q : ActV, (∀ c u, (encAct q)[c]? = some u → W.cell? ((a.add (i * 9)).add c) = some u) := by
      intro i hi
      obtain ⟨cs, k1, g⟩ := hall i (by omega)
      rw [show Tryz.prog.cellsOf 32 = 9 by kernel_rfl] at k1
      obtain ⟨_, hlen, hcell⟩ := World.cells?_some k1
      obtain ⟨yg, ng, _, _, _, hlg, hg⟩ := DataW.trod_struct Tryz.underlying32 g
      have hlg : yg.length = 5 := hlg
      have g_0 := hg 0 _ rfl
      have g_1 := hg 1 _ rfl
      have g_2 := hg 2 _ rfl
      have g_3 := hg 3 _ rfl
      have g_4 := hg 4 _ rfl
      rw [List.getElem?_eq_getElem (by omega)] at g_0 g_1 g_2 g_3 g_4
      obtain ⟨s0, e0, _, wf0⟩ := DataW.trod_string Tryz.underlying9 g_0
      obtain ⟨yg_1, ng_1, _, _, _, hlg_1, hg_1⟩ := DataW.trod_struct Tryz.underlying24 g_1
      have hlg_1 : yg_1.length = 3 := hlg_1
      have g_1_0 := hg_1 0 _ rfl
      have g_1_1 := hg_1 1 _ rfl
      have g_1_2 := hg_1 2 _ rfl
      rw [List.getElem?_eq_getElem (by omega)] at g_1_0 g_1_1 g_1_2
      obtain ⟨s1, e1, _, wf1⟩ := DataW.trod_string Tryz.underlying9 g_1_0
      obtain ⟨n2, e2, _, wf2⟩ := DataW.trod_int Tryz.underlying3 g_1_1
      obtain ⟨n3, e3, _, wf3⟩ := DataW.trod_int Tryz.underlying3 g_1_2
      obtain ⟨yg_2, ng_2, _, _, _, hlg_2, hg_2⟩ := DataW.trod_struct Tryz.underlying24 g_2
      have hlg_2 : yg_2.length = 3 := hlg_2
      have g_2_0 := hg_2 0 _ rfl
      have g_2_1 := hg_2 1 _ rfl
      have g_2_2 := hg_2 2 _ rfl
      rw [List.getElem?_eq_getElem (by omega)] at g_2_0 g_2_1 g_2_2
      obtain ⟨s4, e4, _, wf4⟩ := DataW.trod_string Tryz.underlying9 g_2_0
      obtain ⟨n5, e5, _, wf5⟩ := DataW.trod_int Tryz.underlying3 g_2_1
      obtain ⟨n6, e6, _, wf6⟩ := DataW.trod_int Tryz.underlying3 g_2_2
      obtain ⟨s7, e7, _, wf7⟩ := DataW.trod_string Tryz.underlying9 g_3
      obtain ⟨n8, e8, _, wf8⟩ := DataW.trod_int Tryz.underlying3 g_4
      match cs, hlen with
      | [v0, v1, v2, v3, v4, v5, v6, v7, v8], _ =>
        have e0 : List.take (Tryz.prog.cellsOf 9) (List.drop 0 ([v0, v1, v2, v3, v4, v5, v6, v7, v8])) = [.string s0] := e0
        rw [show Tryz.prog.cellsOf 9 = 1 by kernel_rfl] at e0
        have e1 : List.take (Tryz.prog.cellsOf 9) (List.drop 0 (List.take (Tryz.prog.cellsOf 24) (List.drop 1 ([v0, v1, v2, v3, v4, v5, v6, v7, v8])))) = [.string s1] := e1
        rw [show Tryz.prog.cellsOf 24 = 3 by kernel_rfl, show Tryz.prog.cellsOf 9 = 1 by kernel_rfl] at e1
        have e2 : List.take (Tryz.prog.cellsOf 3) (List.drop 1 (List.take (Tryz.prog.cellsOf 24) (List.drop 1 ([v0, v1, v2, v3, v4, v5, v6, v7, v8])))) = [.int .i64 n2] := e2
        rw [show Tryz.prog.cellsOf 24 = 3 by kernel_rfl, show Tryz.prog.cellsOf 3 = 1 by kernel_rfl] at e2
        have e3 : List.take (Tryz.prog.cellsOf 3) (List.drop 2 (List.take (Tryz.prog.cellsOf 24) (List.drop 1 ([v0, v1, v2, v3, v4, v5, v6, v7, v8])))) = [.int .i64 n3] := e3
        rw [show Tryz.prog.cellsOf 24 = 3 by kernel_rfl, show Tryz.prog.cellsOf 3 = 1 by kernel_rfl] at e3
        have e4 : List.take (Tryz.prog.cellsOf 9) (List.drop 0 (List.take (Tryz.prog.cellsOf 24) (List.drop 4 ([v0, v1, v2, v3, v4, v5, v6, v7, v8])))) = [.string s4] := e4
        rw [show Tryz.prog.cellsOf 24 = 3 by kernel_rfl, show Tryz.prog.cellsOf 9 = 1 by kernel_rfl] at e4
        have e5 : List.take (Tryz.prog.cellsOf 3) (List.drop 1 (List.take (Tryz.prog.cellsOf 24) (List.drop 4 ([v0, v1, v2, v3, v4, v5, v6, v7, v8])))) = [.int .i64 n5] := e5
        rw [show Tryz.prog.cellsOf 24 = 3 by kernel_rfl, show Tryz.prog.cellsOf 3 = 1 by kernel_rfl] at e5
        have e6 : List.take (Tryz.prog.cellsOf 3) (List.drop 2 (List.take (Tryz.prog.cellsOf 24) (List.drop 4 ([v0, v1, v2, v3, v4, v5, v6, v7, v8])))) = [.int .i64 n6] := e6
        rw [show Tryz.prog.cellsOf 24 = 3 by kernel_rfl, show Tryz.prog.cellsOf 3 = 1 by kernel_rfl] at e6
        have e7 : List.take (Tryz.prog.cellsOf 9) (List.drop 7 ([v0, v1, v2, v3, v4, v5, v6, v7, v8])) = [.string s7] := e7
        rw [show Tryz.prog.cellsOf 9 = 1 by kernel_rfl] at e7
        have e8 : List.take (Tryz.prog.cellsOf 3) (List.drop 8 ([v0, v1, v2, v3, v4, v5, v6, v7, v8])) = [.int .i64 n8] := e8
        rw [show Tryz.prog.cellsOf 3 = 1 by kernel_rfl] at e8
        obtain rfl : v0 = .string s0 := by simpa [Value.cells] using e0
        obtain rfl : v1 = .string s1 := by simpa [Value.cells] using e1
        obtain rfl : v2 = .int .i64 n2 := by simpa [Value.cells] using e2
        obtain rfl : v3 = .int .i64 n3 := by simpa [Value.cells] using e3
        obtain rfl : v4 = .string s4 := by simpa [Value.cells] using e4
        obtain rfl : v5 = .int .i64 n5 := by simpa [Value.cells] using e5
        obtain rfl : v6 = .int .i64 n6 := by simpa [Value.cells] using e6
        obtain rfl : v7 = .string s7 := by simpa [Value.cells] using e7
        obtain rfl : v8 = .int .i64 n8 := by simpa [Value.cells] using e8
        refine ⟨(s0.data.toList, (s1.data.toList, n2, n3), (s4.data.toList, n5, n6), s7.data.toList, n8), fun c u hc => ?_⟩
        have hlt : c < 9 := (List.getElem?_eq_some_iff.1 hc).1
        rw [hcell c hlt, ← hc]
        rfl
    obtain ⟨q, hq⟩ := choose_lt each
    have hxs : ((List.range len).map q).length = len := by simp
    refine ⟨some a, cap, (List.range len).map q, by rw [hxs], ?_⟩
    rcases Nat.eq_zero_or_pos len with h0 | h0
    · subst h0; exact .inl (by simp)
    · obtain ⟨ab, ao, spot⟩ := a
      have hspot : spot = none := by simpa [Addr.add] using World.cell?_spot (hq 0 h0 0 _ rfl)
      subst hspot
      refine .inr ⟨ab, ao, rfl, ?_, fun i hi c u hc => ?_⟩
      · have := hq 0 h0 0 _ rfl
        rw [Addr.add_lit, Addr.add_lit] at this
        exact lt_of_cell this
      · rw [hxs] at hi
        have := hq i hi c u (by simpa using hc)
        rw [Addr.add_lit, Addr.add_lit] at this
        exact this
end Go.Proofs.YtmhkcmoepopnoaaGreatDoor
namespace Go.Proofs.YtmhkcmoepopnoaaGreatDoor
open Go.RowKit Go.Proofs Go.ChangeShapes Go.WideShapes Go.Deep

set_option maxRecDepth 100000 in
theorem place_of {H : Type} {enc : TypeId × Value → H} {W : World} {base : Nat} {v : Value} {d : DataW H} {p : List MemPlace} (hval : Value.okWide Tryz.prog W .any base 24 v)
    (h : DataW.Trod enc Tryz.prog W 0 (fun _ => true) true 24 v d p) : ∃ x : PlaceV, v = .agg (encPlace x).toArray := by
  obtain ⟨cs, rfl, hsz⟩ := okWide_struct Tryz.underlying24 hval
  obtain ⟨l⟩ := cs
  have hsz : l.length = 3 := hsz.trans (by kernel_rfl)
  obtain ⟨fuel, hf⟩ := h
  obtain ⟨ys, n', _, _, _, hyl, hfs⟩ := DataW.trod_struct Tryz.underlying24 hf
  have hyl : ys.length = 3 := hyl
  match l, hsz with
  | [v0, v1, v2], _ =>
    have g0 := hfs 0 _ rfl
    have g1 := hfs 1 _ rfl
    have g2 := hfs 2 _ rfl
    rw [List.getElem?_eq_getElem (by omega)] at g0 g1 g2
    obtain ⟨s0, e0, _, _⟩ := DataW.trod_string Tryz.underlying9 g0
    obtain ⟨s1, e1, _, _⟩ := DataW.trod_int Tryz.underlying3 g1
    obtain ⟨s2, e2, _, _⟩ := DataW.trod_int Tryz.underlying3 g2
    have e0 : List.take (Tryz.prog.cellsOf 9) (List.drop 0 (Value.agg #[v0, v1, v2]).cells.toList) = [.string s0] := e0
    rw [show Tryz.prog.cellsOf 9 = 1 by kernel_rfl] at e0
    have e1 : List.take (Tryz.prog.cellsOf 3) (List.drop 1 (Value.agg #[v0, v1, v2]).cells.toList) = [.int .i64 s1] := e1
    rw [show Tryz.prog.cellsOf 3 = 1 by kernel_rfl] at e1
    have e2 : List.take (Tryz.prog.cellsOf 3) (List.drop 2 (Value.agg #[v0, v1, v2]).cells.toList) = [.int .i64 s2] := e2
    rw [show Tryz.prog.cellsOf 3 = 1 by kernel_rfl] at e2
    simp only [Value.cells] at e0 e1 e2
    obtain rfl : v0 = .string s0 := (List.cons.inj e0).1
    obtain rfl : v1 = .int .i64 s1 := (List.cons.inj e1).1
    obtain rfl : v2 = .int .i64 s2 := (List.cons.inj e2).1
    exact ⟨(s0.data.toList, s1, s2), rfl⟩
end Go.Proofs.YtmhkcmoepopnoaaGreatDoor
namespace Go.Proofs.YtmhkcmoepopnoaaGreatDoor
open Go.RowKit Go.WideShapes Go.ChangeShapes

theorem args_of {args : Array Value} {l : List Value} (h : args.toList = l) : args = l.toArray := by
  cases args
  subst h
  rfl

section
variable {H : Type} {enc : TypeId × Value → H} {P : Program}

theorem below_trodAll (hl : laidOutB P = true) {W W' : World} (hb : Below W.heap.size W W') : ∀ {ts : List TypeId} {vs : List Value} {ds : List (DataW H)} {ps : List MemPlace},
    (ts.all fun t => P.readableRec t && decide (t < P.types.size)) = true → (∀ x ∈ ps, x.block < W.heap.size) → DataW.TrodAll enc P W 0 (fun _ => true) true ts vs ds ps →
    DataW.TrodAll enc P W' 0 (fun b => decide (b < W.heap.size)) true ts vs ds ps
  | [], vs, ds, ps, _, _, h => by
    obtain ⟨rfl, rfl, rfl⟩ := trodAll_nil h
    exact trodAll_mk0
  | t :: ts, vs, ds, ps, hall, hlt, h => by
    obtain ⟨v, vs', d, ds', p, q, rfl, rfl, rfl, h1, h2⟩ := trodAll_cons h
    simp only [List.all_cons, Bool.and_eq_true, decide_eq_true_eq] at hall
    exact ⟨p, q, Below.trod hl hall.1.1 hall.1.2 h1 hb (fun x hx => hlt x (List.mem_append_left _ hx)),
      below_trodAll hl hb (by simpa using hall.2) (fun x hx => hlt x (List.mem_append_right _ hx)) h2, rfl⟩

theorem law_post {f : Func} {s : ChangeSpec} {W W' : World} {args : Array Value} {ds gs : List (DataW H)} {before : List MemPlace} {bt : TypeId}
    (hl : laidOutB P = true) (hrd : (f.params.toList.all fun t => P.readableRec t && decide (t < P.types.size)) = true)
    (hW : DataW.Whole enc P f.params.toList s.vars false W args.toList ds gs before) (hv : s.vars = []) (hgs : gs = [])
    (hfn : s.fn H (ds ++ gs) = { results := [.lit (.bool true)], args := ds }) (hrt : f.resultTypes = #[bt]) (hbt : P.underlying bt = some .bool)
    (hb : Below W.heap.size W W') : s.post enc P f false true false false W args (.bool true) W' := by
  have hlt : ∀ p ∈ before, p.block < W.heap.size := fun p hp => hW.lt p hp
  have hW' := hW
  obtain ⟨p, q, hA, hV, rfl, _, _⟩ := hW
  refine ⟨ds, gs, p ++ q, [], p, [], hW', ?_, ?_, ?_, ?_, fun h => by cases h⟩
  · rw [hfn, hrt]
    exact trodAll_mk1 (shut_bool hbt true)
  · rw [hfn]
    exact below_trodAll hl hb hrd (fun x hx => hlt x (List.mem_append_left _ hx)) hA
  · rw [hfn, hv]
    rfl
  · have hq : q = [] := by
      rw [hv, hgs] at hV
      exact hV
    subst hq
    exact World.keptBut_mono (fun x hx => ⟨hx, Or.inr (Or.inl (by simpa using hx))⟩) (hb.frame (· ∈ p ++ []))
end
end Go.Proofs.YtmhkcmoepopnoaaGreatDoor
