/- The closed fact on lots; a slice of lots that comes in as an argument, opened. -/
import Derived.Test.YtchamhjckindiaaDoorLotT
import Derived.Test.YtchamhjckindiaaDoorLots
import Derived.Deep.Slices
import Derived.OpenShut
import Derived.SliceStrings
namespace Go.Proofs.YtchamhjckindiaaDoor
open Go.RowKit Go.Sort Go.Proofs Go.ChangeShapes Go.WideShapes Go.Deep

theorem lotText_one : lotText ([108, 49], [114, 121, 101], 30, 5) = [108, 49, 32, 114, 121, 101, 32, 51, 48, 32, 53] := by
  have h : lotE ([108, 49], [114, 121, 101], 30, 5) = 0 := by decide
  unfold lotText
  rw [if_pos h]
  have h1 : Lib.itoa 30 = [51, 48] := by
    unfold Lib.itoa
    rw [if_neg (by omega), show (30 : Int).toNat = 30 from rfl, Lib.decDigits_two (by omega) (by omega)]
    rfl
  have h2 : Lib.itoa 5 = [53] := by
    unfold Lib.itoa
    rw [if_neg (by omega), show (5 : Int).toNat = 5 from rfl, Lib.decDigits_one (by omega)]
    rfl
  rw [h1, h2]
  rfl

set_option maxHeartbeats 400000 in
theorem lotted_any (E : Nat → Addr) (w : World) (hG : LotG E w) : Calls Tryd.prog 16 #[] w fun e w' => e = .returned (.bool true) ∧ Below w.heap.size w w' := by
  have h := textLot_any E ([108, 49], [114, 121, 101], 30, 5) (by simp) (by simp) w hG
  rw [lotText_one] at h
  simp only [encLot] at h
  have H := Lib.hid h
  clear h
  go_enter Tryd.func16, Tryd.ntmps16
  go_wp2_with fail
  refine H.out.mono ?_
  rintro e w1 ⟨rfl, b1⟩
  go_wp2
  go_ret
  exact ⟨rfl, b1⟩

set_option maxRecDepth 100000 in
theorem lots_of {H : Type} {enc : TypeId × Value → H} {W : World} {base : Nat} {v : Value} {d : DataW H} {p : List MemPlace} (hval : Value.okWide Tryd.prog W .any base 41 v)
    (h : DataW.Trod enc Tryd.prog W 0 (fun _ => true) true 41 v d p) : ∃ A cap xs, v = .slice A (List.length xs) cap ∧ RowAt encLot 4 W A xs := by
  obtain ⟨A, len, cap, rfl⟩ := okWide_slice Tryd.underlying41 hval
  obtain ⟨fuel, hf⟩ := h
  rcases open_slice Tryd.underlying41 hf with ⟨hcs, _⟩ | ⟨a, len', cap', m, n, D, Pl, hcs, _, hl, _, hm, _, hall⟩
  · simp [Value.cells] at hcs
    obtain ⟨rfl, rfl, rfl⟩ := hcs
    exact ⟨none, 0, [], rfl, .inl rfl⟩
  · simp [Value.cells] at hcs
    obtain ⟨rfl, rfl, rfl⟩ := hcs
    simp only [if_true] at hm
    have each : ∀ i, i < len → ∃ q : LotV, ∀ c u, (encLot q)[c]? = some u → W.cell? ((a.add (i * 4)).add c) = some u := by
      intro i hi
      obtain ⟨cs, k1, k2⟩ := hall i (by omega)
      rw [show Tryd.prog.cellsOf 44 = 4 by kernel_rfl] at k1
      obtain ⟨_, hlen, hcell⟩ := World.cells?_some k1
      obtain ⟨ys, n', _, _, _, hyl, hfs⟩ := DataW.trod_struct Tryd.underlying44 k2
      have hyl : ys.length = 4 := hyl
      have g0 := hfs 0 _ rfl
      have g1 := hfs 1 _ rfl
      have g2 := hfs 2 _ rfl
      have g3 := hfs 3 _ rfl
      rw [List.getElem?_eq_getElem (by omega)] at g0 g1 g2 g3
      obtain ⟨s0, e0, _, _⟩ := DataW.trod_string Tryd.underlying9 g0
      obtain ⟨s1, e1, _, _⟩ := DataW.trod_string Tryd.underlying9 g1
      obtain ⟨n2, e2, _, _⟩ := DataW.trod_int Tryd.underlying3 g2
      obtain ⟨n3, e3, _, _⟩ := DataW.trod_int Tryd.underlying3 g3
      match cs, hlen with
      | [v0, v1, v2, v3], _ =>
        have e0 : List.take (Tryd.prog.cellsOf 9) (List.drop 0 [v0, v1, v2, v3]) = [.string s0] := e0
        have e1 : List.take (Tryd.prog.cellsOf 9) (List.drop 1 [v0, v1, v2, v3]) = [.string s1] := e1
        have e2 : List.take (Tryd.prog.cellsOf 3) (List.drop 2 [v0, v1, v2, v3]) = [.int .i64 n2] := e2
        have e3 : List.take (Tryd.prog.cellsOf 3) (List.drop 3 [v0, v1, v2, v3]) = [.int .i64 n3] := e3
        rw [show Tryd.prog.cellsOf 9 = 1 by kernel_rfl] at e0 e1
        rw [show Tryd.prog.cellsOf 3 = 1 by kernel_rfl] at e2 e3
        obtain rfl : v0 = .string s0 := (List.cons.inj e0).1
        obtain rfl : v1 = .string s1 := (List.cons.inj e1).1
        obtain rfl : v2 = .int .i64 n2 := (List.cons.inj e2).1
        obtain rfl : v3 = .int .i64 n3 := (List.cons.inj e3).1
        refine ⟨(s0.data.toList, s1.data.toList, n2, n3), fun c u hc => ?_⟩
        have hlt : c < 4 := (List.getElem?_eq_some_iff.1 hc).1
        rw [hcell c hlt, ← hc]
        rfl
    obtain ⟨q, hq⟩ := choose_lt each
    have hxs : ((List.range len).map q).length = len := by simp
    refine ⟨some a, cap, (List.range len).map q, by rw [hxs], ?_⟩
    rcases Nat.eq_zero_or_pos len with h0 | h0
    · subst h0; exact .inl (by simp)
    · obtain ⟨ab, ao, spot⟩ := a
      have hspot : spot = none := by simpa [Addr.add] using World.cell?_spot (hq 0 h0 0 _ rfl)
      subst hspot
      refine .inr ⟨ab, ao, rfl, ?_, fun i hi c u hc => ?_⟩
      · have := hq 0 h0 0 _ rfl
        rw [Addr.add_lit, Addr.add_lit] at this
        exact lt_of_cell this
      · rw [hxs] at hi
        have := hq i hi c u (by simpa using hc)
        rw [Addr.add_lit, Addr.add_lit] at this
        exact this
end Go.Proofs.YtchamhjckindiaaDoor
