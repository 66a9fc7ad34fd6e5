/- A stock of the document: At, Of. -/
import Derived.Test.YteaalifehokgoaaGreatDoorM05
import Derived.Test.YteaalifehokgoaaGreatDoorM09
namespace Go.Proofs.YteaalifehokgoaaGreatDoor
open Go.RowKit Go.Sort Go.Proofs
def atL (l : List LineV) (p : PlaceV) (lot : List UInt8) : Int := match l.find? (isAt p lot) with | some x => x.2.2 | none => 0
theorem at_some {l : List LineV} {p : PlaceV} {lot : List UInt8} {i : Nat} (h : l.findIdx? (isAt p lot) = some i) : ∃ hi : i < l.length, fndI l p lot = i ∧ atL l p lot = l[i].2.2 := by
 obtain ⟨hi, h1, h2⟩ := List.findIdx?_eq_some_iff_getElem.1 h
 refine ⟨hi, by unfold fndI; rw [h], ?_⟩
 have : l.find? (isAt p lot) = some l[i] := List.find?_eq_some_iff_getElem.2 ⟨h1, i, hi, rfl, fun j hj => by simpa using h2 j hj⟩
 unfold atL
 rw [this]
theorem at_none {l : List LineV} {p : PlaceV} {lot : List UInt8} (h : l.findIdx? (isAt p lot) = none) : fndI l p lot = -1 ∧ atL l p lot = 0 := by
 refine ⟨by unfold fndI; rw [h], ?_⟩
 have : l.find? (isAt p lot) = none := List.find?_eq_none.2 fun x hx => by
  have := (List.findIdx?_eq_none_iff.1 h) x hx
  simpa using this
 unfold atL
 rw [this]
set_option maxHeartbeats 1600000 in
set_option maxRecDepth 100000 in
theorem refAt_any (A : Option Addr) (cap : Nat) (l : List LineV) (p : PlaceV) (lot : List UInt8) (w : World) (hrow : RowAt encLine 5 w A l) (hl : l.length ≤ 100000) :
  Calls Tryz.prog 125 #[.agg #[.slice A l.length cap], .agg (encPlace p).toArray, .string ⟨lot.toArray⟩] w fun e w' => e = .returned (.int .i64 (atL l p lot)) ∧ Below w.heap.size w w' := by
 have HFI := Lib.hid (fun W (hb : Below w.heap.size w W) => refFind_any A cap l p lot W (hrow.below hb) hl)
 obtain ⟨N, hN⟩ : ∃ N, N = l.length := ⟨_, rfl⟩
 have HN := Lib.hid hN
 have HROW := Lib.hid hrow
 have HB0 := Lib.hid (below_two w (.cells #[.slice A l.length cap] 69) (.cells (encPlace p).toArray 41))
 rw [← hN] at hl HB0 HFI ⊢
 cases hfi : l.findIdx? (isAt p lot) with
 |none =>
  obtain ⟨h1, h2⟩ := at_none hfi
  rw [h1] at HFI
  rw [h2]
  clear hfi h1 h2 hN hrow
  obtain ⟨p1, p2, p3⟩ := p
  simp only [encPlace] at HB0 HFI ⊢
  go_enter Tryz.func125, Tryz.ntmps125
  go_wp2_with fail
  refine (HFI.out _ HB0.out).mono ?_
  rintro e w1 ⟨rfl, b1⟩
  have B1 := Lib.hid (HB0.out.trans (b1.mono HB0.out.size))
  clear b1
  go_wp2_with fail
  go_ret
  exact ⟨rfl, B1.out⟩
 |some i =>
  obtain ⟨hi, h1, h2⟩ := at_some hfi
  rw [h1] at HFI
  rw [h2]
  obtain ⟨x, hx⟩ : ∃ x, x = l[i] := ⟨_, rfl⟩
  have hiN : i < N := by rw [hN]; exact hi
  obtain ⟨g, o, rfl, lg, cg⟩ := HROW.out.resolve_left (fun h => by rw [h] at hi; simp at hi)
  have hcl := cg i hi 4 (.int .i64 l[i].2.2) rfl
  rw [← hx] at hcl ⊢
  generalize x.2.2 = v at hcl ⊢
  clear hfi h1 h2 hN hrow hx x cg
  obtain ⟨p1, p2, p3⟩ := p
  simp only [encPlace] at HB0 HFI ⊢
  have hc0 := cell_of_row _ _ 0 _ _ _ (((below_one (w.alloc (.cells #[.slice (some ⟨g, o, none⟩) N cap] 69)) (.cells #[.string ⟨p1.toArray⟩, .int .i64 p2, .int .i64 p3] 41)).block w.heap.size (by simp)).trans (heap_alloc_new w (.cells #[.slice (some ⟨g, o, none⟩) N cap] 69)))
  have HC0 := Lib.hid hc0
  clear hc0
  go_enter Tryz.func125, Tryz.ntmps125
  go_wp2_with fail
  refine (HFI.out _ HB0.out).mono ?_
  rintro e w1 ⟨rfl, b1⟩
  have B1 := Lib.hid (HB0.out.trans (b1.mono HB0.out.size))
  have c0 : w1.cell? ⟨w.heap.size, 0, none⟩ = some (.slice (some ⟨g, o, none⟩) N cap) := (b1.cell (p := ⟨_, 0, none⟩) (by show w.heap.size < _; simp; omega)).trans HC0.out
  have c4 : w1.cell? ⟨g, o + i * 5 + 4, none⟩ = some (.int .i64 v) := (B1.out.cell (p := ⟨g, o + i * 5 + 4, none⟩) lg).trans hcl
  clear b1 HC0 HFI
  go_wp2_with fail
  go_ret
  exact ⟨rfl, B1.out⟩
def ofL : List LineV → List UInt8 → Int
 |[], _ => 0
 |x :: r, lot => (if x.2.1 = lot then x.2.2 else 0) + ofL r lot
theorem ofL_app (a b : List LineV) (lot : List UInt8) : ofL (a ++ b) lot = ofL a lot + ofL b lot := by
 induction a with
 |nil => simp [ofL]
 |cons x r ih => simp only [List.cons_append, ofL, ih]; omega
theorem ofL_take (l : List LineV) (k : Nat) (lot : List UInt8) (h : k < l.length) : ofL (l.take (k + 1)) lot = ofL (l.take k) lot + if l[k].2.1 = lot then l[k].2.2 else 0 := by
 rw [List.take_succ_eq_append_getElem h, ofL_app]
 simp [ofL]
theorem ofL_nonneg {l : List LineV} (h : ∀ x ∈ l, 0 ≤ x.2.2) (lot : List UInt8) : 0 ≤ ofL l lot := by
 induction l with
 |nil => simp [ofL]
 |cons x r ih =>
  have h1 := h x (by simp)
  have h2 := ih fun y hy => h y (by simp [hy])
  simp only [ofL]
  split <;> omega
theorem ofL_take_le {l : List LineV} (h : ∀ x ∈ l, 0 ≤ x.2.2) (lot : List UInt8) (k : Nat) : ofL (l.take k) lot ≤ ofL l lot := by
 have e : ofL l lot = ofL (l.take k) lot + ofL (l.drop k) lot := by rw [← ofL_app, List.take_append_drop]
 have := ofL_nonneg (l := l.drop k) (fun x hx => h x (List.mem_of_mem_drop hx)) lot
 omega
set_option maxHeartbeats 1600000 in
set_option maxRecDepth 100000 in
theorem refOf_any (A : Option Addr) (cap : Nat) (l : List LineV) (lot : List UInt8) (w : World) (hrow : RowAt encLine 5 w A l) (hl : l.length ≤ 100000) (hpos : ∀ x ∈ l, 0 ≤ x.2.2) (hs : ofL l lot ≤ 4611686018427387904) :
  Calls Tryz.prog 61 #[.agg #[.slice A l.length cap], .string ⟨lot.toArray⟩] w fun e w' => e = .returned (.int .i64 (ofL l lot)) ∧ Below w.heap.size w w' := by
 obtain ⟨N, hN⟩ : ∃ N, N = l.length := ⟨_, rfl⟩
 have HN := Lib.hid hN
 have HROW := Lib.hid hrow
 have HB0 := Lib.hid (below_one w (.cells #[.slice A l.length cap] 69))
 have HT := Lib.hid (fun k (h : k < l.length) => ofL_take l k lot h)
 have HLE := Lib.hid (fun k => ofL_take_le hpos lot k)
 have HGE := Lib.hid (fun k => ofL_nonneg (l := l.take k) (fun x hx => hpos x (List.mem_of_mem_take hx)) lot)
 rw [← hN] at hl HB0 ⊢
 have hc0 := cell_of_row _ _ 0 _ _ _ (heap_alloc_new w (.cells #[.slice A N cap] 69))
 have HC0 := Lib.hid hc0
 have HS := Lib.hid hs
 clear hc0 hN hrow hpos hs
 go_enter Tryz.func61, Tryz.ntmps61
 go_wp2_with fail
 obtain ⟨W0, hW0⟩ : ∃ W0, W0 = w.alloc (.cells #[.slice A N cap] 69) := ⟨_, rfl⟩
 rw [← hW0] at HB0 HC0 ⊢
 have hs0 : W0.heap.size = w.heap.size + 1 := by rw [hW0]; simp
 clear hW0
 go_loopw [5, 6] (fun s n wr => ∃ k : Nat, k ≤ N ∧ n = .int .i64 k ∧ s = .int .i64 (ofL (l.take k) lot) ∧ Below W0.heap.size W0 wr) (fun _ n _ => N - (intOf n).toNat)
 case atStart => exact ⟨0, by omega, rfl, rfl, Below.refl _ _⟩
 case round =>
  obtain ⟨k, hk, rfl, rfl, hb⟩ := hrel
  have HB := Lib.hid hb
  have c0 : wr.cell? ⟨w.heap.size, 0, none⟩ = some (.slice A N cap) := (hb.cell (p := ⟨_, 0, none⟩) (by show w.heap.size < _; omega)).trans HC0.out
  clear hb
  by_cases hkN : k < N
  ·have hkx : k < l.length := by rw [← HN.out]; exact hkN
   obtain ⟨g, o, rfl, lg, cg⟩ := HROW.out.resolve_left (fun h => by rw [h] at hkx; simp at hkx)
   obtain ⟨x, hx⟩ : ∃ x, x = l[k] := ⟨_, rfl⟩
   have r5 := range5L (x := x) (w := wr) (b := g) (o := o + k * 5) (fun cc v hv => by
    have h1 := cg k hkx cc v (by rw [← hx]; exact hv)
    have h2 := (HB0.out.cell (p := ⟨g, o + k * 5 + cc, none⟩) lg).trans h1
    exact (HB.out.cell (p := ⟨g, o + k * 5 + cc, none⟩) (lt_of_cell h2)).trans h2)
   have hT := HT.out k hkx
   have hle := HLE.out (k + 1)
   have hge := HGE.out (k + 1)
   have hS := HS.out
   rw [← hx] at hT
   obtain ⟨s0, hs1⟩ : ∃ s0, s0 = ofL (l.take k) lot := ⟨_, rfl⟩
   obtain ⟨s1, hs2⟩ : ∃ s1, s1 = ofL (l.take (k + 1)) lot := ⟨_, rfl⟩
   rw [← hs1, ← hs2] at hT
   rw [← hs2] at hle hge
   rw [← hs1]
   have HS2 := Lib.hid hs2
   clear hs1 hs2 hx cg
   by_cases h2 : x.2.1 = lot
   ·rw [if_pos h2] at hT
    obtain ⟨⟨a1, a2, a3⟩, a4, a5⟩ := x
    obtain ⟨e0, e1, e2, e3, e4⟩ := r5
    simp only at e0 e1 e2 e3 e4 hT h2
    have hb4 : (a4 == lot) = true := by simpa using h2
    have hr1 : s0 + a5 ≤ 4611686018427387904 := by omega
    have hr2 : 0 ≤ s0 + a5 := by omega
    have HT2 := Lib.hid hT
    clear h2 hT hle hge hS
    go_wp2
    go_roundw
    case rel => exact ⟨k + 1, by omega, by go_num, by rw [← HS2.out, HT2.out], HB.out⟩
    case measure => simp [intOf]; omega
   ·rw [if_neg h2] at hT
    obtain ⟨⟨a1, a2, a3⟩, a4, a5⟩ := x
    obtain ⟨e0, e1, e2, e3, e4⟩ := r5
    simp only at e0 e1 e2 e3 e4 hT h2
    have hb4 : (a4 == lot) = false := by simpa using h2
    have HT2 := Lib.hid hT
    clear h2 hT hle hge hS
    go_wp2
    go_roundw
    case rel => exact ⟨k + 1, by omega, by go_num, by rw [← HS2.out, HT2.out, Int.add_zero], HB.out⟩
    case measure => simp [intOf]; omega
  ·obtain rfl : k = N := by omega
   have htk : l.take k = l := List.take_of_length_le (by rw [← HN.out]; exact Nat.le_refl _)
   rw [htk]
   go_wp2_with fail
   go_ret
   exact ⟨rfl, HB0.out.trans (HB.out.mono (by omega))⟩
end Go.Proofs.YteaalifehokgoaaGreatDoor
