/- A stock of the document, of the program's lines: its acts; Move. Equal lines. A stock has what its model has: AsStock answers 1. A closed fact on a stock: stocked. -/
import Derived.Test.YtmhkcmoepopnoaaGreatDoorM05
import Derived.Test.YtmhkcmoepopnoaaGreatDoorM06
import Derived.Test.YtmhkcmoepopnoaaGreatDoorM15
namespace Go.Proofs.YtmhkcmoepopnoaaGreatDoor
open Go.RowKit Go.Sort Go.Proofs

section
variable {m : StkV} (hI : StkI m) (A : Option Addr) (cap : Nat) (w : World) (hrow : RowAt encLine 5 w A (linesM m))
include hI hrow
theorem refAt_m (pl : PlaceV) (lot : List UInt8) : Calls Tryz.prog 19 #[.agg #[.slice A m.length cap], .agg (encPlace pl).toArray, .string ⟨lot.toArray⟩] w fun e w' => e = .returned (.int .i64 (atM m (pl, lot) : Nat)) ∧ Below w.heap.size w w' := by
  have h := refAt_any A cap (linesM m) pl lot w hrow (by rw [linesM_len]; have := hI.well.few; omega)
  rwa [at_lines hI.nodup, linesM_len] at h
theorem refOf_m (lot : List UInt8) : Calls Tryz.prog 21 #[.agg #[.slice A m.length cap], .string ⟨lot.toArray⟩] w fun e w' => e = .returned (.int .i64 (ofM m lot : Nat)) ∧ Below w.heap.size w w' := by
  have h := refOf_any A cap (linesM m) lot w hrow (by rw [linesM_len]; have := hI.well.few; omega) (lines_pos m) (by rw [of_lines]; have := hI.few lot; omega)
  rwa [of_lines, linesM_len] at h
theorem refText_m : Calls Tryz.prog 44 #[.agg #[.slice A m.length cap]] w fun e w' => e = .returned (.string ⟨(textM m).toArray⟩) ∧ Below w.heap.size w w' := by
  have h := refStkText_any A cap (linesM m) w hrow (by rw [linesM_len]; exact hI.well.few) hI.well.lines
  rwa [linesM_len] at h
theorem refTake_m (pl : PlaceV) (lot : List UInt8) (n : Int) : Calls Tryz.prog 11 #[.agg #[.slice A m.length cap], .agg (encPlace pl).toArray, .string ⟨lot.toArray⟩, .int .i64 n] w (StkEnds (linesM (takeM m pl lot n)) (takeE m pl lot n) w) := by
  have h := refTake_any A cap (linesM m) pl lot n w hrow (by rw [linesM_len]; have := hI.well.few; omega) hI.well.inL (by rw [at_lines hI.nodup]; have := atM_le m pl lot; have := hI.few lot; omega)
  rwa [takeL_lines hI.nodup, takeEL_lines hI.nodup, linesM_len] at h
theorem refPut_m (pl : PlaceV) (lot : List UInt8) (n : Int) (hz : pl.1.length ≤ 1000000000) (hlot : lot.length ≤ 1000000000) : Calls Tryz.prog 9 #[.agg #[.slice A m.length cap], .agg (encPlace pl).toArray, .string ⟨lot.toArray⟩, .int .i64 n] w (StkEnds (linesM (putM m pl lot n)) (putE m pl lot n) w) := by
  have h := refPut_any A cap (linesM m) pl lot n w hrow (by rw [linesM_len]; have := hI.well.few; omega) hz hlot (lines_pos m) (by rw [of_lines]; have := hI.few lot; omega) (by rw [at_lines hI.nodup]; have := atM_le m pl lot; have := hI.few lot; omega)
  rwa [putL_lines hI.nodup, putEL_lines hI.nodup, linesM_len] at h
end
theorem StkEnds.len {m : StkV} {k : Nat} {w w' : World} {e : Ending} (h : StkEnds (linesM m) k w e w') : ∃ A' cap', e = .returned (.tuple #[.agg #[.slice A' m.length cap'], .int .i64 k]) ∧ RowAt encLine 5 w' A' (linesM m) ∧ Below w.heap.size w w' := by
  obtain ⟨A', cap', h1, h2⟩ := h
  rw [linesM_len] at h1
  exact ⟨A', cap', h1, h2⟩
theorem heap_lt {w : World} {b : Nat} {o : Obj} (h : w.heap[b]? = some o) : b < w.heap.size := (Array.getElem?_eq_some_iff.1 h).1
theorem heap4 (w : World) (o0 o1 o2 o3 : Obj) : (((((w.alloc o0).alloc o1).alloc o2).alloc o3).heap[w.heap.size]? = some o0 ∧ ((((w.alloc o0).alloc o1).alloc o2).alloc o3).heap[w.heap.size + 1]? = some o1 ∧
    ((((w.alloc o0).alloc o1).alloc o2).alloc o3).heap[w.heap.size + 2]? = some o2 ∧ ((((w.alloc o0).alloc o1).alloc o2).alloc o3).heap[w.heap.size + 3]? = some o3) := by
  obtain ⟨h0, h1, h2⟩ := heap3 w o0 o1 o2
  have a := fun i h => (below_one (((w.alloc o0).alloc o1).alloc o2) o3).block i h
  refine ⟨(a _ (heap_lt h0)).trans h0, (a _ (heap_lt h1)).trans h1, (a _ (heap_lt h2)).trans h2, ?_⟩
  have := heap_alloc_new (((w.alloc o0).alloc o1).alloc o2) o3
  simpa using this
/-- One cell, three cells of a row. -/
theorem row1 {w : World} {b : Nat} {v : Value} {t : TypeId} (h : w.heap[b]? = some (.cells #[v] t (0, 0))) : w.cell? ⟨b, 0, none⟩ = some v ∧ w.frozen? ⟨b, 0, none⟩ = false := ⟨cell_of_row _ _ _ _ _ _ h, frozen_of_row _ _ _ _ _ h⟩
theorem row3 {w : World} {b : Nat} {u v x : Value} {t : TypeId} (h : w.heap[b]? = some (.cells #[u, v, x] t (0, 0))) : w.cell? ⟨b, 0, none⟩ = some u ∧ w.cell? ⟨b, 1, none⟩ = some v ∧ w.cell? ⟨b, 2, none⟩ = some x := ⟨cell_of_row _ _ _ _ _ _ h, cell_of_row _ _ _ _ _ _ h, cell_of_row _ _ _ _ _ _ h⟩
theorem at_b {B : Nat} {w w' : World} (h : Below B w w') {i : Nat} {o : Obj} (hi : w.heap[i]? = some o) (hl : i < B) : w'.heap[i]? = some o := (h.block _ hl).trans hi

/-- A box that holds a slice is no block of lines. -/
theorem row_set_sl {w : World} {A B : Option Addr} {l : List LineV} {q n c : Nat} {v : Value} {t : TypeId} (h : RowAt encLine 5 w A l) (hq : w.heap[q]? = some (.cells #[.slice B n c] t (0, 0))) : RowAt encLine 5 (w.setCell ⟨q, 0, none⟩ v) A l := by
  rcases h with h | ⟨b, o, h1, h2, h3⟩
  · exact .inl h
  cases l with
  | nil => exact .inl rfl
  | cons x r =>
    refine row_set (.inr ⟨b, o, h1, h2, h3⟩) hq fun a ha => ?_
    rw [h1] at ha
    cases ha
    rintro rfl
    have h4 := h3 0 (by simp) 0 _ rfl
    rw [cell_of_row _ _ _ _ _ _ hq] at h4
    match o, h4 with
    | 0, h4 => simp at h4
    | o + 1, h4 => simp at h4

/-- The boxes of a move. -/
structure MvB (A : Option Addr) (N cap : Nat) (pf pt : PlaceV) (w W : World) : Prop where
  s : W.heap[w.heap.size]? = some (.cells #[.slice A N cap] 30 (0, 0))
  f : W.heap[w.heap.size + 1]? = some (.cells #[.string ⟨pf.1.toArray⟩, .int .i64 pf.2.1, .int .i64 pf.2.2] 24 (0, 0))
  t : W.heap[w.heap.size + 2]? = some (.cells #[.string ⟨pt.1.toArray⟩, .int .i64 pt.2.1, .int .i64 pt.2.2] 24 (0, 0))
  r : W.heap[w.heap.size + 3]? = some (.cells #[.slice none 0 0] 30 (0, 0))
  b : Below w.heap.size w W
theorem MvB.below {A : Option Addr} {N cap : Nat} {pf pt : PlaceV} {w W W' : World} (h : MvB A N cap pf pt w W) (hb : Below W.heap.size W W') : MvB A N cap pf pt w W' :=
  ⟨at_b hb h.s (heap_lt h.s), at_b hb h.f (heap_lt h.f), at_b hb h.t (heap_lt h.t), at_b hb h.r (heap_lt h.r), h.b.trans (hb.mono h.b.size)⟩
theorem MvB.start (A : Option Addr) (N cap : Nat) (pf pt : PlaceV) (w : World) : MvB A N cap pf pt w ((((w.alloc (.cells #[.slice A N cap] 30)).alloc (.cells #[.string ⟨pf.1.toArray⟩, .int .i64 pf.2.1, .int .i64 pf.2.2] 24)).alloc (.cells #[.string ⟨pt.1.toArray⟩, .int .i64 pt.2.1, .int .i64 pt.2.2] 24)).alloc (.cells #[.slice none 0 0] 30)) := by
  obtain ⟨h1, h2, h3, h4⟩ := heap4 w (.cells #[.slice A N cap] 30) (.cells #[.string ⟨pf.1.toArray⟩, .int .i64 pf.2.1, .int .i64 pf.2.2] 24) (.cells #[.string ⟨pt.1.toArray⟩, .int .i64 pt.2.1, .int .i64 pt.2.2] 24) (.cells #[.slice none 0 0] 30)
  exact ⟨h1, h2, h3, h4, (((below_one w _).alloc (by simp) _).alloc (by simp; omega) _).alloc (by simp; omega) _⟩

set_option maxHeartbeats 1600000 in
set_option maxRecDepth 100000 in
theorem refMove_m {m : StkV} (hI : StkI m) (A : Option Addr) (cap : Nat) (w : World) (hrow : RowAt encLine 5 w A (linesM m)) (pf pt : PlaceV) (lot : List UInt8) (n : Int) (hz : pt.1.length ≤ 1000000000) (hlot : lot.length ≤ 1000000000) :
    Calls Tryz.prog 13 #[.agg #[.slice A m.length cap], .agg (encPlace pf).toArray, .agg (encPlace pt).toArray, .string ⟨lot.toArray⟩, .int .i64 n] w (StkEnds (linesM (moveM m pf pt lot n)) (moveE m pf pt lot n) w) := by
  have HTK := Lib.hid (fun W (hb : Below w.heap.size w W) => (refTake_m hI A cap W (hrow.below hb) pf lot n).mono fun _ _ h => h.len)
  have HPT := Lib.hid (fun A' cap' W hr => refPut_m (hI.take pf lot n) A' cap' W hr pt lot n hz hlot)
  have HPE := Lib.hid (fun W => refPlaceE_any pt hz W)
  have HQ := Lib.hid (fun W => eqPlace pf pt W)
  have HE := Lib.hid (show moveE m pf pt lot n = if takeE m pf lot n ≠ 0 then takeE m pf lot n else if placeE pt ≠ 0 then placeE pt else if pf = pt then 3 else putE (takeM m pf lot n) pt lot n from rfl)
  have HM := Lib.hid (show moveM m pf pt lot n = if moveE m pf pt lot n = 0 then putM (takeM m pf lot n) pt lot n else m from rfl)
  have HR := Lib.hid (fun W (hb : Below w.heap.size w W) => hrow.below hb)
  have HN := Lib.hid (linesM_len m)
  have HST := Lib.hid (MvB.start A m.length cap pf pt w)
  generalize moveM m pf pt lot n = mm at HM ⊢
  generalize moveE m pf pt lot n = me at HE HM ⊢
  generalize putE (takeM m pf lot n) pt lot n = ue at HPT HE
  generalize putM (takeM m pf lot n) pt lot n = m2 at HPT HM
  generalize takeM m pf lot n = m1 at HTK HPT
  generalize takeE m pf lot n = te at HTK HE
  generalize placeE pt = pe at HPE HE
  generalize m1.length = N1 at HTK HPT
  have HSTAY : Hid (∀ W', Below w.heap.size w W' → me ≠ 0 → StkEnds (linesM mm) me w (.returned (.tuple #[.agg #[.slice A m.length cap], .int .i64 me])) W') := fun W' hb h0 => by
    rw [HM.out, if_neg h0]
    exact ⟨A, cap, by rw [HN.out], HR.out _ hb, hb⟩
  generalize m.length = N at HTK HN HST HSTAY ⊢
  obtain ⟨dq, hdq⟩ : ∃ dq, dq = decide (pf = pt) := ⟨_, rfl⟩
  rw [← hdq] at HQ
  have HDQ := Lib.hid hdq
  clear hdq hrow hI hz hlot
  obtain ⟨a1, a2, a3⟩ := pf
  obtain ⟨b1, b2, b3⟩ := pt
  simp only [encPlace] at HTK HPT HPE HQ ⊢
  go_enter Tryz.func13, Tryz.ntmps13
  go_wp2_with fail
  refine (HTK.out _ HST.out.b).mono ?_
  rintro e w1 ⟨A1, cap1, rfl, hr1, bb1⟩
  have X1 := Lib.hid (HST.out.below bb1)
  have HR1 := Lib.hid hr1
  clear hr1 bb1 HST HTK
  have hx := heap_alloc_new w1 (.cells #[.slice A1 N1 cap1] 30)
  have X2 := Lib.hid (X1.out.below (below_one w1 (.cells #[.slice A1 N1 cap1] 30)))
  have HR2 := Lib.hid (HR1.out.below (below_one w1 (.cells #[.slice A1 N1 cap1] 30)))
  have HX2 := Lib.hid hx
  have hq := heap_lt X1.out.r
  obtain ⟨s0, -⟩ := row1 X2.out.s
  obtain ⟨f0, f1, f2⟩ := row3 X2.out.f
  obtain ⟨t0, t1, t2⟩ := row3 X2.out.t
  obtain ⟨r0, rf0⟩ := row1 X2.out.r
  obtain ⟨x0, xf0⟩ := row1 hx
  clear hx HR1
  by_cases hte : te = 0
  · subst hte
    go_wp2_with fail
    generalize w1.alloc (.cells #[.slice A1 N1 cap1] 30) = W2 at *
    generalize w1.heap.size = q at *
    refine (HPE.out _).mono ?_
    rintro e w3 ⟨rfl, b3⟩
    have X3 := Lib.hid (X2.out.below b3)
    have HR3 := Lib.hid (HR2.out.below b3)
    have HX3 := Lib.hid (at_b b3 HX2.out (heap_lt HX2.out))
    clear b3 X1 X2 HR2 HX2 s0 f0 f1 f2 t0 t1 t2 r0 rf0 x0 xf0
    obtain ⟨s0, -⟩ := row1 X3.out.s
    obtain ⟨f0, f1, f2⟩ := row3 X3.out.f
    obtain ⟨t0, t1, t2⟩ := row3 X3.out.t
    obtain ⟨r0, rf0⟩ := row1 X3.out.r
    obtain ⟨x0, xf0⟩ := row1 HX3.out
    by_cases hpe : pe = 0
    · subst hpe
      have heq := HQ.out
      cases dq with
      | true =>
        have HE1 := Lib.hid (show me = 3 from HE.out.trans (by rw [if_neg (by simp), if_neg (by simp), if_pos (of_decide_eq_true HDQ.out.symm)]))
        go_wp2_with fail
        (try simp only [Exit.inBlock, Exit.then])
        refine bodyPost_ret (results_cell_row2 rfl _ _ (w.heap.size + 3) 30 #[.slice A N cap] (0, 0) _ rfl (set_row X3.out.r _) Tryz.underlying30 rfl (by kernel_rfl)) rfl ?_
        have := HSTAY.out _ (X3.out.b.setCell (p := ⟨w.heap.size + 3, 0, none⟩) (by show _ ≤ w.heap.size + 3; omega) (.slice A N cap)) (by rw [HE1.out]; decide)
        rw [HE1.out] at this ⊢
        exact this
      | false =>
        have HE1 := Lib.hid (show me = ue from HE.out.trans (by rw [if_neg (by simp), if_neg (by simp), if_neg (of_decide_eq_false HDQ.out.symm)]))
        go_wp2_with fail
        refine (HPT.out _ _ _ HR3.out).mono ?_
        rintro e w4 h4
        obtain ⟨A4, cap4, rfl, hr4, b4⟩ := h4.len
        have X4 := Lib.hid (X3.out.below b4)
        have HX4 := Lib.hid (at_b b4 HX3.out (heap_lt HX3.out))
        have HR4 := Lib.hid hr4
        clear b4 hr4 h4 X3 HR3 HX3 s0 f0 f1 f2 t0 t1 t2 r0 rf0 x0 xf0 heq
        obtain ⟨s0, -⟩ := row1 X4.out.s
        obtain ⟨r0, rf0⟩ := row1 X4.out.r
        obtain ⟨x0, xf0⟩ := row1 HX4.out
        have hr5 := (Below.heap_setCell w4 ⟨q, 0, none⟩ (.slice A4 m2.length cap4) (w.heap.size + 3) (by show w.heap.size + 3 ≠ q; omega)).trans X4.out.r
        have hx5 := set_row HX4.out (.slice A4 m2.length cap4)
        have B5 := Lib.hid (X4.out.b.setCell (p := ⟨q, 0, none⟩) (by show _ ≤ q; omega) (.slice A4 m2.length cap4))
        have hs5 := (Below.heap_setCell w4 ⟨q, 0, none⟩ (.slice A4 m2.length cap4) w.heap.size (by show w.heap.size ≠ q; omega)).trans X4.out.s
        have HRW := Lib.hid (fun v2 => row_set_sl (v := v2) (row_set_sl (v := .slice A4 m2.length cap4) HR4.out HX4.out) hr5)
        obtain ⟨s05, -⟩ := row1 hs5
        obtain ⟨r05, rf05⟩ := row1 hr5
        obtain ⟨x05, -⟩ := row1 hx5
        have HR5 := Lib.hid hr5
        clear hr5 hx5 hs5
        by_cases hue : ue = 0
        · subst hue
          go_wp2_with fail
          (try simp only [Exit.inBlock, Exit.then])
          refine bodyPost_ret (results_cell_row2 rfl _ _ (w.heap.size + 3) 30 #[.slice A4 m2.length cap4] (0, 0) _ rfl (set_row HR5.out _) Tryz.underlying30 rfl (by kernel_rfl)) rfl ?_
          rw [HM.out, if_pos HE1.out, HE1.out]
          refine ⟨A4, cap4, by rw [linesM_len]; rfl, HRW.out _, B5.out.setCell (p := ⟨w.heap.size + 3, 0, none⟩) (by show _ ≤ w.heap.size + 3; omega) _⟩
        · have hti : (ue : Int) ≠ 0 := by omega
          have htp : 0 < (ue : Int) := by omega
          go_wp2_with fail
          (try simp only [Exit.inBlock, Exit.then])
          refine bodyPost_ret (results_cell_row2 rfl _ _ (w.heap.size + 3) 30 #[.slice A N cap] (0, 0) _ rfl (set_row HR5.out _) Tryz.underlying30 rfl (by kernel_rfl)) rfl ?_
          have := HSTAY.out _ (B5.out.setCell (p := ⟨w.heap.size + 3, 0, none⟩) (by show _ ≤ w.heap.size + 3; omega) (.slice A N cap)) (by rw [HE1.out]; exact hue)
          rw [HE1.out] at this ⊢
          exact this
    · have HE1 := Lib.hid (show me = pe from HE.out.trans (by rw [if_neg (by simp), if_pos hpe]))
      have hti : (pe : Int) ≠ 0 := by omega
      have htp : 0 < (pe : Int) := by omega
      go_wp2_with fail
      (try simp only [Exit.inBlock, Exit.then])
      refine bodyPost_ret (results_cell_row2 rfl _ _ (w.heap.size + 3) 30 #[.slice A N cap] (0, 0) _ rfl (set_row X3.out.r _) Tryz.underlying30 rfl (by kernel_rfl)) rfl ?_
      have := HSTAY.out _ (X3.out.b.setCell (p := ⟨w.heap.size + 3, 0, none⟩) (by show _ ≤ w.heap.size + 3; omega) (.slice A N cap)) (by rw [HE1.out]; exact hpe)
      rw [HE1.out] at this ⊢
      exact this
  · have HE1 := Lib.hid (show me = te from HE.out.trans (if_pos hte))
    have hti : (te : Int) ≠ 0 := by omega
    have htp : 0 < (te : Int) := by omega
    go_wp2_with fail
    (try simp only [Exit.inBlock, Exit.then])
    have hs1 := set_row X1.out.r (.slice A N cap)
    refine bodyPost_ret (results_cell_row2 rfl _ _ (w.heap.size + 3) 30 #[.slice A N cap] (0, 0) _ rfl (at_b (below_one _ _) hs1 (heap_lt hs1)) Tryz.underlying30 rfl (by kernel_rfl)) rfl ?_
    have h2 := X1.out.b.setCell (p := ⟨w.heap.size + 3, 0, none⟩) (by show _ ≤ w.heap.size + 3; omega) (.slice A N cap)
    have := HSTAY.out _ (h2.alloc h2.size (.cells #[.slice A1 N1 cap1] 30)) (by rw [HE1.out]; exact hte)
    rw [HE1.out] at this ⊢
    exact this
end Go.Proofs.YtmhkcmoepopnoaaGreatDoor
namespace Go.Proofs.YtmhkcmoepopnoaaGreatDoor
open Go.RowKit Go.Sort Go.Proofs

theorem eqInLine (x y : LineV) (W : World) : (Op.equalIn 10000 84 (.agg (encLine x).toArray) (.agg (encLine y).toArray)).run Tryz.prog W = .ok (decide (x = y)) W := by
  have u3 := Tryz.underlying3
  have u9 := Tryz.underlying9
  have hS : Tryz.prog.underlying 84 = some (.struct (Tryz.prog.fieldsOf 84)) := by kernel_rfl
  have hp : Tryz.prog.stoodInHeld 84 = false := by kernel_rfl
  have pS : Tryz.prog.underlying 24 = some (.struct (Tryz.prog.fieldsOf 24)) := by kernel_rfl
  have pp : Tryz.prog.stoodInHeld 24 = false := by kernel_rfl
  have eP : ∀ (a1 b1 : List UInt8) (a2 a3 b2 b3 : Int) (W : World), (Op.equalIn 9999 24 (.agg #[.string ⟨a1.toArray⟩, .int .i64 a2, .int .i64 a3]) (.agg #[.string ⟨b1.toArray⟩, .int .i64 b2, .int .i64 b3])).run Tryz.prog W = .ok (decide (a1 = b1 ∧ a2 = b2 ∧ a3 = b3)) W := fun a1 b1 a2 a3 b2 b3 W => by
    rw [show (9999 : Nat) = 9998 + 1 from rfl, run_equalIn_agg W 9998 24 _ _ pS pp]
    simp only [Program.fieldsOf, Tryz.underlying24]
    go_simp
    by_cases h1 : a1 = b1 <;> by_cases h2 : a2 = b2 <;> by_cases h3 : a3 = b3 <;> simp [h1, h2, h3]
  simp only [encLine]
  rw [show (10000 : Nat) = 9999 + 1 from rfl, run_equalIn_agg W 9999 84 _ _ hS hp]
  clear hS hp pS pp
  simp only [Program.fieldsOf, Tryz.underlying84]
  go_simp
  obtain ⟨⟨a1, a2, a3⟩, a4, a5⟩ := x
  obtain ⟨⟨b1, b2, b3⟩, b4, b5⟩ := y
  by_cases h1 : a1 = b1 <;> by_cases h2 : a2 = b2 <;> by_cases h3 : a3 = b3 <;> by_cases h4 : a4 = b4 <;> by_cases h5 : a5 = b5 <;> simp [h1, h2, h3, h4, h5]
theorem neqLine (x y : LineV) (W : World) : (binOp .neq 84 (.agg (encLine x).toArray) (.agg (encLine y).toArray)).run Tryz.prog W = .ok (.bool (!decide (x = y))) W := by
  rw [run_neq_struct, eqInLine]
  rfl
theorem eqLine (x y : LineV) (W : World) : (binOp .eql 84 (.agg (encLine x).toArray) (.agg (encLine y).toArray)).run Tryz.prog W = .ok (.bool (decide (x = y))) W := by
  rw [run_eql_struct, eqInLine]
  rfl
end Go.Proofs.YtmhkcmoepopnoaaGreatDoor
namespace Go.Proofs.YtmhkcmoepopnoaaGreatDoor
open Go.RowKit Go.Sort Go.Proofs

/-- The five cells of a line that lies in a row. -/
theorem RowAt.line {w : World} {g o : Nat} {l : List LineV} (h : RowAt encLine 5 w (some ⟨g, o, none⟩) l) (k : Nat) (hk : k < l.length) :
    w.cell? ⟨g, o + k * 5, none⟩ = some (.string ⟨l[k].1.1.toArray⟩) ∧ w.cell? ⟨g, o + k * 5 + 1, none⟩ = some (.int .i64 l[k].1.2.1) ∧ w.cell? ⟨g, o + k * 5 + 2, none⟩ = some (.int .i64 l[k].1.2.2) ∧ w.cell? ⟨g, o + k * 5 + 3, none⟩ = some (.string ⟨l[k].2.1.toArray⟩) ∧ w.cell? ⟨g, o + k * 5 + 4, none⟩ = some (.int .i64 l[k].2.2) := by
  rcases h with rfl | ⟨b, o', h1, _, h3⟩
  · simp at hk
  · cases h1
    exact range5L fun c v hv => h3 k hk c v hv
theorem RowAt.some_of {w : World} {A : Option Addr} {l : List LineV} (h : RowAt encLine 5 w A l) {k : Nat} (hk : k < l.length) : ∃ g o, A = some ⟨g, o, none⟩ := by
  rcases h with rfl | ⟨b, o, h1, _⟩
  · simp at hk
  · exact ⟨b, o, h1⟩

set_option maxHeartbeats 1600000 in
set_option maxRecDepth 100000 in
theorem asStock_any (E : Nat → Addr) (p b : Nat) {m : StkV} (hI : StkI m) (A : Option Addr) (cap : Nat) (w : World) (h : StkAt w p b m) (hrow : RowAt encLine 5 w A (linesM m)) (hG : PlaceG E w) :
    Calls Tryz.prog 17 #[.pointer (some ⟨p, 0, none⟩), .agg #[.slice A m.length cap]] w fun e w' => e = .returned (.int .i64 1) ∧ Below w.heap.size w w' := by
  have HLI := Lib.hid (fun W (hb : Below w.heap.size w W) => linesStock_any p b m W (h.below hb) hI.well.inPs (by have := hI.well.few; omega))
  have HTX := Lib.hid (fun W (hb : Below w.heap.size w W) => textStock_any E p b m W (h.below hb) hI.well (hG.below hb))
  have HRT := Lib.hid (fun W (hb : Below w.heap.size w W) => refText_m hI A cap W (hrow.below hb))
  have HOF := Lib.hid (fun lot W (hb : Below w.heap.size w W) => ofStock_any p b m lot W (h.below hb) (by have := hI.few lot; omega))
  have HRO := Lib.hid (fun lot W (hb : Below w.heap.size w W) => refOf_m hI A cap W (hrow.below hb) lot)
  have HROW := Lib.hid (fun W (hb : Below w.heap.size w W) => hrow.below hb)
  have hf := hI.well.few
  have HN := Lib.hid (linesM_len m)
  have HQ := Lib.hid (fun x W => neqLine x x W)
  unfold LinesEnds at HLI
  generalize linesM m = l at HLI HROW HN
  obtain ⟨N, hN⟩ : ∃ N, N = m.length := ⟨_, rfl⟩
  rw [← hN] at HLI HRT HRO hf HN ⊢
  have HB0 := Lib.hid (below_one w (.cells #[.slice A N cap] 30))
  have HC0 := Lib.hid (cell_of_row _ _ 0 _ _ _ (heap_alloc_new w (.cells #[.slice A N cap] 30)))
  clear h hI hrow hG hN
  go_enter Tryz.func17, Tryz.ntmps17
  go_wp2_with fail
  refine (HLI.out _ HB0.out).mono ?_
  rintro e w1 ⟨A1, cap1, rfl, hr1, -, b1⟩
  have B1 := Lib.hid (HB0.out.trans (b1.mono HB0.out.size))
  have HR1 := Lib.hid hr1
  have c0 : w1.cell? ⟨w.heap.size, 0, none⟩ = some (.slice A N cap) := (b1.cell (p := ⟨_, 0, none⟩) (by simp)).trans HC0.out
  have lw : w.heap.size < w1.heap.size := heap_two b1
  clear hr1 b1 HLI HC0
  go_wp2_with fail
  have hd : Below w.heap.size w w1.drew := B1.out.drew
  have qd : Below w1.heap.size w1 w1.drew := (Below.refl _ _).drew
  go_region_held3 (fun w' => w'.cell? ⟨w.heap.size, 0, none⟩ = some (.slice A N cap))
    (first | exact c0 | exact (q34.cell (p := ⟨_, 0, none⟩) lw).trans c0 | exact (q4.cell (p := ⟨_, 0, none⟩) lw).trans c0 | exact (q3.cell (p := ⟨_, 0, none⟩) lw).trans c0 | go_keep)
    (first
      | (go_at_call 30; refine (HTX.out _ hd).mono ?_; rintro e w3 ⟨rfl, bb3⟩; have q3 : Below w1.heap.size w1 w3 := qd.trans bb3; have b3 := B1.out.trans (q3.mono B1.out.size))
      | (go_at_call 44; refine (HRT.out _ hd).mono ?_; rintro e w4 ⟨rfl, bb4⟩; have q4 : Below w1.heap.size w1 w4 := qd.trans bb4; have b4 := B1.out.trans (q4.mono B1.out.size))
      | (go_at_call 30; refine (HTX.out _ b4).mono ?_; rintro e w3 ⟨rfl, bb3⟩; have q34 : Below w1.heap.size w1 w3 := q4.trans (bb3.mono q4.size); have b34 := B1.out.trans (q34.mono B1.out.size))
      | (go_at_call 44; refine (HRT.out _ b3).mono ?_; rintro e w4 ⟨rfl, bb4⟩; have q34 : Below w1.heap.size w1 w4 := q3.trans (bb4.mono q3.size); have b34 := B1.out.trans (q34.mono B1.out.size)))
  have B4 := Lib.hid b34
  have HR4 := Lib.hid (HR1.out.below q34)
  have HC4 := Lib.hid ((q34.cell (p := ⟨w.heap.size, 0, none⟩) lw).trans c0)
  have lw4 := Nat.lt_of_lt_of_le lw q34.size
  clear b34 q34 b3 q3 bb3 bb4 hd qd c0 HR1 HTX HRT B1 lw
  go_wp2_with fail
  go_loopw [6] (fun i wr => ∃ k : Nat, k ≤ N ∧ i = .int .i64 k ∧ Below w4.heap.size w4 wr) (fun i _ => N - (intOf i).toNat)
  case atStart => exact ⟨0, by omega, rfl, Below.refl _ _⟩
  case round =>
    obtain ⟨k, hk, rfl, hb⟩ := hrel
    have HB := Lib.hid (B4.out.trans (hb.mono B4.out.size))
    have HB4 := Lib.hid hb
    have c0 : wr.cell? ⟨w.heap.size, 0, none⟩ = some (.slice A N cap) := (hb.cell (p := ⟨_, 0, none⟩) lw4).trans HC4.out
    have lwr := Nat.lt_of_lt_of_le lw4 hb.size
    by_cases hkN : k < N
    · have hkl : k < l.length := by rw [HN.out]; exact hkN
      have hr1 := HR4.out.below hb
      have hr2 := HROW.out _ HB.out
      clear hb
      obtain ⟨g, o, rfl⟩ := hr1.some_of hkl
      obtain ⟨g2, o2, rfl⟩ := hr2.some_of hkl
      obtain ⟨e0, e1, e2, e3, e4⟩ := hr1.line k hkl
      obtain ⟨f0, f1, f2, f3, f4⟩ := hr2.line k hkl
      generalize l[k] = x at e0 e1 e2 e3 e4 f0 f1 f2 f3 f4
      have hq := HQ.out x
      have HO1 := Lib.hid (HOF.out x.2.1)
      have HO2 := Lib.hid (HRO.out x.2.1)
      generalize ofM m x.2.1 = ox at HO1 HO2
      obtain ⟨⟨a1, a2, a3⟩, a4, a5⟩ := x
      simp only [encLine] at hq
      simp only at e0 e1 e2 e3 e4 f0 f1 f2 f3 f4 HO1 HO2
      clear hr1 hr2 hkl
      have HC0 := Lib.hid c0
      have hd := HB.out.drew
      have qd : Below wr.heap.size wr wr.drew := (Below.refl _ _).drew
      go_wp2_with fail
      have up := Lib.hid (fun (W : World) (hW : Below wr.heap.size wr W) (q : Addr) (v : Value) (h : wr.cell? q = some v) => (hW.cell (lt_of_cell h)).trans h)
      go_region_held3 (fun w' => w'.cell? ⟨w.heap.size, 0, none⟩ = some (.slice (some ⟨g2, o2, none⟩) N cap) ∧ w'.cell? ⟨g, o + k * 5, none⟩ = some (.string ⟨a1.toArray⟩) ∧ w'.cell? ⟨g, o + k * 5 + 1, none⟩ = some (.int .i64 a2) ∧ w'.cell? ⟨g, o + k * 5 + 2, none⟩ = some (.int .i64 a3) ∧ w'.cell? ⟨g, o + k * 5 + 3, none⟩ = some (.string ⟨a4.toArray⟩) ∧ w'.cell? ⟨g, o + k * 5 + 4, none⟩ = some (.int .i64 a5) ∧ w'.cell? ⟨g2, o2 + k * 5, none⟩ = some (.string ⟨a1.toArray⟩) ∧ w'.cell? ⟨g2, o2 + k * 5 + 1, none⟩ = some (.int .i64 a2) ∧ w'.cell? ⟨g2, o2 + k * 5 + 2, none⟩ = some (.int .i64 a3) ∧ w'.cell? ⟨g2, o2 + k * 5 + 3, none⟩ = some (.string ⟨a4.toArray⟩) ∧ w'.cell? ⟨g2, o2 + k * 5 + 4, none⟩ = some (.int .i64 a5))
        (first
          | exact ⟨c0, e0, e1, e2, e3, e4, f0, f1, f2, f3, f4⟩
          | exact ⟨up.out _ q34 _ _ c0, up.out _ q34 _ _ e0, up.out _ q34 _ _ e1, up.out _ q34 _ _ e2, up.out _ q34 _ _ e3, up.out _ q34 _ _ e4, up.out _ q34 _ _ f0, up.out _ q34 _ _ f1, up.out _ q34 _ _ f2, up.out _ q34 _ _ f3, up.out _ q34 _ _ f4⟩
          | exact ⟨up.out _ q3 _ _ c0, up.out _ q3 _ _ e0, up.out _ q3 _ _ e1, up.out _ q3 _ _ e2, up.out _ q3 _ _ e3, up.out _ q3 _ _ e4, up.out _ q3 _ _ f0, up.out _ q3 _ _ f1, up.out _ q3 _ _ f2, up.out _ q3 _ _ f3, up.out _ q3 _ _ f4⟩
          | go_keep)
        (first
          | (go_at_call 20; refine (HO1.out _ hd).mono ?_; rintro e w5 ⟨rfl, bb3⟩; have q3 : Below wr.heap.size wr w5 := qd.trans bb3; have b3 := HB.out.trans (q3.mono HB.out.size))
          | (go_at_call 21; refine (HO2.out _ b3).mono ?_; rintro e w6 ⟨rfl, bb4⟩; have q34 : Below wr.heap.size wr w6 := q3.trans (bb4.mono q3.size)))
      have B6 := Lib.hid (HB4.out.trans (q34.mono HB4.out.size))
      clear q34 b3 q3 bb3 bb4 hd qd c0 e0 e1 e2 e3 e4 f0 f1 f2 f3 f4 hq up
      go_wp2
      go_roundw
      case rel => exact ⟨k + 1, by omega, by go_num, B6.out⟩
      case measure => simp [intOf]; omega
    · obtain rfl : k = N := by omega
      go_wp2_with fail
      go_ret
      exact ⟨rfl, HB.out⟩
end Go.Proofs.YtmhkcmoepopnoaaGreatDoor
namespace Go.Proofs.YtmhkcmoepopnoaaGreatDoor
open Go.RowKit Go.Sort Go.Proofs

theorem stk1 : putE [] ([97], 1, 2) [108, 49] 5 = 0 := by decide
theorem stk2 : putM [] ([97], 1, 2) [108, 49] 5 = [((([97], 1, 2), [108, 49]), 5)] := by decide
theorem stk3 : takeE [((([97], 1, 2), [108, 49]), 5)] ([97], 1, 2) [108, 49] 2 = 0 := by decide
theorem stk4 : takeM [((([97], 1, 2), [108, 49]), 5)] ([97], 1, 2) [108, 49] 2 = [((([97], 1, 2), [108, 49]), 3)] := by decide
theorem stk5 : textM [((([97], 1, 2), [108, 49]), 3)] = [97, 45, 49, 45, 50, 32, 108, 49, 32, 51, 10] := by
  have h : linesM [((([97], 1, 2), [108, 49]), 3)] = [(([97], 1, 2), [108, 49], 3)] := Stab.srt_one _ _
  unfold textM
  rw [h]
  decide +kernel

set_option maxHeartbeats 1600000 in
set_option maxRecDepth 100000 in
theorem stocked_any (E : Nat → Addr) (w : World) (hG : StkG E w) :
    Calls Tryz.prog 7 #[] w fun e w' => e = .returned (.bool true) ∧ Below w.heap.size w w' := by
  have HNW := Lib.hid (newStock_any w)
  have HG := Lib.hid (fun W (h : Below w.heap.size w W) => hG.below h)
  have i1 := (StkI.nil.put ([97], 1, 2) [108, 49] 5)
  have i2 := i1.take ([97], 1, 2) [108, 49] 2
  rw [stk2] at i1 i2
  rw [stk4] at i2
  have HP := Lib.hid (fun p b W h hg => putStock_any E p b [] ([97], 1, 2) [108, 49] 5 W h (by rw [ofM_nil]; omega) hg)
  have HT := Lib.hid (fun p b W h hg => takeStock_any E p b [((([97], 1, 2), [108, 49]), 5)] ([97], 1, 2) [108, 49] 2 W h (by decide) hg)
  have HA := Lib.hid (fun p b W h => atStock_any p b [((([97], 1, 2), [108, 49]), 3)] ([97], 1, 2) [108, 49] W h)
  have HX := Lib.hid (fun p b W h hg => textStock_any E p b [((([97], 1, 2), [108, 49]), 3)] W h i2.well hg)
  rw [stk1, stk2] at HP
  rw [stk3, stk4] at HT
  rw [show atM [((([97], 1, 2), [108, 49]), 3)] (([97], 1, 2), [108, 49]) = 3 from by decide] at HA
  rw [stk5] at HX
  clear i1 i2 hG
  simp only [encPlace] at HP HT HA
  go_enter Tryz.func7, Tryz.ntmps7
  go_wp2_with fail
  refine HNW.out.mono ?_
  rintro e w1 ⟨rfl, hS1, b1⟩
  have b2 := b1.alloc b1.size (.cells #[.string ⟨#[97]⟩, .int .i64 1, .int .i64 2] 24)
  have hS2 := hS1.below (below_one w1 (.cells #[.string ⟨#[97]⟩, .int .i64 1, .int .i64 2] 24))
  have hx2 := heap_alloc_new w1 (.cells #[.string ⟨#[97]⟩, .int .i64 1, .int .i64 2] 24)
  have hb := hS1.lt.2
  have B2 := Lib.hid b2
  have HS2 := Lib.hid hS2
  obtain ⟨c0, c1, c2⟩ := row3 hx2
  clear b1 hS1 b2 hS2 HNW
  go_wp2_with fail
  generalize w1.alloc (.cells #[.string ⟨#[97]⟩, .int .i64 1, .int .i64 2] 24) = w2 at *
  generalize w1.heap.size = q at *
  refine (HP.out _ _ w2 HS2.out (HG.out _ B2.out)).mono ?_
  rintro e w3 ⟨rfl, hS3, t3⟩
  have B3 := Lib.hid (t3.below B2.out (Nat.le_refl _) B2.out.size)
  have hx3 := (t3.block q (heap_lt hx2) (by omega)).trans hx2
  have HS3 := Lib.hid hS3
  clear c0 c1 c2 hx2 hS3 t3 HS2 B2
  obtain ⟨c0, c1, c2⟩ := row3 hx3
  rw [errOf_zero]
  go_wp2_with fail
  refine (HT.out _ _ w3 HS3.out (HG.out _ B3.out)).mono ?_
  rintro e w4 ⟨rfl, hS4, t4⟩
  have B4 := Lib.hid (t4.below B3.out (Nat.le_refl _) B3.out.size)
  have hx4 := (t4.block q (heap_lt hx3) (by omega)).trans hx3
  have HS4 := Lib.hid hS4
  clear c0 c1 c2 hx3 hS4 t4 HS3 B3
  obtain ⟨c0, c1, c2⟩ := row3 hx4
  rw [errOf_zero]
  go_wp2_with fail
  refine (HA.out _ _ w4 HS4.out).mono ?_
  rintro e w5 ⟨rfl, b5⟩
  have B5 := Lib.hid (B4.out.trans (b5.mono B4.out.size))
  have HS5 := Lib.hid (HS4.out.below b5)
  clear b5 HS4 B4 c0 c1 c2 hx4
  go_wp2_with fail
  refine (HX.out _ _ w5 HS5.out (HG.out _ B5.out).place).mono ?_
  rintro e w6 ⟨rfl, b6⟩
  have B6 := Lib.hid (B5.out.trans (b6.mono B5.out.size))
  clear b6
  go_wp2_with fail
  go_ret
  exact ⟨rfl, B6.out⟩
end Go.Proofs.YtmhkcmoepopnoaaGreatDoor
