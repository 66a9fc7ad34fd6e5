/- A stock of the document, of the program's lines: its acts; Move. The program's book: New, Copy, Stock. What stays where little turns. -/
import Derived.Test.YteaalifehokgoaaGreatDoorM13
import Derived.Test.YteaalifehokgoaaGreatDoorM17
import Derived.Test.YteaalifehokgoaaGreatDoorM19
import Derived.Test.YteaalifehokgoaaGreatDoorM20
namespace Go.Proofs.YteaalifehokgoaaGreatDoor
open Go.RowKit Go.Sort Go.Proofs
section
variable {m : StkV} (hI : StkI m) (A : Option Addr) (cap : Nat) (w : World) (hrow : RowAt encLine 5 w A (linesM m))
include hI hrow
theorem refOf_m (lot : List UInt8) : Calls Tryz.prog 61 #[.agg #[.slice A m.length cap], .string ⟨lot.toArray⟩] w fun e w' => e = .returned (.int .i64 (ofM m lot : Nat)) ∧ Below w.heap.size w w' := by
 have h := refOf_any A cap (linesM m) lot w hrow (by rw [linesM_len]; have := hI.well.few; omega) (lines_pos m) (by rw [of_lines]; have := hI.few lot; omega)
 rwa [of_lines, linesM_len] at h
theorem refTake_m (pl : PlaceV) (lot : List UInt8) (n : Int) : Calls Tryz.prog 74 #[.agg #[.slice A m.length cap], .agg (encPlace pl).toArray, .string ⟨lot.toArray⟩, .int .i64 n] w (StkEnds (linesM (takeM m pl lot n)) (takeE m pl lot n) w) := by
 have h := refTake_any A cap (linesM m) pl lot n w hrow (by rw [linesM_len]; have := hI.well.few; omega) hI.well.inL (by rw [at_lines hI.nodup]; have := atM_le m pl lot; have := hI.few lot; omega)
 rwa [takeL_lines hI.nodup, takeEL_lines hI.nodup, linesM_len] at h
theorem refPut_m (pl : PlaceV) (lot : List UInt8) (n : Int) (hz : pl.1.length ≤ 1000000000) (hlot : lot.length ≤ 1000000000) : Calls Tryz.prog 73 #[.agg #[.slice A m.length cap], .agg (encPlace pl).toArray, .string ⟨lot.toArray⟩, .int .i64 n] w (StkEnds (linesM (putM m pl lot n)) (putE m pl lot n) w) := by
 have h := refPut_any A cap (linesM m) pl lot n w hrow (by rw [linesM_len]; have := hI.well.few; omega) hz hlot (lines_pos m) (by rw [of_lines]; have := hI.few lot; omega) (by rw [at_lines hI.nodup]; have := atM_le m pl lot; have := hI.few lot; omega)
 rwa [putL_lines hI.nodup, putEL_lines hI.nodup, linesM_len] at h
end
theorem StkEnds.len {m : StkV} {k : Nat} {w w' : World} {e : Ending} (h : StkEnds (linesM m) k w e w') : ∃ A' cap', e = .returned (.tuple #[.agg #[.slice A' m.length cap'], .int .i64 k]) ∧ RowAt encLine 5 w' A' (linesM m) ∧ Below w.heap.size w w' := by
 obtain ⟨A', cap', h1, h2⟩ := h
 rw [linesM_len] at h1
 exact ⟨A', cap', h1, h2.1.1, h2.2⟩
theorem StkEnds.len2 {m : StkV} {k : Nat} {w w' : World} {e : Ending} (h : StkEnds (linesM m) k w e w') : ∃ A' cap', e = .returned (.tuple #[.agg #[.slice A' m.length cap'], .int .i64 k]) ∧ RowAt encLine 5 w' A' (linesM m) ∧ (k = 0 → ∀ a, A' = some a → w.heap.size ≤ a.block) ∧ Below w.heap.size w w' := by
 obtain ⟨A', cap', h1, h2⟩ := h
 rw [linesM_len] at h1
 exact ⟨A', cap', h1, h2.1.1, h2.1.2, h2.2⟩
theorem heap_lt {w : World} {b : Nat} {o : Obj} (h : w.heap[b]? = some o) : b < w.heap.size := (Array.getElem?_eq_some_iff.1 h).1
theorem heap4 (w : World) (o0 o1 o2 o3 : Obj) : (((((w.alloc o0).alloc o1).alloc o2).alloc o3).heap[w.heap.size]? = some o0 ∧ ((((w.alloc o0).alloc o1).alloc o2).alloc o3).heap[w.heap.size + 1]? = some o1 ∧
  ((((w.alloc o0).alloc o1).alloc o2).alloc o3).heap[w.heap.size + 2]? = some o2 ∧ ((((w.alloc o0).alloc o1).alloc o2).alloc o3).heap[w.heap.size + 3]? = some o3) := by
 obtain ⟨h0, h1, h2⟩ := heap3 w o0 o1 o2
 have a := fun i h => (below_one (((w.alloc o0).alloc o1).alloc o2) o3).block i h
 refine ⟨(a _ (heap_lt h0)).trans h0, (a _ (heap_lt h1)).trans h1, (a _ (heap_lt h2)).trans h2, ?_⟩
 have := heap_alloc_new (((w.alloc o0).alloc o1).alloc o2) o3
 simpa using this
theorem row1 {w : World} {b : Nat} {v : Value} {t : TypeId} (h : w.heap[b]? = some (.cells #[v] t (0, 0))) : w.cell? ⟨b, 0, none⟩ = some v ∧ w.frozen? ⟨b, 0, none⟩ = false := ⟨cell_of_row _ _ _ _ _ _ h, frozen_of_row _ _ _ _ _ h⟩
theorem row3 {w : World} {b : Nat} {u v x : Value} {t : TypeId} (h : w.heap[b]? = some (.cells #[u, v, x] t (0, 0))) : w.cell? ⟨b, 0, none⟩ = some u ∧ w.cell? ⟨b, 1, none⟩ = some v ∧ w.cell? ⟨b, 2, none⟩ = some x := ⟨cell_of_row _ _ _ _ _ _ h, cell_of_row _ _ _ _ _ _ h, cell_of_row _ _ _ _ _ _ h⟩
theorem at_b {B : Nat} {w w' : World} (h : Below B w w') {i : Nat} {o : Obj} (hi : w.heap[i]? = some o) (hl : i < B) : w'.heap[i]? = some o := (h.block _ hl).trans hi
theorem row_set_sl {w : World} {A B : Option Addr} {l : List LineV} {q n c : Nat} {v : Value} {t : TypeId} (h : RowAt encLine 5 w A l) (hq : w.heap[q]? = some (.cells #[.slice B n c] t (0, 0))) : RowAt encLine 5 (w.setCell ⟨q, 0, none⟩ v) A l := by
 rcases h with h | ⟨b, o, h1, h2, h3⟩
 ·exact .inl h
 cases l with
 |nil => exact .inl rfl
 |cons x r =>
  refine row_set (.inr ⟨b, o, h1, h2, h3⟩) hq fun a ha => ?_
  rw [h1] at ha
  cases ha
  rintro rfl
  have h4 := h3 0 (by simp) 0 _ rfl
  rw [cell_of_row _ _ _ _ _ _ hq] at h4
  match o, h4 with
  |0, h4 => simp at h4
  |o + 1, h4 => simp at h4
structure MvB (A : Option Addr) (N cap : Nat) (pf pt : PlaceV) (w W : World) : Prop where
 s : W.heap[w.heap.size]? = some (.cells #[.slice A N cap] 69 (0, 0))
 f : W.heap[w.heap.size + 1]? = some (.cells #[.string ⟨pf.1.toArray⟩, .int .i64 pf.2.1, .int .i64 pf.2.2] 41 (0, 0))
 t : W.heap[w.heap.size + 2]? = some (.cells #[.string ⟨pt.1.toArray⟩, .int .i64 pt.2.1, .int .i64 pt.2.2] 41 (0, 0))
 r : W.heap[w.heap.size + 3]? = some (.cells #[.slice none 0 0] 69 (0, 0))
 b : Below w.heap.size w W
theorem MvB.below {A : Option Addr} {N cap : Nat} {pf pt : PlaceV} {w W W' : World} (h : MvB A N cap pf pt w W) (hb : Below W.heap.size W W') : MvB A N cap pf pt w W' :=
 ⟨at_b hb h.s (heap_lt h.s), at_b hb h.f (heap_lt h.f), at_b hb h.t (heap_lt h.t), at_b hb h.r (heap_lt h.r), h.b.trans (hb.mono h.b.size)⟩
theorem MvB.start (A : Option Addr) (N cap : Nat) (pf pt : PlaceV) (w : World) : MvB A N cap pf pt w ((((w.alloc (.cells #[.slice A N cap] 69)).alloc (.cells #[.string ⟨pf.1.toArray⟩, .int .i64 pf.2.1, .int .i64 pf.2.2] 41)).alloc (.cells #[.string ⟨pt.1.toArray⟩, .int .i64 pt.2.1, .int .i64 pt.2.2] 41)).alloc (.cells #[.slice none 0 0] 69)) := by
 obtain ⟨h1, h2, h3, h4⟩ := heap4 w (.cells #[.slice A N cap] 69) (.cells #[.string ⟨pf.1.toArray⟩, .int .i64 pf.2.1, .int .i64 pf.2.2] 41) (.cells #[.string ⟨pt.1.toArray⟩, .int .i64 pt.2.1, .int .i64 pt.2.2] 41) (.cells #[.slice none 0 0] 69)
 exact ⟨h1, h2, h3, h4, (((below_one w _).alloc (by simp) _).alloc (by simp; omega) _).alloc (by simp; omega) _⟩
set_option maxHeartbeats 1600000 in
set_option maxRecDepth 100000 in
theorem refMove_m {m : StkV} (hI : StkI m) (A : Option Addr) (cap : Nat) (w : World) (hrow : RowAt encLine 5 w A (linesM m)) (pf pt : PlaceV) (lot : List UInt8) (n : Int) (hz : pt.1.length ≤ 1000000000) (hlot : lot.length ≤ 1000000000) :
  Calls Tryz.prog 75 #[.agg #[.slice A m.length cap], .agg (encPlace pf).toArray, .agg (encPlace pt).toArray, .string ⟨lot.toArray⟩, .int .i64 n] w (StkEnds (linesM (moveM m pf pt lot n)) (moveE m pf pt lot n) w) := by
 have HTK := Lib.hid (fun W (hb : Below w.heap.size w W) => (refTake_m hI A cap W (hrow.below hb) pf lot n).mono fun _ _ h => h.len)
 have HPT := Lib.hid (fun A' cap' W hr => refPut_m (hI.take pf lot n) A' cap' W hr pt lot n hz hlot)
 have HPE := Lib.hid (fun W => refPlaceE_any pt hz W)
 have HQ := Lib.hid (fun W => eqPlace pf pt W)
 have HE := Lib.hid (show moveE m pf pt lot n = if takeE m pf lot n ≠ 0 then takeE m pf lot n else if placeE pt ≠ 0 then placeE pt else if pf = pt then 3 else putE (takeM m pf lot n) pt lot n from rfl)
 have HM := Lib.hid (show moveM m pf pt lot n = if moveE m pf pt lot n = 0 then putM (takeM m pf lot n) pt lot n else m from rfl)
 have HR := Lib.hid (fun W (hb : Below w.heap.size w W) => hrow.below hb)
 have HN := Lib.hid (linesM_len m)
 have HST := Lib.hid (MvB.start A m.length cap pf pt w)
 generalize moveM m pf pt lot n = mm at HM ⊢
 generalize moveE m pf pt lot n = me at HE HM ⊢
 generalize putE (takeM m pf lot n) pt lot n = ue at HPT HE
 generalize putM (takeM m pf lot n) pt lot n = m2 at HPT HM
 generalize takeM m pf lot n = m1 at HTK HPT
 generalize takeE m pf lot n = te at HTK HE
 generalize placeE pt = pe at HPE HE
 generalize m1.length = N1 at HTK HPT
 have HSTAY : Hid (∀ W', Below w.heap.size w W' → me ≠ 0 → StkEnds (linesM mm) me w (.returned (.tuple #[.agg #[.slice A m.length cap], .int .i64 me])) W') := fun W' hb h0 => by
  rw [HM.out, if_neg h0]
  exact ⟨A, cap, by rw [HN.out], ⟨HR.out _ hb, fun h => absurd h h0⟩, hb⟩
 generalize m.length = N at HTK HN HST HSTAY ⊢
 obtain ⟨dq, hdq⟩ : ∃ dq, dq = decide (pf = pt) := ⟨_, rfl⟩
 rw [← hdq] at HQ
 have HDQ := Lib.hid hdq
 clear hdq hrow hI hz hlot
 obtain ⟨a1, a2, a3⟩ := pf
 obtain ⟨b1, b2, b3⟩ := pt
 simp only [encPlace] at HTK HPT HPE HQ ⊢
 go_enter Tryz.func75, Tryz.ntmps75
 go_wp2_with fail
 refine (HTK.out _ HST.out.b).mono ?_
 rintro e w1 ⟨A1, cap1, rfl, hr1, bb1⟩
 have X1 := Lib.hid (HST.out.below bb1)
 have HR1 := Lib.hid hr1
 clear hr1 bb1 HST HTK
 have hx := heap_alloc_new w1 (.cells #[.slice A1 N1 cap1] 69)
 have X2 := Lib.hid (X1.out.below (below_one w1 (.cells #[.slice A1 N1 cap1] 69)))
 have HR2 := Lib.hid (HR1.out.below (below_one w1 (.cells #[.slice A1 N1 cap1] 69)))
 have HX2 := Lib.hid hx
 have hq := heap_lt X1.out.r
 obtain ⟨s0, -⟩ := row1 X2.out.s
 obtain ⟨f0, f1, f2⟩ := row3 X2.out.f
 obtain ⟨t0, t1, t2⟩ := row3 X2.out.t
 obtain ⟨r0, rf0⟩ := row1 X2.out.r
 obtain ⟨x0, xf0⟩ := row1 hx
 clear hx HR1
 by_cases hte : te = 0
 ·subst hte
  go_wp2_with fail
  generalize w1.alloc (.cells #[.slice A1 N1 cap1] 69) = W2 at *
  generalize w1.heap.size = q at *
  refine (HPE.out _).mono ?_
  rintro e w3 ⟨rfl, b3⟩
  have X3 := Lib.hid (X2.out.below b3)
  have HR3 := Lib.hid (HR2.out.below b3)
  have HX3 := Lib.hid (at_b b3 HX2.out (heap_lt HX2.out))
  clear b3 X1 X2 HR2 HX2 s0 f0 f1 f2 t0 t1 t2 r0 rf0 x0 xf0
  obtain ⟨s0, -⟩ := row1 X3.out.s
  obtain ⟨f0, f1, f2⟩ := row3 X3.out.f
  obtain ⟨t0, t1, t2⟩ := row3 X3.out.t
  obtain ⟨r0, rf0⟩ := row1 X3.out.r
  obtain ⟨x0, xf0⟩ := row1 HX3.out
  by_cases hpe : pe = 0
  ·subst hpe
   have heq := HQ.out
   cases dq with
   |true =>
    have HE1 := Lib.hid (show me = 3 from HE.out.trans (by rw [if_neg (by simp), if_neg (by simp), if_pos (of_decide_eq_true HDQ.out.symm)]))
    go_wp2_with fail
    (try simp only [Exit.inBlock, Exit.then])
    refine bodyPost_ret (results_cell_row2 rfl _ _ (w.heap.size + 3) 69 #[.slice A N cap] (0, 0) _ rfl (set_row X3.out.r _) Tryz.underlying69 rfl (by kernel_rfl)) rfl ?_
    have := HSTAY.out _ (X3.out.b.setCell (p := ⟨w.heap.size + 3, 0, none⟩) (by show _ ≤ w.heap.size + 3; omega) (.slice A N cap)) (by rw [HE1.out]; decide)
    rw [HE1.out] at this ⊢
    exact this
   |false =>
    have HE1 := Lib.hid (show me = ue from HE.out.trans (by rw [if_neg (by simp), if_neg (by simp), if_neg (of_decide_eq_false HDQ.out.symm)]))
    go_wp2_with fail
    refine (HPT.out _ _ _ HR3.out).mono ?_
    rintro e w4 h4
    obtain ⟨A4, cap4, rfl, hr4, hf4, b4⟩ := h4.len2
    have HFR := Lib.hid (fun h0 a ha => Nat.le_trans X3.out.b.size (hf4 h0 a ha))
    clear hf4
    have X4 := Lib.hid (X3.out.below b4)
    have HX4 := Lib.hid (at_b b4 HX3.out (heap_lt HX3.out))
    have HR4 := Lib.hid hr4
    clear b4 hr4 h4 X3 HR3 HX3 s0 f0 f1 f2 t0 t1 t2 r0 rf0 x0 xf0 heq
    obtain ⟨s0, -⟩ := row1 X4.out.s
    obtain ⟨r0, rf0⟩ := row1 X4.out.r
    obtain ⟨x0, xf0⟩ := row1 HX4.out
    have hr5 := (Below.heap_setCell w4 ⟨q, 0, none⟩ (.slice A4 m2.length cap4) (w.heap.size + 3) (by show w.heap.size + 3 ≠ q; omega)).trans X4.out.r
    have hx5 := set_row HX4.out (.slice A4 m2.length cap4)
    have B5 := Lib.hid (X4.out.b.setCell (p := ⟨q, 0, none⟩) (by show _ ≤ q; omega) (.slice A4 m2.length cap4))
    have hs5 := (Below.heap_setCell w4 ⟨q, 0, none⟩ (.slice A4 m2.length cap4) w.heap.size (by show w.heap.size ≠ q; omega)).trans X4.out.s
    have HRW := Lib.hid (fun v2 => row_set_sl (v := v2) (row_set_sl (v := .slice A4 m2.length cap4) HR4.out HX4.out) hr5)
    obtain ⟨s05, -⟩ := row1 hs5
    obtain ⟨r05, rf05⟩ := row1 hr5
    obtain ⟨x05, -⟩ := row1 hx5
    have HR5 := Lib.hid hr5
    clear hr5 hx5 hs5
    by_cases hue : ue = 0
    ·subst hue
     go_wp2_with fail
     (try simp only [Exit.inBlock, Exit.then])
     refine bodyPost_ret (results_cell_row2 rfl _ _ (w.heap.size + 3) 69 #[.slice A4 m2.length cap4] (0, 0) _ rfl (set_row HR5.out _) Tryz.underlying69 rfl (by kernel_rfl)) rfl ?_
     rw [HM.out, if_pos HE1.out, HE1.out]
     refine ⟨A4, cap4, by rw [linesM_len]; rfl, ⟨HRW.out _, fun _ a ha => HFR.out (by trivial) a ha⟩, B5.out.setCell (p := ⟨w.heap.size + 3, 0, none⟩) (by show _ ≤ w.heap.size + 3; omega) _⟩
    ·have hti : (ue : Int) ≠ 0 := by omega
     have htp : 0 < (ue : Int) := by omega
     go_wp2_with fail
     (try simp only [Exit.inBlock, Exit.then])
     refine bodyPost_ret (results_cell_row2 rfl _ _ (w.heap.size + 3) 69 #[.slice A N cap] (0, 0) _ rfl (set_row HR5.out _) Tryz.underlying69 rfl (by kernel_rfl)) rfl ?_
     have := HSTAY.out _ (B5.out.setCell (p := ⟨w.heap.size + 3, 0, none⟩) (by show _ ≤ w.heap.size + 3; omega) (.slice A N cap)) (by rw [HE1.out]; exact hue)
     rw [HE1.out] at this ⊢
     exact this
  ·have HE1 := Lib.hid (show me = pe from HE.out.trans (by rw [if_neg (by simp), if_pos hpe]))
   have hti : (pe : Int) ≠ 0 := by omega
   have htp : 0 < (pe : Int) := by omega
   go_wp2_with fail
   (try simp only [Exit.inBlock, Exit.then])
   refine bodyPost_ret (results_cell_row2 rfl _ _ (w.heap.size + 3) 69 #[.slice A N cap] (0, 0) _ rfl (set_row X3.out.r _) Tryz.underlying69 rfl (by kernel_rfl)) rfl ?_
   have := HSTAY.out _ (X3.out.b.setCell (p := ⟨w.heap.size + 3, 0, none⟩) (by show _ ≤ w.heap.size + 3; omega) (.slice A N cap)) (by rw [HE1.out]; exact hpe)
   rw [HE1.out] at this ⊢
   exact this
 ·have HE1 := Lib.hid (show me = te from HE.out.trans (if_pos hte))
  have hti : (te : Int) ≠ 0 := by omega
  have htp : 0 < (te : Int) := by omega
  go_wp2_with fail
  (try simp only [Exit.inBlock, Exit.then])
  have hs1 := set_row X1.out.r (.slice A N cap)
  refine bodyPost_ret (results_cell_row2 rfl _ _ (w.heap.size + 3) 69 #[.slice A N cap] (0, 0) _ rfl (at_b (below_one _ _) hs1 (heap_lt hs1)) Tryz.underlying69 rfl (by kernel_rfl)) rfl ?_
  have h2 := X1.out.b.setCell (p := ⟨w.heap.size + 3, 0, none⟩) (by show _ ≤ w.heap.size + 3; omega) (.slice A N cap)
  have := HSTAY.out _ (h2.alloc h2.size (.cells #[.slice A1 N1 cap1] 69)) (by rw [HE1.out]; exact hte)
  rw [HE1.out] at this ⊢
  exact this
end Go.Proofs.YteaalifehokgoaaGreatDoor
namespace Go.Proofs.YteaalifehokgoaaGreatDoor
open Go.RowKit Go.Sort Go.Proofs
theorem BookIs.fresh {w : World} {n p g l h s q c : Nat} {B : BkV} (hm : BookM w p g l h s q c B) (hd : [p, g, l, h, s, q, c].Nodup) (hn : ∀ k ∈ [p, g, l, h, s, q, c], n ≤ k) : ∃ F, BookIs w p F B ∧ ∀ k ∈ F, n ≤ k :=
 ⟨_, ⟨g, l, h, s, q, c, rfl, hd, hm⟩, hn⟩
set_option maxHeartbeats 400000 in
set_option maxRecDepth 100000 in
theorem newBook_any (w : World) : Calls Tryz.prog 18 #[] w fun e w' => ∃ p F, e = .returned (.pointer (some ⟨p, 0, none⟩)) ∧ BookIs w' p F bk0 ∧ (∀ k ∈ F, w.heap.size ≤ k) ∧ Below w.heap.size w w' := by
 have hmm := @run_makeMap Tryz.prog
 have g0 : MapF eGoods ((((w.alloc (.map #[] 0)).alloc (.map #[] 0)).alloc (.map #[] 0)).alloc (.map #[] 0)) w.heap.size (goodsF bk0) := (((MapF.made eGoods w).below (below_one _ _)).below (below_one _ _)).below (below_one _ _)
 have l0 : MapF eLot ((((w.alloc (.map #[] 0)).alloc (.map #[] 0)).alloc (.map #[] 0)).alloc (.map #[] 0)) (w.heap.size + 1) (lotsF bk0) := by
  have := ((MapF.made eLot (w.alloc (.map #[] 0))).below (below_one _ (.map #[] 0))).below (below_one _ (.map #[] 0))
  rw [show (w.alloc (.map #[] 0)).heap.size = w.heap.size + 1 by simp] at this
  exact this
 have h0 : MapF eNat ((((w.alloc (.map #[] 0)).alloc (.map #[] 0)).alloc (.map #[] 0)).alloc (.map #[] 0)) (w.heap.size + 2) (heldF bk0) := by
  have := (MapF.made eNat ((w.alloc (.map #[] 0)).alloc (.map #[] 0))).below (below_one _ (.map #[] 0))
  rw [show ((w.alloc (.map #[] 0)).alloc (.map #[] 0)).heap.size = w.heap.size + 2 by simp] at this
  exact this
 have s0 : MapF eSums ((((w.alloc (.map #[] 0)).alloc (.map #[] 0)).alloc (.map #[] 0)).alloc (.map #[] 0)) (w.heap.size + 3) (sumsF bk0) := by
  have := MapF.made eSums (((w.alloc (.map #[] 0)).alloc (.map #[] 0)).alloc (.map #[] 0))
  rw [show (((w.alloc (.map #[] 0)).alloc (.map #[] 0)).alloc (.map #[] 0)).heap.size = w.heap.size + 3 by simp] at this
  exact this
 have b0 : Below w.heap.size w ((((w.alloc (.map #[] 0)).alloc (.map #[] 0)).alloc (.map #[] 0)).alloc (.map #[] 0)) := (((below_one w _).alloc (by simp) _).alloc (by simp; omega) _).alloc (by simp; omega) _
 have z0 : ((((w.alloc (.map #[] 0)).alloc (.map #[] 0)).alloc (.map #[] 0)).alloc (.map #[] 0)).heap.size = w.heap.size + 4 := by simp
 have Z0 := Lib.hid z0
 have G0 := Lib.hid g0
 have L0 := Lib.hid l0
 have H0 := Lib.hid h0
 have S0 := Lib.hid s0
 have B0 := Lib.hid b0
 clear g0 l0 h0 s0 b0 z0
 go_enter Tryz.func18, Tryz.ntmps18
 go_wp2_with fail
 generalize (((w.alloc (.map #[] 0)).alloc (.map #[] 0)).alloc (.map #[] 0)).alloc (.map #[] 0) = W0 at Z0 G0 L0 H0 S0 B0 ⊢
 refine (newStock_any W0).mono ?_
 rintro e w5 ⟨rfl, hS, b5⟩
 have hz := hS.lt
 have HS := Lib.hid hS
 have bp := below_one w5 (.cells #[.map (some w.heap.size), .map (some (w.heap.size + 1)), .map (some (w.heap.size + 2)), .map (some (w.heap.size + 3)), .pointer (some ⟨W0.heap.size + 1, 0, none⟩)] 106)
 have b6 := b5.trans (bp.mono b5.size)
 have G6 := Lib.hid (G0.out.below b6)
 have L6 := Lib.hid (L0.out.below b6)
 have H6 := Lib.hid (H0.out.below b6)
 have S6 := Lib.hid (S0.out.below b6)
 have Q6 := Lib.hid (hS.below bp)
 have P6 := Lib.hid (heap_alloc_new w5 (.cells #[.map (some w.heap.size), .map (some (w.heap.size + 1)), .map (some (w.heap.size + 2)), .map (some (w.heap.size + 3)), .pointer (some ⟨W0.heap.size + 1, 0, none⟩)] 106))
 have B6 := Lib.hid (B0.out.trans (b6.mono B0.out.size))
 clear hS b5 bp b6
 go_wp2_with fail
 go_ret
 have hz0 := Z0.out
 obtain ⟨F, h1, h2⟩ := BookIs.fresh (n := w.heap.size) ⟨P6.out, G6.out, L6.out, H6.out, S6.out, ⟨[], Q6.out, List.Perm.refl _⟩⟩ (by
  simp only [List.nodup_cons, List.mem_cons, List.not_mem_nil, or_false, not_or, List.nodup_nil, and_true, not_false_eq_true]
  omega) (fun k hk => by
  simp only [List.mem_cons, List.not_mem_nil, or_false] at hk
  omega)
 exact ⟨_, F, rfl, h1, h2, B6.out⟩
end Go.Proofs.YteaalifehokgoaaGreatDoor
namespace Go.Proofs.YteaalifehokgoaaGreatDoor
open Go.RowKit Go.Sort Go.Proofs
theorem But.row {b : Nat} {w w' : World} (h : But b w w') {k : Nat} {o : Obj} (hc : w.heap[k]? = some o) (hne : k ≠ b) : w'.heap[k]? = some o := (h.block _ (row_lt hc) hne).trans hc
theorem But2.row {p b : Nat} {w w' : World} (h : But2 p b w w') {k : Nat} {o : Obj} (hc : w.heap[k]? = some o) (h1 : k ≠ p) (hne : k ≠ b) : w'.heap[k]? = some o := (h.block _ (row_lt hc) h1 hne).trans hc
theorem row_below {B : Nat} {w w' : World} (h : Below B w w') {k : Nat} {o : Obj} (hc : w.heap[k]? = some o) (hk : k < B) : w'.heap[k]? = some o := (h.block _ hk).trans hc
end Go.Proofs.YteaalifehokgoaaGreatDoor
