/- A stock of the document: Take. A stock of the document: Put. -/
import Derived.Test.YteaalifehokgoaaGreatDoorM11
namespace Go.Proofs.YteaalifehokgoaaGreatDoor
open Go.RowKit Go.Sort Go.Proofs
def takeEL (l : List LineV) (p : PlaceV) (lot : List UInt8) (n : Int) : Nat := if wiB n 1 1099511627776 = false then 2 else if atL l p lot < n then 9 else 0
def takeL (l : List LineV) (p : PlaceV) (lot : List UInt8) (n : Int) : List LineV := if takeEL l p lot n = 0 then withL (p, lot, atL l p lot - n) l else l
def StkEnds (l' : List LineV) (k : Nat) (w : World) (e : Ending) (w' : World) : Prop :=
 ∃ A' cap', e = .returned (.tuple #[.agg #[.slice A' l'.length cap'], .int .i64 k]) ∧ (RowAt encLine 5 w' A' l' ∧ (k = 0 → ∀ a, A' = some a → w.heap.size ≤ a.block)) ∧ Below w.heap.size w w'
theorem at_inP {l : List LineV} (h : ∀ x ∈ l, InP x.1) {p : PlaceV} {lot : List UInt8} (h1 : 1 ≤ atL l p lot) : InP p := by
 unfold atL at h1
 cases hf : l.find? (isAt p lot) with
 |none => rw [hf] at h1; exact absurd h1 (by simp)
 |some x =>
  have h2 := List.find?_some hf
  have h3 := List.mem_of_find?_eq_some hf
  unfold isAt at h2
  have h4 := (of_decide_eq_true h2).1
  rw [← h4]
  exact h x h3
theorem heap3 (w : World) (o0 o1 o2 : Obj) : ((((w.alloc o0).alloc o1).alloc o2).heap[w.heap.size]? = some o0 ∧ (((w.alloc o0).alloc o1).alloc o2).heap[w.heap.size + 1]? = some o1 ∧ (((w.alloc o0).alloc o1).alloc o2).heap[w.heap.size + 2]? = some o2) := by
 have a : ∀ (W : World) (o : Obj) (i : Nat), i < W.heap.size → (W.alloc o).heap[i]? = W.heap[i]? := fun W o i h => (below_one W o).block i h
 have n : ∀ (W : World) (o : Obj) (i : Nat), i = W.heap.size → (W.alloc o).heap[i]? = some o := fun W o i h => by rw [h]; exact heap_alloc_new W o
 refine ⟨?_, ?_, ?_⟩
 ·rw [a _ _ _ (by simp; omega), a _ _ _ (by simp)]
  exact n _ _ _ rfl
 ·rw [a _ _ _ (by simp)]
  exact n _ _ _ (by simp)
 ·exact n _ _ _ (by simp)
theorem row_set {w : World} {A : Option Addr} {l : List LineV} {q : Nat} {c v : Value} {t : TypeId} (h : RowAt encLine 5 w A l) (_ : w.heap[q]? = some (.cells #[c] t (0, 0))) (hA : ∀ a, A = some a → a.block ≠ q) : RowAt encLine 5 (w.setCell ⟨q, 0, none⟩ v) A l := by
 rcases h with h | ⟨b, o, h1, h2, h3⟩
 ·exact .inl h
 ·refine .inr ⟨b, o, h1, by simpa [World.setCell] using h2, fun i hi cc u hu => ?_⟩
  exact (World.cell?_of_block (Below.heap_setCell _ _ _ _ (hA _ h1))).trans (h3 i hi cc u hu)
set_option maxHeartbeats 1600000 in
set_option maxRecDepth 100000 in
theorem refTake_any (A : Option Addr) (cap : Nat) (l : List LineV) (p : PlaceV) (lot : List UInt8) (n : Int) (w : World) (hrow : RowAt encLine 5 w A l) (hl : l.length ≤ 100000) (hP : ∀ x ∈ l, InP x.1) (hat : atL l p lot ≤ 4611686018427387904) :
  Calls Tryz.prog 74 #[.agg #[.slice A l.length cap], .agg (encPlace p).toArray, .string ⟨lot.toArray⟩, .int .i64 n] w (StkEnds (takeL l p lot n) (takeEL l p lot n) w) := by
 have HAT := Lib.hid (fun W (hb : Below w.heap.size w W) => refAt_any A cap l p lot W (hrow.below hb) hl)
 have HWT := Lib.hid (fun W (hb : Below w.heap.size w W) (h1 : 1 ≤ atL l p lot) => refWith_any A cap l (p, lot, atL l p lot - n) W (hrow.below hb) hl (at_inP hP h1))
 have HE := Lib.hid (show takeEL l p lot n = if wiB n 1 1099511627776 = false then 2 else if atL l p lot < n then 9 else 0 from rfl)
 have HL := Lib.hid (show takeL l p lot n = if takeEL l p lot n = 0 then withL (p, lot, atL l p lot - n) l else l from rfl)
 have HROW := Lib.hid (fun W (hb : Below w.heap.size w W) => hrow.below hb)
 generalize takeL l p lot n = l' at HL ⊢
 generalize takeEL l p lot n = r at HE HL ⊢
 generalize withL (p, lot, atL l p lot - n) l = lw at HWT HL
 generalize atL l p lot = at0 at HAT HWT HE hat
 obtain ⟨N, hN⟩ : ∃ N, N = l.length := ⟨_, rfl⟩
 have HN := Lib.hid hN
 rw [← hN] at HAT HWT
 obtain ⟨p1, p2, p3⟩ := p
 simp only [encPlace] at HAT HWT ⊢
 rw [← hN] at hl ⊢
 clear hN hrow hP
 obtain ⟨W0, hW0⟩ : ∃ W0, W0 = ((w.alloc (.cells #[.slice A N cap] 69)).alloc (.cells #[.string ⟨p1.toArray⟩, .int .i64 p2, .int .i64 p3] 41)).alloc (.cells #[.slice none 0 0] 69) := ⟨_, rfl⟩
 obtain ⟨g0, g1, g2⟩ := heap3 w (.cells #[.slice A N cap] 69) (.cells #[.string ⟨p1.toArray⟩, .int .i64 p2, .int .i64 p3] 41) (.cells #[.slice none 0 0] 69)
 have HB0 : Hid (Below w.heap.size w W0) := by
  rw [hW0]
  exact ((below_one w _).alloc (by simp) _).alloc (by simp; omega) _
 have hs0 : W0.heap.size = w.heap.size + 3 := by rw [hW0]; simp
 rw [← hW0] at g0 g1 g2
 have c0 := cell_of_row _ _ 0 _ _ _ g0
 have d0 := cell_of_row _ _ 0 _ _ _ g1
 have d1 := cell_of_row _ _ 1 _ _ _ g1
 have d2 := cell_of_row _ _ 2 _ _ _ g1
 have r0 := cell_of_row _ _ 0 _ _ _ g2
 have rf0 := frozen_of_row _ _ 0 _ _ g2
 simp at c0 d0 d1 d2 r0
 have HSR := Lib.hid (heap3 w (.cells #[.slice A N cap] 69) (.cells #[.string ⟨p1.toArray⟩, .int .i64 p2, .int .i64 p3] 41) (.cells #[.slice A N cap] 69)).2.2
 have HB2 : Hid (Below w.heap.size w (((w.alloc (.cells #[.slice A N cap] 69)).alloc (.cells #[.string ⟨p1.toArray⟩, .int .i64 p2, .int .i64 p3] 41)).alloc (.cells #[.slice A N cap] 69))) := by
  exact ((below_one w _).alloc (by simp) _).alloc (by simp; omega) _
 have HSTAY : Hid (∀ W', Below w.heap.size w W' → ∀ k, r = k → k ≠ 0 → StkEnds l k w (.returned (.tuple #[.agg #[.slice A N cap], .int .i64 k])) W' ∧ l' = l) := fun W' hb k hk h0 => by
  refine ⟨⟨A, cap, by rw [HN.out], ⟨HROW.out _ hb, fun h => absurd h h0⟩, hb⟩, ?_⟩
  rw [HL.out, hk, if_neg h0]
 have G2 := Lib.hid g2
 clear g0 g1 g2
 subst hW0
 rcases (show n < 1 ∨ (¬ n < 1 ∧ 1099511627776 < n) ∨ (¬ n < 1 ∧ ¬ 1099511627776 < n) by omega) with h1 | ⟨h1, h2⟩ | ⟨h1, h2⟩
 ·have HR : Hid (r = 2) := by
   show _ = _
   rw [HE.out, if_pos (by unfold wiB; simp; omega)]
  go_enter Tryz.func74, Tryz.ntmps74
  go_wp2_with fail
  (try simp only [Exit.inBlock, Exit.then])
  refine bodyPost_ret (results_cell_row2 rfl _ _ (w.heap.size + 2) 69 #[.slice A N cap] (0, 0) _ rfl HSR.out Tryz.underlying69 rfl (by kernel_rfl)) rfl ?_
  obtain ⟨q1, q2⟩ := HSTAY.out _ HB2.out 2 HR.out (by omega)
  rw [q2, HR.out]
  exact q1
 ·have HR : Hid (r = 2) := by
   show _ = _
   rw [HE.out, if_pos (by unfold wiB; simp; omega)]
  go_enter Tryz.func74, Tryz.ntmps74
  go_wp2_with fail
  (try simp only [Exit.inBlock, Exit.then])
  refine bodyPost_ret (results_cell_row2 rfl _ _ (w.heap.size + 2) 69 #[.slice A N cap] (0, 0) _ rfl HSR.out Tryz.underlying69 rfl (by kernel_rfl)) rfl ?_
  obtain ⟨q1, q2⟩ := HSTAY.out _ HB2.out 2 HR.out (by omega)
  rw [q2, HR.out]
  exact q1
 ·clear HSR HB2
  go_enter Tryz.func74, Tryz.ntmps74
  go_wp2_with fail
  refine (HAT.out _ HB0.out).mono ?_
  rintro e w1 ⟨rfl, b1⟩
  have B1 := Lib.hid (HB0.out.trans (b1.mono HB0.out.size))
  have up := fun (q : Addr) (v : Value) h => (b1.cell (lt_of_cell (a := q) (v := v) h)).trans h
  have c0' := up _ _ c0
  have d0' := up _ _ d0
  have d1' := up _ _ d1
  have d2' := up _ _ d2
  have hk1 := (b1.block _ (Array.getElem?_eq_some_iff.1 G2.out).1).trans G2.out
  have r0' := cell_of_row _ _ 0 _ _ _ hk1
  have rf0' := frozen_of_row _ _ 0 _ _ hk1
  have HK1 := Lib.hid hk1
  simp at c0' d0' d1' d2' r0'
  clear up b1 c0 d0 d1 d2 r0 rf0 hk1 G2
  by_cases h3 : at0 < n
  ·have HR : Hid (r = 9) := by
    show _ = _
    rw [HE.out, if_neg (by unfold wiB; simp; omega), if_pos h3]
   have HBE := Lib.hid (B1.out.setCell (p := ⟨w.heap.size + 2, 0, none⟩) (by show _ ≤ w.heap.size + 2; omega) (.slice A N cap))
   go_wp2_with fail
   (try simp only [Exit.inBlock, Exit.then])
   refine bodyPost_ret (results_cell_row2 rfl _ _ (w.heap.size + 2) 69 #[.slice A N cap] (0, 0) _ rfl (set_row HK1.out _) Tryz.underlying69 rfl (by kernel_rfl)) rfl ?_
   obtain ⟨q1, q2⟩ := HSTAY.out _ HBE.out 9 HR.out (by omega)
   rw [q2, HR.out]
   exact q1
  ·have HR : Hid (r = 0) := by
    show _ = _
    rw [HE.out, if_neg (by unfold wiB; simp; omega), if_neg h3]
   have HL2 : Hid (l' = lw) := by
    show _ = _
    rw [HL.out, if_pos HR.out]
   go_wp2_with fail
   refine (HWT.out _ B1.out (by omega)).mono ?_
   rintro e w2 ⟨A2, cap2, rfl, hrw, hge, b2⟩
   have hlt1 := (Array.getElem?_eq_some_iff.1 HK1.out).1
   have hk2 := (b2.block _ (Array.getElem?_eq_some_iff.1 HK1.out).1).trans HK1.out
   have r0w := cell_of_row _ _ 0 _ _ _ hk2
   have rf0w := frozen_of_row _ _ 0 _ _ hk2
   have HK2 := Lib.hid hk2
   have HRW := Lib.hid hrw
   have HB2 := Lib.hid (B1.out.trans (b2.mono B1.out.size))
   clear hk2 hrw b2
   go_wp2_with fail
   (try simp only [Exit.inBlock, Exit.then])
   refine bodyPost_ret (results_cell_row2 rfl _ _ (w.heap.size + 2) 69 #[.slice A2 lw.length cap2] (0, 0) _ rfl (set_row HK2.out _) Tryz.underlying69 rfl (by kernel_rfl)) rfl ?_
   rw [HL2.out, HR.out]
   refine ⟨A2, cap2, rfl, ⟨row_set HRW.out HK2.out ?_, fun _ a ha => Nat.le_trans B1.out.size (hge a ha)⟩, HB2.out.setCell (p := ⟨w.heap.size + 2, 0, none⟩) (by show _ ≤ w.heap.size + 2; omega) _⟩
   intro a ha
   have := hge a ha
   omega
end Go.Proofs.YteaalifehokgoaaGreatDoor
namespace Go.Proofs.YteaalifehokgoaaGreatDoor
open Go.RowKit Go.Sort Go.Proofs
def putEL (l : List LineV) (p : PlaceV) (lot : List UInt8) (n : Int) : Nat :=
 if placeE p ≠ 0 then placeE p else if nameB lot = false then 5 else if wiB n 1 1099511627776 = false then 2 else if 1099511627776 < ofL l lot + n then 2 else if fndI l p lot < 0 ∧ 200 ≤ l.length then 8 else 0
def putL (l : List LineV) (p : PlaceV) (lot : List UInt8) (n : Int) : List LineV := if putEL l p lot n = 0 then withL (p, lot, atL l p lot + n) l else l
theorem cell_set_other {w : World} {q j b i : Nat} {u v : Value} (hc : w.cell? ⟨b, i, none⟩ = some u) (h : b ≠ q) : (w.setCell ⟨q, j, none⟩ v).cell? ⟨b, i, none⟩ = some u := (World.cell?_of_block (Below.heap_setCell _ _ _ _ h)).trans hc
def Bx (A : Option Addr) (N cap : Nat) (p : PlaceV) (w W : World) : Prop :=
 W.heap[w.heap.size]? = some (.cells #[.slice A N cap] 69 (0, 0)) ∧ W.heap[w.heap.size + 1]? = some (.cells #[.string ⟨p.1.toArray⟩, .int .i64 p.2.1, .int .i64 p.2.2] 41 (0, 0)) ∧ W.heap[w.heap.size + 2]? = some (.cells #[.slice none 0 0] 69 (0, 0)) ∧ Below w.heap.size w W
theorem Bx.below {A : Option Addr} {N cap : Nat} {p : PlaceV} {w W W' : World} (h : Bx A N cap p w W) (hb : Below W.heap.size W W') : Bx A N cap p w W' := by
 obtain ⟨h1, h2, h3, h4⟩ := h
 exact ⟨(hb.block _ (Array.getElem?_eq_some_iff.1 h1).1).trans h1, (hb.block _ (Array.getElem?_eq_some_iff.1 h2).1).trans h2, (hb.block _ (Array.getElem?_eq_some_iff.1 h3).1).trans h3, h4.trans (hb.mono h4.size)⟩
theorem Bx.start (A : Option Addr) (N cap : Nat) (p : PlaceV) (w : World) : Bx A N cap p w (((w.alloc (.cells #[.slice A N cap] 69)).alloc (.cells #[.string ⟨p.1.toArray⟩, .int .i64 p.2.1, .int .i64 p.2.2] 41)).alloc (.cells #[.slice none 0 0] 69)) := by
 obtain ⟨h1, h2, h3⟩ := heap3 w (.cells #[.slice A N cap] 69) (.cells #[.string ⟨p.1.toArray⟩, .int .i64 p.2.1, .int .i64 p.2.2] 41) (.cells #[.slice none 0 0] 69)
 exact ⟨h1, h2, h3, ((below_one w _).alloc (by simp) _).alloc (by simp; omega) _⟩
set_option maxHeartbeats 1600000 in
set_option maxRecDepth 100000 in
theorem refPut_any (A : Option Addr) (cap : Nat) (l : List LineV) (p : PlaceV) (lot : List UInt8) (n : Int) (w : World) (hrow : RowAt encLine 5 w A l) (hl : l.length ≤ 100000) (hz : p.1.length ≤ 1000000000) (hlot : lot.length ≤ 1000000000) (hpos : ∀ x ∈ l, 0 ≤ x.2.2) (hof : ofL l lot ≤ 1099511627776) (hat : 0 ≤ atL l p lot ∧ atL l p lot ≤ 1099511627776) :
  Calls Tryz.prog 73 #[.agg #[.slice A l.length cap], .agg (encPlace p).toArray, .string ⟨lot.toArray⟩, .int .i64 n] w (StkEnds (putL l p lot n) (putEL l p lot n) w) := by
 have HPE := Lib.hid (fun W => refPlaceE_any p hz W)
 have HNM := Lib.hid (fun W => isName_any lot hlot W)
 have HOF := Lib.hid (fun W (hb : Below w.heap.size w W) => refOf_any A cap l lot W (hrow.below hb) hl hpos (by omega))
 have HFI := Lib.hid (fun W (hb : Below w.heap.size w W) => refFind_any A cap l p lot W (hrow.below hb) hl)
 have HAT := Lib.hid (fun W (hb : Below w.heap.size w W) => refAt_any A cap l p lot W (hrow.below hb) hl)
 have HWT := Lib.hid (fun W (hb : Below w.heap.size w W) (h1 : placeE p = 0) => refWith_any A cap l (p, lot, atL l p lot + n) W (hrow.below hb) hl (InP.of h1))
 have HE := Lib.hid (show putEL l p lot n = if placeE p ≠ 0 then placeE p else if nameB lot = false then 5 else if wiB n 1 1099511627776 = false then 2 else if 1099511627776 < ofL l lot + n then 2 else if fndI l p lot < 0 ∧ 200 ≤ l.length then 8 else 0 from rfl)
 have HL := Lib.hid (show putL l p lot n = if putEL l p lot n = 0 then withL (p, lot, atL l p lot + n) l else l from rfl)
 have HROW := Lib.hid (fun W (hb : Below w.heap.size w W) => hrow.below hb)
 have hof0 := ofL_nonneg hpos lot
 generalize putL l p lot n = l' at HL ⊢
 generalize putEL l p lot n = r at HE HL ⊢
 generalize withL (p, lot, atL l p lot + n) l = lw at HWT HL
 generalize atL l p lot = at0 at HAT HWT hat
 generalize ofL l lot = of0 at HOF HE hof hof0
 generalize fndI l p lot = fi at HFI HE
 generalize placeE p = pe at HPE HE HWT
 generalize nameB lot = nb at HNM HE
 obtain ⟨N, hN⟩ : ∃ N, N = l.length := ⟨_, rfl⟩
 have HN := Lib.hid hN
 rw [← hN] at HAT HWT HOF HFI HE
 have HBX := Lib.hid (Bx.start A N cap p w)
 obtain ⟨p1, p2, p3⟩ := p
 simp only [encPlace] at HAT HWT HPE HFI ⊢
 rw [← hN] at hl ⊢
 clear hN hrow hpos hz hlot
 have HSTAY : Hid (∀ W', Below w.heap.size w W' → ∀ k, r = k → k ≠ 0 → StkEnds l k w (.returned (.tuple #[.agg #[.slice A N cap], .int .i64 k])) W' ∧ l' = l) := fun W' hb k hk h0 => by
  refine ⟨⟨A, cap, by rw [HN.out], ⟨HROW.out _ hb, fun h => absurd h h0⟩, hb⟩, ?_⟩
  rw [HL.out, hk, if_neg h0]
 go_enter Tryz.func73, Tryz.ntmps73
 go_wp2_with fail
 refine (HPE.out _).mono ?_
 rintro e w1 ⟨rfl, b1⟩
 have X1 := Lib.hid (HBX.out.below b1)
 clear b1 HBX
 have c0 := cell_of_row _ _ 0 _ _ _ X1.out.1
 have d0 := cell_of_row _ _ 0 _ _ _ X1.out.2.1
 have d1 := cell_of_row _ _ 1 _ _ _ X1.out.2.1
 have d2 := cell_of_row _ _ 2 _ _ _ X1.out.2.1
 have r0 := cell_of_row _ _ 0 _ _ _ X1.out.2.2.1
 have rf0 := frozen_of_row _ _ 0 _ _ X1.out.2.2.1
 simp at c0 d0 d1 d2 r0
 by_cases h0 : pe = 0
 ·subst h0
  go_wp2_with fail
  refine (HNM.out _).mono ?_
  rintro e w2 ⟨rfl, rfl⟩
  cases nb with
  |false =>
   have HR : Hid (r = 5) := by
    show _ = _
    rw [HE.out, if_neg (by simp), if_pos rfl]
   go_wp2_with fail
   (try simp only [Exit.inBlock, Exit.then])
   refine bodyPost_ret (results_cell_row2 rfl _ _ (w.heap.size + 2) 69 #[.slice A N cap] (0, 0) _ rfl (set_row X1.out.2.2.1 _) Tryz.underlying69 rfl (by kernel_rfl)) rfl ?_
   obtain ⟨q1, q2⟩ := HSTAY.out _ (X1.out.2.2.2.setCell (p := ⟨w.heap.size + 2, 0, none⟩) (by show _ ≤ w.heap.size + 2; omega) (.slice A N cap)) 5 HR.out (by omega)
   rw [q2, HR.out]
   exact q1
  |true =>
   rcases (show n < 1 ∨ (¬ n < 1 ∧ 1099511627776 < n) ∨ (¬ n < 1 ∧ ¬ 1099511627776 < n) by omega) with h1 | ⟨h1, h2⟩ | ⟨h1, h2⟩
   ·have HR : Hid (r = 2) := by
     show _ = _
     rw [HE.out, if_neg (by simp), if_neg (by simp), if_pos (by unfold wiB; simp; omega)]
    go_wp2_with fail
    (try simp only [Exit.inBlock, Exit.then])
    refine bodyPost_ret (results_cell_row2 rfl _ _ (w.heap.size + 2) 69 #[.slice A N cap] (0, 0) _ rfl (set_row X1.out.2.2.1 _) Tryz.underlying69 rfl (by kernel_rfl)) rfl ?_
    obtain ⟨q1, q2⟩ := HSTAY.out _ (X1.out.2.2.2.setCell (p := ⟨w.heap.size + 2, 0, none⟩) (by show _ ≤ w.heap.size + 2; omega) (.slice A N cap)) 2 HR.out (by omega)
    rw [q2, HR.out]
    exact q1
   ·have HR : Hid (r = 2) := by
     show _ = _
     rw [HE.out, if_neg (by simp), if_neg (by simp), if_pos (by unfold wiB; simp; omega)]
    go_wp2_with fail
    (try simp only [Exit.inBlock, Exit.then])
    refine bodyPost_ret (results_cell_row2 rfl _ _ (w.heap.size + 2) 69 #[.slice A N cap] (0, 0) _ rfl (set_row X1.out.2.2.1 _) Tryz.underlying69 rfl (by kernel_rfl)) rfl ?_
    obtain ⟨q1, q2⟩ := HSTAY.out _ (X1.out.2.2.2.setCell (p := ⟨w.heap.size + 2, 0, none⟩) (by show _ ≤ w.heap.size + 2; omega) (.slice A N cap)) 2 HR.out (by omega)
    rw [q2, HR.out]
    exact q1
   ·go_wp2_with fail
    refine (HOF.out _ X1.out.2.2.2).mono ?_
    rintro e w3 ⟨rfl, b3⟩
    have X3 := Lib.hid (X1.out.below b3)
    clear b3 c0 d0 d1 d2 r0 rf0
    have c0 := cell_of_row _ _ 0 _ _ _ X3.out.1
    have d0 := cell_of_row _ _ 0 _ _ _ X3.out.2.1
    have d1 := cell_of_row _ _ 1 _ _ _ X3.out.2.1
    have d2 := cell_of_row _ _ 2 _ _ _ X3.out.2.1
    have r0 := cell_of_row _ _ 0 _ _ _ X3.out.2.2.1
    have rf0 := frozen_of_row _ _ 0 _ _ X3.out.2.2.1
    simp at c0 d0 d1 d2 r0
    have hsum : 0 ≤ of0 + n := by omega
    have hsum2 : of0 + n ≤ 2199023255552 := by omega
    by_cases h3 : 1099511627776 < of0 + n
    ·have HR : Hid (r = 2) := by
      show _ = _
      rw [HE.out, if_neg (by simp), if_neg (by simp), if_neg (by unfold wiB; simp; omega), if_pos h3]
     go_wp2_with fail
     (try simp only [Exit.inBlock, Exit.then])
     refine bodyPost_ret (results_cell_row2 rfl _ _ (w.heap.size + 2) 69 #[.slice A N cap] (0, 0) _ rfl (set_row X3.out.2.2.1 _) Tryz.underlying69 rfl (by kernel_rfl)) rfl ?_
     obtain ⟨q1, q2⟩ := HSTAY.out _ (X3.out.2.2.2.setCell (p := ⟨w.heap.size + 2, 0, none⟩) (by show _ ≤ w.heap.size + 2; omega) (.slice A N cap)) 2 HR.out (by omega)
     rw [q2, HR.out]
     exact q1
    ·go_wp2_with fail
     refine (HFI.out _ X3.out.2.2.2).mono ?_
     rintro e w4 ⟨rfl, b4⟩
     have X4 := Lib.hid (X3.out.below b4)
     clear b4 c0 d0 d1 d2 r0 rf0
     have c0 := cell_of_row _ _ 0 _ _ _ X4.out.1
     have d0 := cell_of_row _ _ 0 _ _ _ X4.out.2.1
     have d1 := cell_of_row _ _ 1 _ _ _ X4.out.2.1
     have d2 := cell_of_row _ _ 2 _ _ _ X4.out.2.1
     have r0 := cell_of_row _ _ 0 _ _ _ X4.out.2.2.1
     have rf0 := frozen_of_row _ _ 0 _ _ X4.out.2.2.1
     simp at c0 d0 d1 d2 r0
     have hE2 : r = if fi < 0 ∧ 200 ≤ N then 8 else 0 := by
      rw [HE.out, if_neg (by simp), if_neg (by simp), if_neg (by unfold wiB; simp; omega), if_neg (by omega)]
     have HE2 := Lib.hid hE2
     clear hE2
     rcases (show (fi < 0 ∧ 200 ≤ N) ∨ (fi < 0 ∧ ¬ 200 ≤ N) ∨ ¬ fi < 0 by omega) with ⟨h4, h5⟩ | hh
     ·have HR : Hid (r = 8) := by
       show _ = _
       rw [HE2.out, if_pos ⟨h4, h5⟩]
      have h5' : (200 : Int) ≤ (N : Int) := by omega
      go_wp2_with fail
      (try simp only [Exit.inBlock, Exit.then])
      refine bodyPost_ret (results_cell_row2 rfl _ _ (w.heap.size + 2) 69 #[.slice A N cap] (0, 0) _ rfl (set_row X4.out.2.2.1 _) Tryz.underlying69 rfl (by kernel_rfl)) rfl ?_
      obtain ⟨q1, q2⟩ := HSTAY.out _ (X4.out.2.2.2.setCell (p := ⟨w.heap.size + 2, 0, none⟩) (by show _ ≤ w.heap.size + 2; omega) (.slice A N cap)) 8 HR.out (by omega)
      rw [q2, HR.out]
      exact q1
     ·have HR : Hid (r = 0) := by
       show _ = _
       rw [HE2.out, if_neg (by omega)]
      have HL2 : Hid (l' = lw) := by
       show _ = _
       rw [HL.out, if_pos HR.out]
      have hs1 : 0 ≤ at0 + n := by omega
      have hs2 : at0 + n ≤ 2199023255552 := by omega
      have hd4 := X4.out.2.2.2.drew
      have hwr : IntKind.i64.wrap (at0 + n) = at0 + n := wrap_small (by omega) (by omega)
      clear hsum hsum2 h3 HE HE2 HSTAY HOF HFI HNM HPE hof hof0
      rcases hh with ⟨h4, h5⟩ | h4
      all_goals
       (try (have h5' : ¬ (200 : Int) ≤ (N : Int) := by omega))
       go_wp2_with fail
       go_region_held3 (fun w' => w'.cell? ⟨w.heap.size, 0, none⟩ = some (.slice A N cap) ∧ w'.cell? ⟨w.heap.size + 1, 0, none⟩ = some (.string ⟨p1.toArray⟩) ∧ w'.cell? ⟨w.heap.size + 1, 1, none⟩ = some (.int .i64 p2) ∧ w'.cell? ⟨w.heap.size + 1, 2, none⟩ = some (.int .i64 p3))
        (first | exact ⟨c0, d0, d1, d2⟩ | exact ⟨c0v, d0v, d1v, d2v⟩ | exact ⟨cell_set_other c0v (by omega), cell_set_other d0v (by omega), cell_set_other d1v (by omega), cell_set_other d2v (by omega)⟩ | go_keep)
        (first
         |(go_at_call 125; refine (HAT.out _ hd4).mono ?_; rintro e w5 ⟨rfl, b5⟩; have X5 := Lib.hid (X4.out.below ((Below.refl _ _).drew.trans b5)); have c0v := cell_of_row _ _ 0 _ _ _ X5.out.1; have d0v := cell_of_row _ _ 0 _ _ _ X5.out.2.1; have d1v := cell_of_row _ _ 1 _ _ _ X5.out.2.1; have d2v := cell_of_row _ _ 2 _ _ _ X5.out.2.1; simp at c0v d0v d1v d2v)
         |(go_at_call 124; refine (HWT.out _ X5.out.2.2.2 (by trivial)).mono ?_; rintro e w6 ⟨A2, cap2, rfl, hrw, hge, b6⟩; have X6 := Lib.hid (X5.out.below b6); have c0v := cell_of_row _ _ 0 _ _ _ X6.out.1; have d0v := cell_of_row _ _ 0 _ _ _ X6.out.2.1; have d1v := cell_of_row _ _ 1 _ _ _ X6.out.2.1; have d2v := cell_of_row _ _ 2 _ _ _ X6.out.2.1; have r0v := cell_of_row _ _ 0 _ _ _ X6.out.2.2.1; have rf0v := frozen_of_row _ _ 0 _ _ X6.out.2.2.1; simp at r0v c0v d0v d1v d2v; have HRW := Lib.hid hrw; have HGE := Lib.hid hge; clear hrw hge))
       all_goals
        go_wp2_with fail
        (try simp only [Exit.inBlock, Exit.then])
        refine bodyPost_ret (results_cell_row2 rfl _ _ (w.heap.size + 2) 69 #[.slice A2 lw.length cap2] (0, 0) _ rfl (set_row X6.out.2.2.1 _) Tryz.underlying69 rfl (by kernel_rfl)) rfl ?_
        rw [HL2.out, HR.out]
        refine ⟨A2, cap2, rfl, ⟨row_set HRW.out X6.out.2.2.1 ?_, fun _ a ha => Nat.le_trans X5.out.2.2.2.size (HGE.out a ha)⟩, X6.out.2.2.2.setCell (p := ⟨w.heap.size + 2, 0, none⟩) (by show _ ≤ w.heap.size + 2; omega) _⟩
        intro a ha
        have h1 := HGE.out a ha
        have h2 := (Array.getElem?_eq_some_iff.1 X5.out.2.2.1).1
        omega
 ·have hpos : 0 < (pe : Int) := by omega
  have HR : Hid (r = pe) := by
   show _ = _
   rw [HE.out, if_pos h0]
  go_wp2_with fail
  (try simp only [Exit.inBlock, Exit.then])
  refine bodyPost_ret (results_cell_row2 rfl _ _ (w.heap.size + 2) 69 #[.slice A N cap] (0, 0) _ rfl (set_row X1.out.2.2.1 _) Tryz.underlying69 rfl (by kernel_rfl)) rfl ?_
  obtain ⟨q1, q2⟩ := HSTAY.out _ (X1.out.2.2.2.setCell (p := ⟨w.heap.size + 2, 0, none⟩) (by show _ ≤ w.heap.size + 2; omega) (.slice A N cap)) pe HR.out (by omega)
  rw [q2, HR.out]
  exact q1
end Go.Proofs.YteaalifehokgoaaGreatDoor
