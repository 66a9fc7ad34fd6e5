/- Entries: Check. -/
import Derived.Test.YtmhkcmoepopnoaaDoorForm
import Derived.Test.YtmhkcmoepopnoaaDoorEntQ
namespace Go.Proofs.YtmhkcmoepopnoaaDoor
open Go.RowKit Go.Sort Go.Proofs

/-- What the walks over entries lean on. -/
structure EntG (E : Nat → Addr) (w : World) : Prop where
  read : ReadG E w
  shape : ErrAt 1 (E 3) w
  kind : ErrAt 0 (E 4) w
theorem EntG.below {E : Nat → Addr} {w w' : World} (h : EntG E w) (hb : Below w.heap.size w w') : EntG E w' := ⟨h.read.below hb, h.shape.below hb, h.kind.below hb⟩

set_option maxHeartbeats 800000 in
theorem places_any (E : Nat → Addr) (x : EntV) (bF bT bP : Bool) (w : World) (hG : EntG E w) :
    Calls Tryd.prog 23 #[.agg (encEnt x).toArray, .agg #[.bool bF, .bool bT, .bool bP]] w fun e w' => e = .returned (errOf E (if bF = true ∧ placeE x.2.2.2.1 ≠ 0 then placeE x.2.2.2.1 else if bT = true then placeE x.2.2.2.2.1 else 0)) ∧ Below w.heap.size w w' := by
  have HF := Lib.hid (fun W h => checkPlace_any E x.2.2.2.1 W h)
  have HT := Lib.hid (fun W h => checkPlace_any E x.2.2.2.2.1 W h)
  have hc := fun i v (h : (encEnt x)[i]? = some v) => show ((w.alloc (.cells (encEnt x).toArray 29)).alloc (.cells #[.bool bF, .bool bT, .bool bP] 40)).cell? ⟨w.heap.size, i, none⟩ = some v from ((below_one (w.alloc (.cells (encEnt x).toArray 29)) _).cell (p := ⟨w.heap.size, i, none⟩) (by simp)).trans ((cell_of_row _ _ _ _ _ _ (heap_alloc_new _ _)).trans (by simpa using h))
  have b0 := below_two w (.cells (encEnt x).toArray 29) (.cells #[.bool bF, .bool bT, .bool bP] 40)
  have c7 := hc 7 _ rfl
  have c8 := hc 8 _ rfl
  have c9 := hc 9 _ rfl
  have c10 := hc 10 _ rfl
  have c11 := hc 11 _ rfl
  have c12 := hc 12 _ rfl
  clear hc
  have hfr : ((w.alloc (.cells (encEnt x).toArray 29)).alloc (.cells #[.bool bF, .bool bT, .bool bP] 40)).heap[w.heap.size + 1]? = some (.cells #[.bool bF, .bool bT, .bool bP] 40 (0, 0)) := by
    have := heap_alloc_new (w.alloc (.cells (encEnt x).toArray 29)) (.cells #[.bool bF, .bool bT, .bool bP] 40)
    simpa using this
  have d0 : ((w.alloc (.cells (encEnt x).toArray 29)).alloc (.cells #[.bool bF, .bool bT, .bool bP] 40)).cell? ⟨w.heap.size + 1, 0, none⟩ = some (.bool bF) := cell_of_row _ _ _ _ _ _ hfr
  have d1 : ((w.alloc (.cells (encEnt x).toArray 29)).alloc (.cells #[.bool bF, .bool bT, .bool bP] 40)).cell? ⟨w.heap.size + 1, 1, none⟩ = some (.bool bT) := cell_of_row _ _ _ _ _ _ hfr
  have HG := Lib.hid (fun W (h : Below w.heap.size w W) => (hG.below h).read.place)
  clear hfr hG
  obtain ⟨k, ⟨g1, g2⟩, ⟨l1, l2, l3, l4⟩, ⟨f1, f2, f3⟩, ⟨t1, t2, t3⟩, n⟩ := x
  simp only [encEnt, encPlace] at HF HT b0 c7 c8 c9 c10 c11 c12 d0 d1 ⊢
  generalize placeE (f1, f2, f3) = pf at HF ⊢
  generalize placeE (t1, t2, t3) = pt at HT ⊢
  obtain ⟨r, hr⟩ : ∃ r, r = (if bF = true ∧ pf ≠ 0 then pf else if bT = true then pt else 0) := ⟨_, rfl⟩
  rw [← hr]
  have HR := Lib.hid hr
  clear hr
  cases bF with
  | false =>
    cases bT with
    | false =>
      have HR0 : Hid (r = 0) := by show _ = _; rw [HR.out]; simp
      go_enter Tryd.func23, Tryd.ntmps23
      go_wp2
      go_ret
      rw [HR0.out]
      exact ⟨rfl, b0⟩
    | true =>
      have HR0 : Hid (r = pt) := by show _ = _; rw [HR.out]; simp
      go_enter Tryd.func23, Tryd.ntmps23
      go_wp2_with fail
      refine (HT.out _ (HG.out _ b0)).mono ?_
      rintro e w1 ⟨rfl, b1⟩
      have B1 := Lib.hid (b0.trans (b1.mono b0.size))
      clear b1 b0
      go_wp2
      go_ret
      rw [HR0.out]
      exact ⟨rfl, B1.out⟩
  | true =>
    go_enter Tryd.func23, Tryd.ntmps23
    go_wp2_with fail
    refine (HF.out _ (HG.out _ b0)).mono ?_
    rintro e w1 ⟨rfl, b1⟩
    have g := fun (b o : Nat) (v : Value) (hc : _ = some v) => (b1.cell (p := ⟨b, o, none⟩) (lt_of_cell hc)).trans hc
    have e10 := g _ _ _ c10
    have e11 := g _ _ _ c11
    have e12 := g _ _ _ c12
    have e1 := g _ _ _ d1
    have B1 := Lib.hid (b0.trans (b1.mono b0.size))
    clear b1 b0 g c7 c8 c9 c10 c11 c12 d0 d1
    by_cases h0 : pf = 0
    · subst h0
      rw [errOf_zero]
      cases bT with
      | false =>
        have HR0 : Hid (r = 0) := by show _ = _; rw [HR.out]; simp
        go_wp2
        go_ret
        rw [HR0.out]
        exact ⟨rfl, B1.out⟩
      | true =>
        have HR0 : Hid (r = pt) := by show _ = _; rw [HR.out]; simp
        go_wp2_with fail
        refine (HT.out _ (HG.out _ B1.out)).mono ?_
        rintro e w2 ⟨rfl, b2⟩
        have B2 := Lib.hid (B1.out.trans (b2.mono B1.out.size))
        clear b2
        go_wp2
        go_ret
        rw [HR0.out]
        exact ⟨rfl, B2.out⟩
    · rw [errOf_pos _ _ h0]
      have HR0 : Hid (r = pf) := by show _ = _; rw [HR.out]; simp [h0]
      go_wp2
      go_ret
      rw [HR0.out, errOf_pos _ _ h0]
      exact ⟨rfl, B1.out⟩
end Go.Proofs.YtmhkcmoepopnoaaDoor
