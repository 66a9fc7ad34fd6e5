/- EntryBack: the second entry is not well. Printed by gen/entl.py. -/
import Derived.Test.YtmhkcmoepopnoaaDoorEntL
namespace Go.Proofs.YtmhkcmoepopnoaaDoor
open Go.RowKit Go.Sort Go.Proofs

set_option maxHeartbeats 3200000 in
set_option maxRecDepth 100000 in
theorem entBack_bady (E : Nat → Addr) (x y : EntV) (w : World) (hG : EntG E w) (h1 : longN x = 0) (h2 : longN y = 0) (hx : entE x = 0) (hy : entE y ≠ 0) :
    Calls Tryd.prog 3 #[.agg (encEnt x).toArray, .agg (encEnt y).toArray] w fun e w' => e = .returned (.bool true) ∧ Below w.heap.size w w' := by
  have HEN := Lib.hid (fun W h => entered_any E W h)
  have HLX := Lib.hid (fun W => longEnt_any x W)
  have HLY := Lib.hid (fun W => longEnt_any y W)
  have HCX := Lib.hid (fun W hg => checkEnt_any E x (longN_short h1).1 (longN_short h1).2 W hg)
  have HCY := Lib.hid (fun W hg => checkEnt_any E y (longN_short h2).1 (longN_short h2).2 W hg)
  rw [h1] at HLX
  rw [h2] at HLY
  rw [hx, errOf_zero] at HCX
  rw [errOf_pos _ _ hy] at HCY
  generalize E (entE y) = ay at HCY
  have HG := Lib.hid (fun W (h : Below w.heap.size w W) => hG.below h)
  have b0 := below_two w (.cells (encEnt x).toArray 29) (.cells (encEnt y).toArray 29)
  have lx := Lies.row (w := (w.alloc (.cells (encEnt x).toArray 29)).alloc (.cells (encEnt y).toArray 29)) (encEnt x) (((below_one (w.alloc (.cells (encEnt x).toArray 29)) _).block _ (by simp)).trans (heap_alloc_new _ _))
  have ly := Lies.row (w := (w.alloc (.cells (encEnt x).toArray 29)).alloc (.cells (encEnt y).toArray 29)) (b := w.heap.size + 1) (encEnt y) (by have := heap_alloc_new (w.alloc (.cells (encEnt x).toArray 29)) (.cells (encEnt y).toArray 29); simpa using this)
  clear hG h1 h2 hx hy
  obtain ⟨LX, hLX⟩ : ∃ L, L = encEnt x := ⟨_, rfl⟩
  obtain ⟨LY, hLY⟩ : ∃ L, L = encEnt y := ⟨_, rfl⟩
  have hx14 : LX.length = 14 := by rw [hLX]; rfl
  have hy14 : LY.length = 14 := by rw [hLY]; rfl
  rw [← hLX] at HLX lx b0 HCX ⊢
  rw [← hLY] at HLY lx ly b0 HCY ⊢
  rw [← hLX] at ly
  clear hLX hLY
  obtain ⟨u0, u1, u2, u3, u4, u5, u6, u7, u8, u9, u10, u11, u12, u13, rfl⟩ := len14 hx14
  obtain ⟨v0, v1, v2, v3, v4, v5, v6, v7, v8, v9, v10, v11, v12, v13, rfl⟩ := len14 hy14
  clear hx14 hy14
  go_enter Tryd.func3, Tryd.ntmps3
  go_wp2_with fail
  have B0 := Lib.hid b0
  generalize (w.alloc (.cells #[u0, u1, u2, u3, u4, u5, u6, u7, u8, u9, u10, u11, u12, u13] 29)).alloc (.cells #[v0, v1, v2, v3, v4, v5, v6, v7, v8, v9, v10, v11, v12, v13] 29) = W0 at lx ly b0 B0 ⊢
  refine (HEN.out W0 (HG.out _ b0)).mono ?_
  rintro e w1 ⟨rfl, b1⟩
  have B1 := Lib.hid (B0.out.trans (b1.mono B0.out.size))
  have HKX : Hid (∀ W, Below w1.heap.size w1 W → W.cell? ⟨w.heap.size, 0, none⟩ = some u0 ∧ W.cell? ⟨w.heap.size, 1, none⟩ = some u1 ∧ W.cell? ⟨w.heap.size, 2, none⟩ = some u2 ∧ W.cell? ⟨w.heap.size, 3, none⟩ = some u3 ∧ W.cell? ⟨w.heap.size, 4, none⟩ = some u4 ∧ W.cell? ⟨w.heap.size, 5, none⟩ = some u5 ∧ W.cell? ⟨w.heap.size, 6, none⟩ = some u6 ∧ W.cell? ⟨w.heap.size, 7, none⟩ = some u7 ∧ W.cell? ⟨w.heap.size, 8, none⟩ = some u8 ∧ W.cell? ⟨w.heap.size, 9, none⟩ = some u9 ∧ W.cell? ⟨w.heap.size, 10, none⟩ = some u10 ∧ W.cell? ⟨w.heap.size, 11, none⟩ = some u11 ∧ W.cell? ⟨w.heap.size, 12, none⟩ = some u12 ∧ W.cell? ⟨w.heap.size, 13, none⟩ = some u13) := fun W h => by
    have hx := (lx.below b1).below h
    exact ⟨hx.at 0 _ rfl, hx.at 1 _ rfl, hx.at 2 _ rfl, hx.at 3 _ rfl, hx.at 4 _ rfl, hx.at 5 _ rfl, hx.at 6 _ rfl, hx.at 7 _ rfl, hx.at 8 _ rfl, hx.at 9 _ rfl, hx.at 10 _ rfl, hx.at 11 _ rfl, hx.at 12 _ rfl, hx.at 13 _ rfl⟩
  have HKY : Hid (∀ W, Below w1.heap.size w1 W → W.cell? ⟨w.heap.size + 1, 0, none⟩ = some v0 ∧ W.cell? ⟨w.heap.size + 1, 1, none⟩ = some v1 ∧ W.cell? ⟨w.heap.size + 1, 2, none⟩ = some v2 ∧ W.cell? ⟨w.heap.size + 1, 3, none⟩ = some v3 ∧ W.cell? ⟨w.heap.size + 1, 4, none⟩ = some v4 ∧ W.cell? ⟨w.heap.size + 1, 5, none⟩ = some v5 ∧ W.cell? ⟨w.heap.size + 1, 6, none⟩ = some v6 ∧ W.cell? ⟨w.heap.size + 1, 7, none⟩ = some v7 ∧ W.cell? ⟨w.heap.size + 1, 8, none⟩ = some v8 ∧ W.cell? ⟨w.heap.size + 1, 9, none⟩ = some v9 ∧ W.cell? ⟨w.heap.size + 1, 10, none⟩ = some v10 ∧ W.cell? ⟨w.heap.size + 1, 11, none⟩ = some v11 ∧ W.cell? ⟨w.heap.size + 1, 12, none⟩ = some v12 ∧ W.cell? ⟨w.heap.size + 1, 13, none⟩ = some v13) := fun W h => by
    have hy := (ly.below b1).below h
    exact ⟨hy.at 0 _ rfl, hy.at 1 _ rfl, hy.at 2 _ rfl, hy.at 3 _ rfl, hy.at 4 _ rfl, hy.at 5 _ rfl, hy.at 6 _ rfl, hy.at 7 _ rfl, hy.at 8 _ rfl, hy.at 9 _ rfl, hy.at 10 _ rfl, hy.at 11 _ rfl, hy.at 12 _ rfl, hy.at 13 _ rfl⟩
  clear b1 b0 B0 lx ly HEN
  have hw0 : IntKind.i64.wrap 0 = 0 := rfl
  have hw1 : IntKind.i64.wrap 1 = 1 := rfl
  have hw2 : IntKind.i64.wrap 2 = 2 := rfl
  have d0 : Below w1.heap.size w1 w1.drew := (Below.refl _ _).drew
  have K0 := HKX.out _ d0
  have K0' := HKY.out _ d0
  go_wp2_with fail
  go_region_with (first
      | (go_at_call_of 5 u0; refine (HLX.out _).mono ?_; rintro e w3 ⟨rfl, bb3⟩; have d3 := d0.trans (bb3.mono d0.size); have K3 := HKY.out _ d3; clear K0 K0')
      | (go_at_call_of 5 v0; refine (HLY.out _).mono ?_; rintro e w4 ⟨rfl, bb4⟩; have d4 := d3.trans (bb4.mono d3.size); have K4 := HKX.out _ d4; clear K3)
      | (go_at_call_of 6 u0; refine (HCX.out _ (HG.out _ (B1.out.trans (d4.mono B1.out.size)))).mono ?_; rintro e w5 ⟨rfl, bb5⟩; have d5 := d4.trans (bb5.mono d4.size); have K5 := HKY.out _ d5; clear K4)
      | (go_at_call_of 6 v0; refine (HCY.out _ (HG.out _ (B1.out.trans (d5.mono B1.out.size)))).mono ?_; rintro e w6 ⟨rfl, bb6⟩; have d6 := d5.trans (bb6.mono d5.size); clear K5))
  all_goals
    have BZ := Lib.hid (B1.out.trans (d6.mono B1.out.size))
    go_wp2_with fail
    go_ret
    exact ⟨rfl, BZ.out⟩
end Go.Proofs.YtmhkcmoepopnoaaDoor
