/- The law PlaceWay, walked. -/
import Derived.Test.YtchamhjckindiaaDoorPlaceT
namespace Go.Proofs.YtchamhjckindiaaDoor
open Go.RowKit Go.Sort Go.Proofs

theorem steps_zone {x y : PlaceV} (h : x.1 ≠ y.1) : stepsP x y = x.2.2 + y.2.2 + 2 * x.2.1 + 2 * y.2.1 + 100 := if_pos h
theorem steps_row {x y : PlaceV} (h : x.1 = y.1) (h2 : x.2.1 ≠ y.2.1) : stepsP x y = x.2.2 + y.2.2 + 2 * absI (x.2.1 - y.2.1) := by
  unfold stepsP
  rw [if_neg (by simpa using h), if_pos h2]
theorem steps_bay {x y : PlaceV} (h : x.1 = y.1) (h2 : x.2.1 = y.2.1) : stepsP x y = absI (x.2.2 - y.2.2) := by
  unfold stepsP
  rw [if_neg (by simpa using h), if_neg (by simpa using h2)]
theorem absI_swap (a b : Int) : absI (a - b) = absI (b - a) := by unfold absI; split <;> split <;> omega
theorem steps_le {x y : PlaceV} (hx : InP x) (hy : InP y) : 0 ≤ stepsP x y ∧ stepsP x y ≤ 300 := by
  obtain ⟨x1, x2, x3, x4⟩ := hx
  obtain ⟨y1, y2, y3, y4⟩ := hy
  by_cases h : x.1 = y.1
  · by_cases h2 : x.2.1 = y.2.1
    · rw [steps_bay h h2]; have := absI_le (n := x.2.2 - y.2.2) (by omega) (by omega); omega
    · rw [steps_row h h2]; have := absI_le (n := x.2.1 - y.2.1) (by omega) (by omega); omega
  · rw [steps_zone h]; omega
theorem steps_swap (x y : PlaceV) : stepsP x y = stepsP y x := by
  by_cases h : x.1 = y.1
  · by_cases h2 : x.2.1 = y.2.1
    · rw [steps_bay h h2, steps_bay h.symm h2.symm, absI_swap]
    · rw [steps_row h h2, steps_row h.symm (fun e => h2 e.symm), absI_swap (x.2.1) y.2.1]; omega
  · rw [steps_zone h, steps_zone (fun e => h e.symm)]; omega
theorem steps_zero {x y : PlaceV} (hx : InP x) (hy : InP y) : stepsP x y = 0 ↔ x = y := by
  obtain ⟨x1, x2, x3, x4⟩ := hx
  obtain ⟨y1, y2, y3, y4⟩ := hy
  constructor
  · intro h3
    by_cases h : x.1 = y.1
    · by_cases h2 : x.2.1 = y.2.1
      · rw [steps_bay h h2] at h3
        have : x.2.2 = y.2.2 := by unfold absI at h3; split at h3 <;> omega
        exact Prod.ext h (Prod.ext h2 this)
      · rw [steps_row h h2] at h3; have := absI_le (n := x.2.1 - y.2.1) (by omega) (by omega); omega
    · rw [steps_zone h] at h3; omega
  · rintro rfl
    rw [steps_bay rfl rfl]
    unfold absI
    split <;> omega
theorem steps_three {x y z : PlaceV} (hx : InP x) (hy : InP y) (hz : InP z) : stepsP x y ≤ stepsP x z + stepsP z y := by
  obtain ⟨x1, x2, x3, x4⟩ := hx
  obtain ⟨y1, y2, y3, y4⟩ := hy
  obtain ⟨z1, z2, z3, z4⟩ := hz
  have ha : ∀ n : Int, n ≤ absI n ∧ -n ≤ absI n ∧ 0 ≤ absI n := fun n => by unfold absI; split <;> omega
  have hb : ∀ n : Int, absI n = n ∨ absI n = -n := fun n => by unfold absI; split <;> omega
  have a1 := ha (x.2.1 - y.2.1); have a2 := ha (x.2.1 - z.2.1); have a3 := ha (z.2.1 - y.2.1); have a4 := ha (x.2.2 - y.2.2); have a5 := ha (x.2.2 - z.2.2); have a6 := ha (z.2.2 - y.2.2)
  have b1 := hb (x.2.1 - y.2.1); have b4 := hb (x.2.2 - y.2.2)
  clear ha hb
  by_cases e1 : x.1 = y.1
  · by_cases e2 : x.1 = z.1
    · have e3 := e2.symm.trans e1
      by_cases r1 : x.2.1 = y.2.1 <;> by_cases r2 : x.2.1 = z.2.1
      · rw [steps_bay e1 r1, steps_bay e2 r2, steps_bay e3 (r2.symm.trans r1)]; omega
      · rw [steps_bay e1 r1, steps_row e2 r2, steps_row e3 (fun h => r2 (r1.trans h.symm))]; omega
      · rw [steps_row e1 r1, steps_bay e2 r2, steps_row e3 (fun h => r1 (r2.trans h))]; omega
      · rw [steps_row e1 r1, steps_row e2 r2]
        by_cases r3 : z.2.1 = y.2.1
        · rw [steps_bay e3 r3]; omega
        · rw [steps_row e3 r3]; omega
    · rw [steps_zone e2, steps_zone (fun h => e2 (e1.trans h.symm))]
      by_cases r1 : x.2.1 = y.2.1
      · rw [steps_bay e1 r1]; omega
      · rw [steps_row e1 r1]; omega
  · rw [steps_zone e1]
    by_cases e2 : x.1 = z.1
    · rw [steps_zone (x := z) (y := y) (fun h => e1 (e2.trans h))]
      by_cases r1 : x.2.1 = z.2.1
      · rw [steps_bay e2 r1]; omega
      · rw [steps_row e2 r1]; omega
    · rw [steps_zone e2]
      by_cases e3 : z.1 = y.1
      · by_cases r1 : z.2.1 = y.2.1
        · rw [steps_bay e3 r1]; omega
        · rw [steps_row e3 r1]; omega
      · rw [steps_zone e3]; omega

def pA : PlaceV := ([97], 2, 7)
def pB : PlaceV := ([97], 2, 3)
theorem pA_ok : placeE pA = 0 := by decide
theorem pB_ok : placeE pB = 0 := by decide
theorem itoa_one (n : Nat) (h : n < 10) : Lib.itoa (n : Int) = [UInt8.ofNat (48 + n)] := by
  rw [Lib.itoa_nonneg, Lib.decDigits_one h]
theorem textA : placeText pA = [97, 45, 50, 45, 55] := by
  unfold placeText
  rw [if_pos pA_ok]
  show [97] ++ [45] ++ Lib.itoa ((2 : Nat) : Int) ++ [45] ++ Lib.itoa ((7 : Nat) : Int) = _
  rw [itoa_one 2 (by omega), itoa_one 7 (by omega)]; rfl
theorem aheadAB : ltOf cfPlace pA pB = true := by decide
theorem stepsAB : stepsP pA pB = 4 := by decide

set_option maxHeartbeats 400000 in
theorem walked_any (E : Nat → Addr) (w : World) (hG : PlaceG E w) : Calls Tryd.prog 12 #[] w fun e w' => e = .returned (.bool true) ∧ Below w.heap.size w w' := by
  have h1 := fun W => ahead_any pA pB (InP.of pA_ok) (InP.of pB_ok) W
  have h2 := fun W h => textPlace_any E pA W h
  have h3 := fun W h => steps_any E pA pB pA_ok pB_ok W h
  rw [aheadAB] at h1
  rw [textA] at h2
  rw [stepsAB] at h3
  simp only [encPlace, pA, pB] at h1 h2 h3
  have H1 := Lib.hid h1
  have H2 := Lib.hid h2
  have H3 := Lib.hid h3
  have HG := Lib.hid hG
  clear h1 h2 h3 hG
  go_enter Tryd.func12, Tryd.ntmps12
  go_wp2_with fail
  obtain ⟨W0, hW0⟩ : ∃ W0, W0 = (w.alloc (.cells #[.string ⟨#[97]⟩, .int .i64 2, .int .i64 7] 31)).alloc (.cells #[.string ⟨#[97]⟩, .int .i64 2, .int .i64 3] 31) := ⟨_, rfl⟩
  have b0 : Below w.heap.size w W0 := by rw [hW0]; exact ((Below.refl _ _).alloc (Nat.le_refl _) _).alloc (by simp) _
  have c0 : W0.cell? ⟨w.heap.size, 0, none⟩ = some (.string ⟨#[97]⟩) := by rw [hW0]; go_simp
  have c1 : W0.cell? ⟨w.heap.size, 1, none⟩ = some (.int .i64 2) := by rw [hW0]; go_simp
  have c2 : W0.cell? ⟨w.heap.size, 2, none⟩ = some (.int .i64 7) := by rw [hW0]; go_simp
  have d0 : W0.cell? ⟨w.heap.size + 1, 0, none⟩ = some (.string ⟨#[97]⟩) := by rw [hW0]; go_simp
  have d1 : W0.cell? ⟨w.heap.size + 1, 1, none⟩ = some (.int .i64 2) := by rw [hW0]; go_simp
  have d2 : W0.cell? ⟨w.heap.size + 1, 2, none⟩ = some (.int .i64 3) := by rw [hW0]; go_simp
  have l1 : w.heap.size < W0.heap.size := by rw [hW0]; simp <;> omega
  have l2 : w.heap.size + 1 < W0.heap.size := by rw [hW0]; simp <;> omega
  rw [← hW0]
  clear hW0
  refine (H1.out W0).mono ?_
  rintro e w1 ⟨rfl, bb1⟩
  have HB1 := Lib.hid bb1
  obtain ⟨hc, -⟩ := bcell bb1
  clear bb1
  go_wp2_with fail
  refine (H2.out w1 (HG.out.below (b0.trans (HB1.out.mono b0.size)))).mono ?_
  rintro e w2 ⟨rfl, bb2⟩
  have bb := HB1.out.trans (bb2.mono HB1.out.size)
  clear hc
  obtain ⟨hc, -⟩ := bcell bb
  have HB2 := Lib.hid bb
  clear bb2 bb
  go_wp2_with fail
  refine (H3.out w2 (HG.out.below (b0.trans (HB2.out.mono b0.size)))).mono ?_
  rintro e w3 ⟨rfl, bb3⟩
  have bb := HB2.out.trans (bb3.mono HB2.out.size)
  have HB3 := Lib.hid (b0.trans (bb.mono b0.size))
  clear hc bb bb3 b0
  go_wp2_with fail
  go_ret
  exact ⟨rfl, HB3.out⟩

theorem eqPlace (x y : PlaceV) (W : World) : (binOp .eql 31 (.agg (encPlace x).toArray) (.agg (encPlace y).toArray)).run Tryd.prog W = .ok (.bool (decide (x = y))) W := by
  have u3 := Tryd.underlying3
  have u9 := Tryd.underlying9
  have hS : Tryd.prog.underlying 31 = some (.struct (Tryd.prog.fieldsOf 31)) := by kernel_rfl
  have hp : Tryd.prog.stoodInHeld 31 = false := by kernel_rfl
  simp only [encPlace]
  rw [run_eql_struct, show (10000 : Nat) = 9999 + 1 from rfl, run_equalIn_agg W 9999 31 _ _ hS hp]
  simp only [Program.fieldsOf, Tryd.underlying31]
  go_simp
  obtain ⟨a1, a2, a3⟩ := x
  obtain ⟨b1, b2, b3⟩ := y
  by_cases h1 : a1 = b1 <;> by_cases h2 : a2 = b2 <;> by_cases h3 : a3 = b3 <;> simp [h1, h2, h3]
theorem eqInPlace (x y : PlaceV) (W : World) : (Op.equalIn 10000 31 (.agg (encPlace x).toArray) (.agg (encPlace y).toArray)).run Tryd.prog W = .ok (decide (x = y)) W := by
  have h := eqPlace x y W
  rw [run_eql_struct] at h
  cases hr : (Op.equalIn 10000 31 (.agg (encPlace x).toArray) (.agg (encPlace y).toArray)).run Tryd.prog W with
  | ok b w' =>
    rw [hr] at h
    simp [Result.andThen] at h
    rw [h.1, h.2]
  | _ => rw [hr] at h; simp [Result.andThen] at h
theorem neqPlace (x y : PlaceV) (W : World) : (binOp .neq 31 (.agg (encPlace x).toArray) (.agg (encPlace y).toArray)).run Tryd.prog W = .ok (.bool (!decide (x = y))) W := by
  rw [run_neq_struct, eqInPlace]
  rfl

/-- Three boxes. -/
structure Box3 (a1 : List UInt8) (a2 a3 : Int) (b1 : List UInt8) (b2 b3 : Int) (c1 : List UInt8) (c2 c3 : Int) (B : Nat) (W : World) : Prop where
  a0 : W.cell? ⟨B, 0, none⟩ = some (.string ⟨a1.toArray⟩)
  a1 : W.cell? ⟨B, 1, none⟩ = some (.int .i64 a2)
  a2 : W.cell? ⟨B, 2, none⟩ = some (.int .i64 a3)
  b0 : W.cell? ⟨B + 1, 0, none⟩ = some (.string ⟨b1.toArray⟩)
  b1 : W.cell? ⟨B + 1, 1, none⟩ = some (.int .i64 b2)
  b2 : W.cell? ⟨B + 1, 2, none⟩ = some (.int .i64 b3)
  c0 : W.cell? ⟨B + 2, 0, none⟩ = some (.string ⟨c1.toArray⟩)
  c1 : W.cell? ⟨B + 2, 1, none⟩ = some (.int .i64 c2)
  c2 : W.cell? ⟨B + 2, 2, none⟩ = some (.int .i64 c3)
  l1 : B < W.heap.size
  l2 : B + 1 < W.heap.size
  l3 : B + 2 < W.heap.size
theorem Box3.below {a1 : List UInt8} {a2 a3 : Int} {b1 : List UInt8} {b2 b3 : Int} {c1 : List UInt8} {c2 c3 : Int} {B : Nat} {W W' : World} (h : Box3 a1 a2 a3 b1 b2 b3 c1 c2 c3 B W) (hb : Below W.heap.size W W') : Box3 a1 a2 a3 b1 b2 b3 c1 c2 c3 B W' where
  a0 := (hb.cell (p := ⟨B, 0, none⟩) h.l1).trans h.a0
  a1 := (hb.cell (p := ⟨B, 1, none⟩) h.l1).trans h.a1
  a2 := (hb.cell (p := ⟨B, 2, none⟩) h.l1).trans h.a2
  b0 := (hb.cell (p := ⟨B + 1, 0, none⟩) h.l2).trans h.b0
  b1 := (hb.cell (p := ⟨B + 1, 1, none⟩) h.l2).trans h.b1
  b2 := (hb.cell (p := ⟨B + 1, 2, none⟩) h.l2).trans h.b2
  c0 := (hb.cell (p := ⟨B + 2, 0, none⟩) h.l3).trans h.c0
  c1 := (hb.cell (p := ⟨B + 2, 1, none⟩) h.l3).trans h.c1
  c2 := (hb.cell (p := ⟨B + 2, 2, none⟩) h.l3).trans h.c2
  l1 := Nat.lt_of_lt_of_le h.l1 hb.size
  l2 := Nat.lt_of_lt_of_le h.l2 hb.size
  l3 := Nat.lt_of_lt_of_le h.l3 hb.size

theorem box3_new (a1 : List UInt8) (a2 a3 : Int) (b1 : List UInt8) (b2 b3 : Int) (c1 : List UInt8) (c2 c3 : Int) (w : World) :
    Box3 a1 a2 a3 b1 b2 b3 c1 c2 c3 w.heap.size (((w.alloc (.cells #[.string ⟨a1.toArray⟩, .int .i64 a2, .int .i64 a3] 31)).alloc (.cells #[.string ⟨b1.toArray⟩, .int .i64 b2, .int .i64 b3] 31)).alloc (.cells #[.string ⟨c1.toArray⟩, .int .i64 c2, .int .i64 c3] 31)) := by
  constructor
  all_goals first | go_simp | (simp; done) | (simp; omega)
theorem box3_below (w : World) (o1 o2 o3 : Obj) : Below w.heap.size w (((w.alloc o1).alloc o2).alloc o3) := (((Below.refl _ _).alloc (Nat.le_refl _) _).alloc (by simp) _).alloc (by simp; omega) _


set_option maxHeartbeats 1000000 in
theorem way_out (E : Nat → Addr) (a b c : PlaceV) (w : World) (hG : PlaceG E w) (h : placeE a ≠ 0 ∨ placeE b ≠ 0 ∨ placeE c ≠ 0) :
    Calls Tryd.prog 4 #[.agg (encPlace a).toArray, .agg (encPlace b).toArray, .agg (encPlace c).toArray] w fun e w' => e = .returned (.bool true) ∧ Below w.heap.size w w' := by
  have HA := Lib.hid (fun W h => checkPlace_any E a W h)
  have HB := Lib.hid (fun W h => checkPlace_any E b W h)
  have HC := Lib.hid (fun W h => checkPlace_any E c W h)
  generalize placeE a = ka at HA h
  generalize placeE b = kb at HB h
  generalize placeE c = kc at HC h
  obtain ⟨a1, a2, a3⟩ := a
  obtain ⟨b1, b2, b3⟩ := b
  obtain ⟨c1, c2, c3⟩ := c
  simp only [encPlace] at HA HB HC ⊢
  have HG := Lib.hid hG
  have HW := Lib.hid (fun W h => walked_any E W h)
  clear hG
  go_enter Tryd.func4, Tryd.ntmps4
  go_wp2_with fail
  have hx := box3_new a1 a2 a3 b1 b2 b3 c1 c2 c3 w
  have b0 := box3_below w (.cells #[.string ⟨a1.toArray⟩, .int .i64 a2, .int .i64 a3] 31) (.cells #[.string ⟨b1.toArray⟩, .int .i64 b2, .int .i64 b3] 31) (.cells #[.string ⟨c1.toArray⟩, .int .i64 c2, .int .i64 c3] 31)
  generalize ((w.alloc (.cells #[.string ⟨a1.toArray⟩, .int .i64 a2, .int .i64 a3] 31)).alloc (.cells #[.string ⟨b1.toArray⟩, .int .i64 b2, .int .i64 b3] 31)).alloc (.cells #[.string ⟨c1.toArray⟩, .int .i64 c2, .int .i64 c3] 31) = W0 at hx b0 ⊢
  refine (HW.out W0 (HG.out.below b0)).mono ?_
  rintro e w1 ⟨rfl, bb⟩
  have B1 := Lib.hid (b0.trans (bb.mono b0.size))
  obtain ⟨y0, y1, y2, y3, y4, y5, y6, y7, y8, l1, l2, l3⟩ := hx.below bb
  have X1 := Lib.hid (hx.below bb)
  clear hx bb b0 HW
  go_wp2_with fail
  refine (HA.out w1 (HG.out.below B1.out)).mono ?_
  rintro e w2 ⟨rfl, bb⟩
  have B2 := Lib.hid (B1.out.trans (bb.mono B1.out.size))
  clear y0 y1 y2 y3 y4 y5 y6 y7 y8 l1 l2 l3
  obtain ⟨y0, y1, y2, y3, y4, y5, y6, y7, y8, l1, l2, l3⟩ := X1.out.below bb
  have X2 := Lib.hid (X1.out.below bb)
  clear bb X1 HA B1
  by_cases ha : ka = 0
  · subst ha
    rw [errOf_zero]
    go_wp2_with fail
    refine (HB.out w2 (HG.out.below B2.out)).mono ?_
    rintro e w3 ⟨rfl, bb⟩
    have B3 := Lib.hid (B2.out.trans (bb.mono B2.out.size))
    clear y0 y1 y2 y3 y4 y5 y6 y7 y8 l1 l2 l3
    obtain ⟨y0, y1, y2, y3, y4, y5, y6, y7, y8, l1, l2, l3⟩ := X2.out.below bb
    clear bb X2 HB B2
    by_cases hb : kb = 0
    · subst hb
      rw [errOf_zero]
      go_wp2_with fail
      refine (HC.out w3 (HG.out.below B3.out)).mono ?_
      rintro e w4 ⟨rfl, bb⟩
      have B4 := Lib.hid (B3.out.trans (bb.mono B3.out.size))
      have hc : kc ≠ 0 := by omega
      rw [errOf_pos _ _ hc]
      clear y0 y1 y2 y3 y4 y5 y6 y7 y8 l1 l2 l3 bb HC B3 hc h
      go_wp2_with fail
      go_ret
      exact ⟨rfl, B4.out⟩
    · rw [errOf_pos _ _ hb]
      clear hb h
      go_wp2_with fail
      go_ret
      exact ⟨rfl, B3.out⟩
  · rw [errOf_pos _ _ ha]
    clear ha h
    go_wp2_with fail
    go_ret
    exact ⟨rfl, B2.out⟩
end Go.Proofs.YtchamhjckindiaaDoor
