/- Places: Text; Steps; the closed fact. -/
import Derived.Test.YtchamhjckindiaaDoorPlaces
import Derived.Test.YtchamhjckindiaaDoorItoa
import Derived.Test.YtchamhjckindiaaDoorRNumber
import Derived.Lib.ItoaLen
namespace Go.Proofs.YtchamhjckindiaaDoor
open Go.RowKit Go.Sort Go.Proofs

/-- A place's text. -/
def placeText (x : PlaceV) : List UInt8 := if placeE x = 0 then x.1 ++ [45] ++ Lib.itoa x.2.1 ++ [45] ++ Lib.itoa x.2.2 else []
set_option maxHeartbeats 800000 in
theorem textPlace_any (E : Nat → Addr) (x : PlaceV) (w : World) (hG : PlaceG E w) :
    Calls Tryd.prog 43 #[.agg (encPlace x).toArray] w fun e w' => e = .returned (.string ⟨(placeText x).toArray⟩) ∧ Below w.heap.size w w' := by
  have HCK := Lib.hid (fun W h => checkPlace_any E x W h)
  by_cases hE : placeE x = 0
  · have hx := placeE_zero.1 hE
    have l1 := (nameB_len hx.1).2
    have HTX := Lib.hid (show placeText x = x.1 ++ [45] ++ Lib.itoa x.2.1 ++ [45] ++ Lib.itoa x.2.2 by unfold placeText; rw [if_pos hE])
    have HCK' := Lib.hid (show ∀ W, PlaceG E W → Calls Tryd.prog 13 #[.agg (encPlace x).toArray] W fun e w' => e = .returned .nilIface ∧ Below W.heap.size W w' from fun W h => by have := HCK.out W h; rw [hE] at this; exact this)
    obtain ⟨a1, a2, a3⟩ := x
    simp only [encPlace] at HCK' HTX ⊢
    simp only at hx l1
    obtain ⟨-, x1, x2, x3, x4⟩ := hx
    have HG := Lib.hid hG
    clear hG HCK hE
    have n2 := Lib.itoa_length_le a2 (by omega) (by omega)
    have n3 := Lib.itoa_length_le a3 (by omega) (by omega)
    have s1 : (⟨a1.toArray⟩ : ByteArray).size = a1.length := by simp [ByteArray.size]
    go_enter Tryd.func43, Tryd.ntmps43
    go_wp2_with fail
    have b0 : Below w.heap.size w (w.alloc (.cells #[.string ⟨a1.toArray⟩, .int .i64 a2, .int .i64 a3] 31)) := (Below.refl _ _).alloc (Nat.le_refl _) _
    refine (HCK'.out _ (HG.out.below b0)).mono ?_
    rintro e w1 ⟨rfl, bb1⟩
    have lw := heap_two bb1
    obtain ⟨hc, hf⟩ := bcell bb1
    have b1 := b0.trans (bb1.mono (by simp))
    have c0 : w1.cell? ⟨w.heap.size, 0, none⟩ = some (.string ⟨a1.toArray⟩) := by rw [hc _ _ (by simp)]; go_simp
    have c1 : w1.cell? ⟨w.heap.size, 1, none⟩ = some (.int .i64 a2) := by rw [hc _ _ (by simp)]; go_simp
    have c2 : w1.cell? ⟨w.heap.size, 2, none⟩ = some (.int .i64 a3) := by rw [hc _ _ (by simp)]; go_simp
    clear hc hf b0 bb1 HCK'
    go_wp2_with fail
    have hd : Below w.heap.size w w1.drew := b1.drew
    have HT := Lib.hid (show ∀ W, Below w.heap.size w W → TabG W from fun W h => (HG.out.below h).tab)
    have v1 : ¬ 9223372036854775807 < a1.length + 1 := by omega
    have v2 : ¬ 9223372036854775807 < a1.length + 1 + (Lib.itoa a2).length := by omega
    have v3 : ¬ 9223372036854775807 < a1.length + 1 + (Lib.itoa a2).length + 1 := by omega
    have v4 : ¬ 9223372036854775807 < a1.length + 1 + (Lib.itoa a2).length + 1 + (Lib.itoa a3).length := by omega
    go_region_held3 (fun w' => w'.cell? ⟨w.heap.size, 0, none⟩ = some (.string ⟨a1.toArray⟩) ∧ w'.cell? ⟨w.heap.size, 1, none⟩ = some (.int .i64 a2) ∧ w'.cell? ⟨w.heap.size, 2, none⟩ = some (.int .i64 a3) ∧ Below w.heap.size w w')
      (first | exact ⟨c0, c1, c2, hd⟩ | exact ⟨(q4.cell lw).trans c0, (q4.cell lw).trans c1, (q4.cell lw).trans c2, b4⟩ | exact ⟨(q3.cell lw).trans c0, (q3.cell lw).trans c1, (q3.cell lw).trans c2, b3⟩ | go_keep)
      (first
        | (go_at_call_of 67 (Value.int .i64 a2); refine (itoa_any a2 (by omega) (by omega) _ (HT.out _ hd)).mono ?_; rintro e w3 ⟨rfl, bb3⟩; have q3 : Below w1.heap.size w1 w3 := (Below.refl w1.heap.size w1).drew.trans bb3; have b3 := b1.trans (q3.mono b1.size))
        | (go_at_call_of 67 (Value.int .i64 a3); refine (itoa_any a3 (by omega) (by omega) _ (HT.out _ b3)).mono ?_; rintro e w4 ⟨rfl, bb4⟩; have q4 := q3.trans (bb4.mono q3.size); have b4 := b1.trans (q4.mono b1.size)))
    all_goals
      have B4 := Lib.hid b4
      clear b4 q4 q3 b3 bb3 bb4 hd b1 c0 c1 c2
      go_wp2_with fail
      go_ret
      refine ⟨?_, B4.out⟩
      rw [HTX.out]
      show Ending.returned (.string ((⟨a1.toArray⟩ : ByteArray) ++ (⟨#[45]⟩ : ByteArray) ++ (⟨(Lib.itoa a2).toArray⟩ : ByteArray) ++ (⟨#[45]⟩ : ByteArray) ++ (⟨(Lib.itoa a3).toArray⟩ : ByteArray))) = _
      rw [show (⟨#[45]⟩ : ByteArray) = ⟨[45].toArray⟩ from rfl, mk_app, mk_app, mk_app, mk_app]
  · have HTX := Lib.hid (show placeText x = [] by unfold placeText; rw [if_neg hE])
    have HCK' := Lib.hid (show ∀ W, PlaceG E W → Calls Tryd.prog 13 #[.agg (encPlace x).toArray] W fun e w' => e = .returned (.iface 228 (.pointer (some (E (placeE x))))) ∧ Below W.heap.size W w' from fun W h => by have := HCK.out W h; rw [errOf_pos _ _ hE] at this; exact this)
    generalize placeE x = k at HCK'
    obtain ⟨a1, a2, a3⟩ := x
    simp only [encPlace] at HCK' ⊢
    have HG := Lib.hid hG
    clear hG HCK hE
    go_enter Tryd.func43, Tryd.ntmps43
    go_wp2_with fail
    have b0 : Below w.heap.size w (w.alloc (.cells #[.string ⟨a1.toArray⟩, .int .i64 a2, .int .i64 a3] 31)) := (Below.refl _ _).alloc (Nat.le_refl _) _
    refine (HCK'.out _ (HG.out.below b0)).mono ?_
    rintro e w1 ⟨rfl, bb1⟩
    have b1 := b0.trans (bb1.mono (by simp))
    clear b0 bb1
    go_wp2_with fail
    go_ret
    rw [HTX.out]
    exact ⟨rfl, b1⟩

def absI (n : Int) : Int := if 0 ≤ n then n else -n
theorem absI_pos {n : Int} (h : 0 ≤ n) : absI n = n := if_pos h
theorem absI_neg {n : Int} (h : ¬ 0 ≤ n) : absI n = -n := if_neg h
theorem absI_le {n : Int} (h1 : -40 ≤ n) (h2 : n ≤ 40) : 0 ≤ absI n ∧ absI n ≤ 40 := by unfold absI; split <;> omega

set_option maxHeartbeats 400000 in
theorem abs_any (n : Int) (h1 : -40 ≤ n) (h2 : n ≤ 40) (w : World) : Calls Tryd.prog 45 #[.int .i64 n] w fun e w' => e = .returned (.int .i64 (absI n)) ∧ w' = w := by
  by_cases h : 0 ≤ n
  · have hw : IntKind.i64.wrap (-n) = -n := IntWalk.i64_in _ (by omega)
    have HA := Lib.hid (absI_pos h)
    have hm : -n ≤ n := by omega
    go_enter Tryd.func45, Tryd.ntmps45
    go_wp2
    go_ret
    rw [HA.out]
    exact ⟨ret_i64 (by simp only [Int.max_def]; split <;> omega), rfl⟩
  · have hw : IntKind.i64.wrap (-n) = -n := IntWalk.i64_in _ (by omega)
    have HA := Lib.hid (absI_neg h)
    have hm : n < -n := by omega
    go_enter Tryd.func45, Tryd.ntmps45
    go_wp2
    go_ret
    rw [HA.out]
    exact ⟨ret_i64 (by simp only [Int.max_def]; split <;> omega), rfl⟩

/-- Steps of a way, of well places. -/
def stepsP (x y : PlaceV) : Int := if x.1 ≠ y.1 then x.2.2 + y.2.2 + 2 * x.2.1 + 2 * y.2.1 + 100 else if x.2.1 ≠ y.2.1 then x.2.2 + y.2.2 + 2 * absI (x.2.1 - y.2.1) else absI (x.2.2 - y.2.2)

set_option maxHeartbeats 1000000 in
theorem steps_any (E : Nat → Addr) (x y : PlaceV) (hx : placeE x = 0) (hy : placeE y = 0) (w : World) (hG : PlaceG E w) :
    Calls Tryd.prog 14 #[.agg (encPlace x).toArray, .agg (encPlace y).toArray] w fun e w' => e = .returned (.int .i64 (stepsP x y)) ∧ Below w.heap.size w w' := by
  have HC1 := Lib.hid (show ∀ W, PlaceG E W → Calls Tryd.prog 13 #[.agg (encPlace x).toArray] W fun e w' => e = .returned .nilIface ∧ Below W.heap.size W w' from fun W h => by have := checkPlace_any E x W h; rw [hx] at this; exact this)
  have HC2 := Lib.hid (show ∀ W, PlaceG E W → Calls Tryd.prog 13 #[.agg (encPlace y).toArray] W fun e w' => e = .returned .nilIface ∧ Below W.heap.size W w' from fun W h => by have := checkPlace_any E y W h; rw [hy] at this; exact this)
  have px := (placeE_zero.1 hx).2
  have py := (placeE_zero.1 hy).2
  have HST := Lib.hid (show stepsP x y = if x.1 ≠ y.1 then x.2.2 + y.2.2 + 2 * x.2.1 + 2 * y.2.1 + 100 else if x.2.1 ≠ y.2.1 then x.2.2 + y.2.2 + 2 * absI (x.2.1 - y.2.1) else absI (x.2.2 - y.2.2) from rfl)
  obtain ⟨a1, a2, a3⟩ := x
  obtain ⟨b1, b2, b3⟩ := y
  simp only [encPlace] at HC1 HC2 HST px py ⊢
  obtain ⟨x1, x2, x3, x4⟩ := px
  obtain ⟨y1, y2, y3, y4⟩ := py
  have HG := Lib.hid hG
  clear hG hx hy
  go_enter Tryd.func14, Tryd.ntmps14
  go_wp2_with fail
  obtain ⟨W0, hW0⟩ : ∃ W0, W0 = (w.alloc (.cells #[.string ⟨a1.toArray⟩, .int .i64 a2, .int .i64 a3] 31)).alloc (.cells #[.string ⟨b1.toArray⟩, .int .i64 b2, .int .i64 b3] 31) := ⟨_, rfl⟩
  have b0 : Below w.heap.size w W0 := by rw [hW0]; exact ((Below.refl _ _).alloc (Nat.le_refl _) _).alloc (by simp) _
  have c0 : W0.cell? ⟨w.heap.size, 0, none⟩ = some (.string ⟨a1.toArray⟩) := by rw [hW0]; go_simp
  have c1 : W0.cell? ⟨w.heap.size, 1, none⟩ = some (.int .i64 a2) := by rw [hW0]; go_simp
  have c2 : W0.cell? ⟨w.heap.size, 2, none⟩ = some (.int .i64 a3) := by rw [hW0]; go_simp
  have d0 : W0.cell? ⟨w.heap.size + 1, 0, none⟩ = some (.string ⟨b1.toArray⟩) := by rw [hW0]; go_simp
  have d1 : W0.cell? ⟨w.heap.size + 1, 1, none⟩ = some (.int .i64 b2) := by rw [hW0]; go_simp
  have d2 : W0.cell? ⟨w.heap.size + 1, 2, none⟩ = some (.int .i64 b3) := by rw [hW0]; go_simp
  have l0 : w.heap.size + 2 ≤ W0.heap.size := by rw [hW0]; simp
  rw [← hW0]
  have l1 : w.heap.size < W0.heap.size := by omega
  have l2 : w.heap.size + 1 < W0.heap.size := by omega
  clear hW0 l0
  refine (HC1.out W0 (HG.out.below b0)).mono ?_
  rintro e w1 ⟨rfl, bb1⟩
  obtain ⟨hc, -⟩ := bcell bb1
  have HB1 := Lib.hid bb1
  have HG1 := Lib.hid (HG.out.below (b0.trans (bb1.mono b0.size)))
  have HB0 := Lib.hid b0
  clear bb1 b0 HG HC1
  go_wp2_with fail
  refine (HC2.out w1 HG1.out).mono ?_
  rintro e w2 ⟨rfl, bb2⟩
  have bb := HB1.out.trans (bb2.mono HB1.out.size)
  have HB2 := Lib.hid (HB0.out.trans (bb.mono HB0.out.size))
  clear hc bb2
  obtain ⟨hc, -⟩ := bcell bb
  clear bb HB1 HB0 HG1 HC2
  by_cases hz : a1 = b1
  · subst hz
    by_cases hr : a2 = b2
    · subst hr
      rw [if_neg (by simp), if_neg (by simp)] at HST
      have HA := Lib.hid (abs_any (a3 - b3) (by omega) (by omega))
      have hw : IntKind.i64.wrap (a3 - b3) = a3 - b3 := IntWalk.i64_in _ (by omega)
      go_wp2_with fail
      refine (HA.out _).mono ?_
      rintro e w3 ⟨rfl, rfl⟩
      go_wp2_with fail
      go_ret
      rw [HST.out]
      exact ⟨rfl, HB2.out⟩
    · have hb : (a2 == b2) = false := by simpa using hr
      have hb' : (a2 != b2) = true := by simpa using hr
      rw [if_neg (by simp), if_pos hr] at HST
      have HA := Lib.hid (abs_any (a2 - b2) (by omega) (by omega))
      have hal := absI_le (n := a2 - b2) (by omega) (by omega)
      have hw : IntKind.i64.wrap (a2 - b2) = a2 - b2 := IntWalk.i64_in _ (by omega)
      clear hr
      generalize absI (a2 - b2) = ab at HA hal HST
      have hw1 : IntKind.i64.wrap (a3 + b3) = a3 + b3 := IntWalk.i64_in _ (by omega)
      have hw2 : IntKind.i64.wrap (2 * ab) = 2 * ab := IntWalk.i64_in _ (by omega)
      have hw3 : IntKind.i64.wrap (a3 + b3 + 2 * ab) = a3 + b3 + 2 * ab := IntWalk.i64_in _ (by omega)
      go_wp2_with fail
      go_quiet ((go_at_call 45; exact Calls.quiet_of_same (HA.out _)))
      go_wp2_with fail
      go_ret
      rw [HST.out]
      exact ⟨rfl, below_drewN HB2.out _⟩
  · have hb : (a1 == b1) = false := by simpa using hz
    rw [if_pos hz] at HST
    clear hz
    go_wp2_with fail
    go_ret
    rw [HST.out]
    exact ⟨rfl, HB2.out⟩
end Go.Proofs.YtchamhjckindiaaDoor
