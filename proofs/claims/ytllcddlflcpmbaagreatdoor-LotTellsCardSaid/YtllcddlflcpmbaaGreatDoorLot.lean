/- Lots: their compare. -/
import Derived.Test.YtllcddlflcpmbaaGreatDoorLotV
namespace Go.Proofs.YtllcddlflcpmbaaGreatDoor
open Go.RowKit Go.Sort Go.Proofs

/-- The compare of two lots. -/
def cfLot (x y : LotV) : Int := orL [Lib.compareInt x.2.2.1 y.2.2.1, Lib.compareBytes x.1 y.1]
theorem cmpI_lt (x y : Int) : Lib.compareInt x y < 0 ↔ x < y := by
  unfold Lib.compareInt
  by_cases h1 : x < y
  · simp [h1]
  · by_cases h2 : y < x <;> simp [h1, h2]
theorem cmpI_zero (x y : Int) : Lib.compareInt x y = 0 ↔ x = y := by
  unfold Lib.compareInt
  by_cases h1 : x < y
  · simp [h1]; omega
  · by_cases h2 : y < x
    · simp [h1, h2]; omega
    · simp [h1, h2]; omega
theorem ltLot (x y : LotV) : ltOf cfLot x y = decide (x.2.2.1 < y.2.2.1 ∨ (x.2.2.1 = y.2.2.1 ∧ Lib.compareBytes x.1 y.1 < 0)) := by
  unfold ltOf cfLot
  rw [Bool.eq_iff_iff, decide_eq_true_iff, decide_eq_true_iff]
  by_cases h : Lib.compareInt x.2.2.1 y.2.2.1 = 0
  · have h' := (cmpI_zero _ _).1 h
    simp only [orL, h, if_pos]
    by_cases h2 : Lib.compareBytes x.1 y.1 = 0
    · rw [if_pos h2, h2]; omega
    · rw [if_neg h2]; omega
  · have h' : x.2.2.1 ≠ y.2.2.1 := fun e => h ((cmpI_zero _ _).2 e)
    simp only [orL, if_neg h]
    rw [cmpI_lt]; omega
theorem swoLot : SWO (ltOf cfLot) where
  irrefl x := by rw [ltLot, cmpB_refl]; simp
  trans x y z h1 h2 := by
    rw [ltLot, decide_eq_true_iff] at *
    rcases h1 with h1 | ⟨h1, h1'⟩ <;> rcases h2 with h2 | ⟨h2, h2'⟩
    · exact .inl (by omega)
    · exact .inl (by omega)
    · exact .inl (by omega)
    · exact .inr ⟨by omega, cmpB_trans _ _ _ h1' h2'⟩
  ntrans x y z h1 h2 := by
    rw [ltLot, decide_eq_false_iff_not] at *
    rintro (h3 | ⟨h3, h3'⟩)
    · exact h1 (.inl (by have : ¬ y.2.2.1 < z.2.2.1 := fun h => h2 (.inl h); omega))
    · have a1 : ¬ x.2.2.1 < y.2.2.1 := fun h => h1 (.inl h)
      have a2 : ¬ y.2.2.1 < z.2.2.1 := fun h => h2 (.inl h)
      have b1 : ¬ Lib.compareBytes x.1 y.1 < 0 := fun h => h1 (.inr ⟨by omega, h⟩)
      have b2 : ¬ Lib.compareBytes y.1 z.1 < 0 := fun h => h2 (.inr ⟨by omega, h⟩)
      have s1 := cmpB_swap x.1 y.1
      have s2 := cmpB_swap y.1 z.1
      by_cases e1 : Lib.compareBytes x.1 y.1 = 0
      · rw [(cmpB_eq _ _).1 e1] at h3'; exact b2 h3'
      · by_cases e2 : Lib.compareBytes y.1 z.1 = 0
        · rw [← (cmpB_eq _ _).1 e2] at h3'; exact b1 h3'
        · have := cmpB_trans z.1 y.1 x.1 (by omega) (by omega)
          have s3 := cmpB_swap x.1 z.1
          omega

set_option maxHeartbeats 1000000 in
theorem cmpLot_any (x y : LotV) (W : World) : Calls Tryz.prog 34 #[.agg (encLot x).toArray, .agg (encLot y).toArray] W fun e w' => e = .returned (.int .i64 (cfLot x y)) ∧ ∃ q os', w' = grow (W.drewN q) os' := by
  obtain ⟨a1, a2, a3, a4⟩ := x
  obtain ⟨b1, b2, b3, b4⟩ := y
  simp only [encLot, cfLot]
  go_enter Tryz.func34, Tryz.ntmps34
  go_wp2_with fail
  have hor := fun (B : Nat) (W' : World) (h0 : W'.cell? ⟨B, 0, none⟩ = some (.int .i64 (Lib.compareInt a3 b3))) (h1 : W'.cell? ⟨B, 1, none⟩ = some (.int .i64 (Lib.compareBytes a1 b1))) => or_any B [Lib.compareInt a3 b3, Lib.compareBytes a1 b1] W' (by simp) (fun k hk => by
    have hk' : k < 2 := hk
    rcases (show k = 0 ∨ k = 1 by omega) with rfl | rfl
    · exact h0
    · exact h1)
  have HOR := Lib.hid hor
  clear hor
  go_region_held3 (fun w' => w'.cell? ⟨W.heap.size, 0, none⟩ = some (.string ⟨a1.toArray⟩) ∧ w'.cell? ⟨W.heap.size, 2, none⟩ = some (.int .i64 a3) ∧ w'.cell? ⟨W.heap.size + 1, 0, none⟩ = some (.string ⟨b1.toArray⟩) ∧ w'.cell? ⟨W.heap.size + 1, 2, none⟩ = some (.int .i64 b3))
    (go_keep)
    (first
      | (go_at_call 57; refine (Tryz.cmp_Compare_int _ _ _).mono ?_; rintro e w' ⟨rfl, rfl⟩)
      | (go_at_call 58; refine (Tryz.strings_Compare _ _ _).mono ?_; rintro e w' ⟨rfl, rfl⟩)
      | (go_at_call 56; refine (HOR.out _ _ (by show (World.alloc _ _).cell? _ = _; rw [World.cell?_alloc_at _ _ _ _ (by simp)]; rfl) (by show (World.alloc _ _).cell? _ = _; rw [World.cell?_alloc_at _ _ _ _ (by simp)]; rfl)).mono ?_; rintro e w' ⟨rfl, rfl⟩))
  all_goals
    clear HOR
    go_wp2_with fail
    go_ret
    refine ⟨rfl, 1, #[.cells #[.string ⟨a1.toArray⟩, .string ⟨a2.toArray⟩, .int .i64 a3, .int .i64 a4] 23, .cells #[.string ⟨b1.toArray⟩, .string ⟨b2.toArray⟩, .int .i64 b3, .int .i64 b4] 23, .cells #[.int .i64 (Lib.compareInt a3 b3), .int .i64 (Lib.compareBytes a1 b1)] 3], ?_⟩
    rw [alloc_eq_grow, alloc_eq_grow, alloc_eq_grow, grow_grow, grow_grow]; rfl
end Go.Proofs.YtllcddlflcpmbaaGreatDoor
