/- Entries' words: entry.readGoods. -/
import Derived.Test.YtmhkcmoepopnoaaDoorEntK
namespace Go.Proofs.YtmhkcmoepopnoaaDoor
open Go.RowKit Go.Sort Go.Proofs

theorem entGoods_len {ws : List (List UInt8)} (h : ws.length ≠ 3) : entGoods ws = (zeroEnt, 1) := by
  unfold entGoods
  split
  · simp at h
  · rfl

set_option maxHeartbeats 6400000 in
set_option maxRecDepth 100000 in
theorem readGoods_any (E : Nat → Addr) (ws : List (List UInt8)) (A : Option Addr) (cap : Nat) (w : World) (hS : StrsAt w A ws) (hle : ∀ x ∈ ws, x.length ≤ 1000000) (hln : ws.length ≤ 1000000000) (hG : ReadG E w) :
    Calls Tryd.prog 14 #[.slice A ws.length cap] w fun e w' => e = .returned (.tuple #[.agg (encEnt (entGoods ws).1).toArray, errOf E (entGoods ws).2]) ∧ Below w.heap.size w w' := by
  have b0 := below_one w (.cells #[.string ⟨#[]⟩, .string ⟨#[]⟩, .int .i64 0, .string ⟨#[]⟩, .string ⟨#[]⟩, .int .i64 0, .int .i64 0, .string ⟨#[]⟩, .int .i64 0, .int .i64 0, .string ⟨#[]⟩, .int .i64 0, .int .i64 0, .int .i64 0] 29)
  have hz0 : (w.alloc (.cells #[.string ⟨#[]⟩, .string ⟨#[]⟩, .int .i64 0, .string ⟨#[]⟩, .string ⟨#[]⟩, .int .i64 0, .int .i64 0, .string ⟨#[]⟩, .int .i64 0, .int .i64 0, .string ⟨#[]⟩, .int .i64 0, .int .i64 0, .int .i64 0] 29)).heap[w.heap.size]? = some (.cells #[.string ⟨#[]⟩, .string ⟨#[]⟩, .int .i64 0, .string ⟨#[]⟩, .string ⟨#[]⟩, .int .i64 0, .int .i64 0, .string ⟨#[]⟩, .int .i64 0, .int .i64 0, .string ⟨#[]⟩, .int .i64 0, .int .i64 0, .int .i64 0] 29 (0, 0)) := heap_alloc_new _ _
  have HG0 := Lib.hid (hG.below b0)
  have hg0 := HG0.out.text
  have lg := lt_of_cell hG.text
  simp only at lg
  unfold ErrAt at hg0
  have hgrb : 4 ≠ w.heap.size := by omega
  have B0 := Lib.hid b0
  by_cases h3 : ws.length = 3
  · obtain ⟨a, b, c, rfl⟩ := three h3
    have hcl := hle c (by simp)
    obtain ⟨bl, o, rfl, hl, p0, p1, p2⟩ := strs3 hS
    have l3 : [a, b, c].length = 3 := rfl
    rw [l3]
    have q0 := (b0.cell (p := ⟨_, _, none⟩) (lt_of_cell p0)).trans p0
    have q1 := (b0.cell (p := ⟨_, _, none⟩) (lt_of_cell p1)).trans p1
    have q2 := (b0.cell (p := ⟨_, _, none⟩) (lt_of_cell p2)).trans p2
    have HW := Lib.hid (show entGoods [a, b, c] = match numQ c 13 with
      | some v => ((kGoods, (b, (v : Int)), zeroLot, zeroPlace, zeroPlace, 0), 0)
      | none => (zeroEnt, 1) from rfl)
    have LG := Lib.hid lg
    clear hS l3 hle h3 hln p0 p1 p2 b0 lg hG
    go_enter Tryd.func14, Tryd.ntmps14
    go_wp2_with fail
    refine (numb_any c 13 (by omega) (by omega) _ HG0.out.tab HG0.out.atoi).mono ?_
    rintro e w1 ⟨u, rfl, hu, b1⟩
    have r1 := (b1.cell (p := ⟨_, _, none⟩) (lt_of_cell q1)).trans q1
    have hz1 := (b1.block w.heap.size (row_lt hz0)).trans hz0
    have hg1 := (b1.cell (p := ⟨_, 0, none⟩) (lt_of_cell hg0)).trans hg0
    have B1 := Lib.hid (B0.out.trans (b1.mono B0.out.size))
    have HU := Lib.hid hu
    clear b1 hu q0 q1 q2 hz0 hg0 B0 HG0
    have z0 : w1.cell? ⟨w.heap.size, 0, none⟩ = some (.string ⟨#[]⟩) := cell_of_row _ _ _ _ _ _ hz1
    have f0 := frozen_of_row (w1) w.heap.size 0 _ _ hz1
    have z1 : w1.cell? ⟨w.heap.size, 1, none⟩ = some (.string ⟨#[]⟩) := cell_of_row _ _ _ _ _ _ hz1
    have f1 := frozen_of_row (w1) w.heap.size 1 _ _ hz1
    have z2 : w1.cell? ⟨w.heap.size, 2, none⟩ = some (.int .i64 0) := cell_of_row _ _ _ _ _ _ hz1
    have f2 := frozen_of_row (w1) w.heap.size 2 _ _ hz1
    have z3 : w1.cell? ⟨w.heap.size, 3, none⟩ = some (.string ⟨#[]⟩) := cell_of_row _ _ _ _ _ _ hz1
    have f3 := frozen_of_row (w1) w.heap.size 3 _ _ hz1
    have z4 : w1.cell? ⟨w.heap.size, 4, none⟩ = some (.string ⟨#[]⟩) := cell_of_row _ _ _ _ _ _ hz1
    have f4 := frozen_of_row (w1) w.heap.size 4 _ _ hz1
    have z5 : w1.cell? ⟨w.heap.size, 5, none⟩ = some (.int .i64 0) := cell_of_row _ _ _ _ _ _ hz1
    have f5 := frozen_of_row (w1) w.heap.size 5 _ _ hz1
    have z6 : w1.cell? ⟨w.heap.size, 6, none⟩ = some (.int .i64 0) := cell_of_row _ _ _ _ _ _ hz1
    have f6 := frozen_of_row (w1) w.heap.size 6 _ _ hz1
    have z7 : w1.cell? ⟨w.heap.size, 7, none⟩ = some (.string ⟨#[]⟩) := cell_of_row _ _ _ _ _ _ hz1
    have f7 := frozen_of_row (w1) w.heap.size 7 _ _ hz1
    have z8 : w1.cell? ⟨w.heap.size, 8, none⟩ = some (.int .i64 0) := cell_of_row _ _ _ _ _ _ hz1
    have f8 := frozen_of_row (w1) w.heap.size 8 _ _ hz1
    have z9 : w1.cell? ⟨w.heap.size, 9, none⟩ = some (.int .i64 0) := cell_of_row _ _ _ _ _ _ hz1
    have f9 := frozen_of_row (w1) w.heap.size 9 _ _ hz1
    have z10 : w1.cell? ⟨w.heap.size, 10, none⟩ = some (.string ⟨#[]⟩) := cell_of_row _ _ _ _ _ _ hz1
    have f10 := frozen_of_row (w1) w.heap.size 10 _ _ hz1
    have z11 : w1.cell? ⟨w.heap.size, 11, none⟩ = some (.int .i64 0) := cell_of_row _ _ _ _ _ _ hz1
    have f11 := frozen_of_row (w1) w.heap.size 11 _ _ hz1
    have z12 : w1.cell? ⟨w.heap.size, 12, none⟩ = some (.int .i64 0) := cell_of_row _ _ _ _ _ _ hz1
    have f12 := frozen_of_row (w1) w.heap.size 12 _ _ hz1
    have z13 : w1.cell? ⟨w.heap.size, 13, none⟩ = some (.int .i64 0) := cell_of_row _ _ _ _ _ _ hz1
    have f13 := frozen_of_row (w1) w.heap.size 13 _ _ hz1
    cases hq : numQ c 13 with
    | none =>
      rw [hq] at HW
      go_wp2_with fail
      go_region
      all_goals
        have hrow := puts_row [.string ⟨#[]⟩, .string ⟨#[]⟩, .int .i64 0, .string ⟨#[]⟩, .string ⟨#[]⟩, .int .i64 0, .int .i64 0, .string ⟨#[]⟩, .int .i64 0, .int .i64 0, .string ⟨#[]⟩, .int .i64 0, .int .i64 0, .int .i64 0] hz1 rfl
        have hbel := puts_below (Nat.le_refl _) [.string ⟨#[]⟩, .string ⟨#[]⟩, .int .i64 0, .string ⟨#[]⟩, .string ⟨#[]⟩, .int .i64 0, .int .i64 0, .string ⟨#[]⟩, .int .i64 0, .int .i64 0, .string ⟨#[]⟩, .int .i64 0, .int .i64 0, .int .i64 0] _ 0 B1.out
        simp only [puts, Nat.zero_add, Nat.reduceAdd] at hrow hbel
        go_wp2_with fail
        (try simp only [Exit.inBlock, Exit.then])
        generalize ((((((((((((((w1.setCell ⟨w.heap.size, 0, none⟩ (.string ⟨#[]⟩)).setCell ⟨w.heap.size, 1, none⟩ (.string ⟨#[]⟩)).setCell ⟨w.heap.size, 2, none⟩ (.int .i64 0)).setCell ⟨w.heap.size, 3, none⟩ (.string ⟨#[]⟩)).setCell ⟨w.heap.size, 4, none⟩ (.string ⟨#[]⟩)).setCell ⟨w.heap.size, 5, none⟩ (.int .i64 0)).setCell ⟨w.heap.size, 6, none⟩ (.int .i64 0)).setCell ⟨w.heap.size, 7, none⟩ (.string ⟨#[]⟩)).setCell ⟨w.heap.size, 8, none⟩ (.int .i64 0)).setCell ⟨w.heap.size, 9, none⟩ (.int .i64 0)).setCell ⟨w.heap.size, 10, none⟩ (.string ⟨#[]⟩)).setCell ⟨w.heap.size, 11, none⟩ (.int .i64 0)).setCell ⟨w.heap.size, 12, none⟩ (.int .i64 0)).setCell ⟨w.heap.size, 13, none⟩ (.int .i64 0)) = W9 at hrow hbel ⊢
        refine bodyPost_ret (results_cell_row2 rfl _ _ w.heap.size 29 #[.string ⟨#[]⟩, .string ⟨#[]⟩, .int .i64 0, .string ⟨#[]⟩, .string ⟨#[]⟩, .int .i64 0, .int .i64 0, .string ⟨#[]⟩, .int .i64 0, .int .i64 0, .string ⟨#[]⟩, .int .i64 0, .int .i64 0, .int .i64 0] (0, 0) _ rfl (show W9.drew.heap[w.heap.size]? = _ from hrow) Tryd.underlying29 rfl (by kernel_rfl)) rfl ?_
        rw [HW.out]
        exact ⟨rfl, hbel.drew⟩
    | some uu =>
      have hu := HU.out uu hq
      subst hu
      rw [hq] at HW
      all_goals
        have hrow := puts_row [.string ⟨#[103, 111, 111, 100, 115]⟩, .string ⟨b.toArray⟩, .int .i64 (uu : Nat), .string ⟨#[]⟩, .string ⟨#[]⟩, .int .i64 0, .int .i64 0, .string ⟨#[]⟩, .int .i64 0, .int .i64 0, .string ⟨#[]⟩, .int .i64 0, .int .i64 0, .int .i64 0] hz1 rfl
        have hbel := puts_below (Nat.le_refl _) [.string ⟨#[103, 111, 111, 100, 115]⟩, .string ⟨b.toArray⟩, .int .i64 (uu : Nat), .string ⟨#[]⟩, .string ⟨#[]⟩, .int .i64 0, .int .i64 0, .string ⟨#[]⟩, .int .i64 0, .int .i64 0, .string ⟨#[]⟩, .int .i64 0, .int .i64 0, .int .i64 0] _ 0 B1.out
        simp only [puts, Nat.zero_add, Nat.reduceAdd] at hrow hbel
        go_wp2_with fail
        (try simp only [Exit.inBlock, Exit.then])
        generalize ((((((((((((((w1.setCell ⟨w.heap.size, 0, none⟩ (.string ⟨#[103, 111, 111, 100, 115]⟩)).setCell ⟨w.heap.size, 1, none⟩ (.string ⟨b.toArray⟩)).setCell ⟨w.heap.size, 2, none⟩ (.int .i64 (uu : Nat))).setCell ⟨w.heap.size, 3, none⟩ (.string ⟨#[]⟩)).setCell ⟨w.heap.size, 4, none⟩ (.string ⟨#[]⟩)).setCell ⟨w.heap.size, 5, none⟩ (.int .i64 0)).setCell ⟨w.heap.size, 6, none⟩ (.int .i64 0)).setCell ⟨w.heap.size, 7, none⟩ (.string ⟨#[]⟩)).setCell ⟨w.heap.size, 8, none⟩ (.int .i64 0)).setCell ⟨w.heap.size, 9, none⟩ (.int .i64 0)).setCell ⟨w.heap.size, 10, none⟩ (.string ⟨#[]⟩)).setCell ⟨w.heap.size, 11, none⟩ (.int .i64 0)).setCell ⟨w.heap.size, 12, none⟩ (.int .i64 0)).setCell ⟨w.heap.size, 13, none⟩ (.int .i64 0)) = W9 at hrow hbel ⊢
        refine bodyPost_ret (results_cell_row2 rfl _ _ w.heap.size 29 #[.string ⟨#[103, 111, 111, 100, 115]⟩, .string ⟨b.toArray⟩, .int .i64 (uu : Nat), .string ⟨#[]⟩, .string ⟨#[]⟩, .int .i64 0, .int .i64 0, .string ⟨#[]⟩, .int .i64 0, .int .i64 0, .string ⟨#[]⟩, .int .i64 0, .int .i64 0, .int .i64 0] (0, 0) _ rfl (show W9.heap[w.heap.size]? = _ from hrow) Tryd.underlying29 rfl (by kernel_rfl)) rfl ?_
        rw [HW.out]
        exact ⟨rfl, hbel⟩
  · have HW := Lib.hid (entGoods_len h3)
    have h3' : ((ws.length : Int) == 3) = false := by rw [beq_eq_false_iff_ne]; omega
    clear hS hle b0 hG lg
    go_enter Tryd.func14, Tryd.ntmps14
    go_wp2_with fail
    clear HG0
    generalize (w.alloc (.cells #[.string ⟨#[]⟩, .string ⟨#[]⟩, .int .i64 0, .string ⟨#[]⟩, .string ⟨#[]⟩, .int .i64 0, .int .i64 0, .string ⟨#[]⟩, .int .i64 0, .int .i64 0, .string ⟨#[]⟩, .int .i64 0, .int .i64 0, .int .i64 0] 29)) = V0 at hz0 hg0 B0 ⊢
    have z0 : V0.cell? ⟨w.heap.size, 0, none⟩ = some (.string ⟨#[]⟩) := cell_of_row _ _ _ _ _ _ hz0
    have f0 := frozen_of_row (V0) w.heap.size 0 _ _ hz0
    have z1 : V0.cell? ⟨w.heap.size, 1, none⟩ = some (.string ⟨#[]⟩) := cell_of_row _ _ _ _ _ _ hz0
    have f1 := frozen_of_row (V0) w.heap.size 1 _ _ hz0
    have z2 : V0.cell? ⟨w.heap.size, 2, none⟩ = some (.int .i64 0) := cell_of_row _ _ _ _ _ _ hz0
    have f2 := frozen_of_row (V0) w.heap.size 2 _ _ hz0
    have z3 : V0.cell? ⟨w.heap.size, 3, none⟩ = some (.string ⟨#[]⟩) := cell_of_row _ _ _ _ _ _ hz0
    have f3 := frozen_of_row (V0) w.heap.size 3 _ _ hz0
    have z4 : V0.cell? ⟨w.heap.size, 4, none⟩ = some (.string ⟨#[]⟩) := cell_of_row _ _ _ _ _ _ hz0
    have f4 := frozen_of_row (V0) w.heap.size 4 _ _ hz0
    have z5 : V0.cell? ⟨w.heap.size, 5, none⟩ = some (.int .i64 0) := cell_of_row _ _ _ _ _ _ hz0
    have f5 := frozen_of_row (V0) w.heap.size 5 _ _ hz0
    have z6 : V0.cell? ⟨w.heap.size, 6, none⟩ = some (.int .i64 0) := cell_of_row _ _ _ _ _ _ hz0
    have f6 := frozen_of_row (V0) w.heap.size 6 _ _ hz0
    have z7 : V0.cell? ⟨w.heap.size, 7, none⟩ = some (.string ⟨#[]⟩) := cell_of_row _ _ _ _ _ _ hz0
    have f7 := frozen_of_row (V0) w.heap.size 7 _ _ hz0
    have z8 : V0.cell? ⟨w.heap.size, 8, none⟩ = some (.int .i64 0) := cell_of_row _ _ _ _ _ _ hz0
    have f8 := frozen_of_row (V0) w.heap.size 8 _ _ hz0
    have z9 : V0.cell? ⟨w.heap.size, 9, none⟩ = some (.int .i64 0) := cell_of_row _ _ _ _ _ _ hz0
    have f9 := frozen_of_row (V0) w.heap.size 9 _ _ hz0
    have z10 : V0.cell? ⟨w.heap.size, 10, none⟩ = some (.string ⟨#[]⟩) := cell_of_row _ _ _ _ _ _ hz0
    have f10 := frozen_of_row (V0) w.heap.size 10 _ _ hz0
    have z11 : V0.cell? ⟨w.heap.size, 11, none⟩ = some (.int .i64 0) := cell_of_row _ _ _ _ _ _ hz0
    have f11 := frozen_of_row (V0) w.heap.size 11 _ _ hz0
    have z12 : V0.cell? ⟨w.heap.size, 12, none⟩ = some (.int .i64 0) := cell_of_row _ _ _ _ _ _ hz0
    have f12 := frozen_of_row (V0) w.heap.size 12 _ _ hz0
    have z13 : V0.cell? ⟨w.heap.size, 13, none⟩ = some (.int .i64 0) := cell_of_row _ _ _ _ _ _ hz0
    have f13 := frozen_of_row (V0) w.heap.size 13 _ _ hz0
    go_wp2_with fail
    go_region
    all_goals
      have hrow := puts_row [.string ⟨#[]⟩, .string ⟨#[]⟩, .int .i64 0, .string ⟨#[]⟩, .string ⟨#[]⟩, .int .i64 0, .int .i64 0, .string ⟨#[]⟩, .int .i64 0, .int .i64 0, .string ⟨#[]⟩, .int .i64 0, .int .i64 0, .int .i64 0] hz0 rfl
      have hbel := puts_below (Nat.le_refl _) [.string ⟨#[]⟩, .string ⟨#[]⟩, .int .i64 0, .string ⟨#[]⟩, .string ⟨#[]⟩, .int .i64 0, .int .i64 0, .string ⟨#[]⟩, .int .i64 0, .int .i64 0, .string ⟨#[]⟩, .int .i64 0, .int .i64 0, .int .i64 0] _ 0 B0.out
      simp only [puts, Nat.zero_add, Nat.reduceAdd] at hrow hbel
      go_wp2_with fail
      (try simp only [Exit.inBlock, Exit.then])
      generalize ((((((((((((((V0.setCell ⟨w.heap.size, 0, none⟩ (.string ⟨#[]⟩)).setCell ⟨w.heap.size, 1, none⟩ (.string ⟨#[]⟩)).setCell ⟨w.heap.size, 2, none⟩ (.int .i64 0)).setCell ⟨w.heap.size, 3, none⟩ (.string ⟨#[]⟩)).setCell ⟨w.heap.size, 4, none⟩ (.string ⟨#[]⟩)).setCell ⟨w.heap.size, 5, none⟩ (.int .i64 0)).setCell ⟨w.heap.size, 6, none⟩ (.int .i64 0)).setCell ⟨w.heap.size, 7, none⟩ (.string ⟨#[]⟩)).setCell ⟨w.heap.size, 8, none⟩ (.int .i64 0)).setCell ⟨w.heap.size, 9, none⟩ (.int .i64 0)).setCell ⟨w.heap.size, 10, none⟩ (.string ⟨#[]⟩)).setCell ⟨w.heap.size, 11, none⟩ (.int .i64 0)).setCell ⟨w.heap.size, 12, none⟩ (.int .i64 0)).setCell ⟨w.heap.size, 13, none⟩ (.int .i64 0)) = W9 at hrow hbel ⊢
      refine bodyPost_ret (results_cell_row2 rfl _ _ w.heap.size 29 #[.string ⟨#[]⟩, .string ⟨#[]⟩, .int .i64 0, .string ⟨#[]⟩, .string ⟨#[]⟩, .int .i64 0, .int .i64 0, .string ⟨#[]⟩, .int .i64 0, .int .i64 0, .string ⟨#[]⟩, .int .i64 0, .int .i64 0, .int .i64 0] (0, 0) _ rfl (show W9.drew.heap[w.heap.size]? = _ from hrow) Tryd.underlying29 rfl (by kernel_rfl)) rfl ?_
      rw [HW.out]
      exact ⟨rfl, hbel.drew⟩
end Go.Proofs.YtmhkcmoepopnoaaDoor
