/- Entries' words: entry.read. Printed by gen/entrd.py. -/
import Derived.Test.YtpifbahafnaejaaGreatDoorM05
import Derived.Test.YtpifbahafnaejaaGreatDoorM06
namespace Go.Proofs.YtpifbahafnaejaaGreatDoor
open Go.RowKit Go.Sort Go.Proofs

theorem entPieces_len {k : List UInt8} {ws : List (List UInt8)} (h : ws.length ≠ 3 + (if hasF k then 1 else 0) + (if hasT k then 1 else 0)) : entPieces k ws = (zeroEnt, 1) := by
  unfold entPieces
  rw [if_pos h]
theorem entPieces_num {k : List UInt8} {ws : List (List UInt8)} (h : numQ (ws.getLast?.getD []) 13 = none) : entPieces k ws = (zeroEnt, 1) := by
  unfold entPieces
  rw [h]
  by_cases hl : ws.length ≠ 3 + (if hasF k then 1 else 0) + (if hasT k then 1 else 0)
  · rw [if_pos hl]
  · rw [if_neg hl]

theorem strsN00 {w : World} {A : Option Addr} {a b c : List UInt8} (h : StrsAt w A [a, b, c]) : ∃ bl o, A = some ⟨bl, o, none⟩ ∧ bl < w.heap.size ∧ w.cell? ⟨bl, o, none⟩ = some (.string ⟨a.toArray⟩) ∧ w.cell? ⟨bl, o + 1, none⟩ = some (.string ⟨b.toArray⟩) ∧ w.cell? ⟨bl, o + 2, none⟩ = some (.string ⟨c.toArray⟩) := by
  obtain ⟨bl, o, h1, h2, h3⟩ := h.resolve_left (by simp)
  exact ⟨bl, o, h1, h2, h3 0 (by simp), h3 1 (by simp), h3 2 (by simp)⟩
theorem lenN00 {ws : List (List UInt8)} (h : ws.length = 3) : ∃ a b c, ws = [a, b, c] := by
  match ws, h with
  | [a, b, c], _ => exact ⟨a, b, c, rfl⟩

set_option maxHeartbeats 3200000 in
set_option maxRecDepth 100000 in
theorem read00 (E : Nat → Addr) (k : List UInt8) (hF : hasF k = false) (hT : hasT k = false) (bP : Bool) (ws : List (List UInt8)) (A : Option Addr) (cap : Nat) (w : World) (hS : StrsAt w A ws) (hk : ws.headD [] = k) (hle : ∀ x ∈ ws, x.length ≤ 1000000) (hln : ws.length ≤ 1000000000) (hG : ReadG E w) :
    Calls Tryz.prog 18 #[.slice A ws.length cap, .agg #[.bool false, .bool false, .bool bP]] w fun e w' => e = .returned (.tuple #[.agg (encEnt (entPieces k ws).1).toArray, errOf E (entPieces k ws).2]) ∧ Below w.heap.size w w' := by
  have b0 := below_two w (.cells #[.bool false, .bool false, .bool bP] 45) (.cells #[.string ⟨#[]⟩, .string ⟨#[]⟩, .int .i64 0, .string ⟨#[]⟩, .string ⟨#[]⟩, .int .i64 0, .int .i64 0, .string ⟨#[]⟩, .int .i64 0, .int .i64 0, .string ⟨#[]⟩, .int .i64 0, .int .i64 0, .int .i64 0] 29)
  have hz0 : ((w.alloc (.cells #[.bool false, .bool false, .bool bP] 45)).alloc (.cells #[.string ⟨#[]⟩, .string ⟨#[]⟩, .int .i64 0, .string ⟨#[]⟩, .string ⟨#[]⟩, .int .i64 0, .int .i64 0, .string ⟨#[]⟩, .int .i64 0, .int .i64 0, .string ⟨#[]⟩, .int .i64 0, .int .i64 0, .int .i64 0] 29)).heap[w.heap.size + 1]? = some (.cells #[.string ⟨#[]⟩, .string ⟨#[]⟩, .int .i64 0, .string ⟨#[]⟩, .string ⟨#[]⟩, .int .i64 0, .int .i64 0, .string ⟨#[]⟩, .int .i64 0, .int .i64 0, .string ⟨#[]⟩, .int .i64 0, .int .i64 0, .int .i64 0] 29 (0, 0)) := by
    have := heap_alloc_new (w.alloc (.cells #[.bool false, .bool false, .bool bP] 45)) (.cells #[.string ⟨#[]⟩, .string ⟨#[]⟩, .int .i64 0, .string ⟨#[]⟩, .string ⟨#[]⟩, .int .i64 0, .int .i64 0, .string ⟨#[]⟩, .int .i64 0, .int .i64 0, .string ⟨#[]⟩, .int .i64 0, .int .i64 0, .int .i64 0] 29)
    simpa using this
  have hfr : ((w.alloc (.cells #[.bool false, .bool false, .bool bP] 45)).alloc (.cells #[.string ⟨#[]⟩, .string ⟨#[]⟩, .int .i64 0, .string ⟨#[]⟩, .string ⟨#[]⟩, .int .i64 0, .int .i64 0, .string ⟨#[]⟩, .int .i64 0, .int .i64 0, .string ⟨#[]⟩, .int .i64 0, .int .i64 0, .int .i64 0] 29)).heap[w.heap.size]? = some (.cells #[.bool false, .bool false, .bool bP] 45 (0, 0)) := ((below_one (w.alloc (.cells #[.bool false, .bool false, .bool bP] 45)) _).block _ (by simp)).trans (heap_alloc_new _ _)
  have d0 : ((w.alloc (.cells #[.bool false, .bool false, .bool bP] 45)).alloc (.cells #[.string ⟨#[]⟩, .string ⟨#[]⟩, .int .i64 0, .string ⟨#[]⟩, .string ⟨#[]⟩, .int .i64 0, .int .i64 0, .string ⟨#[]⟩, .int .i64 0, .int .i64 0, .string ⟨#[]⟩, .int .i64 0, .int .i64 0, .int .i64 0] 29)).cell? ⟨w.heap.size, 0, none⟩ = some (.bool false) := cell_of_row _ _ _ _ _ _ hfr
  have d1 : ((w.alloc (.cells #[.bool false, .bool false, .bool bP] 45)).alloc (.cells #[.string ⟨#[]⟩, .string ⟨#[]⟩, .int .i64 0, .string ⟨#[]⟩, .string ⟨#[]⟩, .int .i64 0, .int .i64 0, .string ⟨#[]⟩, .int .i64 0, .int .i64 0, .string ⟨#[]⟩, .int .i64 0, .int .i64 0, .int .i64 0] 29)).cell? ⟨w.heap.size, 1, none⟩ = some (.bool false) := cell_of_row _ _ _ _ _ _ hfr
  have HG0 := Lib.hid (hG.below b0)
  have hg0 := HG0.out.text
  have lg := lt_of_cell hG.text
  simp only at lg
  unfold ErrAt at hg0
  have hgrb : 2 ≠ w.heap.size + 1 := by omega
  have B0 := Lib.hid b0
  by_cases h3 : ws.length = 3
  · obtain ⟨a, b, c, rfl⟩ := lenN00 h3
    have hcl := hle c (by simp)
    obtain ⟨bl, o, rfl, hl, p0, p1, p2⟩ := strsN00 hS
    have lN : [a, b, c].length = 3 := rfl
    rw [lN]
    have hk' : a = k := hk
    subst hk'
    have q0 := (b0.cell (p := ⟨_, _, none⟩) (lt_of_cell p0)).trans p0
    have q1 := (b0.cell (p := ⟨_, _, none⟩) (lt_of_cell p1)).trans p1
    have q2 := (b0.cell (p := ⟨_, _, none⟩) (lt_of_cell p2)).trans p2
    have HN0 := Lib.hid (fun h => entPieces_num (k := a) (ws := [a, b, c]) h)
    clear hS lN hle h3 hln p0 p1 p2 b0 lg hG hk hfr
    go_enter Tryz.func18, Tryz.ntmps18
    go_wp2_with fail
    refine (numb_any c 13 (by omega) (by omega) _ HG0.out.tab HG0.out.atoi).mono ?_
    rintro e w1 ⟨u, rfl, hu, b1⟩
    have B1 := Lib.hid (B0.out.trans (b1.mono B0.out.size))
    have HG1 := Lib.hid (HG0.out.below b1)
    have hz1 := (b1.block (w.heap.size + 1) (row_lt hz0)).trans hz0
    have hg1 := (b1.cell (p := ⟨_, 0, none⟩) (lt_of_cell hg0)).trans hg0
    have e0 := (b1.cell (p := ⟨_, _, none⟩) (lt_of_cell d0)).trans d0
    have e1 := (b1.cell (p := ⟨_, _, none⟩) (lt_of_cell d1)).trans d1
    have r0 := (b1.cell (p := ⟨_, _, none⟩) (lt_of_cell q0)).trans q0
    have r1 := (b1.cell (p := ⟨_, _, none⟩) (lt_of_cell q1)).trans q1
    have r2 := (b1.cell (p := ⟨_, _, none⟩) (lt_of_cell q2)).trans q2
    have HU := Lib.hid hu
    clear b1 hu q0 q1 q2 hz0 hg0 B0 HG0 d0 d1
    cases hq : numQ c 13 with
    | none =>
      have HW := Lib.hid (HN0.out hq)
      have z0 : w1.cell? ⟨w.heap.size + 1, 0, none⟩ = some (.string ⟨#[]⟩) := cell_of_row _ _ _ _ _ _ hz1
      have f0 := frozen_of_row w1 (w.heap.size + 1) 0 _ _ hz1
      have z1 : w1.cell? ⟨w.heap.size + 1, 1, none⟩ = some (.string ⟨#[]⟩) := cell_of_row _ _ _ _ _ _ hz1
      have f1 := frozen_of_row w1 (w.heap.size + 1) 1 _ _ hz1
      have z2 : w1.cell? ⟨w.heap.size + 1, 2, none⟩ = some (.int .i64 0) := cell_of_row _ _ _ _ _ _ hz1
      have f2 := frozen_of_row w1 (w.heap.size + 1) 2 _ _ hz1
      have z3 : w1.cell? ⟨w.heap.size + 1, 3, none⟩ = some (.string ⟨#[]⟩) := cell_of_row _ _ _ _ _ _ hz1
      have f3 := frozen_of_row w1 (w.heap.size + 1) 3 _ _ hz1
      have z4 : w1.cell? ⟨w.heap.size + 1, 4, none⟩ = some (.string ⟨#[]⟩) := cell_of_row _ _ _ _ _ _ hz1
      have f4 := frozen_of_row w1 (w.heap.size + 1) 4 _ _ hz1
      have z5 : w1.cell? ⟨w.heap.size + 1, 5, none⟩ = some (.int .i64 0) := cell_of_row _ _ _ _ _ _ hz1
      have f5 := frozen_of_row w1 (w.heap.size + 1) 5 _ _ hz1
      have z6 : w1.cell? ⟨w.heap.size + 1, 6, none⟩ = some (.int .i64 0) := cell_of_row _ _ _ _ _ _ hz1
      have f6 := frozen_of_row w1 (w.heap.size + 1) 6 _ _ hz1
      have z7 : w1.cell? ⟨w.heap.size + 1, 7, none⟩ = some (.string ⟨#[]⟩) := cell_of_row _ _ _ _ _ _ hz1
      have f7 := frozen_of_row w1 (w.heap.size + 1) 7 _ _ hz1
      have z8 : w1.cell? ⟨w.heap.size + 1, 8, none⟩ = some (.int .i64 0) := cell_of_row _ _ _ _ _ _ hz1
      have f8 := frozen_of_row w1 (w.heap.size + 1) 8 _ _ hz1
      have z9 : w1.cell? ⟨w.heap.size + 1, 9, none⟩ = some (.int .i64 0) := cell_of_row _ _ _ _ _ _ hz1
      have f9 := frozen_of_row w1 (w.heap.size + 1) 9 _ _ hz1
      have z10 : w1.cell? ⟨w.heap.size + 1, 10, none⟩ = some (.string ⟨#[]⟩) := cell_of_row _ _ _ _ _ _ hz1
      have f10 := frozen_of_row w1 (w.heap.size + 1) 10 _ _ hz1
      have z11 : w1.cell? ⟨w.heap.size + 1, 11, none⟩ = some (.int .i64 0) := cell_of_row _ _ _ _ _ _ hz1
      have f11 := frozen_of_row w1 (w.heap.size + 1) 11 _ _ hz1
      have z12 : w1.cell? ⟨w.heap.size + 1, 12, none⟩ = some (.int .i64 0) := cell_of_row _ _ _ _ _ _ hz1
      have f12 := frozen_of_row w1 (w.heap.size + 1) 12 _ _ hz1
      have z13 : w1.cell? ⟨w.heap.size + 1, 13, none⟩ = some (.int .i64 0) := cell_of_row _ _ _ _ _ _ hz1
      have f13 := frozen_of_row w1 (w.heap.size + 1) 13 _ _ hz1
      go_wp2_with fail
      go_region
      all_goals
        have hrow := puts_row [.string ⟨#[]⟩, .string ⟨#[]⟩, .int .i64 0, .string ⟨#[]⟩, .string ⟨#[]⟩, .int .i64 0, .int .i64 0, .string ⟨#[]⟩, .int .i64 0, .int .i64 0, .string ⟨#[]⟩, .int .i64 0, .int .i64 0, .int .i64 0] hz1 rfl
        have hbel := puts_below (Nat.le_succ w.heap.size) [.string ⟨#[]⟩, .string ⟨#[]⟩, .int .i64 0, .string ⟨#[]⟩, .string ⟨#[]⟩, .int .i64 0, .int .i64 0, .string ⟨#[]⟩, .int .i64 0, .int .i64 0, .string ⟨#[]⟩, .int .i64 0, .int .i64 0, .int .i64 0] _ 0 B1.out
        simp only [puts, Nat.zero_add, Nat.reduceAdd] at hrow hbel
        go_wp2_with fail
        (try simp only [Exit.inBlock, Exit.then])
        generalize ((((((((((((((w1.setCell ⟨w.heap.size + 1, 0, none⟩ (.string ⟨#[]⟩)).setCell ⟨w.heap.size + 1, 1, none⟩ (.string ⟨#[]⟩)).setCell ⟨w.heap.size + 1, 2, none⟩ (.int .i64 0)).setCell ⟨w.heap.size + 1, 3, none⟩ (.string ⟨#[]⟩)).setCell ⟨w.heap.size + 1, 4, none⟩ (.string ⟨#[]⟩)).setCell ⟨w.heap.size + 1, 5, none⟩ (.int .i64 0)).setCell ⟨w.heap.size + 1, 6, none⟩ (.int .i64 0)).setCell ⟨w.heap.size + 1, 7, none⟩ (.string ⟨#[]⟩)).setCell ⟨w.heap.size + 1, 8, none⟩ (.int .i64 0)).setCell ⟨w.heap.size + 1, 9, none⟩ (.int .i64 0)).setCell ⟨w.heap.size + 1, 10, none⟩ (.string ⟨#[]⟩)).setCell ⟨w.heap.size + 1, 11, none⟩ (.int .i64 0)).setCell ⟨w.heap.size + 1, 12, none⟩ (.int .i64 0)).setCell ⟨w.heap.size + 1, 13, none⟩ (.int .i64 0)) = W9 at hrow hbel ⊢
        refine bodyPost_ret (results_cell_row2 rfl _ _ (w.heap.size + 1) 29 #[.string ⟨#[]⟩, .string ⟨#[]⟩, .int .i64 0, .string ⟨#[]⟩, .string ⟨#[]⟩, .int .i64 0, .int .i64 0, .string ⟨#[]⟩, .int .i64 0, .int .i64 0, .string ⟨#[]⟩, .int .i64 0, .int .i64 0, .int .i64 0] (0, 0) _ rfl (show W9.drew.heap[w.heap.size + 1]? = _ from hrow) Tryz.underlying29 rfl (by kernel_rfl)) rfl ?_
        rw [HW.out]
        exact ⟨rfl, hbel.drew⟩
    | some uu =>
      have hu := HU.out uu hq
      subst hu
      have s0 := fun ob => ((below_one w1 ob).cell (p := ⟨_, _, none⟩) (lt_of_cell r0)).trans r0
      have s1 := fun ob => ((below_one w1 ob).cell (p := ⟨_, _, none⟩) (lt_of_cell r1)).trans r1
      have s2 := fun ob => ((below_one w1 ob).cell (p := ⟨_, _, none⟩) (lt_of_cell r2)).trans r2
      go_wp2_with fail
      go_region
      have bb := (below_one w1 (.cells #[.string ⟨a.toArray⟩, .string ⟨#[]⟩, .int .i64 0, .string ⟨b.toArray⟩, .string ⟨#[]⟩, .int .i64 0, .int .i64 0, .string ⟨#[]⟩, .int .i64 0, .int .i64 0, .string ⟨#[]⟩, .int .i64 0, .int .i64 0, .int .i64 (uu : Nat)] 29)).drew
      have hz2 := (bb.block (w.heap.size + 1) (row_lt hz1)).trans hz1
      have he2 : (w1.alloc (.cells #[.string ⟨a.toArray⟩, .string ⟨#[]⟩, .int .i64 0, .string ⟨b.toArray⟩, .string ⟨#[]⟩, .int .i64 0, .int .i64 0, .string ⟨#[]⟩, .int .i64 0, .int .i64 0, .string ⟨#[]⟩, .int .i64 0, .int .i64 0, .int .i64 (uu : Nat)] 29)).drew.heap[w1.heap.size]? = some (.cells #[.string ⟨a.toArray⟩, .string ⟨#[]⟩, .int .i64 0, .string ⟨b.toArray⟩, .string ⟨#[]⟩, .int .i64 0, .int .i64 0, .string ⟨#[]⟩, .int .i64 0, .int .i64 0, .string ⟨#[]⟩, .int .i64 0, .int .i64 0, .int .i64 (uu : Nat)] 29 (0, 0)) := heap_alloc_new _ _
      have i0 := (bb.cell (p := ⟨_, _, none⟩) (lt_of_cell e0)).trans e0
      have i1 := (bb.cell (p := ⟨_, _, none⟩) (lt_of_cell e1)).trans e1
      have B2 := Lib.hid (B1.out.trans (bb.mono B1.out.size))
      have HG2 := Lib.hid (HG1.out.below bb)
      have hlt : w.heap.size + 1 < w1.heap.size := row_lt hz1
      have hne : w1.heap.size ≠ w.heap.size + 1 := by omega
      generalize (w1.alloc (.cells #[.string ⟨a.toArray⟩, .string ⟨#[]⟩, .int .i64 0, .string ⟨b.toArray⟩, .string ⟨#[]⟩, .int .i64 0, .int .i64 0, .string ⟨#[]⟩, .int .i64 0, .int .i64 0, .string ⟨#[]⟩, .int .i64 0, .int .i64 0, .int .i64 (uu : Nat)] 29)).drew = W2 at bb hz2 he2 i0 i1 B2 HG2 ⊢
      obtain ⟨eb, heb⟩ : ∃ eb, eb = w1.heap.size := ⟨_, rfl⟩
      rw [← heb] at he2 hne hlt ⊢
      clear bb e0 e1 hz1 hg1 B1 HG1 s0 s1 s2 r0 r1 r2
      clear heb
      have x0 : W2.cell? ⟨eb, 0, none⟩ = some (.string ⟨a.toArray⟩) := cell_of_row _ _ _ _ _ _ he2
      have x1 : W2.cell? ⟨eb, 1, none⟩ = some (.string ⟨#[]⟩) := cell_of_row _ _ _ _ _ _ he2
      have x2 : W2.cell? ⟨eb, 2, none⟩ = some (.int .i64 0) := cell_of_row _ _ _ _ _ _ he2
      have x3 : W2.cell? ⟨eb, 3, none⟩ = some (.string ⟨b.toArray⟩) := cell_of_row _ _ _ _ _ _ he2
      have x4 : W2.cell? ⟨eb, 4, none⟩ = some (.string ⟨#[]⟩) := cell_of_row _ _ _ _ _ _ he2
      have x5 : W2.cell? ⟨eb, 5, none⟩ = some (.int .i64 0) := cell_of_row _ _ _ _ _ _ he2
      have x6 : W2.cell? ⟨eb, 6, none⟩ = some (.int .i64 0) := cell_of_row _ _ _ _ _ _ he2
      have x7 : W2.cell? ⟨eb, 7, none⟩ = some (.string ⟨#[]⟩) := cell_of_row _ _ _ _ _ _ he2
      have x8 : W2.cell? ⟨eb, 8, none⟩ = some (.int .i64 0) := cell_of_row _ _ _ _ _ _ he2
      have x9 : W2.cell? ⟨eb, 9, none⟩ = some (.int .i64 0) := cell_of_row _ _ _ _ _ _ he2
      have x10 : W2.cell? ⟨eb, 10, none⟩ = some (.string ⟨#[]⟩) := cell_of_row _ _ _ _ _ _ he2
      have x11 : W2.cell? ⟨eb, 11, none⟩ = some (.int .i64 0) := cell_of_row _ _ _ _ _ _ he2
      have x12 : W2.cell? ⟨eb, 12, none⟩ = some (.int .i64 0) := cell_of_row _ _ _ _ _ _ he2
      have x13 : W2.cell? ⟨eb, 13, none⟩ = some (.int .i64 (uu : Nat)) := cell_of_row _ _ _ _ _ _ he2
      have z0 : W2.cell? ⟨w.heap.size + 1, 0, none⟩ = some (.string ⟨#[]⟩) := cell_of_row _ _ _ _ _ _ hz2
      have f0 := frozen_of_row W2 (w.heap.size + 1) 0 _ _ hz2
      have z1 : W2.cell? ⟨w.heap.size + 1, 1, none⟩ = some (.string ⟨#[]⟩) := cell_of_row _ _ _ _ _ _ hz2
      have f1 := frozen_of_row W2 (w.heap.size + 1) 1 _ _ hz2
      have z2 : W2.cell? ⟨w.heap.size + 1, 2, none⟩ = some (.int .i64 0) := cell_of_row _ _ _ _ _ _ hz2
      have f2 := frozen_of_row W2 (w.heap.size + 1) 2 _ _ hz2
      have z3 : W2.cell? ⟨w.heap.size + 1, 3, none⟩ = some (.string ⟨#[]⟩) := cell_of_row _ _ _ _ _ _ hz2
      have f3 := frozen_of_row W2 (w.heap.size + 1) 3 _ _ hz2
      have z4 : W2.cell? ⟨w.heap.size + 1, 4, none⟩ = some (.string ⟨#[]⟩) := cell_of_row _ _ _ _ _ _ hz2
      have f4 := frozen_of_row W2 (w.heap.size + 1) 4 _ _ hz2
      have z5 : W2.cell? ⟨w.heap.size + 1, 5, none⟩ = some (.int .i64 0) := cell_of_row _ _ _ _ _ _ hz2
      have f5 := frozen_of_row W2 (w.heap.size + 1) 5 _ _ hz2
      have z6 : W2.cell? ⟨w.heap.size + 1, 6, none⟩ = some (.int .i64 0) := cell_of_row _ _ _ _ _ _ hz2
      have f6 := frozen_of_row W2 (w.heap.size + 1) 6 _ _ hz2
      have z7 : W2.cell? ⟨w.heap.size + 1, 7, none⟩ = some (.string ⟨#[]⟩) := cell_of_row _ _ _ _ _ _ hz2
      have f7 := frozen_of_row W2 (w.heap.size + 1) 7 _ _ hz2
      have z8 : W2.cell? ⟨w.heap.size + 1, 8, none⟩ = some (.int .i64 0) := cell_of_row _ _ _ _ _ _ hz2
      have f8 := frozen_of_row W2 (w.heap.size + 1) 8 _ _ hz2
      have z9 : W2.cell? ⟨w.heap.size + 1, 9, none⟩ = some (.int .i64 0) := cell_of_row _ _ _ _ _ _ hz2
      have f9 := frozen_of_row W2 (w.heap.size + 1) 9 _ _ hz2
      have z10 : W2.cell? ⟨w.heap.size + 1, 10, none⟩ = some (.string ⟨#[]⟩) := cell_of_row _ _ _ _ _ _ hz2
      have f10 := frozen_of_row W2 (w.heap.size + 1) 10 _ _ hz2
      have z11 : W2.cell? ⟨w.heap.size + 1, 11, none⟩ = some (.int .i64 0) := cell_of_row _ _ _ _ _ _ hz2
      have f11 := frozen_of_row W2 (w.heap.size + 1) 11 _ _ hz2
      have z12 : W2.cell? ⟨w.heap.size + 1, 12, none⟩ = some (.int .i64 0) := cell_of_row _ _ _ _ _ _ hz2
      have f12 := frozen_of_row W2 (w.heap.size + 1) 12 _ _ hz2
      have z13 : W2.cell? ⟨w.heap.size + 1, 13, none⟩ = some (.int .i64 0) := cell_of_row _ _ _ _ _ _ hz2
      have f13 := frozen_of_row W2 (w.heap.size + 1) 13 _ _ hz2
      have HW := Lib.hid (show entPieces a [a, b, c] = ((a, zeroGoods, (b, [], 0, 0), zeroPlace, zeroPlace, ((uu : Nat) : Int)), 0) by
        unfold entPieces
        rw [if_neg (by rw [hF, hT]; simp), hF, hT]
        simp only [List.getLast?_cons_cons, List.getLast?_singleton, Option.getD_some, hq]
        rfl)
      all_goals
        have hrow := puts_row [.string ⟨a.toArray⟩, .string ⟨#[]⟩, .int .i64 0, .string ⟨b.toArray⟩, .string ⟨#[]⟩, .int .i64 0, .int .i64 0, .string ⟨#[]⟩, .int .i64 0, .int .i64 0, .string ⟨#[]⟩, .int .i64 0, .int .i64 0, .int .i64 (uu : Nat)] hz2 rfl
        have hbel := puts_below (Nat.le_succ w.heap.size) [.string ⟨a.toArray⟩, .string ⟨#[]⟩, .int .i64 0, .string ⟨b.toArray⟩, .string ⟨#[]⟩, .int .i64 0, .int .i64 0, .string ⟨#[]⟩, .int .i64 0, .int .i64 0, .string ⟨#[]⟩, .int .i64 0, .int .i64 0, .int .i64 (uu : Nat)] _ 0 B2.out
        simp only [puts, Nat.zero_add, Nat.reduceAdd] at hrow hbel
        go_wp2_with fail
        (try simp only [Exit.inBlock, Exit.then])
        generalize ((((((((((((((W2.setCell ⟨w.heap.size + 1, 0, none⟩ (.string ⟨a.toArray⟩)).setCell ⟨w.heap.size + 1, 1, none⟩ (.string ⟨#[]⟩)).setCell ⟨w.heap.size + 1, 2, none⟩ (.int .i64 0)).setCell ⟨w.heap.size + 1, 3, none⟩ (.string ⟨b.toArray⟩)).setCell ⟨w.heap.size + 1, 4, none⟩ (.string ⟨#[]⟩)).setCell ⟨w.heap.size + 1, 5, none⟩ (.int .i64 0)).setCell ⟨w.heap.size + 1, 6, none⟩ (.int .i64 0)).setCell ⟨w.heap.size + 1, 7, none⟩ (.string ⟨#[]⟩)).setCell ⟨w.heap.size + 1, 8, none⟩ (.int .i64 0)).setCell ⟨w.heap.size + 1, 9, none⟩ (.int .i64 0)).setCell ⟨w.heap.size + 1, 10, none⟩ (.string ⟨#[]⟩)).setCell ⟨w.heap.size + 1, 11, none⟩ (.int .i64 0)).setCell ⟨w.heap.size + 1, 12, none⟩ (.int .i64 0)).setCell ⟨w.heap.size + 1, 13, none⟩ (.int .i64 (uu : Nat))) = W9 at hrow hbel ⊢
        refine bodyPost_ret (results_cell_row2 rfl _ _ (w.heap.size + 1) 29 #[.string ⟨a.toArray⟩, .string ⟨#[]⟩, .int .i64 0, .string ⟨b.toArray⟩, .string ⟨#[]⟩, .int .i64 0, .int .i64 0, .string ⟨#[]⟩, .int .i64 0, .int .i64 0, .string ⟨#[]⟩, .int .i64 0, .int .i64 0, .int .i64 (uu : Nat)] (0, 0) _ rfl (show W9.heap[w.heap.size + 1]? = _ from hrow) Tryz.underlying29 rfl (by kernel_rfl)) rfl ?_
        rw [HW.out]
        exact ⟨rfl, hbel⟩
  · have HW := Lib.hid (entPieces_len (k := k) (ws := ws) (by rw [hF, hT]; exact h3))
    have h3' : ((ws.length : Int) == 3) = false := by rw [beq_eq_false_iff_ne]; omega
    clear hS hle b0 hG lg
    go_enter Tryz.func18, Tryz.ntmps18
    go_wp2_with fail
    clear HG0 hfr d0 d1
    generalize ((w.alloc (.cells #[.bool false, .bool false, .bool bP] 45)).alloc (.cells #[.string ⟨#[]⟩, .string ⟨#[]⟩, .int .i64 0, .string ⟨#[]⟩, .string ⟨#[]⟩, .int .i64 0, .int .i64 0, .string ⟨#[]⟩, .int .i64 0, .int .i64 0, .string ⟨#[]⟩, .int .i64 0, .int .i64 0, .int .i64 0] 29)) = V0 at hz0 hg0 B0 ⊢
    have z0 : V0.cell? ⟨w.heap.size + 1, 0, none⟩ = some (.string ⟨#[]⟩) := cell_of_row _ _ _ _ _ _ hz0
    have f0 := frozen_of_row V0 (w.heap.size + 1) 0 _ _ hz0
    have z1 : V0.cell? ⟨w.heap.size + 1, 1, none⟩ = some (.string ⟨#[]⟩) := cell_of_row _ _ _ _ _ _ hz0
    have f1 := frozen_of_row V0 (w.heap.size + 1) 1 _ _ hz0
    have z2 : V0.cell? ⟨w.heap.size + 1, 2, none⟩ = some (.int .i64 0) := cell_of_row _ _ _ _ _ _ hz0
    have f2 := frozen_of_row V0 (w.heap.size + 1) 2 _ _ hz0
    have z3 : V0.cell? ⟨w.heap.size + 1, 3, none⟩ = some (.string ⟨#[]⟩) := cell_of_row _ _ _ _ _ _ hz0
    have f3 := frozen_of_row V0 (w.heap.size + 1) 3 _ _ hz0
    have z4 : V0.cell? ⟨w.heap.size + 1, 4, none⟩ = some (.string ⟨#[]⟩) := cell_of_row _ _ _ _ _ _ hz0
    have f4 := frozen_of_row V0 (w.heap.size + 1) 4 _ _ hz0
    have z5 : V0.cell? ⟨w.heap.size + 1, 5, none⟩ = some (.int .i64 0) := cell_of_row _ _ _ _ _ _ hz0
    have f5 := frozen_of_row V0 (w.heap.size + 1) 5 _ _ hz0
    have z6 : V0.cell? ⟨w.heap.size + 1, 6, none⟩ = some (.int .i64 0) := cell_of_row _ _ _ _ _ _ hz0
    have f6 := frozen_of_row V0 (w.heap.size + 1) 6 _ _ hz0
    have z7 : V0.cell? ⟨w.heap.size + 1, 7, none⟩ = some (.string ⟨#[]⟩) := cell_of_row _ _ _ _ _ _ hz0
    have f7 := frozen_of_row V0 (w.heap.size + 1) 7 _ _ hz0
    have z8 : V0.cell? ⟨w.heap.size + 1, 8, none⟩ = some (.int .i64 0) := cell_of_row _ _ _ _ _ _ hz0
    have f8 := frozen_of_row V0 (w.heap.size + 1) 8 _ _ hz0
    have z9 : V0.cell? ⟨w.heap.size + 1, 9, none⟩ = some (.int .i64 0) := cell_of_row _ _ _ _ _ _ hz0
    have f9 := frozen_of_row V0 (w.heap.size + 1) 9 _ _ hz0
    have z10 : V0.cell? ⟨w.heap.size + 1, 10, none⟩ = some (.string ⟨#[]⟩) := cell_of_row _ _ _ _ _ _ hz0
    have f10 := frozen_of_row V0 (w.heap.size + 1) 10 _ _ hz0
    have z11 : V0.cell? ⟨w.heap.size + 1, 11, none⟩ = some (.int .i64 0) := cell_of_row _ _ _ _ _ _ hz0
    have f11 := frozen_of_row V0 (w.heap.size + 1) 11 _ _ hz0
    have z12 : V0.cell? ⟨w.heap.size + 1, 12, none⟩ = some (.int .i64 0) := cell_of_row _ _ _ _ _ _ hz0
    have f12 := frozen_of_row V0 (w.heap.size + 1) 12 _ _ hz0
    have z13 : V0.cell? ⟨w.heap.size + 1, 13, none⟩ = some (.int .i64 0) := cell_of_row _ _ _ _ _ _ hz0
    have f13 := frozen_of_row V0 (w.heap.size + 1) 13 _ _ hz0
    go_wp2_with fail
    go_region
    all_goals
      have hrow := puts_row [.string ⟨#[]⟩, .string ⟨#[]⟩, .int .i64 0, .string ⟨#[]⟩, .string ⟨#[]⟩, .int .i64 0, .int .i64 0, .string ⟨#[]⟩, .int .i64 0, .int .i64 0, .string ⟨#[]⟩, .int .i64 0, .int .i64 0, .int .i64 0] hz0 rfl
      have hbel := puts_below (Nat.le_succ w.heap.size) [.string ⟨#[]⟩, .string ⟨#[]⟩, .int .i64 0, .string ⟨#[]⟩, .string ⟨#[]⟩, .int .i64 0, .int .i64 0, .string ⟨#[]⟩, .int .i64 0, .int .i64 0, .string ⟨#[]⟩, .int .i64 0, .int .i64 0, .int .i64 0] _ 0 B0.out
      simp only [puts, Nat.zero_add, Nat.reduceAdd] at hrow hbel
      go_wp2_with fail
      (try simp only [Exit.inBlock, Exit.then])
      generalize ((((((((((((((V0.setCell ⟨w.heap.size + 1, 0, none⟩ (.string ⟨#[]⟩)).setCell ⟨w.heap.size + 1, 1, none⟩ (.string ⟨#[]⟩)).setCell ⟨w.heap.size + 1, 2, none⟩ (.int .i64 0)).setCell ⟨w.heap.size + 1, 3, none⟩ (.string ⟨#[]⟩)).setCell ⟨w.heap.size + 1, 4, none⟩ (.string ⟨#[]⟩)).setCell ⟨w.heap.size + 1, 5, none⟩ (.int .i64 0)).setCell ⟨w.heap.size + 1, 6, none⟩ (.int .i64 0)).setCell ⟨w.heap.size + 1, 7, none⟩ (.string ⟨#[]⟩)).setCell ⟨w.heap.size + 1, 8, none⟩ (.int .i64 0)).setCell ⟨w.heap.size + 1, 9, none⟩ (.int .i64 0)).setCell ⟨w.heap.size + 1, 10, none⟩ (.string ⟨#[]⟩)).setCell ⟨w.heap.size + 1, 11, none⟩ (.int .i64 0)).setCell ⟨w.heap.size + 1, 12, none⟩ (.int .i64 0)).setCell ⟨w.heap.size + 1, 13, none⟩ (.int .i64 0)) = W9 at hrow hbel ⊢
      refine bodyPost_ret (results_cell_row2 rfl _ _ (w.heap.size + 1) 29 #[.string ⟨#[]⟩, .string ⟨#[]⟩, .int .i64 0, .string ⟨#[]⟩, .string ⟨#[]⟩, .int .i64 0, .int .i64 0, .string ⟨#[]⟩, .int .i64 0, .int .i64 0, .string ⟨#[]⟩, .int .i64 0, .int .i64 0, .int .i64 0] (0, 0) _ rfl (show W9.drew.heap[w.heap.size + 1]? = _ from hrow) Tryz.underlying29 rfl (by kernel_rfl)) rfl ?_
      rw [HW.out]
      exact ⟨rfl, hbel.drew⟩

theorem strsN01 {w : World} {A : Option Addr} {a b c d : List UInt8} (h : StrsAt w A [a, b, c, d]) : ∃ bl o, A = some ⟨bl, o, none⟩ ∧ bl < w.heap.size ∧ w.cell? ⟨bl, o, none⟩ = some (.string ⟨a.toArray⟩) ∧ w.cell? ⟨bl, o + 1, none⟩ = some (.string ⟨b.toArray⟩) ∧ w.cell? ⟨bl, o + 2, none⟩ = some (.string ⟨c.toArray⟩) ∧ w.cell? ⟨bl, o + 3, none⟩ = some (.string ⟨d.toArray⟩) := by
  obtain ⟨bl, o, h1, h2, h3⟩ := h.resolve_left (by simp)
  exact ⟨bl, o, h1, h2, h3 0 (by simp), h3 1 (by simp), h3 2 (by simp), h3 3 (by simp)⟩
theorem lenN01 {ws : List (List UInt8)} (h : ws.length = 4) : ∃ a b c d, ws = [a, b, c, d] := by
  match ws, h with
  | [a, b, c, d], _ => exact ⟨a, b, c, d, rfl⟩

set_option maxHeartbeats 3200000 in
set_option maxRecDepth 100000 in
theorem read01 (E : Nat → Addr) (k : List UInt8) (hF : hasF k = false) (hT : hasT k = true) (bP : Bool) (ws : List (List UInt8)) (A : Option Addr) (cap : Nat) (w : World) (hS : StrsAt w A ws) (hk : ws.headD [] = k) (hle : ∀ x ∈ ws, x.length ≤ 1000000) (hln : ws.length ≤ 1000000000) (hG : ReadG E w) :
    Calls Tryz.prog 18 #[.slice A ws.length cap, .agg #[.bool false, .bool true, .bool bP]] w fun e w' => e = .returned (.tuple #[.agg (encEnt (entPieces k ws).1).toArray, errOf E (entPieces k ws).2]) ∧ Below w.heap.size w w' := by
  have b0 := below_two w (.cells #[.bool false, .bool true, .bool bP] 45) (.cells #[.string ⟨#[]⟩, .string ⟨#[]⟩, .int .i64 0, .string ⟨#[]⟩, .string ⟨#[]⟩, .int .i64 0, .int .i64 0, .string ⟨#[]⟩, .int .i64 0, .int .i64 0, .string ⟨#[]⟩, .int .i64 0, .int .i64 0, .int .i64 0] 29)
  have hz0 : ((w.alloc (.cells #[.bool false, .bool true, .bool bP] 45)).alloc (.cells #[.string ⟨#[]⟩, .string ⟨#[]⟩, .int .i64 0, .string ⟨#[]⟩, .string ⟨#[]⟩, .int .i64 0, .int .i64 0, .string ⟨#[]⟩, .int .i64 0, .int .i64 0, .string ⟨#[]⟩, .int .i64 0, .int .i64 0, .int .i64 0] 29)).heap[w.heap.size + 1]? = some (.cells #[.string ⟨#[]⟩, .string ⟨#[]⟩, .int .i64 0, .string ⟨#[]⟩, .string ⟨#[]⟩, .int .i64 0, .int .i64 0, .string ⟨#[]⟩, .int .i64 0, .int .i64 0, .string ⟨#[]⟩, .int .i64 0, .int .i64 0, .int .i64 0] 29 (0, 0)) := by
    have := heap_alloc_new (w.alloc (.cells #[.bool false, .bool true, .bool bP] 45)) (.cells #[.string ⟨#[]⟩, .string ⟨#[]⟩, .int .i64 0, .string ⟨#[]⟩, .string ⟨#[]⟩, .int .i64 0, .int .i64 0, .string ⟨#[]⟩, .int .i64 0, .int .i64 0, .string ⟨#[]⟩, .int .i64 0, .int .i64 0, .int .i64 0] 29)
    simpa using this
  have hfr : ((w.alloc (.cells #[.bool false, .bool true, .bool bP] 45)).alloc (.cells #[.string ⟨#[]⟩, .string ⟨#[]⟩, .int .i64 0, .string ⟨#[]⟩, .string ⟨#[]⟩, .int .i64 0, .int .i64 0, .string ⟨#[]⟩, .int .i64 0, .int .i64 0, .string ⟨#[]⟩, .int .i64 0, .int .i64 0, .int .i64 0] 29)).heap[w.heap.size]? = some (.cells #[.bool false, .bool true, .bool bP] 45 (0, 0)) := ((below_one (w.alloc (.cells #[.bool false, .bool true, .bool bP] 45)) _).block _ (by simp)).trans (heap_alloc_new _ _)
  have d0 : ((w.alloc (.cells #[.bool false, .bool true, .bool bP] 45)).alloc (.cells #[.string ⟨#[]⟩, .string ⟨#[]⟩, .int .i64 0, .string ⟨#[]⟩, .string ⟨#[]⟩, .int .i64 0, .int .i64 0, .string ⟨#[]⟩, .int .i64 0, .int .i64 0, .string ⟨#[]⟩, .int .i64 0, .int .i64 0, .int .i64 0] 29)).cell? ⟨w.heap.size, 0, none⟩ = some (.bool false) := cell_of_row _ _ _ _ _ _ hfr
  have d1 : ((w.alloc (.cells #[.bool false, .bool true, .bool bP] 45)).alloc (.cells #[.string ⟨#[]⟩, .string ⟨#[]⟩, .int .i64 0, .string ⟨#[]⟩, .string ⟨#[]⟩, .int .i64 0, .int .i64 0, .string ⟨#[]⟩, .int .i64 0, .int .i64 0, .string ⟨#[]⟩, .int .i64 0, .int .i64 0, .int .i64 0] 29)).cell? ⟨w.heap.size, 1, none⟩ = some (.bool true) := cell_of_row _ _ _ _ _ _ hfr
  have HG0 := Lib.hid (hG.below b0)
  have hg0 := HG0.out.text
  have lg := lt_of_cell hG.text
  simp only at lg
  unfold ErrAt at hg0
  have hgrb : 2 ≠ w.heap.size + 1 := by omega
  have B0 := Lib.hid b0
  by_cases h3 : ws.length = 4
  · obtain ⟨a, b, c, d, rfl⟩ := lenN01 h3
    have hcl := hle d (by simp)
    have hlc := hle c (by simp)
    obtain ⟨bl, o, rfl, hl, p0, p1, p2, p3⟩ := strsN01 hS
    have lN : [a, b, c, d].length = 4 := rfl
    rw [lN]
    have hk' : a = k := hk
    subst hk'
    have q0 := (b0.cell (p := ⟨_, _, none⟩) (lt_of_cell p0)).trans p0
    have q1 := (b0.cell (p := ⟨_, _, none⟩) (lt_of_cell p1)).trans p1
    have q2 := (b0.cell (p := ⟨_, _, none⟩) (lt_of_cell p2)).trans p2
    have q3 := (b0.cell (p := ⟨_, _, none⟩) (lt_of_cell p3)).trans p3
    have HN0 := Lib.hid (fun h => entPieces_num (k := a) (ws := [a, b, c, d]) h)
    have HGw := Lib.hid (fun W (h : Below w.heap.size w W) => hG.below h)
    clear hS lN hle h3 hln p0 p1 p2 p3 b0 lg hG hk hfr
    go_enter Tryz.func18, Tryz.ntmps18
    go_wp2_with fail
    refine (numb_any d 13 (by omega) (by omega) _ HG0.out.tab HG0.out.atoi).mono ?_
    rintro e w1 ⟨u, rfl, hu, b1⟩
    have B1 := Lib.hid (B0.out.trans (b1.mono B0.out.size))
    have HG1 := Lib.hid (HG0.out.below b1)
    have hz1 := (b1.block (w.heap.size + 1) (row_lt hz0)).trans hz0
    have hg1 := (b1.cell (p := ⟨_, 0, none⟩) (lt_of_cell hg0)).trans hg0
    have e0 := (b1.cell (p := ⟨_, _, none⟩) (lt_of_cell d0)).trans d0
    have e1 := (b1.cell (p := ⟨_, _, none⟩) (lt_of_cell d1)).trans d1
    have r0 := (b1.cell (p := ⟨_, _, none⟩) (lt_of_cell q0)).trans q0
    have r1 := (b1.cell (p := ⟨_, _, none⟩) (lt_of_cell q1)).trans q1
    have r2 := (b1.cell (p := ⟨_, _, none⟩) (lt_of_cell q2)).trans q2
    have r3 := (b1.cell (p := ⟨_, _, none⟩) (lt_of_cell q3)).trans q3
    have HU := Lib.hid hu
    clear b1 hu q0 q1 q2 q3 hz0 hg0 B0 HG0 d0 d1
    cases hq : numQ d 13 with
    | none =>
      have HW := Lib.hid (HN0.out hq)
      have z0 : w1.cell? ⟨w.heap.size + 1, 0, none⟩ = some (.string ⟨#[]⟩) := cell_of_row _ _ _ _ _ _ hz1
      have f0 := frozen_of_row w1 (w.heap.size + 1) 0 _ _ hz1
      have z1 : w1.cell? ⟨w.heap.size + 1, 1, none⟩ = some (.string ⟨#[]⟩) := cell_of_row _ _ _ _ _ _ hz1
      have f1 := frozen_of_row w1 (w.heap.size + 1) 1 _ _ hz1
      have z2 : w1.cell? ⟨w.heap.size + 1, 2, none⟩ = some (.int .i64 0) := cell_of_row _ _ _ _ _ _ hz1
      have f2 := frozen_of_row w1 (w.heap.size + 1) 2 _ _ hz1
      have z3 : w1.cell? ⟨w.heap.size + 1, 3, none⟩ = some (.string ⟨#[]⟩) := cell_of_row _ _ _ _ _ _ hz1
      have f3 := frozen_of_row w1 (w.heap.size + 1) 3 _ _ hz1
      have z4 : w1.cell? ⟨w.heap.size + 1, 4, none⟩ = some (.string ⟨#[]⟩) := cell_of_row _ _ _ _ _ _ hz1
      have f4 := frozen_of_row w1 (w.heap.size + 1) 4 _ _ hz1
      have z5 : w1.cell? ⟨w.heap.size + 1, 5, none⟩ = some (.int .i64 0) := cell_of_row _ _ _ _ _ _ hz1
      have f5 := frozen_of_row w1 (w.heap.size + 1) 5 _ _ hz1
      have z6 : w1.cell? ⟨w.heap.size + 1, 6, none⟩ = some (.int .i64 0) := cell_of_row _ _ _ _ _ _ hz1
      have f6 := frozen_of_row w1 (w.heap.size + 1) 6 _ _ hz1
      have z7 : w1.cell? ⟨w.heap.size + 1, 7, none⟩ = some (.string ⟨#[]⟩) := cell_of_row _ _ _ _ _ _ hz1
      have f7 := frozen_of_row w1 (w.heap.size + 1) 7 _ _ hz1
      have z8 : w1.cell? ⟨w.heap.size + 1, 8, none⟩ = some (.int .i64 0) := cell_of_row _ _ _ _ _ _ hz1
      have f8 := frozen_of_row w1 (w.heap.size + 1) 8 _ _ hz1
      have z9 : w1.cell? ⟨w.heap.size + 1, 9, none⟩ = some (.int .i64 0) := cell_of_row _ _ _ _ _ _ hz1
      have f9 := frozen_of_row w1 (w.heap.size + 1) 9 _ _ hz1
      have z10 : w1.cell? ⟨w.heap.size + 1, 10, none⟩ = some (.string ⟨#[]⟩) := cell_of_row _ _ _ _ _ _ hz1
      have f10 := frozen_of_row w1 (w.heap.size + 1) 10 _ _ hz1
      have z11 : w1.cell? ⟨w.heap.size + 1, 11, none⟩ = some (.int .i64 0) := cell_of_row _ _ _ _ _ _ hz1
      have f11 := frozen_of_row w1 (w.heap.size + 1) 11 _ _ hz1
      have z12 : w1.cell? ⟨w.heap.size + 1, 12, none⟩ = some (.int .i64 0) := cell_of_row _ _ _ _ _ _ hz1
      have f12 := frozen_of_row w1 (w.heap.size + 1) 12 _ _ hz1
      have z13 : w1.cell? ⟨w.heap.size + 1, 13, none⟩ = some (.int .i64 0) := cell_of_row _ _ _ _ _ _ hz1
      have f13 := frozen_of_row w1 (w.heap.size + 1) 13 _ _ hz1
      go_wp2_with fail
      go_region
      all_goals
        have hrow := puts_row [.string ⟨#[]⟩, .string ⟨#[]⟩, .int .i64 0, .string ⟨#[]⟩, .string ⟨#[]⟩, .int .i64 0, .int .i64 0, .string ⟨#[]⟩, .int .i64 0, .int .i64 0, .string ⟨#[]⟩, .int .i64 0, .int .i64 0, .int .i64 0] hz1 rfl
        have hbel := puts_below (Nat.le_succ w.heap.size) [.string ⟨#[]⟩, .string ⟨#[]⟩, .int .i64 0, .string ⟨#[]⟩, .string ⟨#[]⟩, .int .i64 0, .int .i64 0, .string ⟨#[]⟩, .int .i64 0, .int .i64 0, .string ⟨#[]⟩, .int .i64 0, .int .i64 0, .int .i64 0] _ 0 B1.out
        simp only [puts, Nat.zero_add, Nat.reduceAdd] at hrow hbel
        go_wp2_with fail
        (try simp only [Exit.inBlock, Exit.then])
        generalize ((((((((((((((w1.setCell ⟨w.heap.size + 1, 0, none⟩ (.string ⟨#[]⟩)).setCell ⟨w.heap.size + 1, 1, none⟩ (.string ⟨#[]⟩)).setCell ⟨w.heap.size + 1, 2, none⟩ (.int .i64 0)).setCell ⟨w.heap.size + 1, 3, none⟩ (.string ⟨#[]⟩)).setCell ⟨w.heap.size + 1, 4, none⟩ (.string ⟨#[]⟩)).setCell ⟨w.heap.size + 1, 5, none⟩ (.int .i64 0)).setCell ⟨w.heap.size + 1, 6, none⟩ (.int .i64 0)).setCell ⟨w.heap.size + 1, 7, none⟩ (.string ⟨#[]⟩)).setCell ⟨w.heap.size + 1, 8, none⟩ (.int .i64 0)).setCell ⟨w.heap.size + 1, 9, none⟩ (.int .i64 0)).setCell ⟨w.heap.size + 1, 10, none⟩ (.string ⟨#[]⟩)).setCell ⟨w.heap.size + 1, 11, none⟩ (.int .i64 0)).setCell ⟨w.heap.size + 1, 12, none⟩ (.int .i64 0)).setCell ⟨w.heap.size + 1, 13, none⟩ (.int .i64 0)) = W9 at hrow hbel ⊢
        refine bodyPost_ret (results_cell_row2 rfl _ _ (w.heap.size + 1) 29 #[.string ⟨#[]⟩, .string ⟨#[]⟩, .int .i64 0, .string ⟨#[]⟩, .string ⟨#[]⟩, .int .i64 0, .int .i64 0, .string ⟨#[]⟩, .int .i64 0, .int .i64 0, .string ⟨#[]⟩, .int .i64 0, .int .i64 0, .int .i64 0] (0, 0) _ rfl (show W9.drew.heap[w.heap.size + 1]? = _ from hrow) Tryz.underlying29 rfl (by kernel_rfl)) rfl ?_
        rw [HW.out]
        exact ⟨rfl, hbel.drew⟩
    | some uu =>
      have hu := HU.out uu hq
      subst hu
      have s0 := fun ob => ((below_one w1 ob).cell (p := ⟨_, _, none⟩) (lt_of_cell r0)).trans r0
      have s1 := fun ob => ((below_one w1 ob).cell (p := ⟨_, _, none⟩) (lt_of_cell r1)).trans r1
      have s2 := fun ob => ((below_one w1 ob).cell (p := ⟨_, _, none⟩) (lt_of_cell r2)).trans r2
      have s3 := fun ob => ((below_one w1 ob).cell (p := ⟨_, _, none⟩) (lt_of_cell r3)).trans r3
      go_wp2_with fail
      go_region
      have bb := (below_one w1 (.cells #[.string ⟨a.toArray⟩, .string ⟨#[]⟩, .int .i64 0, .string ⟨b.toArray⟩, .string ⟨#[]⟩, .int .i64 0, .int .i64 0, .string ⟨#[]⟩, .int .i64 0, .int .i64 0, .string ⟨#[]⟩, .int .i64 0, .int .i64 0, .int .i64 (uu : Nat)] 29)).drew
      have hz2 := (bb.block (w.heap.size + 1) (row_lt hz1)).trans hz1
      have he2 : (w1.alloc (.cells #[.string ⟨a.toArray⟩, .string ⟨#[]⟩, .int .i64 0, .string ⟨b.toArray⟩, .string ⟨#[]⟩, .int .i64 0, .int .i64 0, .string ⟨#[]⟩, .int .i64 0, .int .i64 0, .string ⟨#[]⟩, .int .i64 0, .int .i64 0, .int .i64 (uu : Nat)] 29)).drew.heap[w1.heap.size]? = some (.cells #[.string ⟨a.toArray⟩, .string ⟨#[]⟩, .int .i64 0, .string ⟨b.toArray⟩, .string ⟨#[]⟩, .int .i64 0, .int .i64 0, .string ⟨#[]⟩, .int .i64 0, .int .i64 0, .string ⟨#[]⟩, .int .i64 0, .int .i64 0, .int .i64 (uu : Nat)] 29 (0, 0)) := heap_alloc_new _ _
      have i0 := (bb.cell (p := ⟨_, _, none⟩) (lt_of_cell e0)).trans e0
      have i1 := (bb.cell (p := ⟨_, _, none⟩) (lt_of_cell e1)).trans e1
      have k2 := (bb.cell (p := ⟨_, _, none⟩) (lt_of_cell r2)).trans r2
      have B2 := Lib.hid (B1.out.trans (bb.mono B1.out.size))
      have HG2 := Lib.hid (HG1.out.below bb)
      have hlt : w.heap.size + 1 < w1.heap.size := row_lt hz1
      have hne : w1.heap.size ≠ w.heap.size + 1 := by omega
      generalize (w1.alloc (.cells #[.string ⟨a.toArray⟩, .string ⟨#[]⟩, .int .i64 0, .string ⟨b.toArray⟩, .string ⟨#[]⟩, .int .i64 0, .int .i64 0, .string ⟨#[]⟩, .int .i64 0, .int .i64 0, .string ⟨#[]⟩, .int .i64 0, .int .i64 0, .int .i64 (uu : Nat)] 29)).drew = W2 at bb hz2 he2 i0 i1 k2 B2 HG2 ⊢
      obtain ⟨eb, heb⟩ : ∃ eb, eb = w1.heap.size := ⟨_, rfl⟩
      rw [← heb] at he2 hne hlt ⊢
      clear bb e0 e1 hz1 hg1 B1 HG1 s0 s1 s2 s3 r0 r1 r2 r3
      clear heb
      have HQ := Lib.hid (fun pr (hpr : pr = placeWords (splitL 45 c)) => show entPieces a [a, b, c, d] = ((a, zeroGoods, (b, [], 0, 0), zeroPlace, pr.1, ((uu : Nat) : Int)), pr.2) from by
          unfold entPieces
          rw [if_neg (by rw [hF, hT]; simp), hF, hT]
          simp only [List.getLast?_cons_cons, List.getLast?_singleton, Option.getD_some, hq]
          subst hpr; simp)
      go_wp2_with fail
      refine (placeRead_any E ⟨c.toArray⟩ (show c.length ≤ _ from hlc) W2 (HGw.out _ B2.out)).mono ?_
      rintro e W3 ⟨rfl, bb⟩
      have B3 := Lib.hid (B2.out.trans (bb.mono B2.out.size))
      have hz3 := (bb.block (w.heap.size + 1) (row_lt hz2)).trans hz2
      have he3 := (bb.block eb (row_lt he2)).trans he2
      have i0 := (bb.cell (p := ⟨_, _, none⟩) (lt_of_cell i0)).trans i0
      have i1 := (bb.cell (p := ⟨_, _, none⟩) (lt_of_cell i1)).trans i1
      obtain ⟨pr, hpr⟩ : ∃ pr, pr = placeWords (splitL 45 c) := ⟨_, rfl⟩
      have HW := Lib.hid (HQ.out pr hpr)
      rw [show placeWords (splitL 45 (bts ⟨c.toArray⟩)) = pr from hpr.symm]
      obtain ⟨⟨p1, p2, p3⟩, ep⟩ := pr
      clear hpr bb he2 hz2 B2
      simp only [encPlace]
      go_wp2_with (first | (refine wpList_store_at rfl 27 _ _ rfl eb 10 [.string ⟨p1.toArray⟩, .int .i64 p2, .int .i64 p3] rfl rfl _ [.string ⟨a.toArray⟩, .string ⟨#[]⟩, .int .i64 0, .string ⟨b.toArray⟩, .string ⟨#[]⟩, .int .i64 0, .int .i64 0, .string ⟨#[]⟩, .int .i64 0, .int .i64 0, .string ⟨#[]⟩, .int .i64 0, .int .i64 0, .int .i64 (uu : Nat)] he3 (by kernel_rfl) (by simp) (by simp [Value.oneCell']) ?_; intro W4 he4 tt; have hz4 := tt.heap hz3 (Ne.symm hne); have i1 := tt.cell i1 (by simp only [ne_eq]; omega); have B4 := Lib.hid (B3.out.trans (tt.below (by omega))); have he4x : W4.heap[eb]? = some (.cells #[.string ⟨a.toArray⟩, .string ⟨#[]⟩, .int .i64 0, .string ⟨b.toArray⟩, .string ⟨#[]⟩, .int .i64 0, .int .i64 0, .string ⟨#[]⟩, .int .i64 0, .int .i64 0, .string ⟨p1.toArray⟩, .int .i64 p2, .int .i64 p3, .int .i64 (uu : Nat)] 29 (0, 0)) := he4; have hl := Lies.row (w := W4) [.string ⟨a.toArray⟩, .string ⟨#[]⟩, .int .i64 0, .string ⟨b.toArray⟩, .string ⟨#[]⟩, .int .i64 0, .int .i64 0, .string ⟨#[]⟩, .int .i64 0, .int .i64 0, .string ⟨p1.toArray⟩, .int .i64 p2, .int .i64 p3, .int .i64 (uu : Nat)] he4x) | (refine wpList_load_at rfl 29 _ rfl eb 0 rfl [.string ⟨a.toArray⟩, .string ⟨#[]⟩, .int .i64 0, .string ⟨b.toArray⟩, .string ⟨#[]⟩, .int .i64 0, .int .i64 0, .string ⟨#[]⟩, .int .i64 0, .int .i64 0, .string ⟨p1.toArray⟩, .int .i64 p2, .int .i64 p3, .int .i64 (uu : Nat)] hl _ Tryz.underlying29 rfl (by kernel_rfl) ?_) | (refine wpList_store_at rfl 29 _ _ rfl (w.heap.size + 1) 0 [.string ⟨a.toArray⟩, .string ⟨#[]⟩, .int .i64 0, .string ⟨b.toArray⟩, .string ⟨#[]⟩, .int .i64 0, .int .i64 0, .string ⟨#[]⟩, .int .i64 0, .int .i64 0, .string ⟨p1.toArray⟩, .int .i64 p2, .int .i64 p3, .int .i64 (uu : Nat)] rfl rfl _ [.string ⟨#[]⟩, .string ⟨#[]⟩, .int .i64 0, .string ⟨#[]⟩, .string ⟨#[]⟩, .int .i64 0, .int .i64 0, .string ⟨#[]⟩, .int .i64 0, .int .i64 0, .string ⟨#[]⟩, .int .i64 0, .int .i64 0, .int .i64 0] hz4 (by kernel_rfl) (by simp) (by simp [Value.oneCell']) ?_; intro wz hrz tz))
      (try simp only [Exit.inBlock, Exit.then])
      refine bodyPost_ret (results_cell_row2 rfl _ _ (w.heap.size + 1) 29 #[.string ⟨a.toArray⟩, .string ⟨#[]⟩, .int .i64 0, .string ⟨b.toArray⟩, .string ⟨#[]⟩, .int .i64 0, .int .i64 0, .string ⟨#[]⟩, .int .i64 0, .int .i64 0, .string ⟨p1.toArray⟩, .int .i64 p2, .int .i64 p3, .int .i64 (uu : Nat)] (0, 0) _ rfl (show wz.heap[w.heap.size + 1]? = _ from hrz) Tryz.underlying29 rfl (by kernel_rfl)) rfl ?_
      rw [HW.out]
      exact ⟨rfl, B4.out.trans (tz.below (Nat.le_succ _))⟩
  · have HW := Lib.hid (entPieces_len (k := k) (ws := ws) (by rw [hF, hT]; exact h3))
    have h3' : ((ws.length : Int) == 4) = false := by rw [beq_eq_false_iff_ne]; omega
    clear hS hle b0 hG lg
    go_enter Tryz.func18, Tryz.ntmps18
    go_wp2_with fail
    clear HG0 hfr d0 d1
    generalize ((w.alloc (.cells #[.bool false, .bool true, .bool bP] 45)).alloc (.cells #[.string ⟨#[]⟩, .string ⟨#[]⟩, .int .i64 0, .string ⟨#[]⟩, .string ⟨#[]⟩, .int .i64 0, .int .i64 0, .string ⟨#[]⟩, .int .i64 0, .int .i64 0, .string ⟨#[]⟩, .int .i64 0, .int .i64 0, .int .i64 0] 29)) = V0 at hz0 hg0 B0 ⊢
    have z0 : V0.cell? ⟨w.heap.size + 1, 0, none⟩ = some (.string ⟨#[]⟩) := cell_of_row _ _ _ _ _ _ hz0
    have f0 := frozen_of_row V0 (w.heap.size + 1) 0 _ _ hz0
    have z1 : V0.cell? ⟨w.heap.size + 1, 1, none⟩ = some (.string ⟨#[]⟩) := cell_of_row _ _ _ _ _ _ hz0
    have f1 := frozen_of_row V0 (w.heap.size + 1) 1 _ _ hz0
    have z2 : V0.cell? ⟨w.heap.size + 1, 2, none⟩ = some (.int .i64 0) := cell_of_row _ _ _ _ _ _ hz0
    have f2 := frozen_of_row V0 (w.heap.size + 1) 2 _ _ hz0
    have z3 : V0.cell? ⟨w.heap.size + 1, 3, none⟩ = some (.string ⟨#[]⟩) := cell_of_row _ _ _ _ _ _ hz0
    have f3 := frozen_of_row V0 (w.heap.size + 1) 3 _ _ hz0
    have z4 : V0.cell? ⟨w.heap.size + 1, 4, none⟩ = some (.string ⟨#[]⟩) := cell_of_row _ _ _ _ _ _ hz0
    have f4 := frozen_of_row V0 (w.heap.size + 1) 4 _ _ hz0
    have z5 : V0.cell? ⟨w.heap.size + 1, 5, none⟩ = some (.int .i64 0) := cell_of_row _ _ _ _ _ _ hz0
    have f5 := frozen_of_row V0 (w.heap.size + 1) 5 _ _ hz0
    have z6 : V0.cell? ⟨w.heap.size + 1, 6, none⟩ = some (.int .i64 0) := cell_of_row _ _ _ _ _ _ hz0
    have f6 := frozen_of_row V0 (w.heap.size + 1) 6 _ _ hz0
    have z7 : V0.cell? ⟨w.heap.size + 1, 7, none⟩ = some (.string ⟨#[]⟩) := cell_of_row _ _ _ _ _ _ hz0
    have f7 := frozen_of_row V0 (w.heap.size + 1) 7 _ _ hz0
    have z8 : V0.cell? ⟨w.heap.size + 1, 8, none⟩ = some (.int .i64 0) := cell_of_row _ _ _ _ _ _ hz0
    have f8 := frozen_of_row V0 (w.heap.size + 1) 8 _ _ hz0
    have z9 : V0.cell? ⟨w.heap.size + 1, 9, none⟩ = some (.int .i64 0) := cell_of_row _ _ _ _ _ _ hz0
    have f9 := frozen_of_row V0 (w.heap.size + 1) 9 _ _ hz0
    have z10 : V0.cell? ⟨w.heap.size + 1, 10, none⟩ = some (.string ⟨#[]⟩) := cell_of_row _ _ _ _ _ _ hz0
    have f10 := frozen_of_row V0 (w.heap.size + 1) 10 _ _ hz0
    have z11 : V0.cell? ⟨w.heap.size + 1, 11, none⟩ = some (.int .i64 0) := cell_of_row _ _ _ _ _ _ hz0
    have f11 := frozen_of_row V0 (w.heap.size + 1) 11 _ _ hz0
    have z12 : V0.cell? ⟨w.heap.size + 1, 12, none⟩ = some (.int .i64 0) := cell_of_row _ _ _ _ _ _ hz0
    have f12 := frozen_of_row V0 (w.heap.size + 1) 12 _ _ hz0
    have z13 : V0.cell? ⟨w.heap.size + 1, 13, none⟩ = some (.int .i64 0) := cell_of_row _ _ _ _ _ _ hz0
    have f13 := frozen_of_row V0 (w.heap.size + 1) 13 _ _ hz0
    go_wp2_with fail
    go_region
    all_goals
      have hrow := puts_row [.string ⟨#[]⟩, .string ⟨#[]⟩, .int .i64 0, .string ⟨#[]⟩, .string ⟨#[]⟩, .int .i64 0, .int .i64 0, .string ⟨#[]⟩, .int .i64 0, .int .i64 0, .string ⟨#[]⟩, .int .i64 0, .int .i64 0, .int .i64 0] hz0 rfl
      have hbel := puts_below (Nat.le_succ w.heap.size) [.string ⟨#[]⟩, .string ⟨#[]⟩, .int .i64 0, .string ⟨#[]⟩, .string ⟨#[]⟩, .int .i64 0, .int .i64 0, .string ⟨#[]⟩, .int .i64 0, .int .i64 0, .string ⟨#[]⟩, .int .i64 0, .int .i64 0, .int .i64 0] _ 0 B0.out
      simp only [puts, Nat.zero_add, Nat.reduceAdd] at hrow hbel
      go_wp2_with fail
      (try simp only [Exit.inBlock, Exit.then])
      generalize ((((((((((((((V0.setCell ⟨w.heap.size + 1, 0, none⟩ (.string ⟨#[]⟩)).setCell ⟨w.heap.size + 1, 1, none⟩ (.string ⟨#[]⟩)).setCell ⟨w.heap.size + 1, 2, none⟩ (.int .i64 0)).setCell ⟨w.heap.size + 1, 3, none⟩ (.string ⟨#[]⟩)).setCell ⟨w.heap.size + 1, 4, none⟩ (.string ⟨#[]⟩)).setCell ⟨w.heap.size + 1, 5, none⟩ (.int .i64 0)).setCell ⟨w.heap.size + 1, 6, none⟩ (.int .i64 0)).setCell ⟨w.heap.size + 1, 7, none⟩ (.string ⟨#[]⟩)).setCell ⟨w.heap.size + 1, 8, none⟩ (.int .i64 0)).setCell ⟨w.heap.size + 1, 9, none⟩ (.int .i64 0)).setCell ⟨w.heap.size + 1, 10, none⟩ (.string ⟨#[]⟩)).setCell ⟨w.heap.size + 1, 11, none⟩ (.int .i64 0)).setCell ⟨w.heap.size + 1, 12, none⟩ (.int .i64 0)).setCell ⟨w.heap.size + 1, 13, none⟩ (.int .i64 0)) = W9 at hrow hbel ⊢
      refine bodyPost_ret (results_cell_row2 rfl _ _ (w.heap.size + 1) 29 #[.string ⟨#[]⟩, .string ⟨#[]⟩, .int .i64 0, .string ⟨#[]⟩, .string ⟨#[]⟩, .int .i64 0, .int .i64 0, .string ⟨#[]⟩, .int .i64 0, .int .i64 0, .string ⟨#[]⟩, .int .i64 0, .int .i64 0, .int .i64 0] (0, 0) _ rfl (show W9.drew.heap[w.heap.size + 1]? = _ from hrow) Tryz.underlying29 rfl (by kernel_rfl)) rfl ?_
      rw [HW.out]
      exact ⟨rfl, hbel.drew⟩

theorem strsN10 {w : World} {A : Option Addr} {a b c d : List UInt8} (h : StrsAt w A [a, b, c, d]) : ∃ bl o, A = some ⟨bl, o, none⟩ ∧ bl < w.heap.size ∧ w.cell? ⟨bl, o, none⟩ = some (.string ⟨a.toArray⟩) ∧ w.cell? ⟨bl, o + 1, none⟩ = some (.string ⟨b.toArray⟩) ∧ w.cell? ⟨bl, o + 2, none⟩ = some (.string ⟨c.toArray⟩) ∧ w.cell? ⟨bl, o + 3, none⟩ = some (.string ⟨d.toArray⟩) := by
  obtain ⟨bl, o, h1, h2, h3⟩ := h.resolve_left (by simp)
  exact ⟨bl, o, h1, h2, h3 0 (by simp), h3 1 (by simp), h3 2 (by simp), h3 3 (by simp)⟩
theorem lenN10 {ws : List (List UInt8)} (h : ws.length = 4) : ∃ a b c d, ws = [a, b, c, d] := by
  match ws, h with
  | [a, b, c, d], _ => exact ⟨a, b, c, d, rfl⟩

set_option maxHeartbeats 3200000 in
set_option maxRecDepth 100000 in
theorem read10 (E : Nat → Addr) (k : List UInt8) (hF : hasF k = true) (hT : hasT k = false) (bP : Bool) (ws : List (List UInt8)) (A : Option Addr) (cap : Nat) (w : World) (hS : StrsAt w A ws) (hk : ws.headD [] = k) (hle : ∀ x ∈ ws, x.length ≤ 1000000) (hln : ws.length ≤ 1000000000) (hG : ReadG E w) :
    Calls Tryz.prog 18 #[.slice A ws.length cap, .agg #[.bool true, .bool false, .bool bP]] w fun e w' => e = .returned (.tuple #[.agg (encEnt (entPieces k ws).1).toArray, errOf E (entPieces k ws).2]) ∧ Below w.heap.size w w' := by
  have b0 := below_two w (.cells #[.bool true, .bool false, .bool bP] 45) (.cells #[.string ⟨#[]⟩, .string ⟨#[]⟩, .int .i64 0, .string ⟨#[]⟩, .string ⟨#[]⟩, .int .i64 0, .int .i64 0, .string ⟨#[]⟩, .int .i64 0, .int .i64 0, .string ⟨#[]⟩, .int .i64 0, .int .i64 0, .int .i64 0] 29)
  have hz0 : ((w.alloc (.cells #[.bool true, .bool false, .bool bP] 45)).alloc (.cells #[.string ⟨#[]⟩, .string ⟨#[]⟩, .int .i64 0, .string ⟨#[]⟩, .string ⟨#[]⟩, .int .i64 0, .int .i64 0, .string ⟨#[]⟩, .int .i64 0, .int .i64 0, .string ⟨#[]⟩, .int .i64 0, .int .i64 0, .int .i64 0] 29)).heap[w.heap.size + 1]? = some (.cells #[.string ⟨#[]⟩, .string ⟨#[]⟩, .int .i64 0, .string ⟨#[]⟩, .string ⟨#[]⟩, .int .i64 0, .int .i64 0, .string ⟨#[]⟩, .int .i64 0, .int .i64 0, .string ⟨#[]⟩, .int .i64 0, .int .i64 0, .int .i64 0] 29 (0, 0)) := by
    have := heap_alloc_new (w.alloc (.cells #[.bool true, .bool false, .bool bP] 45)) (.cells #[.string ⟨#[]⟩, .string ⟨#[]⟩, .int .i64 0, .string ⟨#[]⟩, .string ⟨#[]⟩, .int .i64 0, .int .i64 0, .string ⟨#[]⟩, .int .i64 0, .int .i64 0, .string ⟨#[]⟩, .int .i64 0, .int .i64 0, .int .i64 0] 29)
    simpa using this
  have hfr : ((w.alloc (.cells #[.bool true, .bool false, .bool bP] 45)).alloc (.cells #[.string ⟨#[]⟩, .string ⟨#[]⟩, .int .i64 0, .string ⟨#[]⟩, .string ⟨#[]⟩, .int .i64 0, .int .i64 0, .string ⟨#[]⟩, .int .i64 0, .int .i64 0, .string ⟨#[]⟩, .int .i64 0, .int .i64 0, .int .i64 0] 29)).heap[w.heap.size]? = some (.cells #[.bool true, .bool false, .bool bP] 45 (0, 0)) := ((below_one (w.alloc (.cells #[.bool true, .bool false, .bool bP] 45)) _).block _ (by simp)).trans (heap_alloc_new _ _)
  have d0 : ((w.alloc (.cells #[.bool true, .bool false, .bool bP] 45)).alloc (.cells #[.string ⟨#[]⟩, .string ⟨#[]⟩, .int .i64 0, .string ⟨#[]⟩, .string ⟨#[]⟩, .int .i64 0, .int .i64 0, .string ⟨#[]⟩, .int .i64 0, .int .i64 0, .string ⟨#[]⟩, .int .i64 0, .int .i64 0, .int .i64 0] 29)).cell? ⟨w.heap.size, 0, none⟩ = some (.bool true) := cell_of_row _ _ _ _ _ _ hfr
  have d1 : ((w.alloc (.cells #[.bool true, .bool false, .bool bP] 45)).alloc (.cells #[.string ⟨#[]⟩, .string ⟨#[]⟩, .int .i64 0, .string ⟨#[]⟩, .string ⟨#[]⟩, .int .i64 0, .int .i64 0, .string ⟨#[]⟩, .int .i64 0, .int .i64 0, .string ⟨#[]⟩, .int .i64 0, .int .i64 0, .int .i64 0] 29)).cell? ⟨w.heap.size, 1, none⟩ = some (.bool false) := cell_of_row _ _ _ _ _ _ hfr
  have HG0 := Lib.hid (hG.below b0)
  have hg0 := HG0.out.text
  have lg := lt_of_cell hG.text
  simp only at lg
  unfold ErrAt at hg0
  have hgrb : 2 ≠ w.heap.size + 1 := by omega
  have B0 := Lib.hid b0
  by_cases h3 : ws.length = 4
  · obtain ⟨a, b, c, d, rfl⟩ := lenN10 h3
    have hcl := hle d (by simp)
    have hlc := hle c (by simp)
    obtain ⟨bl, o, rfl, hl, p0, p1, p2, p3⟩ := strsN10 hS
    have lN : [a, b, c, d].length = 4 := rfl
    rw [lN]
    have hk' : a = k := hk
    subst hk'
    have q0 := (b0.cell (p := ⟨_, _, none⟩) (lt_of_cell p0)).trans p0
    have q1 := (b0.cell (p := ⟨_, _, none⟩) (lt_of_cell p1)).trans p1
    have q2 := (b0.cell (p := ⟨_, _, none⟩) (lt_of_cell p2)).trans p2
    have q3 := (b0.cell (p := ⟨_, _, none⟩) (lt_of_cell p3)).trans p3
    have HN0 := Lib.hid (fun h => entPieces_num (k := a) (ws := [a, b, c, d]) h)
    have HGw := Lib.hid (fun W (h : Below w.heap.size w W) => hG.below h)
    clear hS lN hle h3 hln p0 p1 p2 p3 b0 lg hG hk hfr
    go_enter Tryz.func18, Tryz.ntmps18
    go_wp2_with fail
    refine (numb_any d 13 (by omega) (by omega) _ HG0.out.tab HG0.out.atoi).mono ?_
    rintro e w1 ⟨u, rfl, hu, b1⟩
    have B1 := Lib.hid (B0.out.trans (b1.mono B0.out.size))
    have HG1 := Lib.hid (HG0.out.below b1)
    have hz1 := (b1.block (w.heap.size + 1) (row_lt hz0)).trans hz0
    have hg1 := (b1.cell (p := ⟨_, 0, none⟩) (lt_of_cell hg0)).trans hg0
    have e0 := (b1.cell (p := ⟨_, _, none⟩) (lt_of_cell d0)).trans d0
    have e1 := (b1.cell (p := ⟨_, _, none⟩) (lt_of_cell d1)).trans d1
    have r0 := (b1.cell (p := ⟨_, _, none⟩) (lt_of_cell q0)).trans q0
    have r1 := (b1.cell (p := ⟨_, _, none⟩) (lt_of_cell q1)).trans q1
    have r2 := (b1.cell (p := ⟨_, _, none⟩) (lt_of_cell q2)).trans q2
    have r3 := (b1.cell (p := ⟨_, _, none⟩) (lt_of_cell q3)).trans q3
    have HU := Lib.hid hu
    clear b1 hu q0 q1 q2 q3 hz0 hg0 B0 HG0 d0 d1
    cases hq : numQ d 13 with
    | none =>
      have HW := Lib.hid (HN0.out hq)
      have z0 : w1.cell? ⟨w.heap.size + 1, 0, none⟩ = some (.string ⟨#[]⟩) := cell_of_row _ _ _ _ _ _ hz1
      have f0 := frozen_of_row w1 (w.heap.size + 1) 0 _ _ hz1
      have z1 : w1.cell? ⟨w.heap.size + 1, 1, none⟩ = some (.string ⟨#[]⟩) := cell_of_row _ _ _ _ _ _ hz1
      have f1 := frozen_of_row w1 (w.heap.size + 1) 1 _ _ hz1
      have z2 : w1.cell? ⟨w.heap.size + 1, 2, none⟩ = some (.int .i64 0) := cell_of_row _ _ _ _ _ _ hz1
      have f2 := frozen_of_row w1 (w.heap.size + 1) 2 _ _ hz1
      have z3 : w1.cell? ⟨w.heap.size + 1, 3, none⟩ = some (.string ⟨#[]⟩) := cell_of_row _ _ _ _ _ _ hz1
      have f3 := frozen_of_row w1 (w.heap.size + 1) 3 _ _ hz1
      have z4 : w1.cell? ⟨w.heap.size + 1, 4, none⟩ = some (.string ⟨#[]⟩) := cell_of_row _ _ _ _ _ _ hz1
      have f4 := frozen_of_row w1 (w.heap.size + 1) 4 _ _ hz1
      have z5 : w1.cell? ⟨w.heap.size + 1, 5, none⟩ = some (.int .i64 0) := cell_of_row _ _ _ _ _ _ hz1
      have f5 := frozen_of_row w1 (w.heap.size + 1) 5 _ _ hz1
      have z6 : w1.cell? ⟨w.heap.size + 1, 6, none⟩ = some (.int .i64 0) := cell_of_row _ _ _ _ _ _ hz1
      have f6 := frozen_of_row w1 (w.heap.size + 1) 6 _ _ hz1
      have z7 : w1.cell? ⟨w.heap.size + 1, 7, none⟩ = some (.string ⟨#[]⟩) := cell_of_row _ _ _ _ _ _ hz1
      have f7 := frozen_of_row w1 (w.heap.size + 1) 7 _ _ hz1
      have z8 : w1.cell? ⟨w.heap.size + 1, 8, none⟩ = some (.int .i64 0) := cell_of_row _ _ _ _ _ _ hz1
      have f8 := frozen_of_row w1 (w.heap.size + 1) 8 _ _ hz1
      have z9 : w1.cell? ⟨w.heap.size + 1, 9, none⟩ = some (.int .i64 0) := cell_of_row _ _ _ _ _ _ hz1
      have f9 := frozen_of_row w1 (w.heap.size + 1) 9 _ _ hz1
      have z10 : w1.cell? ⟨w.heap.size + 1, 10, none⟩ = some (.string ⟨#[]⟩) := cell_of_row _ _ _ _ _ _ hz1
      have f10 := frozen_of_row w1 (w.heap.size + 1) 10 _ _ hz1
      have z11 : w1.cell? ⟨w.heap.size + 1, 11, none⟩ = some (.int .i64 0) := cell_of_row _ _ _ _ _ _ hz1
      have f11 := frozen_of_row w1 (w.heap.size + 1) 11 _ _ hz1
      have z12 : w1.cell? ⟨w.heap.size + 1, 12, none⟩ = some (.int .i64 0) := cell_of_row _ _ _ _ _ _ hz1
      have f12 := frozen_of_row w1 (w.heap.size + 1) 12 _ _ hz1
      have z13 : w1.cell? ⟨w.heap.size + 1, 13, none⟩ = some (.int .i64 0) := cell_of_row _ _ _ _ _ _ hz1
      have f13 := frozen_of_row w1 (w.heap.size + 1) 13 _ _ hz1
      go_wp2_with fail
      go_region
      all_goals
        have hrow := puts_row [.string ⟨#[]⟩, .string ⟨#[]⟩, .int .i64 0, .string ⟨#[]⟩, .string ⟨#[]⟩, .int .i64 0, .int .i64 0, .string ⟨#[]⟩, .int .i64 0, .int .i64 0, .string ⟨#[]⟩, .int .i64 0, .int .i64 0, .int .i64 0] hz1 rfl
        have hbel := puts_below (Nat.le_succ w.heap.size) [.string ⟨#[]⟩, .string ⟨#[]⟩, .int .i64 0, .string ⟨#[]⟩, .string ⟨#[]⟩, .int .i64 0, .int .i64 0, .string ⟨#[]⟩, .int .i64 0, .int .i64 0, .string ⟨#[]⟩, .int .i64 0, .int .i64 0, .int .i64 0] _ 0 B1.out
        simp only [puts, Nat.zero_add, Nat.reduceAdd] at hrow hbel
        go_wp2_with fail
        (try simp only [Exit.inBlock, Exit.then])
        generalize ((((((((((((((w1.setCell ⟨w.heap.size + 1, 0, none⟩ (.string ⟨#[]⟩)).setCell ⟨w.heap.size + 1, 1, none⟩ (.string ⟨#[]⟩)).setCell ⟨w.heap.size + 1, 2, none⟩ (.int .i64 0)).setCell ⟨w.heap.size + 1, 3, none⟩ (.string ⟨#[]⟩)).setCell ⟨w.heap.size + 1, 4, none⟩ (.string ⟨#[]⟩)).setCell ⟨w.heap.size + 1, 5, none⟩ (.int .i64 0)).setCell ⟨w.heap.size + 1, 6, none⟩ (.int .i64 0)).setCell ⟨w.heap.size + 1, 7, none⟩ (.string ⟨#[]⟩)).setCell ⟨w.heap.size + 1, 8, none⟩ (.int .i64 0)).setCell ⟨w.heap.size + 1, 9, none⟩ (.int .i64 0)).setCell ⟨w.heap.size + 1, 10, none⟩ (.string ⟨#[]⟩)).setCell ⟨w.heap.size + 1, 11, none⟩ (.int .i64 0)).setCell ⟨w.heap.size + 1, 12, none⟩ (.int .i64 0)).setCell ⟨w.heap.size + 1, 13, none⟩ (.int .i64 0)) = W9 at hrow hbel ⊢
        refine bodyPost_ret (results_cell_row2 rfl _ _ (w.heap.size + 1) 29 #[.string ⟨#[]⟩, .string ⟨#[]⟩, .int .i64 0, .string ⟨#[]⟩, .string ⟨#[]⟩, .int .i64 0, .int .i64 0, .string ⟨#[]⟩, .int .i64 0, .int .i64 0, .string ⟨#[]⟩, .int .i64 0, .int .i64 0, .int .i64 0] (0, 0) _ rfl (show W9.drew.heap[w.heap.size + 1]? = _ from hrow) Tryz.underlying29 rfl (by kernel_rfl)) rfl ?_
        rw [HW.out]
        exact ⟨rfl, hbel.drew⟩
    | some uu =>
      have hu := HU.out uu hq
      subst hu
      have s0 := fun ob => ((below_one w1 ob).cell (p := ⟨_, _, none⟩) (lt_of_cell r0)).trans r0
      have s1 := fun ob => ((below_one w1 ob).cell (p := ⟨_, _, none⟩) (lt_of_cell r1)).trans r1
      have s2 := fun ob => ((below_one w1 ob).cell (p := ⟨_, _, none⟩) (lt_of_cell r2)).trans r2
      have s3 := fun ob => ((below_one w1 ob).cell (p := ⟨_, _, none⟩) (lt_of_cell r3)).trans r3
      go_wp2_with fail
      go_region
      have bb := (below_one w1 (.cells #[.string ⟨a.toArray⟩, .string ⟨#[]⟩, .int .i64 0, .string ⟨b.toArray⟩, .string ⟨#[]⟩, .int .i64 0, .int .i64 0, .string ⟨#[]⟩, .int .i64 0, .int .i64 0, .string ⟨#[]⟩, .int .i64 0, .int .i64 0, .int .i64 (uu : Nat)] 29)).drew
      have hz2 := (bb.block (w.heap.size + 1) (row_lt hz1)).trans hz1
      have he2 : (w1.alloc (.cells #[.string ⟨a.toArray⟩, .string ⟨#[]⟩, .int .i64 0, .string ⟨b.toArray⟩, .string ⟨#[]⟩, .int .i64 0, .int .i64 0, .string ⟨#[]⟩, .int .i64 0, .int .i64 0, .string ⟨#[]⟩, .int .i64 0, .int .i64 0, .int .i64 (uu : Nat)] 29)).drew.heap[w1.heap.size]? = some (.cells #[.string ⟨a.toArray⟩, .string ⟨#[]⟩, .int .i64 0, .string ⟨b.toArray⟩, .string ⟨#[]⟩, .int .i64 0, .int .i64 0, .string ⟨#[]⟩, .int .i64 0, .int .i64 0, .string ⟨#[]⟩, .int .i64 0, .int .i64 0, .int .i64 (uu : Nat)] 29 (0, 0)) := heap_alloc_new _ _
      have i0 := (bb.cell (p := ⟨_, _, none⟩) (lt_of_cell e0)).trans e0
      have i1 := (bb.cell (p := ⟨_, _, none⟩) (lt_of_cell e1)).trans e1
      have k2 := (bb.cell (p := ⟨_, _, none⟩) (lt_of_cell r2)).trans r2
      have B2 := Lib.hid (B1.out.trans (bb.mono B1.out.size))
      have HG2 := Lib.hid (HG1.out.below bb)
      have hlt : w.heap.size + 1 < w1.heap.size := row_lt hz1
      have hne : w1.heap.size ≠ w.heap.size + 1 := by omega
      generalize (w1.alloc (.cells #[.string ⟨a.toArray⟩, .string ⟨#[]⟩, .int .i64 0, .string ⟨b.toArray⟩, .string ⟨#[]⟩, .int .i64 0, .int .i64 0, .string ⟨#[]⟩, .int .i64 0, .int .i64 0, .string ⟨#[]⟩, .int .i64 0, .int .i64 0, .int .i64 (uu : Nat)] 29)).drew = W2 at bb hz2 he2 i0 i1 k2 B2 HG2 ⊢
      obtain ⟨eb, heb⟩ : ∃ eb, eb = w1.heap.size := ⟨_, rfl⟩
      rw [← heb] at he2 hne hlt ⊢
      clear bb e0 e1 hz1 hg1 B1 HG1 s0 s1 s2 s3 r0 r1 r2 r3
      clear heb
      have HQ := Lib.hid (fun pr (hpr : pr = placeWords (splitL 45 c)) => show entPieces a [a, b, c, d] = ((a, zeroGoods, (b, [], 0, 0), pr.1, zeroPlace, ((uu : Nat) : Int)), pr.2) from by
          unfold entPieces
          rw [if_neg (by rw [hF, hT]; simp), hF, hT]
          simp only [List.getLast?_cons_cons, List.getLast?_singleton, Option.getD_some, hq]
          subst hpr; by_cases h : (placeWords (splitL 45 c)).2 = 0 <;> simp [h])
      go_wp2_with fail
      refine (placeRead_any E ⟨c.toArray⟩ (show c.length ≤ _ from hlc) W2 (HGw.out _ B2.out)).mono ?_
      rintro e W3 ⟨rfl, bb⟩
      have B3 := Lib.hid (B2.out.trans (bb.mono B2.out.size))
      have hz3 := (bb.block (w.heap.size + 1) (row_lt hz2)).trans hz2
      have he3 := (bb.block eb (row_lt he2)).trans he2
      have i0 := (bb.cell (p := ⟨_, _, none⟩) (lt_of_cell i0)).trans i0
      have i1 := (bb.cell (p := ⟨_, _, none⟩) (lt_of_cell i1)).trans i1
      obtain ⟨pr, hpr⟩ : ∃ pr, pr = placeWords (splitL 45 c) := ⟨_, rfl⟩
      have HW := Lib.hid (HQ.out pr hpr)
      rw [show placeWords (splitL 45 (bts ⟨c.toArray⟩)) = pr from hpr.symm]
      obtain ⟨⟨p1, p2, p3⟩, ep⟩ := pr
      clear hpr bb he2 hz2 B2
      simp only [encPlace]
      go_wp2_with (first | (refine wpList_store_at rfl 27 _ _ rfl eb 7 [.string ⟨p1.toArray⟩, .int .i64 p2, .int .i64 p3] rfl rfl _ [.string ⟨a.toArray⟩, .string ⟨#[]⟩, .int .i64 0, .string ⟨b.toArray⟩, .string ⟨#[]⟩, .int .i64 0, .int .i64 0, .string ⟨#[]⟩, .int .i64 0, .int .i64 0, .string ⟨#[]⟩, .int .i64 0, .int .i64 0, .int .i64 (uu : Nat)] he3 (by kernel_rfl) (by simp) (by simp [Value.oneCell']) ?_; intro W4 he4 tt; have hz4 := tt.heap hz3 (Ne.symm hne); have i1 := tt.cell i1 (by simp only [ne_eq]; omega); have B4 := Lib.hid (B3.out.trans (tt.below (by omega))); have he4x : W4.heap[eb]? = some (.cells #[.string ⟨a.toArray⟩, .string ⟨#[]⟩, .int .i64 0, .string ⟨b.toArray⟩, .string ⟨#[]⟩, .int .i64 0, .int .i64 0, .string ⟨p1.toArray⟩, .int .i64 p2, .int .i64 p3, .string ⟨#[]⟩, .int .i64 0, .int .i64 0, .int .i64 (uu : Nat)] 29 (0, 0)) := he4; have hl := Lies.row (w := W4) [.string ⟨a.toArray⟩, .string ⟨#[]⟩, .int .i64 0, .string ⟨b.toArray⟩, .string ⟨#[]⟩, .int .i64 0, .int .i64 0, .string ⟨p1.toArray⟩, .int .i64 p2, .int .i64 p3, .string ⟨#[]⟩, .int .i64 0, .int .i64 0, .int .i64 (uu : Nat)] he4x) | (refine wpList_load_at rfl 29 _ rfl eb 0 rfl [.string ⟨a.toArray⟩, .string ⟨#[]⟩, .int .i64 0, .string ⟨b.toArray⟩, .string ⟨#[]⟩, .int .i64 0, .int .i64 0, .string ⟨p1.toArray⟩, .int .i64 p2, .int .i64 p3, .string ⟨#[]⟩, .int .i64 0, .int .i64 0, .int .i64 (uu : Nat)] hl _ Tryz.underlying29 rfl (by kernel_rfl) ?_) | (refine wpList_store_at rfl 29 _ _ rfl (w.heap.size + 1) 0 [.string ⟨a.toArray⟩, .string ⟨#[]⟩, .int .i64 0, .string ⟨b.toArray⟩, .string ⟨#[]⟩, .int .i64 0, .int .i64 0, .string ⟨p1.toArray⟩, .int .i64 p2, .int .i64 p3, .string ⟨#[]⟩, .int .i64 0, .int .i64 0, .int .i64 (uu : Nat)] rfl rfl _ [.string ⟨#[]⟩, .string ⟨#[]⟩, .int .i64 0, .string ⟨#[]⟩, .string ⟨#[]⟩, .int .i64 0, .int .i64 0, .string ⟨#[]⟩, .int .i64 0, .int .i64 0, .string ⟨#[]⟩, .int .i64 0, .int .i64 0, .int .i64 0] hz4 (by kernel_rfl) (by simp) (by simp [Value.oneCell']) ?_; intro wz hrz tz))
      (try simp only [Exit.inBlock, Exit.then])
      refine bodyPost_ret (results_cell_row2 rfl _ _ (w.heap.size + 1) 29 #[.string ⟨a.toArray⟩, .string ⟨#[]⟩, .int .i64 0, .string ⟨b.toArray⟩, .string ⟨#[]⟩, .int .i64 0, .int .i64 0, .string ⟨p1.toArray⟩, .int .i64 p2, .int .i64 p3, .string ⟨#[]⟩, .int .i64 0, .int .i64 0, .int .i64 (uu : Nat)] (0, 0) _ rfl (show wz.heap[w.heap.size + 1]? = _ from hrz) Tryz.underlying29 rfl (by kernel_rfl)) rfl ?_
      rw [HW.out]
      exact ⟨rfl, B4.out.trans (tz.below (Nat.le_succ _))⟩
  · have HW := Lib.hid (entPieces_len (k := k) (ws := ws) (by rw [hF, hT]; exact h3))
    have h3' : ((ws.length : Int) == 4) = false := by rw [beq_eq_false_iff_ne]; omega
    clear hS hle b0 hG lg
    go_enter Tryz.func18, Tryz.ntmps18
    go_wp2_with fail
    clear HG0 hfr d0 d1
    generalize ((w.alloc (.cells #[.bool true, .bool false, .bool bP] 45)).alloc (.cells #[.string ⟨#[]⟩, .string ⟨#[]⟩, .int .i64 0, .string ⟨#[]⟩, .string ⟨#[]⟩, .int .i64 0, .int .i64 0, .string ⟨#[]⟩, .int .i64 0, .int .i64 0, .string ⟨#[]⟩, .int .i64 0, .int .i64 0, .int .i64 0] 29)) = V0 at hz0 hg0 B0 ⊢
    have z0 : V0.cell? ⟨w.heap.size + 1, 0, none⟩ = some (.string ⟨#[]⟩) := cell_of_row _ _ _ _ _ _ hz0
    have f0 := frozen_of_row V0 (w.heap.size + 1) 0 _ _ hz0
    have z1 : V0.cell? ⟨w.heap.size + 1, 1, none⟩ = some (.string ⟨#[]⟩) := cell_of_row _ _ _ _ _ _ hz0
    have f1 := frozen_of_row V0 (w.heap.size + 1) 1 _ _ hz0
    have z2 : V0.cell? ⟨w.heap.size + 1, 2, none⟩ = some (.int .i64 0) := cell_of_row _ _ _ _ _ _ hz0
    have f2 := frozen_of_row V0 (w.heap.size + 1) 2 _ _ hz0
    have z3 : V0.cell? ⟨w.heap.size + 1, 3, none⟩ = some (.string ⟨#[]⟩) := cell_of_row _ _ _ _ _ _ hz0
    have f3 := frozen_of_row V0 (w.heap.size + 1) 3 _ _ hz0
    have z4 : V0.cell? ⟨w.heap.size + 1, 4, none⟩ = some (.string ⟨#[]⟩) := cell_of_row _ _ _ _ _ _ hz0
    have f4 := frozen_of_row V0 (w.heap.size + 1) 4 _ _ hz0
    have z5 : V0.cell? ⟨w.heap.size + 1, 5, none⟩ = some (.int .i64 0) := cell_of_row _ _ _ _ _ _ hz0
    have f5 := frozen_of_row V0 (w.heap.size + 1) 5 _ _ hz0
    have z6 : V0.cell? ⟨w.heap.size + 1, 6, none⟩ = some (.int .i64 0) := cell_of_row _ _ _ _ _ _ hz0
    have f6 := frozen_of_row V0 (w.heap.size + 1) 6 _ _ hz0
    have z7 : V0.cell? ⟨w.heap.size + 1, 7, none⟩ = some (.string ⟨#[]⟩) := cell_of_row _ _ _ _ _ _ hz0
    have f7 := frozen_of_row V0 (w.heap.size + 1) 7 _ _ hz0
    have z8 : V0.cell? ⟨w.heap.size + 1, 8, none⟩ = some (.int .i64 0) := cell_of_row _ _ _ _ _ _ hz0
    have f8 := frozen_of_row V0 (w.heap.size + 1) 8 _ _ hz0
    have z9 : V0.cell? ⟨w.heap.size + 1, 9, none⟩ = some (.int .i64 0) := cell_of_row _ _ _ _ _ _ hz0
    have f9 := frozen_of_row V0 (w.heap.size + 1) 9 _ _ hz0
    have z10 : V0.cell? ⟨w.heap.size + 1, 10, none⟩ = some (.string ⟨#[]⟩) := cell_of_row _ _ _ _ _ _ hz0
    have f10 := frozen_of_row V0 (w.heap.size + 1) 10 _ _ hz0
    have z11 : V0.cell? ⟨w.heap.size + 1, 11, none⟩ = some (.int .i64 0) := cell_of_row _ _ _ _ _ _ hz0
    have f11 := frozen_of_row V0 (w.heap.size + 1) 11 _ _ hz0
    have z12 : V0.cell? ⟨w.heap.size + 1, 12, none⟩ = some (.int .i64 0) := cell_of_row _ _ _ _ _ _ hz0
    have f12 := frozen_of_row V0 (w.heap.size + 1) 12 _ _ hz0
    have z13 : V0.cell? ⟨w.heap.size + 1, 13, none⟩ = some (.int .i64 0) := cell_of_row _ _ _ _ _ _ hz0
    have f13 := frozen_of_row V0 (w.heap.size + 1) 13 _ _ hz0
    go_wp2_with fail
    go_region
    all_goals
      have hrow := puts_row [.string ⟨#[]⟩, .string ⟨#[]⟩, .int .i64 0, .string ⟨#[]⟩, .string ⟨#[]⟩, .int .i64 0, .int .i64 0, .string ⟨#[]⟩, .int .i64 0, .int .i64 0, .string ⟨#[]⟩, .int .i64 0, .int .i64 0, .int .i64 0] hz0 rfl
      have hbel := puts_below (Nat.le_succ w.heap.size) [.string ⟨#[]⟩, .string ⟨#[]⟩, .int .i64 0, .string ⟨#[]⟩, .string ⟨#[]⟩, .int .i64 0, .int .i64 0, .string ⟨#[]⟩, .int .i64 0, .int .i64 0, .string ⟨#[]⟩, .int .i64 0, .int .i64 0, .int .i64 0] _ 0 B0.out
      simp only [puts, Nat.zero_add, Nat.reduceAdd] at hrow hbel
      go_wp2_with fail
      (try simp only [Exit.inBlock, Exit.then])
      generalize ((((((((((((((V0.setCell ⟨w.heap.size + 1, 0, none⟩ (.string ⟨#[]⟩)).setCell ⟨w.heap.size + 1, 1, none⟩ (.string ⟨#[]⟩)).setCell ⟨w.heap.size + 1, 2, none⟩ (.int .i64 0)).setCell ⟨w.heap.size + 1, 3, none⟩ (.string ⟨#[]⟩)).setCell ⟨w.heap.size + 1, 4, none⟩ (.string ⟨#[]⟩)).setCell ⟨w.heap.size + 1, 5, none⟩ (.int .i64 0)).setCell ⟨w.heap.size + 1, 6, none⟩ (.int .i64 0)).setCell ⟨w.heap.size + 1, 7, none⟩ (.string ⟨#[]⟩)).setCell ⟨w.heap.size + 1, 8, none⟩ (.int .i64 0)).setCell ⟨w.heap.size + 1, 9, none⟩ (.int .i64 0)).setCell ⟨w.heap.size + 1, 10, none⟩ (.string ⟨#[]⟩)).setCell ⟨w.heap.size + 1, 11, none⟩ (.int .i64 0)).setCell ⟨w.heap.size + 1, 12, none⟩ (.int .i64 0)).setCell ⟨w.heap.size + 1, 13, none⟩ (.int .i64 0)) = W9 at hrow hbel ⊢
      refine bodyPost_ret (results_cell_row2 rfl _ _ (w.heap.size + 1) 29 #[.string ⟨#[]⟩, .string ⟨#[]⟩, .int .i64 0, .string ⟨#[]⟩, .string ⟨#[]⟩, .int .i64 0, .int .i64 0, .string ⟨#[]⟩, .int .i64 0, .int .i64 0, .string ⟨#[]⟩, .int .i64 0, .int .i64 0, .int .i64 0] (0, 0) _ rfl (show W9.drew.heap[w.heap.size + 1]? = _ from hrow) Tryz.underlying29 rfl (by kernel_rfl)) rfl ?_
      rw [HW.out]
      exact ⟨rfl, hbel.drew⟩

theorem strsN11 {w : World} {A : Option Addr} {a b c d e : List UInt8} (h : StrsAt w A [a, b, c, d, e]) : ∃ bl o, A = some ⟨bl, o, none⟩ ∧ bl < w.heap.size ∧ w.cell? ⟨bl, o, none⟩ = some (.string ⟨a.toArray⟩) ∧ w.cell? ⟨bl, o + 1, none⟩ = some (.string ⟨b.toArray⟩) ∧ w.cell? ⟨bl, o + 2, none⟩ = some (.string ⟨c.toArray⟩) ∧ w.cell? ⟨bl, o + 3, none⟩ = some (.string ⟨d.toArray⟩) ∧ w.cell? ⟨bl, o + 4, none⟩ = some (.string ⟨e.toArray⟩) := by
  obtain ⟨bl, o, h1, h2, h3⟩ := h.resolve_left (by simp)
  exact ⟨bl, o, h1, h2, h3 0 (by simp), h3 1 (by simp), h3 2 (by simp), h3 3 (by simp), h3 4 (by simp)⟩
theorem lenN11 {ws : List (List UInt8)} (h : ws.length = 5) : ∃ a b c d e, ws = [a, b, c, d, e] := by
  match ws, h with
  | [a, b, c, d, e], _ => exact ⟨a, b, c, d, e, rfl⟩

set_option maxHeartbeats 3200000 in
set_option maxRecDepth 100000 in
theorem read11 (E : Nat → Addr) (k : List UInt8) (hF : hasF k = true) (hT : hasT k = true) (bP : Bool) (ws : List (List UInt8)) (A : Option Addr) (cap : Nat) (w : World) (hS : StrsAt w A ws) (hk : ws.headD [] = k) (hle : ∀ x ∈ ws, x.length ≤ 1000000) (hln : ws.length ≤ 1000000000) (hG : ReadG E w) :
    Calls Tryz.prog 18 #[.slice A ws.length cap, .agg #[.bool true, .bool true, .bool bP]] w fun e w' => e = .returned (.tuple #[.agg (encEnt (entPieces k ws).1).toArray, errOf E (entPieces k ws).2]) ∧ Below w.heap.size w w' := by
  have b0 := below_two w (.cells #[.bool true, .bool true, .bool bP] 45) (.cells #[.string ⟨#[]⟩, .string ⟨#[]⟩, .int .i64 0, .string ⟨#[]⟩, .string ⟨#[]⟩, .int .i64 0, .int .i64 0, .string ⟨#[]⟩, .int .i64 0, .int .i64 0, .string ⟨#[]⟩, .int .i64 0, .int .i64 0, .int .i64 0] 29)
  have hz0 : ((w.alloc (.cells #[.bool true, .bool true, .bool bP] 45)).alloc (.cells #[.string ⟨#[]⟩, .string ⟨#[]⟩, .int .i64 0, .string ⟨#[]⟩, .string ⟨#[]⟩, .int .i64 0, .int .i64 0, .string ⟨#[]⟩, .int .i64 0, .int .i64 0, .string ⟨#[]⟩, .int .i64 0, .int .i64 0, .int .i64 0] 29)).heap[w.heap.size + 1]? = some (.cells #[.string ⟨#[]⟩, .string ⟨#[]⟩, .int .i64 0, .string ⟨#[]⟩, .string ⟨#[]⟩, .int .i64 0, .int .i64 0, .string ⟨#[]⟩, .int .i64 0, .int .i64 0, .string ⟨#[]⟩, .int .i64 0, .int .i64 0, .int .i64 0] 29 (0, 0)) := by
    have := heap_alloc_new (w.alloc (.cells #[.bool true, .bool true, .bool bP] 45)) (.cells #[.string ⟨#[]⟩, .string ⟨#[]⟩, .int .i64 0, .string ⟨#[]⟩, .string ⟨#[]⟩, .int .i64 0, .int .i64 0, .string ⟨#[]⟩, .int .i64 0, .int .i64 0, .string ⟨#[]⟩, .int .i64 0, .int .i64 0, .int .i64 0] 29)
    simpa using this
  have hfr : ((w.alloc (.cells #[.bool true, .bool true, .bool bP] 45)).alloc (.cells #[.string ⟨#[]⟩, .string ⟨#[]⟩, .int .i64 0, .string ⟨#[]⟩, .string ⟨#[]⟩, .int .i64 0, .int .i64 0, .string ⟨#[]⟩, .int .i64 0, .int .i64 0, .string ⟨#[]⟩, .int .i64 0, .int .i64 0, .int .i64 0] 29)).heap[w.heap.size]? = some (.cells #[.bool true, .bool true, .bool bP] 45 (0, 0)) := ((below_one (w.alloc (.cells #[.bool true, .bool true, .bool bP] 45)) _).block _ (by simp)).trans (heap_alloc_new _ _)
  have d0 : ((w.alloc (.cells #[.bool true, .bool true, .bool bP] 45)).alloc (.cells #[.string ⟨#[]⟩, .string ⟨#[]⟩, .int .i64 0, .string ⟨#[]⟩, .string ⟨#[]⟩, .int .i64 0, .int .i64 0, .string ⟨#[]⟩, .int .i64 0, .int .i64 0, .string ⟨#[]⟩, .int .i64 0, .int .i64 0, .int .i64 0] 29)).cell? ⟨w.heap.size, 0, none⟩ = some (.bool true) := cell_of_row _ _ _ _ _ _ hfr
  have d1 : ((w.alloc (.cells #[.bool true, .bool true, .bool bP] 45)).alloc (.cells #[.string ⟨#[]⟩, .string ⟨#[]⟩, .int .i64 0, .string ⟨#[]⟩, .string ⟨#[]⟩, .int .i64 0, .int .i64 0, .string ⟨#[]⟩, .int .i64 0, .int .i64 0, .string ⟨#[]⟩, .int .i64 0, .int .i64 0, .int .i64 0] 29)).cell? ⟨w.heap.size, 1, none⟩ = some (.bool true) := cell_of_row _ _ _ _ _ _ hfr
  have HG0 := Lib.hid (hG.below b0)
  have hg0 := HG0.out.text
  have lg := lt_of_cell hG.text
  simp only at lg
  unfold ErrAt at hg0
  have hgrb : 2 ≠ w.heap.size + 1 := by omega
  have B0 := Lib.hid b0
  by_cases h3 : ws.length = 5
  · obtain ⟨a, b, c, d, e, rfl⟩ := lenN11 h3
    have hcl := hle e (by simp)
    have hlc := hle c (by simp)
    have hld := hle d (by simp)
    obtain ⟨bl, o, rfl, hl, p0, p1, p2, p3, p4⟩ := strsN11 hS
    have lN : [a, b, c, d, e].length = 5 := rfl
    rw [lN]
    have hk' : a = k := hk
    subst hk'
    have q0 := (b0.cell (p := ⟨_, _, none⟩) (lt_of_cell p0)).trans p0
    have q1 := (b0.cell (p := ⟨_, _, none⟩) (lt_of_cell p1)).trans p1
    have q2 := (b0.cell (p := ⟨_, _, none⟩) (lt_of_cell p2)).trans p2
    have q3 := (b0.cell (p := ⟨_, _, none⟩) (lt_of_cell p3)).trans p3
    have q4 := (b0.cell (p := ⟨_, _, none⟩) (lt_of_cell p4)).trans p4
    have HN0 := Lib.hid (fun h => entPieces_num (k := a) (ws := [a, b, c, d, e]) h)
    have HGw := Lib.hid (fun W (h : Below w.heap.size w W) => hG.below h)
    clear hS lN hle h3 hln p0 p1 p2 p3 p4 b0 lg hG hk hfr
    go_enter Tryz.func18, Tryz.ntmps18
    go_wp2_with fail
    refine (numb_any e 13 (by omega) (by omega) _ HG0.out.tab HG0.out.atoi).mono ?_
    rintro e w1 ⟨u, rfl, hu, b1⟩
    have B1 := Lib.hid (B0.out.trans (b1.mono B0.out.size))
    have HG1 := Lib.hid (HG0.out.below b1)
    have hz1 := (b1.block (w.heap.size + 1) (row_lt hz0)).trans hz0
    have hg1 := (b1.cell (p := ⟨_, 0, none⟩) (lt_of_cell hg0)).trans hg0
    have e0 := (b1.cell (p := ⟨_, _, none⟩) (lt_of_cell d0)).trans d0
    have e1 := (b1.cell (p := ⟨_, _, none⟩) (lt_of_cell d1)).trans d1
    have r0 := (b1.cell (p := ⟨_, _, none⟩) (lt_of_cell q0)).trans q0
    have r1 := (b1.cell (p := ⟨_, _, none⟩) (lt_of_cell q1)).trans q1
    have r2 := (b1.cell (p := ⟨_, _, none⟩) (lt_of_cell q2)).trans q2
    have r3 := (b1.cell (p := ⟨_, _, none⟩) (lt_of_cell q3)).trans q3
    have r4 := (b1.cell (p := ⟨_, _, none⟩) (lt_of_cell q4)).trans q4
    have HU := Lib.hid hu
    clear b1 hu q0 q1 q2 q3 q4 hz0 hg0 B0 HG0 d0 d1
    cases hq : numQ e 13 with
    | none =>
      have HW := Lib.hid (HN0.out hq)
      have z0 : w1.cell? ⟨w.heap.size + 1, 0, none⟩ = some (.string ⟨#[]⟩) := cell_of_row _ _ _ _ _ _ hz1
      have f0 := frozen_of_row w1 (w.heap.size + 1) 0 _ _ hz1
      have z1 : w1.cell? ⟨w.heap.size + 1, 1, none⟩ = some (.string ⟨#[]⟩) := cell_of_row _ _ _ _ _ _ hz1
      have f1 := frozen_of_row w1 (w.heap.size + 1) 1 _ _ hz1
      have z2 : w1.cell? ⟨w.heap.size + 1, 2, none⟩ = some (.int .i64 0) := cell_of_row _ _ _ _ _ _ hz1
      have f2 := frozen_of_row w1 (w.heap.size + 1) 2 _ _ hz1
      have z3 : w1.cell? ⟨w.heap.size + 1, 3, none⟩ = some (.string ⟨#[]⟩) := cell_of_row _ _ _ _ _ _ hz1
      have f3 := frozen_of_row w1 (w.heap.size + 1) 3 _ _ hz1
      have z4 : w1.cell? ⟨w.heap.size + 1, 4, none⟩ = some (.string ⟨#[]⟩) := cell_of_row _ _ _ _ _ _ hz1
      have f4 := frozen_of_row w1 (w.heap.size + 1) 4 _ _ hz1
      have z5 : w1.cell? ⟨w.heap.size + 1, 5, none⟩ = some (.int .i64 0) := cell_of_row _ _ _ _ _ _ hz1
      have f5 := frozen_of_row w1 (w.heap.size + 1) 5 _ _ hz1
      have z6 : w1.cell? ⟨w.heap.size + 1, 6, none⟩ = some (.int .i64 0) := cell_of_row _ _ _ _ _ _ hz1
      have f6 := frozen_of_row w1 (w.heap.size + 1) 6 _ _ hz1
      have z7 : w1.cell? ⟨w.heap.size + 1, 7, none⟩ = some (.string ⟨#[]⟩) := cell_of_row _ _ _ _ _ _ hz1
      have f7 := frozen_of_row w1 (w.heap.size + 1) 7 _ _ hz1
      have z8 : w1.cell? ⟨w.heap.size + 1, 8, none⟩ = some (.int .i64 0) := cell_of_row _ _ _ _ _ _ hz1
      have f8 := frozen_of_row w1 (w.heap.size + 1) 8 _ _ hz1
      have z9 : w1.cell? ⟨w.heap.size + 1, 9, none⟩ = some (.int .i64 0) := cell_of_row _ _ _ _ _ _ hz1
      have f9 := frozen_of_row w1 (w.heap.size + 1) 9 _ _ hz1
      have z10 : w1.cell? ⟨w.heap.size + 1, 10, none⟩ = some (.string ⟨#[]⟩) := cell_of_row _ _ _ _ _ _ hz1
      have f10 := frozen_of_row w1 (w.heap.size + 1) 10 _ _ hz1
      have z11 : w1.cell? ⟨w.heap.size + 1, 11, none⟩ = some (.int .i64 0) := cell_of_row _ _ _ _ _ _ hz1
      have f11 := frozen_of_row w1 (w.heap.size + 1) 11 _ _ hz1
      have z12 : w1.cell? ⟨w.heap.size + 1, 12, none⟩ = some (.int .i64 0) := cell_of_row _ _ _ _ _ _ hz1
      have f12 := frozen_of_row w1 (w.heap.size + 1) 12 _ _ hz1
      have z13 : w1.cell? ⟨w.heap.size + 1, 13, none⟩ = some (.int .i64 0) := cell_of_row _ _ _ _ _ _ hz1
      have f13 := frozen_of_row w1 (w.heap.size + 1) 13 _ _ hz1
      go_wp2_with fail
      go_region
      all_goals
        have hrow := puts_row [.string ⟨#[]⟩, .string ⟨#[]⟩, .int .i64 0, .string ⟨#[]⟩, .string ⟨#[]⟩, .int .i64 0, .int .i64 0, .string ⟨#[]⟩, .int .i64 0, .int .i64 0, .string ⟨#[]⟩, .int .i64 0, .int .i64 0, .int .i64 0] hz1 rfl
        have hbel := puts_below (Nat.le_succ w.heap.size) [.string ⟨#[]⟩, .string ⟨#[]⟩, .int .i64 0, .string ⟨#[]⟩, .string ⟨#[]⟩, .int .i64 0, .int .i64 0, .string ⟨#[]⟩, .int .i64 0, .int .i64 0, .string ⟨#[]⟩, .int .i64 0, .int .i64 0, .int .i64 0] _ 0 B1.out
        simp only [puts, Nat.zero_add, Nat.reduceAdd] at hrow hbel
        go_wp2_with fail
        (try simp only [Exit.inBlock, Exit.then])
        generalize ((((((((((((((w1.setCell ⟨w.heap.size + 1, 0, none⟩ (.string ⟨#[]⟩)).setCell ⟨w.heap.size + 1, 1, none⟩ (.string ⟨#[]⟩)).setCell ⟨w.heap.size + 1, 2, none⟩ (.int .i64 0)).setCell ⟨w.heap.size + 1, 3, none⟩ (.string ⟨#[]⟩)).setCell ⟨w.heap.size + 1, 4, none⟩ (.string ⟨#[]⟩)).setCell ⟨w.heap.size + 1, 5, none⟩ (.int .i64 0)).setCell ⟨w.heap.size + 1, 6, none⟩ (.int .i64 0)).setCell ⟨w.heap.size + 1, 7, none⟩ (.string ⟨#[]⟩)).setCell ⟨w.heap.size + 1, 8, none⟩ (.int .i64 0)).setCell ⟨w.heap.size + 1, 9, none⟩ (.int .i64 0)).setCell ⟨w.heap.size + 1, 10, none⟩ (.string ⟨#[]⟩)).setCell ⟨w.heap.size + 1, 11, none⟩ (.int .i64 0)).setCell ⟨w.heap.size + 1, 12, none⟩ (.int .i64 0)).setCell ⟨w.heap.size + 1, 13, none⟩ (.int .i64 0)) = W9 at hrow hbel ⊢
        refine bodyPost_ret (results_cell_row2 rfl _ _ (w.heap.size + 1) 29 #[.string ⟨#[]⟩, .string ⟨#[]⟩, .int .i64 0, .string ⟨#[]⟩, .string ⟨#[]⟩, .int .i64 0, .int .i64 0, .string ⟨#[]⟩, .int .i64 0, .int .i64 0, .string ⟨#[]⟩, .int .i64 0, .int .i64 0, .int .i64 0] (0, 0) _ rfl (show W9.drew.heap[w.heap.size + 1]? = _ from hrow) Tryz.underlying29 rfl (by kernel_rfl)) rfl ?_
        rw [HW.out]
        exact ⟨rfl, hbel.drew⟩
    | some uu =>
      have hu := HU.out uu hq
      subst hu
      have s0 := fun ob => ((below_one w1 ob).cell (p := ⟨_, _, none⟩) (lt_of_cell r0)).trans r0
      have s1 := fun ob => ((below_one w1 ob).cell (p := ⟨_, _, none⟩) (lt_of_cell r1)).trans r1
      have s2 := fun ob => ((below_one w1 ob).cell (p := ⟨_, _, none⟩) (lt_of_cell r2)).trans r2
      have s3 := fun ob => ((below_one w1 ob).cell (p := ⟨_, _, none⟩) (lt_of_cell r3)).trans r3
      have s4 := fun ob => ((below_one w1 ob).cell (p := ⟨_, _, none⟩) (lt_of_cell r4)).trans r4
      go_wp2_with fail
      go_region
      have bb := (below_one w1 (.cells #[.string ⟨a.toArray⟩, .string ⟨#[]⟩, .int .i64 0, .string ⟨b.toArray⟩, .string ⟨#[]⟩, .int .i64 0, .int .i64 0, .string ⟨#[]⟩, .int .i64 0, .int .i64 0, .string ⟨#[]⟩, .int .i64 0, .int .i64 0, .int .i64 (uu : Nat)] 29)).drew
      have hz2 := (bb.block (w.heap.size + 1) (row_lt hz1)).trans hz1
      have he2 : (w1.alloc (.cells #[.string ⟨a.toArray⟩, .string ⟨#[]⟩, .int .i64 0, .string ⟨b.toArray⟩, .string ⟨#[]⟩, .int .i64 0, .int .i64 0, .string ⟨#[]⟩, .int .i64 0, .int .i64 0, .string ⟨#[]⟩, .int .i64 0, .int .i64 0, .int .i64 (uu : Nat)] 29)).drew.heap[w1.heap.size]? = some (.cells #[.string ⟨a.toArray⟩, .string ⟨#[]⟩, .int .i64 0, .string ⟨b.toArray⟩, .string ⟨#[]⟩, .int .i64 0, .int .i64 0, .string ⟨#[]⟩, .int .i64 0, .int .i64 0, .string ⟨#[]⟩, .int .i64 0, .int .i64 0, .int .i64 (uu : Nat)] 29 (0, 0)) := heap_alloc_new _ _
      have i0 := (bb.cell (p := ⟨_, _, none⟩) (lt_of_cell e0)).trans e0
      have i1 := (bb.cell (p := ⟨_, _, none⟩) (lt_of_cell e1)).trans e1
      have k2 := (bb.cell (p := ⟨_, _, none⟩) (lt_of_cell r2)).trans r2
      have k3 := (bb.cell (p := ⟨_, _, none⟩) (lt_of_cell r3)).trans r3
      have B2 := Lib.hid (B1.out.trans (bb.mono B1.out.size))
      have HG2 := Lib.hid (HG1.out.below bb)
      have hlt : w.heap.size + 1 < w1.heap.size := row_lt hz1
      have hne : w1.heap.size ≠ w.heap.size + 1 := by omega
      generalize (w1.alloc (.cells #[.string ⟨a.toArray⟩, .string ⟨#[]⟩, .int .i64 0, .string ⟨b.toArray⟩, .string ⟨#[]⟩, .int .i64 0, .int .i64 0, .string ⟨#[]⟩, .int .i64 0, .int .i64 0, .string ⟨#[]⟩, .int .i64 0, .int .i64 0, .int .i64 (uu : Nat)] 29)).drew = W2 at bb hz2 he2 i0 i1 k2 k3 B2 HG2 ⊢
      obtain ⟨eb, heb⟩ : ∃ eb, eb = w1.heap.size := ⟨_, rfl⟩
      rw [← heb] at he2 hne hlt ⊢
      clear bb e0 e1 hz1 hg1 B1 HG1 s0 s1 s2 s3 s4 r0 r1 r2 r3 r4
      clear heb
      have HQ := Lib.hid (fun pr (hpr : pr = placeWords (splitL 45 c)) => show (pr.2 ≠ 0 → entPieces a [a, b, c, d, e] = ((a, zeroGoods, (b, [], 0, 0), pr.1, zeroPlace, ((uu : Nat) : Int)), pr.2)) ∧ (pr.2 = 0 → ∀ qr, qr = placeWords (splitL 45 d) → entPieces a [a, b, c, d, e] = ((a, zeroGoods, (b, [], 0, 0), pr.1, qr.1, ((uu : Nat) : Int)), qr.2)) from by
          unfold entPieces
          rw [if_neg (by rw [hF, hT]; simp), hF, hT]
          simp only [List.getLast?_cons_cons, List.getLast?_singleton, Option.getD_some, hq]
          subst hpr; by_cases h : (placeWords (splitL 45 c)).2 = 0 <;> simp [h])
      go_wp2_with fail
      refine (placeRead_any E ⟨c.toArray⟩ (show c.length ≤ _ from hlc) W2 (HGw.out _ B2.out)).mono ?_
      rintro e W3 ⟨rfl, bb⟩
      have B3 := Lib.hid (B2.out.trans (bb.mono B2.out.size))
      have hz3 := (bb.block (w.heap.size + 1) (row_lt hz2)).trans hz2
      have he3 := (bb.block eb (row_lt he2)).trans he2
      have i0 := (bb.cell (p := ⟨_, _, none⟩) (lt_of_cell i0)).trans i0
      have i1 := (bb.cell (p := ⟨_, _, none⟩) (lt_of_cell i1)).trans i1
      have k3 := (bb.cell (p := ⟨_, _, none⟩) (lt_of_cell k3)).trans k3
      obtain ⟨pr, hpr⟩ : ∃ pr, pr = placeWords (splitL 45 c) := ⟨_, rfl⟩
      have HW := Lib.hid (HQ.out pr hpr)
      rw [show placeWords (splitL 45 (bts ⟨c.toArray⟩)) = pr from hpr.symm]
      obtain ⟨⟨p1, p2, p3⟩, ep⟩ := pr
      clear hpr bb he2 hz2 B2
      simp only [encPlace]
      by_cases h0 : ep = 0
      · subst h0
        have HQ2 := Lib.hid (HW.out.2 rfl)
        rw [errOf_zero]
        go_wp2_with (refine wpList_store_at rfl 27 _ _ rfl eb 7 [.string ⟨p1.toArray⟩, .int .i64 p2, .int .i64 p3] rfl rfl _ [.string ⟨a.toArray⟩, .string ⟨#[]⟩, .int .i64 0, .string ⟨b.toArray⟩, .string ⟨#[]⟩, .int .i64 0, .int .i64 0, .string ⟨#[]⟩, .int .i64 0, .int .i64 0, .string ⟨#[]⟩, .int .i64 0, .int .i64 0, .int .i64 (uu : Nat)] he3 (by kernel_rfl) (by simp) (by simp [Value.oneCell']) ?_; intro W4 he4 tt; have hz4 := tt.heap hz3 (Ne.symm hne); have i1 := tt.cell i1 (by simp only [ne_eq]; omega); have k3 := tt.cell k3 (by simp only [ne_eq]; omega); have B4 := Lib.hid (B3.out.trans (tt.below (by omega))))
        have he4 : W4.heap[eb]? = some (.cells #[.string ⟨a.toArray⟩, .string ⟨#[]⟩, .int .i64 0, .string ⟨b.toArray⟩, .string ⟨#[]⟩, .int .i64 0, .int .i64 0, .string ⟨p1.toArray⟩, .int .i64 p2, .int .i64 p3, .string ⟨#[]⟩, .int .i64 0, .int .i64 0, .int .i64 (uu : Nat)] 29 (0, 0)) := he4
        go_wp2_with fail
        refine (placeRead_any E ⟨d.toArray⟩ (show d.length ≤ _ from hld) W4 (HGw.out _ B4.out)).mono ?_
        rintro e W5 ⟨rfl, bb⟩
        have B5 := Lib.hid (B4.out.trans (bb.mono B4.out.size))
        have hz5 := (bb.block (w.heap.size + 1) (row_lt hz4)).trans hz4
        have he5 := (bb.block eb (row_lt he4)).trans he4
        have i1 := (bb.cell (p := ⟨_, _, none⟩) (lt_of_cell i1)).trans i1
        obtain ⟨pr, hpr⟩ : ∃ pr, pr = placeWords (splitL 45 d) := ⟨_, rfl⟩
        have HV := Lib.hid (HQ2.out pr hpr)
        rw [show placeWords (splitL 45 (bts ⟨d.toArray⟩)) = pr from hpr.symm]
        obtain ⟨⟨q1, q2, q3⟩, eq⟩ := pr
        clear hpr bb he4 hz4 B4
        simp only [encPlace]
        go_wp2_with (first | (refine wpList_store_at rfl 27 _ _ rfl eb 10 [.string ⟨q1.toArray⟩, .int .i64 q2, .int .i64 q3] rfl rfl _ [.string ⟨a.toArray⟩, .string ⟨#[]⟩, .int .i64 0, .string ⟨b.toArray⟩, .string ⟨#[]⟩, .int .i64 0, .int .i64 0, .string ⟨p1.toArray⟩, .int .i64 p2, .int .i64 p3, .string ⟨#[]⟩, .int .i64 0, .int .i64 0, .int .i64 (uu : Nat)] he5 (by kernel_rfl) (by simp) (by simp [Value.oneCell']) ?_; intro W6 he6 tt; have hz6 := tt.heap hz5 (Ne.symm hne); have i1 := tt.cell i1 (by simp only [ne_eq]; omega); have B6 := Lib.hid (B5.out.trans (tt.below (by omega))); have he6x : W6.heap[eb]? = some (.cells #[.string ⟨a.toArray⟩, .string ⟨#[]⟩, .int .i64 0, .string ⟨b.toArray⟩, .string ⟨#[]⟩, .int .i64 0, .int .i64 0, .string ⟨p1.toArray⟩, .int .i64 p2, .int .i64 p3, .string ⟨q1.toArray⟩, .int .i64 q2, .int .i64 q3, .int .i64 (uu : Nat)] 29 (0, 0)) := he6; have hl := Lies.row (w := W6) [.string ⟨a.toArray⟩, .string ⟨#[]⟩, .int .i64 0, .string ⟨b.toArray⟩, .string ⟨#[]⟩, .int .i64 0, .int .i64 0, .string ⟨p1.toArray⟩, .int .i64 p2, .int .i64 p3, .string ⟨q1.toArray⟩, .int .i64 q2, .int .i64 q3, .int .i64 (uu : Nat)] he6x) | (refine wpList_load_at rfl 29 _ rfl eb 0 rfl [.string ⟨a.toArray⟩, .string ⟨#[]⟩, .int .i64 0, .string ⟨b.toArray⟩, .string ⟨#[]⟩, .int .i64 0, .int .i64 0, .string ⟨p1.toArray⟩, .int .i64 p2, .int .i64 p3, .string ⟨q1.toArray⟩, .int .i64 q2, .int .i64 q3, .int .i64 (uu : Nat)] hl _ Tryz.underlying29 rfl (by kernel_rfl) ?_) | (refine wpList_store_at rfl 29 _ _ rfl (w.heap.size + 1) 0 [.string ⟨a.toArray⟩, .string ⟨#[]⟩, .int .i64 0, .string ⟨b.toArray⟩, .string ⟨#[]⟩, .int .i64 0, .int .i64 0, .string ⟨p1.toArray⟩, .int .i64 p2, .int .i64 p3, .string ⟨q1.toArray⟩, .int .i64 q2, .int .i64 q3, .int .i64 (uu : Nat)] rfl rfl _ [.string ⟨#[]⟩, .string ⟨#[]⟩, .int .i64 0, .string ⟨#[]⟩, .string ⟨#[]⟩, .int .i64 0, .int .i64 0, .string ⟨#[]⟩, .int .i64 0, .int .i64 0, .string ⟨#[]⟩, .int .i64 0, .int .i64 0, .int .i64 0] hz6 (by kernel_rfl) (by simp) (by simp [Value.oneCell']) ?_; intro wz hrz tz))
        (try simp only [Exit.inBlock, Exit.then])
        refine bodyPost_ret (results_cell_row2 rfl _ _ (w.heap.size + 1) 29 #[.string ⟨a.toArray⟩, .string ⟨#[]⟩, .int .i64 0, .string ⟨b.toArray⟩, .string ⟨#[]⟩, .int .i64 0, .int .i64 0, .string ⟨p1.toArray⟩, .int .i64 p2, .int .i64 p3, .string ⟨q1.toArray⟩, .int .i64 q2, .int .i64 q3, .int .i64 (uu : Nat)] (0, 0) _ rfl (show wz.heap[w.heap.size + 1]? = _ from hrz) Tryz.underlying29 rfl (by kernel_rfl)) rfl ?_
        rw [HV.out]
        exact ⟨rfl, B6.out.trans (tz.below (Nat.le_succ _))⟩
      · have HV := Lib.hid (HW.out.1 h0)
        rw [errOf_pos _ _ h0]
        go_wp2_with (first | (refine wpList_store_at rfl 27 _ _ rfl eb 7 [.string ⟨p1.toArray⟩, .int .i64 p2, .int .i64 p3] rfl rfl _ [.string ⟨a.toArray⟩, .string ⟨#[]⟩, .int .i64 0, .string ⟨b.toArray⟩, .string ⟨#[]⟩, .int .i64 0, .int .i64 0, .string ⟨#[]⟩, .int .i64 0, .int .i64 0, .string ⟨#[]⟩, .int .i64 0, .int .i64 0, .int .i64 (uu : Nat)] he3 (by kernel_rfl) (by simp) (by simp [Value.oneCell']) ?_; intro W4 he4 tt; have hz4 := tt.heap hz3 (Ne.symm hne); have i1 := tt.cell i1 (by simp only [ne_eq]; omega); have k3 := tt.cell k3 (by simp only [ne_eq]; omega); have B4 := Lib.hid (B3.out.trans (tt.below (by omega))); have he4x : W4.heap[eb]? = some (.cells #[.string ⟨a.toArray⟩, .string ⟨#[]⟩, .int .i64 0, .string ⟨b.toArray⟩, .string ⟨#[]⟩, .int .i64 0, .int .i64 0, .string ⟨p1.toArray⟩, .int .i64 p2, .int .i64 p3, .string ⟨#[]⟩, .int .i64 0, .int .i64 0, .int .i64 (uu : Nat)] 29 (0, 0)) := he4; have hl := Lies.row (w := W4) [.string ⟨a.toArray⟩, .string ⟨#[]⟩, .int .i64 0, .string ⟨b.toArray⟩, .string ⟨#[]⟩, .int .i64 0, .int .i64 0, .string ⟨p1.toArray⟩, .int .i64 p2, .int .i64 p3, .string ⟨#[]⟩, .int .i64 0, .int .i64 0, .int .i64 (uu : Nat)] he4x) | (refine wpList_load_at rfl 29 _ rfl eb 0 rfl [.string ⟨a.toArray⟩, .string ⟨#[]⟩, .int .i64 0, .string ⟨b.toArray⟩, .string ⟨#[]⟩, .int .i64 0, .int .i64 0, .string ⟨p1.toArray⟩, .int .i64 p2, .int .i64 p3, .string ⟨#[]⟩, .int .i64 0, .int .i64 0, .int .i64 (uu : Nat)] hl _ Tryz.underlying29 rfl (by kernel_rfl) ?_) | (refine wpList_store_at rfl 29 _ _ rfl (w.heap.size + 1) 0 [.string ⟨a.toArray⟩, .string ⟨#[]⟩, .int .i64 0, .string ⟨b.toArray⟩, .string ⟨#[]⟩, .int .i64 0, .int .i64 0, .string ⟨p1.toArray⟩, .int .i64 p2, .int .i64 p3, .string ⟨#[]⟩, .int .i64 0, .int .i64 0, .int .i64 (uu : Nat)] rfl rfl _ [.string ⟨#[]⟩, .string ⟨#[]⟩, .int .i64 0, .string ⟨#[]⟩, .string ⟨#[]⟩, .int .i64 0, .int .i64 0, .string ⟨#[]⟩, .int .i64 0, .int .i64 0, .string ⟨#[]⟩, .int .i64 0, .int .i64 0, .int .i64 0] hz4 (by kernel_rfl) (by simp) (by simp [Value.oneCell']) ?_; intro wz hrz tz))
        (try simp only [Exit.inBlock, Exit.then])
        refine bodyPost_ret (results_cell_row2 rfl _ _ (w.heap.size + 1) 29 #[.string ⟨a.toArray⟩, .string ⟨#[]⟩, .int .i64 0, .string ⟨b.toArray⟩, .string ⟨#[]⟩, .int .i64 0, .int .i64 0, .string ⟨p1.toArray⟩, .int .i64 p2, .int .i64 p3, .string ⟨#[]⟩, .int .i64 0, .int .i64 0, .int .i64 (uu : Nat)] (0, 0) _ rfl (show wz.heap[w.heap.size + 1]? = _ from hrz) Tryz.underlying29 rfl (by kernel_rfl)) rfl ?_
        rw [HV.out, errOf_pos _ _ h0]
        exact ⟨rfl, B4.out.trans (tz.below (Nat.le_succ _))⟩
  · have HW := Lib.hid (entPieces_len (k := k) (ws := ws) (by rw [hF, hT]; exact h3))
    have h3' : ((ws.length : Int) == 5) = false := by rw [beq_eq_false_iff_ne]; omega
    clear hS hle b0 hG lg
    go_enter Tryz.func18, Tryz.ntmps18
    go_wp2_with fail
    clear HG0 hfr d0 d1
    generalize ((w.alloc (.cells #[.bool true, .bool true, .bool bP] 45)).alloc (.cells #[.string ⟨#[]⟩, .string ⟨#[]⟩, .int .i64 0, .string ⟨#[]⟩, .string ⟨#[]⟩, .int .i64 0, .int .i64 0, .string ⟨#[]⟩, .int .i64 0, .int .i64 0, .string ⟨#[]⟩, .int .i64 0, .int .i64 0, .int .i64 0] 29)) = V0 at hz0 hg0 B0 ⊢
    have z0 : V0.cell? ⟨w.heap.size + 1, 0, none⟩ = some (.string ⟨#[]⟩) := cell_of_row _ _ _ _ _ _ hz0
    have f0 := frozen_of_row V0 (w.heap.size + 1) 0 _ _ hz0
    have z1 : V0.cell? ⟨w.heap.size + 1, 1, none⟩ = some (.string ⟨#[]⟩) := cell_of_row _ _ _ _ _ _ hz0
    have f1 := frozen_of_row V0 (w.heap.size + 1) 1 _ _ hz0
    have z2 : V0.cell? ⟨w.heap.size + 1, 2, none⟩ = some (.int .i64 0) := cell_of_row _ _ _ _ _ _ hz0
    have f2 := frozen_of_row V0 (w.heap.size + 1) 2 _ _ hz0
    have z3 : V0.cell? ⟨w.heap.size + 1, 3, none⟩ = some (.string ⟨#[]⟩) := cell_of_row _ _ _ _ _ _ hz0
    have f3 := frozen_of_row V0 (w.heap.size + 1) 3 _ _ hz0
    have z4 : V0.cell? ⟨w.heap.size + 1, 4, none⟩ = some (.string ⟨#[]⟩) := cell_of_row _ _ _ _ _ _ hz0
    have f4 := frozen_of_row V0 (w.heap.size + 1) 4 _ _ hz0
    have z5 : V0.cell? ⟨w.heap.size + 1, 5, none⟩ = some (.int .i64 0) := cell_of_row _ _ _ _ _ _ hz0
    have f5 := frozen_of_row V0 (w.heap.size + 1) 5 _ _ hz0
    have z6 : V0.cell? ⟨w.heap.size + 1, 6, none⟩ = some (.int .i64 0) := cell_of_row _ _ _ _ _ _ hz0
    have f6 := frozen_of_row V0 (w.heap.size + 1) 6 _ _ hz0
    have z7 : V0.cell? ⟨w.heap.size + 1, 7, none⟩ = some (.string ⟨#[]⟩) := cell_of_row _ _ _ _ _ _ hz0
    have f7 := frozen_of_row V0 (w.heap.size + 1) 7 _ _ hz0
    have z8 : V0.cell? ⟨w.heap.size + 1, 8, none⟩ = some (.int .i64 0) := cell_of_row _ _ _ _ _ _ hz0
    have f8 := frozen_of_row V0 (w.heap.size + 1) 8 _ _ hz0
    have z9 : V0.cell? ⟨w.heap.size + 1, 9, none⟩ = some (.int .i64 0) := cell_of_row _ _ _ _ _ _ hz0
    have f9 := frozen_of_row V0 (w.heap.size + 1) 9 _ _ hz0
    have z10 : V0.cell? ⟨w.heap.size + 1, 10, none⟩ = some (.string ⟨#[]⟩) := cell_of_row _ _ _ _ _ _ hz0
    have f10 := frozen_of_row V0 (w.heap.size + 1) 10 _ _ hz0
    have z11 : V0.cell? ⟨w.heap.size + 1, 11, none⟩ = some (.int .i64 0) := cell_of_row _ _ _ _ _ _ hz0
    have f11 := frozen_of_row V0 (w.heap.size + 1) 11 _ _ hz0
    have z12 : V0.cell? ⟨w.heap.size + 1, 12, none⟩ = some (.int .i64 0) := cell_of_row _ _ _ _ _ _ hz0
    have f12 := frozen_of_row V0 (w.heap.size + 1) 12 _ _ hz0
    have z13 : V0.cell? ⟨w.heap.size + 1, 13, none⟩ = some (.int .i64 0) := cell_of_row _ _ _ _ _ _ hz0
    have f13 := frozen_of_row V0 (w.heap.size + 1) 13 _ _ hz0
    go_wp2_with fail
    go_region
    all_goals
      have hrow := puts_row [.string ⟨#[]⟩, .string ⟨#[]⟩, .int .i64 0, .string ⟨#[]⟩, .string ⟨#[]⟩, .int .i64 0, .int .i64 0, .string ⟨#[]⟩, .int .i64 0, .int .i64 0, .string ⟨#[]⟩, .int .i64 0, .int .i64 0, .int .i64 0] hz0 rfl
      have hbel := puts_below (Nat.le_succ w.heap.size) [.string ⟨#[]⟩, .string ⟨#[]⟩, .int .i64 0, .string ⟨#[]⟩, .string ⟨#[]⟩, .int .i64 0, .int .i64 0, .string ⟨#[]⟩, .int .i64 0, .int .i64 0, .string ⟨#[]⟩, .int .i64 0, .int .i64 0, .int .i64 0] _ 0 B0.out
      simp only [puts, Nat.zero_add, Nat.reduceAdd] at hrow hbel
      go_wp2_with fail
      (try simp only [Exit.inBlock, Exit.then])
      generalize ((((((((((((((V0.setCell ⟨w.heap.size + 1, 0, none⟩ (.string ⟨#[]⟩)).setCell ⟨w.heap.size + 1, 1, none⟩ (.string ⟨#[]⟩)).setCell ⟨w.heap.size + 1, 2, none⟩ (.int .i64 0)).setCell ⟨w.heap.size + 1, 3, none⟩ (.string ⟨#[]⟩)).setCell ⟨w.heap.size + 1, 4, none⟩ (.string ⟨#[]⟩)).setCell ⟨w.heap.size + 1, 5, none⟩ (.int .i64 0)).setCell ⟨w.heap.size + 1, 6, none⟩ (.int .i64 0)).setCell ⟨w.heap.size + 1, 7, none⟩ (.string ⟨#[]⟩)).setCell ⟨w.heap.size + 1, 8, none⟩ (.int .i64 0)).setCell ⟨w.heap.size + 1, 9, none⟩ (.int .i64 0)).setCell ⟨w.heap.size + 1, 10, none⟩ (.string ⟨#[]⟩)).setCell ⟨w.heap.size + 1, 11, none⟩ (.int .i64 0)).setCell ⟨w.heap.size + 1, 12, none⟩ (.int .i64 0)).setCell ⟨w.heap.size + 1, 13, none⟩ (.int .i64 0)) = W9 at hrow hbel ⊢
      refine bodyPost_ret (results_cell_row2 rfl _ _ (w.heap.size + 1) 29 #[.string ⟨#[]⟩, .string ⟨#[]⟩, .int .i64 0, .string ⟨#[]⟩, .string ⟨#[]⟩, .int .i64 0, .int .i64 0, .string ⟨#[]⟩, .int .i64 0, .int .i64 0, .string ⟨#[]⟩, .int .i64 0, .int .i64 0, .int .i64 0] (0, 0) _ rfl (show W9.drew.heap[w.heap.size + 1]? = _ from hrow) Tryz.underlying29 rfl (by kernel_rfl)) rfl ?_
      rw [HW.out]
      exact ⟨rfl, hbel.drew⟩
end Go.Proofs.YtpifbahafnaejaaGreatDoor
