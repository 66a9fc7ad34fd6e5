/- Counts: the document's DiffOf. Printed by gen/rdiff.py. Classes of goods, plainly: what went ahead, in the order of the sheet and in the order of what went. No program in sight. A slice of strings appended to one that the call owns. -/
import Derived.Deep.RegionHeld3
import Derived.Deep.AppendLies
import Derived.Maps.AppendAt
import Derived.OwnWalk
import Derived.Test.YtphgakobfegpcaaGreatDoorM15
import Derived.Test.YtphgakobfegpcaaGreatDoorM18
import Derived.Test.YtphgakobfegpcaaGreatDoorM21
import Derived.Test.YtphgakobfegpcaaGreatDoorM29
import Derived.Test.YtphgakobfegpcaaGreatDoorM44
import Derived.Test.YtphgakobfegpcaaGreatDoorLCountDiffs02
import Derived.Test.YtphgakobfegpcaaGreatDoorLCountDiffs03
namespace Go.Proofs.YtphgakobfegpcaaGreatDoor
open Go.RowKit Go.Sort Go.Proofs

/-- Two results, the second one in memory. -/
theorem results_tc {P : Program} {fn : Func} {t p : Tmp} {ty : TypeId} (h : fn.results = #[.tmp t, .cell p ty]) (tmps : Array Value) (w : World) (g : Nat) (tt : TypeId) (cs : Array Value) (fr : Nat × Nat) (d : TypeDesc)
    (hp : tmps.getD p undef = .pointer (some ⟨g, 0, none⟩)) (hg : w.heap[g]? = some (.cells cs tt fr))
    (hu : P.underlying ty = some d) (hd : (match d with | .struct _ | .array _ _ => true | _ => false) = true) (hi : (P.info? ty).map (·.size) = some cs.size) :
    (results fn tmps).run P w = .ok (.tuple #[tmps.getD t undef, .agg cs]) w := by
  have hp' : tmps[p]?.getD undef = .pointer (some ⟨g, 0, none⟩) := by simpa using hp
  simp only [results, h]
  simp [hp', asAddr, run_loadVar_row w g tt ty cs fr d hg hu hd hi, Result.andThen]
theorem RowAt_turned {α : Type} {enc : α → List Value} {k : Nat} {w w' : World} {A : Option Addr} {xs : List α} {b : Nat} (h : RowAt enc k w A xs) (ht : Turned b w w') (hA : ∀ a, A = some a → a.block ≠ b) : RowAt enc k w' A xs := by
  rcases h with h | ⟨g, o, h1, h2, h3⟩
  · exact .inl h
  · exact .inr ⟨g, o, h1, Nat.lt_of_lt_of_le h2 (Nat.le_of_eq ht.size.symm), fun i hi c v hv => (World.cell?_of_block (a := ⟨g, o + i * k + c, none⟩) (ht.block g (hA ⟨g, o, none⟩ h1))).trans (h3 i hi c v hv)⟩
/-- What DiffOf leaves. -/
def RDiffAt (r : List EntV ⊕ (Nat × Nat)) (e : Ending) (w' : World) : Prop :=
  match r with
  | .inr f => e = .returned (.tuple #[.slice none 0 0, fltC (some f)])
  | .inl out => ∃ A cap, e = .returned (.tuple #[.slice A out.length cap, .agg #[.int .i64 0, .int .i64 (-1)]]) ∧ RowAt encEnt 14 w' A out
theorem diffB_some {B : BkV} {l : List LineV} {f : Nat × Nat} (h : sheetF [] l = some f) : diffB B l = .inr f := by
  unfold diffB
  rw [h]
theorem diffB_none {B : BkV} {l : List LineV} (h : sheetF [] l = none) : diffB B l = diffN B l (noLot B l 0) := by
  unfold diffB
  rw [h]
  rfl
theorem sheetF_pos : ∀ (l done : List LineV) (k i : Nat), sheetF done l = some (k, i) → k ≠ 0 ∧ k ≤ 12
  | [], _, _, _, h => by cases h
  | x :: r, done, k, i, h => by
    unfold sheetF at h
    split at h
    · rename_i h1
      simp only [Option.some.injEq, Prod.mk.injEq] at h
      obtain ⟨rfl, -⟩ := h
      refine ⟨h1, ?_⟩
      unfold lineE
      have hp : placeE x.1 ≤ 12 := by unfold placeE; repeat' split
                                      all_goals omega
      repeat' split
      all_goals omega
    · exact sheetF_pos r _ k i h

set_option maxHeartbeats 1600000 in
set_option maxRecDepth 100000 in
theorem diffOf_fault {q : Nat} (A : Option Addr) (cap : Nat) (l : List LineV) (k i : Nat) {w : World} (hrow : RowAt encLine 5 w A l) (hl : l.length ≤ 100000) (hz : ∀ x ∈ l, x.1.1.length ≤ 1000000000 ∧ x.2.1.length ≤ 1000000000) (hs : sheetF [] l = some (k, i)) :
    Calls Tryz.prog 29 #[.pointer (some ⟨q, 0, none⟩), .slice A l.length cap] w fun e w' => e = .returned (.tuple #[.slice none 0 0, fltC (some (k, i))]) ∧ Below w.heap.size w w' := by
  have h0 := heap_alloc_new w (.cells #[.int .i64 0, .int .i64 0] 32)
  have b0 := below_one w (.cells #[.int .i64 0, .int .i64 0] 32)
  have HSF := Lib.hid (sheetFault_any A cap l _ (hrow.below b0) hl hz)
  rw [hs] at HSF
  obtain ⟨hk, -⟩ := sheetF_pos l [] k i hs
  have hpos : (0 : Int) < ((k : Nat) : Int) := by omega
  have H0 := Lib.hid h0
  have B0 := Lib.hid b0
  simp only [fltC] at HSF ⊢
  clear hrow hz hs h0 b0 hk
  go_enter Tryz.func29, Tryz.ntmps29
  go_upto_region 1 with fail
  generalize w.alloc (.cells #[.int .i64 0, .int .i64 0] 32) = W0 at H0 B0 HSF ⊢
  go_wp2_with fail
  refine HSF.out.mono ?_
  rintro e w1 ⟨rfl, b1⟩
  have B1 := Lib.hid (B0.out.trans (b1.mono B0.out.size))
  have H1 := Lib.hid ((b1.block _ (row_lt H0.out)).trans H0.out)
  have hba := below_one w1 (.cells #[.int .i64 0, .int .i64 0] 32)
  clear b1 HSF
  go_upto_region 2 with (refine wpList_store_box rfl 32 _ _ rfl w1.heap.size [.int .i64 (k : Nat), .int .i64 (i : Nat)] rfl rfl 32 [.int .i64 0, .int .i64 0] (heap_alloc_new w1 _) (by kernel_rfl) rfl (by simp [Value.oneCell']) ?_; intro w2 h2 tu2)
  have b2 := hba.trans (tu2.below (Nat.le_refl _))
  have B2 := Lib.hid (B1.out.trans (b2.mono B1.out.size))
  have h2f := (b2.block _ (row_lt H1.out)).trans H1.out
  obtain ⟨⟨c0, c1⟩, -⟩ := row2f h2
  obtain ⟨⟨d0, d1⟩, f0, f1⟩ := row2f h2f
  have hr9 : (sets w2 w.heap.size [(0, .int .i64 (k : Nat)), (1, .int .i64 (i : Nat))]).drew.heap[w.heap.size]? = _ := sets_row [(0, .int .i64 (k : Nat)), (1, .int .i64 (i : Nat))] h2f
  have tu9 := (sets_turned (b := w.heap.size) [(0, .int .i64 (k : Nat)), (1, .int .i64 (i : Nat))] w2).drew
  have hlt := row_lt H1.out
  clear tu2 hba b2
  go_wp2_with fail
  go_region
  all_goals
    have hW : ((w2.setCell ⟨w.heap.size, 0, none⟩ (.int .i64 (k : Nat))).setCell ⟨w.heap.size, 1, none⟩ (.int .i64 (i : Nat))) = sets w2 w.heap.size [(0, .int .i64 (k : Nat)), (1, .int .i64 (i : Nat))] := rfl
    rw [hW]
    generalize (sets w2 w.heap.size [(0, .int .i64 (k : Nat)), (1, .int .i64 (i : Nat))]).drew = W9 at hr9 tu9 ⊢
    have h9 : W9.heap[w.heap.size]? = some (.cells [Value.int .i64 (k : Nat), .int .i64 (i : Nat)].toArray 32 (0, 0)) := hr9
    go_wp2_with fail
    (try simp only [Exit.inBlock, Exit.then])
    refine bodyPost_ret (results_tc rfl _ _ w.heap.size 32 _ (0, 0) _ rfl h9 Tryz.underlying32 rfl (by kernel_rfl)) rfl ?_
    exact ⟨rfl, B2.out.trans (tu9.below (Nat.le_refl _))⟩

set_option maxHeartbeats 3200000 in
set_option maxRecDepth 100000 in
theorem diffOf_well {q : Nat} {G R : List Nat} {B : BkV} (A : Option Addr) (cap : Nat) (l : List LineV) {w : World} (H : MBk w q G R B) (hI : BkI B) (hrow : RowAt encLine 5 w A l) (hl : l.length ≤ 100000) (hz : ∀ x ∈ l, x.1.1.length ≤ 1000000000 ∧ x.2.1.length ≤ 1000000000) (hs : sheetF [] l = none) :
    Calls Tryz.prog 29 #[.pointer (some ⟨q, 0, none⟩), .slice A l.length cap] w fun e w' => RDiffAt (diffB B l) e w' ∧ Below w.heap.size w w' := by
  obtain ⟨i0, hi, hz0, hz1, hz2⟩ := info_parts entInfo
  have h0 := heap_alloc_new w (.cells #[.int .i64 0, .int .i64 0] 32)
  have b0 := below_one w (.cells #[.int .i64 0, .int .i64 0] 32)
  have HSF := Lib.hid (sheetFault_any A cap l _ (hrow.below b0) hl hz)
  rw [hs] at HSF
  rw [diffB_none hs]
  have HSN := Lib.hid (sheet_none l [] hs).1
  have HR := Lib.hid (fun W (h : Below w.heap.size w W) => hrow.below h)
  have HBK := Lib.hid (fun W (h : Below w.heap.size w W) => H.below h)
  have HFL := Lib.hid (fun W (h : Below w.heap.size w W) id => refFindL (H.below h) hI id)
  obtain ⟨AS, cS, hcq, hrS⟩ := H.linesAt
  have HAT := Lib.hid (fun W (h : Below w.heap.size w W) pl lot => refAt_m hI.stk AS cS W (hrS.below h) pl lot)
  have HQS := Lib.hid (fun W (h : Below w.heap.size w W) => (h.cell (lt_of_cell hcq)).trans hcq)
  have HIX := Lib.hid (idxL B)
  have HNS := Lib.hid (noLot_step B l)
  have HDT := Lib.hid (diffL_take B.2.2 l)
  have HDL := Lib.hid (fun k => diffL_len B.2.2 (l.take k))
  have HAL := Lib.hid (fun pl lot => by have h1 := atM_le B.2.2 pl lot; have h2 := hI.stk.few lot; exact (show atM B.2.2 (pl, lot) ≤ 1099511627776 by omega))
  obtain ⟨NS, hNS⟩ : ∃ NS, NS = B.2.2.length := ⟨_, rfl⟩
  rw [← hNS] at HAT HQS
  obtain ⟨nl, hnl⟩ : ∃ nl, nl = noLot B l 0 := ⟨_, rfl⟩
  have HNL0 := Lib.hid hnl
  rw [← hnl]
  obtain ⟨N, hN⟩ : ∃ N, N = l.length := ⟨_, rfl⟩
  have HN := Lib.hid hN
  rw [← hN] at hl HSF ⊢
  have H0 := Lib.hid h0
  have B0 := Lib.hid b0
  simp only [fltC] at HSF
  clear hrow hz hs h0 b0 hN hnl hcq hrS H hI hNS
  go_enter Tryz.func29, Tryz.ntmps29
  go_upto_region 1 with fail
  generalize w.alloc (.cells #[.int .i64 0, .int .i64 0] 32) = W0 at H0 B0 HSF ⊢
  go_wp2_with fail
  refine HSF.out.mono ?_
  rintro e w1 ⟨rfl, b1⟩
  have B1 := Lib.hid (B0.out.trans (b1.mono B0.out.size))
  have H1 := Lib.hid ((b1.block _ (row_lt H0.out)).trans H0.out)
  have hba := below_one w1 (.cells #[.int .i64 0, .int .i64 0] 32)
  clear b1 HSF H0 B0
  go_upto_region 2 with (refine wpList_store_box rfl 32 _ _ rfl w1.heap.size [.int .i64 0, .int .i64 (-1)] rfl rfl 32 [.int .i64 0, .int .i64 0] (heap_alloc_new w1 _) (by kernel_rfl) rfl (by simp [Value.oneCell']) ?_; intro w2 h2 tu2)
  have b2 := hba.trans (tu2.below (Nat.le_refl _))
  have B2 := Lib.hid (B1.out.trans (b2.mono B1.out.size))
  have H2 := Lib.hid ((b2.block _ (row_lt H1.out)).trans H1.out)
  obtain ⟨⟨c0, c1⟩, -⟩ := row2f h2
  have hz12 := b2.size
  clear tu2 hba b2 h2 H1 B1
  go_wp2_with fail
  go_loopw [7] (fun i wr => ∃ k : Nat, k ≤ N ∧ i = .int .i64 k ∧ Hid (nl = noLot B (l.drop k) k) ∧ Hid (wr.heap[w.heap.size]? = some (.cells #[.int .i64 0, .int .i64 0] 32 (0, 0))) ∧ Hid (Below w.heap.size w wr)) (fun i _ => N - (intOf i).toNat)
  case atStart => exact ⟨0, by omega, rfl, HNL0.out, H2.out, B2.out⟩
  case round =>
    obtain ⟨k, hk, rfl, HS, HF, HB⟩ := hrel
    obtain ⟨wo, rfl⟩ : ∃ wo : World, wo = wr := ⟨_, rfl⟩
    by_cases hkN : k < N
    · have hkx : k < l.length := by rw [← HN.out]; exact hkN
      have hst := HS.out.trans (HNS.out k hkx)
      obtain ⟨g, o, rfl, lg, cg⟩ := HR.out w (Below.refl _ _) |>.resolve_left (fun h => by rw [h] at hkx; simp at hkx)
      obtain ⟨x, hx⟩ : ∃ x, x = l[k] := ⟨_, rfl⟩
      rw [← hx] at hst
      have c3 : wo.cell? ⟨g, o + k * 5 + 3, none⟩ = some (.string ⟨x.2.1.toArray⟩) := (HB.out.cell (p := ⟨g, o + k * 5 + 3, none⟩) lg).trans (cg k hkx 3 _ (by rw [← hx]; rfl))
      have HST1 := Lib.hid hst
      have HFI := Lib.hid (HFL.out wo HB.out x.2.1)
      have HII := Lib.hid (HIX.out x.2.1)
      have hk0 : (0 : Int) ≤ (k : Nat) := by omega
      have hk1 : ((k : Nat) : Int) < (N : Nat) := by omega
      clear hx cg hst HS
      go_wp2_with fail
      refine HFI.out.mono ?_
      rintro e w3 ⟨rfl, b3⟩
      have B3 := Lib.hid (HB.out.trans (b3.mono HB.out.size))
      have HF3 := Lib.hid ((b3.block _ (row_lt HF.out)).trans HF.out)
      clear b3 HFI HF HB c3
      rcases HII.out with ⟨hf, hix⟩ | ⟨i, hi1, hf, hix, -⟩
      · rw [hix]
        have HNLF : Hid (nl = some (6, k)) := by
          show _ = _
          rw [HST1.out, hf]
          rfl
        clear hf hix HII HST1
        go_wp2_with (refine wpList_store_box rfl 32 _ _ rfl w.heap.size [.int .i64 6, .int .i64 (k : Nat)] rfl rfl 32 [.int .i64 0, .int .i64 0] HF3.out (by kernel_rfl) rfl (by simp [Value.oneCell']) ?_; intro wf hf tf)
        (try simp only [Exit.inBlock, Exit.then])
        refine bodyPost_ret (results_tc rfl _ _ w.heap.size 32 #[.int .i64 6, .int .i64 (k : Nat)] (0, 0) _ rfl hf Tryz.underlying32 rfl (by kernel_rfl)) rfl ?_
        rw [HNLF.out]
        exact ⟨rfl, B3.out.trans (tf.below (Nat.le_refl _))⟩
      · rw [hix]
        have hi2 : ¬ ((i : Nat) : Int) < 0 := by omega
        have HNX : Hid (nl = noLot B (l.drop (k + 1)) (k + 1)) := by
          show _ = _
          rw [HST1.out, hf]
          rfl
        clear hf hix HII HST1
        go_wp2_with fail
        go_roundw
        case rel => exact ⟨k + 1, by omega, by go_num, HNX.out, HF3.out, B3.out⟩
        case measure => simp [intOf]; omega
    · obtain rfl : k = N := by omega
      have HNN : Hid (nl = none) := by
        show _ = _
        rw [HS.out, HN.out, List.drop_length]
        rfl
      obtain ⟨w3, hw3⟩ : ∃ w3 : World, w3 = wo := ⟨_, rfl⟩
      rw [← hw3] at HB HF ⊢
      have B3 := HB
      have H3 := HF
      clear HS HFL HIX HNS HNL0 H2 B2 hw3 HB HF c0 c1
      go_wp2_with fail
      go_loopw [8, 9] (fun v i wr => ∃ j : Nat, j ≤ k ∧ i = .int .i64 j ∧ Hid (wr.ownsRow (w.heap.size + 1) 69 14 v (diffL B.2.2 (l.take j)).length (flatL encEnt (diffL B.2.2 (l.take j)))) ∧ Hid (wr.heap[w.heap.size]? = some (.cells #[.int .i64 0, .int .i64 0] 32 (0, 0))) ∧ Hid (Below w.heap.size w wr)) (fun _ i _ => k - (intOf i).toNat)
      case atStart => exact ⟨0, by omega, rfl, World.ownsRow_nil _ _ _ _, H3.out, B3.out⟩
      case round =>
        obtain ⟨j, hj, rfl, HOW, HF, HB⟩ := hrel
        by_cases hjN : j < k
        · have hjx : j < l.length := by rw [← HN.out]; exact hjN
          obtain ⟨g, o, rfl, lg, cg⟩ := HR.out w (Below.refl _ _) |>.resolve_left (fun h => by rw [h] at hjx; simp at hjx)
          obtain ⟨x, hx⟩ : ∃ x, x = l[j] := ⟨_, rfl⟩
          have hsn := HSN.out x (by rw [hx]; exact List.getElem_mem hjx)
          have HCX : Hid (∀ W, Below w.heap.size w W → ∀ c v, (encLine x)[c]? = some v → W.cell? ⟨g, o + j * 5 + c, none⟩ = some v) := fun W hb c v hv =>
            (hb.cell (p := ⟨g, o + j * 5 + c, none⟩) lg).trans (cg j hjx c v (by rw [← hx]; exact hv))
          have hdt := HDT.out j hjx
          rw [← hx] at hdt
          have HDT1 := Lib.hid hdt
          have hal := HAL.out x.1 x.2.1
          have HA1 := Lib.hid (fun W (h : Below w.heap.size w W) => HAT.out W h x.1 x.2.1)
          have hdx : diffX B.2.2 x = if x.2.2 - (atM B.2.2 (x.1, x.2.1) : Nat) > 0 then [(kMore, zeroGoods, (x.2.1, [], 0, 0), zeroPlace, x.1, x.2.2 - (atM B.2.2 (x.1, x.2.1) : Nat))]
            else if x.2.2 - (atM B.2.2 (x.1, x.2.1) : Nat) < 0 then [(kLess, zeroGoods, (x.2.1, [], 0, 0), x.1, zeroPlace, - (x.2.2 - (atM B.2.2 (x.1, x.2.1) : Nat)))] else [] := rfl
          have HDX := Lib.hid hdx
          have hdl := HDL.out j
          rw [List.length_take] at hdl
          generalize diffX B.2.2 x = dx at HDT1 HDX
          generalize atM B.2.2 (x.1, x.2.1) = am at HA1 HDX hal
          obtain ⟨-, -, hn0, hn1⟩ := hsn
          obtain ⟨⟨p1, p2, p3⟩, xl, xn⟩ := x
          simp only [encPlace] at HA1
          simp only at HDX hn0 hn1
          have HUP : Hid (∀ W, Below w.heap.size w W → W.cell? ⟨q, 2, none⟩ = some (.slice AS NS cS) ∧ W.cell? ⟨g, o + j * 5, none⟩ = some (.string ⟨p1.toArray⟩) ∧ W.cell? ⟨g, o + j * 5 + 1, none⟩ = some (.int .i64 p2) ∧ W.cell? ⟨g, o + j * 5 + 2, none⟩ = some (.int .i64 p3) ∧ W.cell? ⟨g, o + j * 5 + 3, none⟩ = some (.string ⟨xl.toArray⟩) ∧ W.cell? ⟨g, o + j * 5 + 4, none⟩ = some (.int .i64 xn)) := fun W hb => by
            have h := HCX.out W hb
            exact ⟨HQS.out W hb, h 0 _ rfl, h 1 _ rfl, h 2 _ rfl, h 3 _ rfl, h 4 _ rfl⟩
          have hd := HB.out.drew
          have hj0 : (0 : Int) ≤ (j : Nat) := by omega
          have hj1 : ((j : Nat) : Int) < (k : Nat) := by omega
          obtain ⟨d, hd0⟩ : ∃ d, d = xn - ((am : Nat) : Int) := ⟨_, rfl⟩
          have hw : IntKind.i64.wrap (xn - ((am : Nat) : Int)) = xn - ((am : Nat) : Int) := wrap_small (by omega) (by omega)
          have hw2 : IntKind.i64.wrap (((am : Nat) : Int) - xn) = ((am : Nat) : Int) - xn := wrap_small (by omega) (by omega)
          have hdb : -1099511627776 ≤ d ∧ d ≤ 1099511627776 := by omega
          rw [← hd0] at HDX
          have HD0 := Lib.hid hd0
          clear hx cg hdt hdx HCX
          go_wp2_with fail
          go_region_held3 (fun W => W.cell? ⟨q, 2, none⟩ = some (.slice AS NS cS) ∧ W.cell? ⟨g, o + j * 5, none⟩ = some (.string ⟨p1.toArray⟩) ∧ W.cell? ⟨g, o + j * 5 + 1, none⟩ = some (.int .i64 p2) ∧ W.cell? ⟨g, o + j * 5 + 2, none⟩ = some (.int .i64 p3) ∧ W.cell? ⟨g, o + j * 5 + 3, none⟩ = some (.string ⟨xl.toArray⟩) ∧ W.cell? ⟨g, o + j * 5 + 4, none⟩ = some (.int .i64 xn))
            (first | exact HUP.out _ hd | exact HUP.out _ kk | go_keep)
            (first | (go_at_call 75; refine (HA1.out _ hd).mono ?_; rintro e v ⟨rfl, bb⟩; have kk := hd.trans (bb.mono hd.size)))
          all_goals
            have K4 := Lib.hid kk
            have hbv : Below wr.heap.size wr v := (Below.refl wr.heap.size wr).drew.trans bb
            have HO4 := Lib.hid (own_bl HOW.out hbv)
            have HF4 := Lib.hid ((hbv.block _ (row_lt HF.out)).trans HF.out)
            obtain ⟨-, e0, e1, e2, e3, e4⟩ := HUP.out v kk
            clear kk bb hd hbv HOW HF HB HA1
            rcases (show 0 < d ∨ d = 0 ∨ d < 0 by omega) with hp | h0 | hn
            · have HDX1 := Lib.hid (HDX.out.trans (if_pos hp))
              have hg1 : ((am : Nat) : Int) < xn := by omega
              have hg2 : ¬ xn < ((am : Nat) : Int) := by omega
              have HS1 := Lib.hid (show ∀ x ∈ [Value.string ⟨#[109, 111, 114, 101]⟩, .string ⟨#[]⟩, .int .i64 0, .string ⟨xl.toArray⟩, .string ⟨#[]⟩, .int .i64 0, .int .i64 0, .string ⟨#[]⟩, .int .i64 0, .int .i64 0, .string ⟨p1.toArray⟩, .int .i64 p2, .int .i64 p3, .int .i64 (xn - ((am : Nat) : Int))], x.oneCell' = true from encEnt_one (kMore, zeroGoods, (xl, [], 0, 0), zeroPlace, (p1, p2, p3), xn - ((am : Nat) : Int)))
              have HDX2 : Hid (dx = [(kMore, zeroGoods, (xl, [], 0, 0), zeroPlace, (p1, p2, p3), xn - ((am : Nat) : Int))]) := by show _ = _; rw [HDX1.out, HD0.out]
              clear HDX
              go_wp2_with fail
              go_region_law (refine step_append_lies _ rfl (.tmp 61) (.tmp 81) 22 rfl (w.heap.size + 1) 69 i0 _ 14 160 Tryz.underlying22 hi hz0 hz1 hz2 rfl (by decide) u8 (diffL B.2.2 (l.take j)).length (flatL encEnt (diffL B.2.2 (l.take j))) (by simp [Act.eval]) (((HO4.out.alloc _).drew) : World.ownsRow _ _ _ _ _ _ _) _ 1 1 [Value.string ⟨#[109, 111, 114, 101]⟩, .string ⟨#[]⟩, .int .i64 0, .string ⟨xl.toArray⟩, .string ⟨#[]⟩, .int .i64 0, .int .i64 0, .string ⟨#[]⟩, .int .i64 0, .int .i64 0, .string ⟨p1.toArray⟩, .int .i64 p2, .int .i64 p3, .int .i64 (xn - ((am : Nat) : Int))] (by simp [Act.eval]) (by rfl) (World.news_of_block (cs := #[Value.string ⟨#[109, 111, 114, 101]⟩, .string ⟨#[]⟩, .int .i64 0, .string ⟨xl.toArray⟩, .string ⟨#[]⟩, .int .i64 0, .int .i64 0, .string ⟨#[]⟩, .int .i64 0, .int .i64 0, .string ⟨p1.toArray⟩, .int .i64 p2, .int .i64 p3, .int .i64 (xn - ((am : Nat) : Int))]) (t := 69) (fr := (0, 0)) (show (World.drew _).heap[_]? = _ from heap_alloc_new v _)) HS1.out (by omega) (by unfold maxLen; omega) (by omega) (by have := K4.out.size; have := row_lt HF4.out; simp; omega) _ rfl ?_; intro gg cap' w5 hown5 hgrow hat hlt5)
              all_goals
                have HO5 := Lib.hid hown5
                have hlt4 := row_lt HF4.out
                have B5 := Lib.hid ((K4.out.alloc (by have := K4.out.size; omega) _).drew.grown hgrow (by have := K4.out.size; simp; omega) (fun b hb => by have := (HO4.out.lt b hb).1; omega))
                have HF5 := Lib.hid ((hgrow.block w.heap.size (by simp; omega) (fun e => by have := (HO4.out.lt _ e.symm).1; omega)).trans ((show (World.drew _).heap[_]? = _ from heap_alloc_old _ _ hlt4).trans HF4.out))
                clear hown5 hgrow hat hlt5 hlt4 e0 e1 e2 e3 e4
                obtain ⟨-, e0, e1, e2, e3, e4⟩ := HUP.out w5 B5.out
                go_wp2_with fail
                go_roundw
                case rel =>
                  refine ⟨j + 1, by omega, by go_num, ?_, HF5.out, B5.out⟩
                  show World.ownsRow _ _ _ _ _ _ _
                  rw [HDT1.out, HDX2.out, List.length_append, flatL_append]
                  exact HO5.out
                case measure => simp [intOf]; omega
            · have HDX1 := Lib.hid (HDX.out.trans ((if_neg (by omega)).trans (if_neg (by omega))))
              have hg1 : ¬ ((am : Nat) : Int) < xn := by omega
              have hg2 : ¬ xn < ((am : Nat) : Int) := by omega
              clear HDX
              go_wp2_with fail
              go_roundw
              case rel =>
                refine ⟨j + 1, by omega, by go_num, ?_, HF4.out, K4.out⟩
                show World.ownsRow _ _ _ _ _ _ _
                rw [HDT1.out, HDX1.out, List.append_nil]
                exact HO4.out
              case measure => simp [intOf]; omega
            · have HDX1 := Lib.hid (HDX.out.trans ((if_neg (by omega)).trans (if_pos hn)))
              have hg1 : ¬ ((am : Nat) : Int) < xn := by omega
              have hg2 : xn < ((am : Nat) : Int) := by omega
              have HS1 := Lib.hid (show ∀ x ∈ [Value.string ⟨#[108, 101, 115, 115]⟩, .string ⟨#[]⟩, .int .i64 0, .string ⟨xl.toArray⟩, .string ⟨#[]⟩, .int .i64 0, .int .i64 0, .string ⟨p1.toArray⟩, .int .i64 p2, .int .i64 p3, .string ⟨#[]⟩, .int .i64 0, .int .i64 0, .int .i64 (((am : Nat) : Int) - xn)], x.oneCell' = true from encEnt_one (kLess, zeroGoods, (xl, [], 0, 0), (p1, p2, p3), zeroPlace, ((am : Nat) : Int) - xn))
              have HDX2 : Hid (dx = [(kLess, zeroGoods, (xl, [], 0, 0), (p1, p2, p3), zeroPlace, ((am : Nat) : Int) - xn)]) := by show _ = _; rw [HDX1.out, HD0.out, Int.neg_sub]
              clear HDX
              go_wp2_with fail
              go_region_law (refine step_append_lies _ rfl (.tmp 90) (.tmp 110) 22 rfl (w.heap.size + 1) 69 i0 _ 14 160 Tryz.underlying22 hi hz0 hz1 hz2 rfl (by decide) u8 (diffL B.2.2 (l.take j)).length (flatL encEnt (diffL B.2.2 (l.take j))) (by simp [Act.eval]) (((HO4.out.alloc _).drew) : World.ownsRow _ _ _ _ _ _ _) _ 1 1 [Value.string ⟨#[108, 101, 115, 115]⟩, .string ⟨#[]⟩, .int .i64 0, .string ⟨xl.toArray⟩, .string ⟨#[]⟩, .int .i64 0, .int .i64 0, .string ⟨p1.toArray⟩, .int .i64 p2, .int .i64 p3, .string ⟨#[]⟩, .int .i64 0, .int .i64 0, .int .i64 (((am : Nat) : Int) - xn)] (by simp [Act.eval]) (by rfl) (World.news_of_block (cs := #[Value.string ⟨#[108, 101, 115, 115]⟩, .string ⟨#[]⟩, .int .i64 0, .string ⟨xl.toArray⟩, .string ⟨#[]⟩, .int .i64 0, .int .i64 0, .string ⟨p1.toArray⟩, .int .i64 p2, .int .i64 p3, .string ⟨#[]⟩, .int .i64 0, .int .i64 0, .int .i64 (((am : Nat) : Int) - xn)]) (t := 69) (fr := (0, 0)) (show (World.drew _).heap[_]? = _ from heap_alloc_new v _)) HS1.out (by omega) (by unfold maxLen; omega) (by omega) (by have := K4.out.size; have := row_lt HF4.out; simp; omega) _ rfl ?_; intro gg cap' w5 hown5 hgrow hat hlt5)
              all_goals
                have HO5 := Lib.hid hown5
                have hlt4 := row_lt HF4.out
                have B5 := Lib.hid ((K4.out.alloc (by have := K4.out.size; omega) _).drew.grown hgrow (by have := K4.out.size; simp; omega) (fun b hb => by have := (HO4.out.lt b hb).1; omega))
                have HF5 := Lib.hid ((hgrow.block w.heap.size (by simp; omega) (fun e => by have := (HO4.out.lt _ e.symm).1; omega)).trans ((show (World.drew _).heap[_]? = _ from heap_alloc_old _ _ hlt4).trans HF4.out))
                clear hown5 hgrow hat hlt5 hlt4 e0 e1 e2 e3 e4
                obtain ⟨-, e0, e1, e2, e3, e4⟩ := HUP.out w5 B5.out
                go_wp2_with fail
                go_roundw
                case rel =>
                  refine ⟨j + 1, by omega, by go_num, ?_, HF5.out, B5.out⟩
                  show World.ownsRow _ _ _ _ _ _ _
                  rw [HDT1.out, HDX2.out, List.length_append, flatL_append]
                  exact HO5.out
                case measure => simp [intOf]; omega
        · obtain rfl : j = k := by omega
          have hT : l.take j = l := List.take_of_length_le (by rw [← HN.out]; exact Nat.le_refl _)
          rw [hT] at HOW
          obtain ⟨A', c', rfl, hra, hge⟩ := RowAt.of_own encEnt_len HOW.out
          have HRA := Lib.hid hra
          clear hT hra HOW
          go_wp2_with fail
          refine (fine_any _).mono ?_
          rintro e w8 ⟨rfl, b8⟩
          have B8 := Lib.hid (HB.out.trans (b8.mono HB.out.size))
          have HF8 := Lib.hid ((b8.block _ (row_lt HF.out)).trans HF.out)
          have HR8 := Lib.hid (HRA.out.below b8)
          clear b8
          go_wp2_with (refine wpList_store_box rfl 32 _ _ rfl w.heap.size [.int .i64 0, .int .i64 (-1)] rfl rfl 32 [.int .i64 0, .int .i64 0] HF8.out (by kernel_rfl) rfl (by simp [Value.oneCell']) ?_; intro wf hf tf)
          (try simp only [Exit.inBlock, Exit.then])
          refine bodyPost_ret (results_tc rfl _ _ w.heap.size 32 #[.int .i64 0, .int .i64 (-1)] (0, 0) _ rfl hf Tryz.underlying32 rfl (by kernel_rfl)) rfl ?_
          rw [HNN.out]
          exact ⟨⟨A', c', rfl, RowAt_turned HR8.out tf (fun a ha => by have := hge a ha; omega)⟩, B8.out.trans (tf.below (Nat.le_refl _))⟩

theorem diffOf_any {q : Nat} {G R : List Nat} {B : BkV} (A : Option Addr) (cap : Nat) (l : List LineV) {w : World} (H : MBk w q G R B) (hI : BkI B) (hrow : RowAt encLine 5 w A l) (hl : l.length ≤ 100000) (hz : ∀ x ∈ l, x.1.1.length ≤ 1000000000 ∧ x.2.1.length ≤ 1000000000) :
    Calls Tryz.prog 29 #[.pointer (some ⟨q, 0, none⟩), .slice A l.length cap] w fun e w' => RDiffAt (diffB B l) e w' ∧ Below w.heap.size w w' := by
  cases hs : sheetF [] l with
  | none => exact diffOf_well A cap l H hI hrow hl hz hs
  | some f =>
    rw [diffB_some hs]
    exact diffOf_fault A cap l f.1 f.2 hrow hl hz hs
end Go.Proofs.YtphgakobfegpcaaGreatDoor
namespace Go.Proofs.YtphgakobfegpcaaGreatDoor
open Go.RowKit Go.Sort Go.Proofs

/-- Pieces that went of goods: the place of the goods, how many. -/
abbrev GoneV := Nat × Int
def encGone (x : GoneV) : List Value := [.int .i64 (x.1 : Nat), .int .i64 x.2]
def cfGone (x y : GoneV) : Int := Lib.compareInt y.2 x.2
def prs (l : List Int) : List GoneV := l.zipIdx.map fun y => (y.2, y.1)
/-- More went, or as many and it is ahead. -/
def gtG (y x : GoneV) : Bool := decide (x.2 < y.2 ∨ (y.2 = x.2 ∧ y.1 < x.1))
/-- What went ahead of goods, among the first. -/
def aheadN (l : List Int) (i : Nat) (n : Int) : Nat → Int
  | 0 => 0
  | k + 1 => aheadN l i n k + match l[k]? with | some x => if gtG (k, x) (i, n) = true then x else 0 | none => 0
def sumI (l : List Int) : Int := l.foldr (· + ·) 0
def sndS (l : List GoneV) : Int := sumI (l.map (·.2))
def classB (ahead all : Int) : List UInt8 := if all = 0 then [99] else if 100 * ahead < 80 * all then [97] else if 100 * ahead < 95 * all then [98] else [99]
def clsOf (l : List Int) (i : Nat) : List UInt8 := classB (aheadN l i (l[i]?.getD 0) l.length) (sumI l)
def classesL (l : List Int) : List (List UInt8) := (List.range l.length).map (clsOf l)
def outsB (B : BkV) : List Int := B.1.map fun x => x.2.2.1

theorem sumI_append (a b : List Int) : sumI (a ++ b) = sumI a + sumI b := by
  unfold sumI
  induction a with
  | nil => simp
  | cons x r ih => simp only [List.cons_append, List.foldr_cons, ih]; omega
theorem sumI_one (x : Int) : sumI [x] = x := by simp [sumI]
theorem sumI_cons (x : Int) (r : List Int) : sumI (x :: r) = x + sumI r := rfl
theorem sumI_take (l : List Int) (k : Nat) (h : k < l.length) : sumI (l.take (k + 1)) = sumI (l.take k) + l[k] := by
  rw [List.take_succ_eq_append_getElem h, sumI_append, sumI_one]
theorem sumI_nonneg {l : List Int} (h : ∀ x ∈ l, 0 ≤ x) : 0 ≤ sumI l := by
  induction l with
  | nil => exact Int.le_refl _
  | cons x r ih =>
    have h1 := h x List.mem_cons_self
    have h2 := ih fun y hy => h y (List.mem_cons_of_mem _ hy)
    rw [sumI_cons]; omega
theorem sumI_le {l : List Int} {m : Int} (h : ∀ x ∈ l, x ≤ m) : sumI l ≤ m * l.length := by
  induction l with
  | nil => simp [sumI]
  | cons x r ih =>
    have h1 := h x List.mem_cons_self
    have h2 := ih fun y hy => h y (List.mem_cons_of_mem _ hy)
    rw [sumI_cons, List.length_cons, Int.natCast_succ, Int.mul_add, Int.mul_one]
    omega
theorem sumI_take_le {l : List Int} (h : ∀ x ∈ l, 0 ≤ x) (k : Nat) : 0 ≤ sumI (l.take k) ∧ sumI (l.take k) ≤ sumI l := by
  have h1 := sumI_nonneg (l := l.take k) fun x hx => h x (List.mem_of_mem_take hx)
  have h2 := sumI_nonneg (l := l.drop k) fun x hx => h x (List.mem_of_mem_drop hx)
  have h3 := sumI_append (l.take k) (l.drop k)
  rw [List.take_append_drop] at h3
  omega
theorem sumI_mem {l : List Int} (h : ∀ x ∈ l, 0 ≤ x) {x : Int} (hx : x ∈ l) : x ≤ sumI l := by
  induction l with
  | nil => simp at hx
  | cons y r ih =>
    have h1 := h y List.mem_cons_self
    have h2 := sumI_nonneg (l := r) fun z hz => h z (List.mem_cons_of_mem _ hz)
    rw [sumI_cons]
    rcases List.mem_cons.1 hx with rfl | hx
    · omega
    · have := ih (fun z hz => h z (List.mem_cons_of_mem _ hz)) hx; omega
theorem sndS_perm {l l' : List GoneV} (h : l.Perm l') : sndS l = sndS l' := by
  unfold sndS sumI
  induction h with
  | nil => rfl
  | cons x _ ih => simp only [List.map_cons, List.foldr_cons, ih]
  | swap x y l => simp only [List.map_cons, List.foldr_cons]; omega
  | trans _ _ ih1 ih2 => exact ih1.trans ih2
theorem prs_snoc (l : List Int) (x : Int) : prs (l ++ [x]) = prs l ++ [(l.length, x)] := by
  unfold prs
  rw [List.zipIdx_append, List.map_append]
  simp
theorem prs_length (l : List Int) : (prs l).length = l.length := by simp [prs]
theorem prs_get (l : List Int) (k : Nat) (h : k < l.length) : (prs l)[k]'(by rw [prs_length]; exact h) = (k, l[k]) := by simp [prs]
theorem prs_mem {l : List Int} {y : GoneV} (h : y ∈ prs l) : ∃ h : y.1 < l.length, y.2 = l[y.1] := by
  obtain ⟨k, hk, rfl⟩ := List.getElem_of_mem h
  rw [prs_length] at hk
  rw [prs_get l k hk]
  exact ⟨hk, rfl⟩
theorem mem_prs (l : List Int) (k : Nat) (h : k < l.length) : (k, l[k]) ∈ prs l := by
  rw [← prs_get l k h]
  exact List.getElem_mem _
theorem ltGone (a b : GoneV) : ltOf cfGone a b = decide (b.2 < a.2) := by
  unfold ltOf cfGone
  rw [Bool.eq_iff_iff, decide_eq_true_iff, decide_eq_true_iff, cmpI_lt]
theorem swoGone : SWO (ltOf cfGone) where
  irrefl a := by rw [ltGone]; simp
  trans a b c h1 h2 := by rw [ltGone] at *; simp at *; omega
  ntrans a b c h1 h2 := by rw [ltGone] at *; simp at *; omega

theorem gt_tail {l : List Int} : (Stab.srt (ltOf cfGone) (prs l)).Pairwise fun x y => gtG x y = true := by
  refine Stab.rev_ind (P := fun l => (Stab.srt (ltOf cfGone) (prs l)).Pairwise fun x y => gtG x y = true) List.Pairwise.nil (fun l a ih => ?_) l
  rw [prs_snoc, Stab.srt_snoc]
  generalize hS : Stab.srt (ltOf cfGone) (prs l) = S at ih
  have hidx : ∀ y ∈ S, y.1 < l.length := fun y hy => by
    rw [← hS] at hy
    exact (prs_mem ((Stab.srt_perm _ _).mem_iff.1 hy)).1
  obtain ⟨p, hp⟩ : ∃ p : GoneV → Bool, p = fun x => decide (a ≤ x.2) := ⟨_, rfl⟩
  have e : S = S.takeWhile p ++ S.dropWhile p := List.takeWhile_append_dropWhile.symm
  have h1 : ∀ x ∈ S.takeWhile p, a ≤ x.2 := fun x hx => by
    have := List.all_eq_true.1 (List.all_takeWhile (p := p) (l := S)) x hx
    rw [hp] at this
    simpa using this
  have h2 : ∀ x ∈ S.dropWhile p, x.2 < a := by
    have hd : (S.dropWhile p).Pairwise fun x y => gtG x y = true := ih.sublist (List.dropWhile_sublist p)
    intro x hx
    cases hq : S.dropWhile p with
    | nil => rw [hq] at hx; simp at hx
    | cons z r =>
      have hz : p z = false := by
        have := List.head_dropWhile_not p (l := S) (by rw [hq]; simp)
        simpa [hq] using this
      rw [hp] at hz
      simp only [decide_eq_false_iff_not] at hz
      rw [hq] at hx hd
      rcases List.mem_cons.1 hx with rfl | hx
      · omega
      · have := (List.pairwise_cons.1 hd).1 x hx
        unfold gtG at this
        have := of_decide_eq_true this
        omega
  have e2 : Stab.mrg (ltOf cfGone) S [(l.length, a)] = S.takeWhile p ++ (l.length, a) :: S.dropWhile p := by
    conv => lhs; rw [e]
    exact Stab.mrg_put (lt := ltOf cfGone) (l.length, a) (fun x hx => by rw [ltGone]; simpa using h1 x hx) (fun x hx => by rw [ltGone]; simpa using h2 x hx)
  rw [e2]
  rw [e] at ih hidx
  have ih' := List.pairwise_append.1 ih
  refine List.pairwise_append.2 ⟨ih'.1, List.pairwise_cons.2 ⟨fun y hy => ?_, ih'.2.1⟩, fun x hx y hy => ?_⟩
  · unfold gtG
    exact decide_eq_true (.inl (h2 y hy))
  · rcases List.mem_cons.1 hy with rfl | hy
    · have := h1 x hx
      have := hidx x (List.mem_append_left _ hx)
      unfold gtG
      exact decide_eq_true (show a < x.2 ∨ (x.2 = a ∧ x.1 < l.length) by omega)
    · exact ih'.2.2 x hx y hy
theorem take_filter {S : List GoneV} (h : S.Pairwise fun x y => gtG x y = true) (j : Nat) (hj : j < S.length) : S.filter (fun y => gtG y S[j]) = S.take j := by
  have e : S = S.take j ++ S[j] :: S.drop (j + 1) := by rw [← List.drop_eq_getElem_cons hj, List.take_append_drop]
  have hp : (S.take j ++ S[j] :: S.drop (j + 1)).Pairwise fun x y => gtG x y = true := by rw [← e]; exact h
  generalize hx : S[j] = x at e hp
  obtain ⟨h1, h2, h3⟩ := List.pairwise_append.1 hp
  have h4 := List.pairwise_cons.1 h2
  conv => lhs; rw [e]
  rw [List.filter_append, List.filter_cons_of_neg (by unfold gtG; simp), List.filter_eq_self.2 fun y hy => h3 y hy x List.mem_cons_self, List.filter_eq_nil_iff.2 fun y hy => ?_, List.append_nil]
  have := h4.1 y hy
  unfold gtG at this ⊢
  have := of_decide_eq_true this
  simp only [decide_eq_true_eq]
  omega
theorem ahead_congr (l : List Int) (x : Int) (i : Nat) (n : Int) : ∀ k, k ≤ l.length → aheadN (l ++ [x]) i n k = aheadN l i n k
  | 0, _ => rfl
  | k + 1, h => by
    unfold aheadN
    rw [ahead_congr l x i n k (by omega), List.getElem?_append_left (by omega)]
theorem ahead_filter (i : Nat) (n : Int) (l : List Int) : aheadN l i n l.length = sndS ((prs l).filter fun y => gtG y (i, n)) := by
  refine Stab.rev_ind (P := fun l => aheadN l i n l.length = sndS ((prs l).filter fun y => gtG y (i, n))) rfl (fun l x ih => ?_) l
  rw [prs_snoc, List.filter_append, List.length_append, List.length_singleton]
  unfold sndS at ih ⊢
  rw [List.map_append, sumI_append, ← ih]
  conv => lhs; unfold aheadN
  rw [ahead_congr l x i n _ (Nat.le_refl _), List.getElem?_append_right (Nat.le_refl _), Nat.sub_self]
  by_cases h : gtG (l.length, x) (i, n) = true
  · simp [h, sumI]
  · simp [h, sumI]
/-- What went ahead in the order of what went, is what went ahead of goods. -/
theorem ahead_srt (l : List Int) (j : Nat) (hj : j < (Stab.srt (ltOf cfGone) (prs l)).length) : sndS ((Stab.srt (ltOf cfGone) (prs l)).take j) = aheadN l (Stab.srt (ltOf cfGone) (prs l))[j].1 (Stab.srt (ltOf cfGone) (prs l))[j].2 l.length := by
  rw [ahead_filter]
  have h := take_filter (gt_tail (l := l)) j hj
  rw [← h]
  exact sndS_perm ((Stab.srt_perm _ _).filter _)
theorem sndS_take (S : List GoneV) (j : Nat) (hj : j < S.length) : sndS (S.take (j + 1)) = sndS (S.take j) + S[j].2 := by
  unfold sndS
  rw [List.take_succ_eq_append_getElem hj, List.map_append, sumI_append]
  simp [sumI]
theorem srt_idx (l : List Int) (j : Nat) (hj : j < (Stab.srt (ltOf cfGone) (prs l)).length) : ∃ h : (Stab.srt (ltOf cfGone) (prs l))[j].1 < l.length, (Stab.srt (ltOf cfGone) (prs l))[j].2 = l[(Stab.srt (ltOf cfGone) (prs l))[j].1] :=
  prs_mem ((Stab.srt_perm _ _).mem_iff.1 (List.getElem_mem hj))
theorem srt_all (l : List Int) (i : Nat) (hi : i < l.length) : ∃ j, ∃ h : j < (Stab.srt (ltOf cfGone) (prs l)).length, (Stab.srt (ltOf cfGone) (prs l))[j].1 = i := by
  have hm := (Stab.srt_perm (ltOf cfGone) (prs l)).mem_iff.2 (mem_prs l i hi)
  obtain ⟨j, hj, e⟩ := List.getElem_of_mem hm
  exact ⟨j, hj, by rw [e]⟩
/-- The class of the j-th in the order of what went. -/
theorem cls_srt (l : List Int) (j : Nat) (hj : j < (Stab.srt (ltOf cfGone) (prs l)).length) : clsOf l (Stab.srt (ltOf cfGone) (prs l))[j].1 = classB (sndS ((Stab.srt (ltOf cfGone) (prs l)).take j)) (sumI l) := by
  obtain ⟨h1, h2⟩ := srt_idx l j hj
  unfold clsOf
  rw [ahead_srt, h2, List.getElem?_eq_getElem h1]
  rfl

/-! The law, plainly. -/
theorem class_abc (a n : Int) : classB a n = [97] ∨ classB a n = [98] ∨ classB a n = [99] := by
  unfold classB
  repeat' split
  all_goals simp
theorem class_mono {a b n : Int} (h : a ≤ b) : ltB (classB b n) (classB a n) = false := by
  unfold classB
  by_cases h0 : n = 0
  · rw [if_pos h0, if_pos h0]; decide
  rw [if_neg h0, if_neg h0]
  by_cases h1 : 100 * b < 80 * n
  · rw [if_pos h1, if_pos (by omega)]; decide
  rw [if_neg h1]
  by_cases h2 : 100 * b < 95 * n
  · rw [if_pos h2]
    split
    · decide
    · rw [if_pos (by omega)]; decide
  · rw [if_neg h2]
    repeat' split
    all_goals decide
theorem ahead_mono {l : List Int} (h0 : ∀ x ∈ l, 0 ≤ x) {i k : Nat} {n m : Int} (h : n < m) : ∀ q, aheadN l k m q ≤ aheadN l i n q
  | 0 => Int.le_refl _
  | q + 1 => by
    have ih := ahead_mono h0 (i := i) (k := k) h q
    unfold aheadN
    cases hq : l[q]? with
    | none => simp only; omega
    | some x =>
      have hx := h0 x (List.mem_of_getElem? hq)
      simp only
      by_cases h1 : gtG (q, x) (k, m) = true
      · have h2 : gtG (q, x) (i, n) = true := by
          unfold gtG at *
          have := of_decide_eq_true h1
          simp only at this
          exact decide_eq_true (by simp only; omega)
        rw [if_pos h1, if_pos h2]
        omega
      · rw [if_neg h1]
        split <;> omega
theorem cls_mono {l : List Int} (h0 : ∀ x ∈ l, 0 ≤ x) {i k : Nat} (hi : i < l.length) (hk : k < l.length) (h : l[i] < l[k]) : ltB (clsOf l i) (clsOf l k) = false := by
  unfold clsOf
  rw [List.getElem?_eq_getElem hi, List.getElem?_eq_getElem hk]
  exact class_mono (ahead_mono h0 h _)
theorem cls_any {l : List Int} (h0 : ∀ x ∈ l, 0 ≤ x) : (∃ i, ∃ h : i < l.length, 0 < l[i]) ↔ ∃ i, i < l.length ∧ clsOf l i = [97] := by
  constructor
  · rintro ⟨i, hi, hp⟩
    have hs : 0 < sumI l := Int.lt_of_lt_of_le hp (sumI_mem h0 (List.getElem_mem hi))
    have hl : 0 < (Stab.srt (ltOf cfGone) (prs l)).length := by rw [Stab.srt_length, prs_length]; omega
    refine ⟨_, (srt_idx l 0 hl).1, ?_⟩
    rw [cls_srt l 0 hl]
    unfold classB
    have e : sndS ((Stab.srt (ltOf cfGone) (prs l)).take 0) = 0 := rfl
    rw [e, if_neg (by omega), if_pos (by omega)]
  · rintro ⟨i, hi, hc⟩
    refine Classical.byContradiction fun hn => ?_
    have hz : ∀ x ∈ l, x ≤ 0 := fun x hx => by
      obtain ⟨k, hk, rfl⟩ := List.getElem_of_mem hx
      exact Int.not_lt.1 fun h => hn ⟨k, hk, h⟩
    have h1 := sumI_le hz
    have h2 := sumI_nonneg h0
    have hs : sumI l = 0 := by omega
    unfold clsOf classB at hc
    rw [hs, if_pos rfl] at hc
    cases hc
/-- What went of a book's goods. -/
theorem BkI.outs {B : BkV} (h : BkI B) : (∀ x ∈ outsB B, 0 ≤ x) ∧ (∀ x ∈ outsB B, x ≤ 65970697666560) ∧ (outsB B).length ≤ 30 := by
  refine ⟨fun x hx => ?_, fun x hx => ?_, by unfold outsB; rw [List.length_map]; exact h.gfew⟩
  · obtain ⟨y, hy, rfl⟩ := List.mem_map.1 hx
    exact (h.gok y hy).2.2.2.1
  · obtain ⟨y, hy, rfl⟩ := List.mem_map.1 hx
    exact (h.gok y hy).2.2.2.2.1
theorem BkI.sums_at {B : BkV} (h : BkI B) (k : Nat) (hk : k < B.1.length) : sumsOf B B.1[k].1.1 = B.1[k].2 := by
  unfold sumsOf
  rw [show fG B B.1[k].1.1 = some B.1[k] from find_is (fun y : GoS => y.1.1) h.gs (List.getElem_mem hk)]
end Go.Proofs.YtphgakobfegpcaaGreatDoor
namespace Go.Proofs.YtphgakobfegpcaaGreatDoor
open Go.RowKit

theorem run_append_strs (w : World) (base : Nat) (v : Value) (n : Nat) (xs : List Value) (hown : w.ownsRow base 9 1 v n xs) (A : Option Addr) (c : Nat) (ys : List (List UInt8)) (hS : StrsAt w A ys) (hn : n + ys.length ≤ 1000000000) (hbase : base ≤ w.heap.size) (ty : TypeId) :
    ∃ v' w', (Builtin.append_ #[44, 44] ty #[v, .slice A ys.length c]).run Tryz.prog w = .ok v' w' ∧ w'.ownsRow base 9 1 v' (n + ys.length) (xs ++ strVals ys) ∧ w.grownBy w' v.ownBlock := by
  obtain ⟨i, hi, hz, hs1, hb1⟩ := info_parts stringInfo1
  have ht := Tryz.underlying44
  cases A with
  | none =>
    have h0 : ys = [] := by
      rcases hS with h | ⟨b, o, h, _⟩
      · exact h
      · cases h
    subst h0
    refine ⟨v, w, ?_, by simpa [strVals] using hown, World.grownBy.refl w _⟩
    rcases hown.2 with ⟨rfl, rfl⟩ | ⟨g, cap, cur, rfl, _, _, hnc, _⟩
    · simp [Builtin.append_, run_underlying ht, sizeOf, typeInfo, hi, Builtin.lenOf, Builtin.firstCells]
    · simp [Builtin.append_, run_underlying ht, sizeOf, typeInfo, hi, Builtin.lenOf, Builtin.firstCells, hnc, storeCells]
  | some ad =>
    have hc : ∀ j u, (strVals ys)[j]? = some u → w.cell? (ad.add j) = some u := by
      intro j u hj
      have hjl : j < ys.length := by simpa [strVals] using (List.getElem?_eq_some_iff.1 hj).1
      rcases hS with h | ⟨b, o, h, _, h3⟩
      · subst h; simp at hjl
      · cases h
        have hplain : (⟨b, o, none⟩ : Addr).add j = ⟨b, o + j, none⟩ := by unfold Addr.add; split <;> simp_all
        rw [hplain, h3 j hjl]
        simp [strVals, List.getElem?_eq_getElem hjl] at hj
        rw [← hj]
    obtain ⟨v', w', h1, h2, h3, _, _⟩ := run_append_own_at (P := Tryz.prog) w base 44 ty 9 i (.string ⟨#[]⟩) 1 16 ht hi hz hs1 hb1 rfl (by decide) v n xs hown ad ys.length c (strVals ys) (by simp [strVals]) hc (by simp [strVals, Value.oneCell']) (by unfold maxLen; omega) (by omega) hbase
    exact ⟨v', w', h1, h2, h3⟩
theorem wpList_append_strs {ops : Array Oper} {rest : List Oper} {o : Oper} {a : Act} {Q : Exit → Act → World → Prop} (w : World) (hgd : o.guard = none) (s x : Operand)
    (ho : o.op = .call { callee := .builtin .append, args := #[s, x], argTypes := #[44, 44] })
    (base : Nat) (v : Value) (n : Nat) (xs : List Value) (hs : a.eval s = v) (hown : w.ownsRow base 9 1 v n xs) (A : Option Addr) (c : Nat) (ys : List (List UInt8)) (hx : a.eval x = .slice A ys.length c) (hS : StrsAt w A ys) (hn : n + ys.length ≤ 1000000000) (hbase : base ≤ w.heap.size)
    (h : ∀ v' w', Hid (w'.ownsRow base 9 1 v' (n + ys.length) (xs ++ strVals ys)) → Below base w w' → wpList Tryz.prog ops Q rest (a.put o.dst v') w') : wpList Tryz.prog ops Q (o :: rest) a w := by
  refine wpList_plain hgd fun K hK => ?_
  obtain ⟨v', w', hr, h2, h3⟩ := run_append_strs w base v n xs hown A c ys hS hn hbase o.type
  unfold Oper.wp execOp
  simp only [ho, resolve, invoke, builtin, Sem.run_bind, Sem.run_pure, Result.andThen_ok, List.map_toArray, List.map_cons, List.map_nil, hs, hx, hr]
  exact hK _ _ (h v' w' h2 ((Below.refl base w).grown h3 hbase (fun j hj => (hown.lt j hj).1)))
theorem StrsAt.belowB {w w' : World} {A : Option Addr} {xs : List (List UInt8)} {B : Nat} (h : StrsAt w A xs) (hb : Below B w w') (hA : ∀ a, A = some a → a.block < B) : StrsAt w' A xs := by
  rcases h with h | ⟨b, o, h1, h2, h3⟩
  · exact .inl h
  · exact .inr ⟨b, o, h1, Nat.lt_of_lt_of_le h2 hb.size, fun i hi => (hb.cell (p := ⟨b, o + i, none⟩) (show b < B from hA _ h1)).trans (h3 i hi)⟩
theorem StrsAt.lt {w : World} {A : Option Addr} {xs : List (List UInt8)} (h : StrsAt w A xs) (hx : xs ≠ []) : ∀ a, A = some a → a.block < w.heap.size := by
  rcases h with h | ⟨b, o, h1, h2, _⟩
  · exact absurd h hx
  · intro a ha
    rw [h1] at ha
    cases ha
    exact h2
end Go.Proofs.YtphgakobfegpcaaGreatDoor
