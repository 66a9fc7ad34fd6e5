/- Counts: the document's SheetFault. Printed by gen/rsht.py. The document's book: what it holds, read. -/
import Derived.Deep.CutBlock
import Derived.BigQuiet
import Derived.Test.YtphgakobfegpcaaGreatDoorM04
import Derived.Test.YtphgakobfegpcaaGreatDoorM10
import Derived.Test.YtphgakobfegpcaaGreatDoorM29
import Derived.Test.YtphgakobfegpcaaGreatDoorLCountDiffs01
import Derived.Test.YtphgakobfegpcaaGreatDoorLCountDiffs02
namespace Go.Proofs.YtphgakobfegpcaaGreatDoor
open Go.RowKit Go.Sort Go.Proofs

/-- A fault, as the document tells it. -/
def fltC : Option (Nat × Nat) → Value
  | none => .agg #[.int .i64 0, .int .i64 (-1)]
  | some f => .agg #[.int .i64 (f.1 : Nat), .int .i64 (f.2 : Nat)]
/-- The error of a line alone. -/
def lone1 (x : LineV) : Nat := if placeE x.1 ≠ 0 then placeE x.1 else if nameB x.2.1 = false then 5 else if wiB x.2.2 0 1099511627776 = false then 2 else 0
theorem lineE_lone (done : List LineV) (x : LineV) : lineE done x = if lone1 x ≠ 0 then lone1 x else if done.any (isAt x.1 x.2.1) = true then 7 else 0 := by
  unfold lineE lone1
  by_cases h1 : placeE x.1 ≠ 0
  · rw [if_pos h1, if_pos h1, if_pos h1]
  · rw [if_neg h1, if_neg h1]
    by_cases h2 : nameB x.2.1 = false
    · rw [if_pos h2, if_pos h2, if_pos (by decide)]
    · rw [if_neg h2, if_neg h2]
      by_cases h3 : wiB x.2.2 0 1099511627776 = false
      · rw [if_pos h3, if_pos h3, if_pos (by decide)]
      · rw [if_neg h3, if_neg h3, if_neg (show ¬ (0 : Nat) ≠ 0 by decide)]

set_option maxHeartbeats 3200000 in
set_option maxRecDepth 100000 in
theorem sheetFault_any (A : Option Addr) (cap : Nat) (l : List LineV) (w : World) (hrow : RowAt encLine 5 w A l) (hl : l.length ≤ 100000) (hz : ∀ x ∈ l, x.1.1.length ≤ 1000000000 ∧ x.2.1.length ≤ 1000000000) :
    Calls Tryz.prog 23 #[.slice A l.length cap] w fun e w' => e = .returned (fltC (sheetF [] l)) ∧ Below w.heap.size w w' := by
  have HR := Lib.hid (fun W (h : Below w.heap.size w W) => hrow.below h)
  have HST := Lib.hid (sheet_step l)
  have HZ := Lib.hid hz
  have HLE := Lib.hid (lineE_lone)
  obtain ⟨r, hr⟩ : ∃ r, r = sheetF [] l := ⟨_, rfl⟩
  have HR0 := Lib.hid hr
  rw [← hr]
  obtain ⟨N, hN⟩ : ∃ N, N = l.length := ⟨_, rfl⟩
  have HN := Lib.hid hN
  rw [← hN] at hl ⊢
  have h0 := heap_alloc_new w (.cells #[.int .i64 0, .int .i64 0] 32)
  have b0 := below_one w (.cells #[.int .i64 0, .int .i64 0] 32)
  have H0 := Lib.hid h0
  have B0 := Lib.hid b0
  clear hr hrow hN hz h0 b0
  go_enter Tryz.func23, Tryz.ntmps23
  go_upto_region 1 with fail
  generalize w.alloc (.cells #[.int .i64 0, .int .i64 0] 32) = W0 at H0 B0 ⊢
  go_wp2_with fail
  go_loopw [3] (fun i wr => ∃ k : Nat, k ≤ N ∧ i = .int .i64 k ∧ Hid (r = sheetF (l.take k) (l.drop k)) ∧ Hid (wr.heap[w.heap.size]? = some (.cells #[.int .i64 0, .int .i64 0] 32 (0, 0))) ∧ Hid (Below w.heap.size w wr)) (fun i _ => N - (intOf i).toNat)
  case atStart => exact ⟨0, by omega, rfl, by show _ = _; rw [HR0.out]; rfl, H0.out, B0.out⟩
  case round =>
    obtain ⟨k, hk, rfl, HS, HF, HB⟩ := hrel
    by_cases hkN : k < N
    · have hkx : k < l.length := by rw [← HN.out]; exact hkN
      have hst := HS.out.trans (HST.out k hkx)
      rw [HLE.out] at hst
      obtain ⟨g, o, rfl, lg, cg⟩ := HR.out w (Below.refl _ _) |>.resolve_left (fun h => by rw [h] at hkx; simp at hkx)
      obtain ⟨x, hx⟩ : ∃ x, x = l[k] := ⟨_, rfl⟩
      rw [← hx] at hst
      obtain ⟨z1, z2⟩ := HZ.out x (by rw [hx]; exact List.getElem_mem hkx)
      have HPE := Lib.hid (fun W => refPlaceE_any x.1 z1 W)
      have HNM := Lib.hid (fun W => isName_any x.2.1 z2 W)
      have HCX : Hid (∀ W, Below w.heap.size w W → ∀ c v, (encLine x)[c]? = some v → W.cell? ⟨g, o + k * 5 + c, none⟩ = some v) := fun W hb c v hv =>
        (hb.cell (p := ⟨g, o + k * 5 + c, none⟩) lg).trans (cg k hkx c v (by rw [← hx]; exact hv))
      have HCY : Hid (∀ j (h : j < l.length) W, Below w.heap.size w W → ∀ c v, (encLine l[j])[c]? = some v → W.cell? ⟨g, o + j * 5 + c, none⟩ = some v) := fun j hj W hb c v hv =>
        (hb.cell (p := ⟨g, o + j * 5 + c, none⟩) lg).trans (cg j hj c v hv)
      have HXE := Lib.hid hx
      have HRK := Lib.hid hst
      have hlone : lone1 x = if placeE x.1 ≠ 0 then placeE x.1 else if nameB x.2.1 = false then 5 else if wiB x.2.2 0 1099511627776 = false then 2 else 0 := rfl
      have HLO := Lib.hid hlone
      obtain ⟨⟨p1, p2, p3⟩, x4, xn⟩ := x
      have hUP : ∀ W, Below w.heap.size w W → W.cell? ⟨g, o + k * 5, none⟩ = some (.string ⟨p1.toArray⟩) ∧ W.cell? ⟨g, o + k * 5 + 1, none⟩ = some (.int .i64 p2) ∧ W.cell? ⟨g, o + k * 5 + 2, none⟩ = some (.int .i64 p3) ∧ W.cell? ⟨g, o + k * 5 + 3, none⟩ = some (.string ⟨x4.toArray⟩) ∧ W.cell? ⟨g, o + k * 5 + 4, none⟩ = some (.int .i64 xn) := fun W hb => by
        have h := HCX.out W hb
        exact ⟨h 0 _ rfl, h 1 _ rfl, h 2 _ rfl, h 3 _ rfl, h 4 _ rfl⟩
      have HUP := Lib.hid hUP
      have hk0 : (0 : Int) ≤ (k : Nat) := by omega
      have hk1 : ((k : Nat) : Int) < (N : Nat) := by omega
      simp only [encPlace] at HPE
      simp only at HNM HLO
      clear hx cg hst z1 z2 hlone hUP HS HCX
      obtain ⟨c0, c1, c2, c3, c4⟩ := HUP.out wr HB.out
      generalize placeE (p1, p2, p3) = pe at HPE HLO
      generalize nameB x4 = nm at HNM HLO
      go_wp2_with fail
      refine (HPE.out wr).mono ?_
      rintro e w1 ⟨rfl, b1⟩
      have B1 := Lib.hid (HB.out.trans (b1.mono HB.out.size))
      have HF1 := Lib.hid ((b1.block _ (row_lt HF.out)).trans HF.out)
      clear b1 c0 c1 c2 c3 c4 HPE HF HB
      obtain ⟨c0, c1, c2, c3, c4⟩ := HUP.out w1 B1.out
      go_wp2_with fail
      refine (HNM.out w1).mono ?_
      rintro e w2 ⟨rfl, rfl⟩
      clear HNM
      obtain ⟨e1, he1⟩ : ∃ e1, e1 = lone1 ((p1, p2, p3), x4, xn) := ⟨_, rfl⟩
      rw [← he1] at HRK HLO
      obtain ⟨ea, hea⟩ : ∃ ea, ea = (if pe ≠ 0 then pe else if nm = false then 5 else 0) := ⟨_, rfl⟩
      have HEA := Lib.hid hea
      have HLO2 : Hid (e1 = if ea ≠ 0 then ea else if wiB xn 0 1099511627776 = false then 2 else 0) := by
        show _ = _
        rw [HLO.out, hea]
        by_cases hp : pe = 0
        · cases nm <;> simp [hp]
        · simp [hp]
      clear he1 hea HLO
      obtain ⟨ba, hba⟩ : ∃ ba, ba = (decide (pe = 0) && !nm) := ⟨_, rfl⟩
      have HBA := Lib.hid hba
      clear hba
      go_upto_region 6 with fail
      go_cut [30] from 25 to 30 (fun s30 wx => s30 = .bool ba ∧ w1 = wx)
      case first =>
        by_cases hp : pe = 0
        · have hpb : (((pe : Nat) : Int) == 0) = true := by simp [hp]
          cases nm with
          | false =>
            have HE : Hid (ba = true) := HBA.out.trans (by simp [hp])
            clear hp
            go_wp2_with fail
            go_meet
            exact ⟨by rw [HE.out], rfl⟩
          | true =>
            have HE : Hid (ba = false) := HBA.out.trans (by simp)
            clear hp
            go_wp2_with fail
            go_meet
            exact ⟨by rw [HE.out], rfl⟩
        · have hpb : (((pe : Nat) : Int) == 0) = false := by simpa using hp
          have HE : Hid (ba = false) := HBA.out.trans (by simp [hp])
          clear hp
          go_wp2_with fail
          go_meet
          exact ⟨by rw [HE.out], rfl⟩
      case rest =>
       obtain ⟨rfl, rfl⟩ := hcut
       go_upto_if 30 with fail
       go_cut [4] (fun s4 wx => s4 = .int .i64 (ea : Nat) ∧ w1 = wx)
       case first =>
        cases ba with
        | true =>
          have HE : Hid (ea = 5) := by
            have h := HBA.out.symm
            simp only [Bool.and_eq_true, decide_eq_true_eq, Bool.not_eq_true'] at h
            show _ = _
            rw [HEA.out, h.1, h.2]
            rfl
          go_wp2_with fail
          go_meet
          exact ⟨by rw [HE.out]; rfl, rfl⟩
        | false =>
          have HE : Hid (ea = pe) := by
            have h := HBA.out.symm
            show _ = _
            rw [HEA.out]
            by_cases hp : pe = 0
            · cases nm
              · simp [hp] at h
              · simp [hp]
            · simp [hp]
          go_wp2_with fail
          go_meet
          exact ⟨by rw [HE.out], rfl⟩
       case rest =>
       obtain ⟨rfl, rfl⟩ := hcut
       clear HEA HBA
       obtain ⟨bb, hbb⟩ : ∃ bb, bb = (decide (ea = 0) && !(wiB xn 0 1099511627776)) := ⟨_, rfl⟩
       have HBB := Lib.hid hbb
       clear hbb
       go_upto_region 8 with fail
       go_cut [48] from 31 to 48 (fun s48 wx => s48 = .bool bb ∧ w1 = wx)
       case first =>
        by_cases hp : ea = 0
        · have hpb : (((ea : Nat) : Int) == 0) = true := by simp [hp]
          by_cases h1 : xn < 0
          · have HE : Hid (bb = true) := HBB.out.trans (by unfold wiB; rw [decide_eq_true hp, decide_eq_false (by omega)]; rfl)
            clear hp
            go_wp2_with fail
            go_meet
            exact ⟨by rw [HE.out], rfl⟩
          · by_cases h2 : 1099511627776 < xn
            · have HE : Hid (bb = true) := HBB.out.trans (by unfold wiB; rw [decide_eq_true hp, decide_eq_false (by omega)]; rfl)
              clear hp
              go_wp2_with fail
              go_meet
              exact ⟨by rw [HE.out], rfl⟩
            · have HE : Hid (bb = false) := HBB.out.trans (by unfold wiB; rw [decide_eq_true hp, decide_eq_true (by omega)]; rfl)
              clear hp
              go_wp2_with fail
              go_meet
              exact ⟨by rw [HE.out], rfl⟩
        · have hpb : (((ea : Nat) : Int) == 0) = false := by simpa using hp
          have HE : Hid (bb = false) := HBB.out.trans (by rw [decide_eq_false hp]; rfl)
          clear hp
          go_wp2_with fail
          go_meet
          exact ⟨by rw [HE.out], rfl⟩
       case rest =>
       obtain ⟨rfl, rfl⟩ := hcut
       go_upto_if 48 with fail
       go_cut [4] (fun s4 wx => s4 = .int .i64 (e1 : Nat) ∧ w1 = wx)
       case first =>
        cases bb with
        | true =>
          have HE : Hid (e1 = 2) := by
            have h := HBB.out.symm
            simp only [Bool.and_eq_true, decide_eq_true_eq, Bool.not_eq_true'] at h
            show _ = _
            rw [HLO2.out, h.1, h.2]
            rfl
          go_wp2_with fail
          go_meet
          exact ⟨by rw [HE.out]; rfl, rfl⟩
        | false =>
          have HE : Hid (e1 = ea) := by
            have h := HBB.out.symm
            show _ = _
            rw [HLO2.out]
            by_cases hp : ea = 0
            · cases hw : wiB xn 0 1099511627776
              · simp [hp, hw] at h
              · simp [hp]
            · simp [hp]
          go_wp2_with fail
          go_meet
          exact ⟨by rw [HE.out], rfl⟩
       case rest =>
        obtain ⟨rfl, rfl⟩ := hcut
        clear HBB
        clear HLO2 c0 c1 c2 c3 c4
        obtain ⟨tr, htr⟩ : ∃ tr, tr = (if e1 ≠ 0 then e1 else if (l.take k).any (isAt (p1, p2, p3) x4) = true then 7 else 0) := ⟨_, rfl⟩
        have HRK2 : Hid (r = if tr ≠ 0 then some (tr, k) else sheetF (l.take (k + 1)) (l.drop (k + 1))) := by
          show _ = _
          rw [htr]
          exact HRK.out
        have HTR := Lib.hid htr
        clear htr HRK
        by_cases h0 : e1 = 0
        · have hei : ((e1 : Nat) : Int) = 0 := by omega
          rw [hei]
          have HTR2 := Lib.hid (HTR.out.trans (if_neg (by simpa using h0)))
          clear HTR h0 hei
          go_wp2_with fail
          go_loopw [4, 6] (fun s4 s6 wr => ∃ j : Nat, j ≤ k ∧ s6 = .int .i64 j ∧ ((s4 = .int .i64 0 ∧ Hid (∀ i (h : i < l.length), i < j → isAt (p1, p2, p3) x4 l[i] = false)) ∨ (s4 = .int .i64 7 ∧ 0 < j ∧ Hid (tr = 7))) ∧ Hid (Below w1.heap.size w1 wr)) (fun _ s6 _ => k - (intOf s6).toNat)
          case atStart => exact ⟨0, by omega, rfl, .inl ⟨rfl, fun i _ h => absurd h (Nat.not_lt_zero _)⟩, Below.refl _ _⟩
          case round =>
            obtain ⟨j, hj, rfl, hcase, HBJ⟩ := hrel
            rcases hcase with ⟨rfl, HNO⟩ | ⟨rfl, hj0, HT7⟩
            · by_cases hjk : j < k
              · have hjx : j < l.length := by omega
                have hbw := B1.out.trans (HBJ.out.mono B1.out.size)
                have hcy := HCY.out j hjx wr hbw
                obtain ⟨c0, c1, c2, c3, c4⟩ := HUP.out wr hbw
                have hq := fun W => eqPlace l[j].1 (p1, p2, p3) W
                have hia : isAt (p1, p2, p3) x4 l[j] = decide (l[j].1 = (p1, p2, p3) ∧ l[j].2.1 = x4) := rfl
                obtain ⟨y, hy⟩ : ∃ y, y = l[j] := ⟨_, rfl⟩
                rw [← hy] at hcy hq hia
                have HY := Lib.hid hy
                obtain ⟨⟨y1, y2, y3⟩, y4, yn⟩ := y
                have d0 := hcy 0 _ rfl
                have d1 := hcy 1 _ rfl
                have d2 := hcy 2 _ rfl
                have d3 := hcy 3 _ rfl
                simp only [Nat.add_zero] at d0
                simp only [encPlace] at hq
                simp only at hia
                have HIA := Lib.hid hia
                have hj0 : (0 : Int) ≤ (j : Nat) := by omega
                have hj1 : ((j : Nat) : Int) < (N : Nat) := by omega
                have hj2 : ((j : Nat) : Int) < (k : Nat) := by omega
                have HNX : Hid (isAt (p1, p2, p3) x4 l[j] = false → ∀ i (h : i < l.length), i < j + 1 → isAt (p1, p2, p3) x4 l[i] = false) := fun hf i hi hij => by
                  rcases Nat.lt_succ_iff_lt_or_eq.1 hij with h | rfl
                  · exact HNO.out i hi h
                  · exact hf
                rw [← HY.out] at HNX
                clear hy hcy hia hbw
                by_cases hp : ((y1, y2, y3) : PlaceV) = (p1, p2, p3)
                · rw [decide_eq_true hp] at hq
                  by_cases h4 : y4 = x4
                  · have h4b : (y4 == x4) = true := by simpa using h4
                    have HT7 : Hid (tr = 7) := by
                      show _ = _
                      rw [HTR2.out, if_pos]
                      refine List.any_eq_true.2 ⟨l[j], List.mem_iff_getElem.2 ⟨j, by rw [List.length_take]; omega, by rw [List.getElem_take]⟩, ?_⟩
                      · rw [← HY.out, HIA.out]; exact decide_eq_true ⟨hp, h4⟩
                    clear hp h4 HNX HIA
                    go_wp2_with fail
                    go_quiet (fail)
                    go_wp2_with fail
                    go_roundw
                    case rel => exact ⟨j + 1, by omega, by go_num, .inr ⟨rfl, by omega, HT7.out⟩, below_drewN HBJ.out _⟩
                    case measure => simp [intOf]; omega
                  · have h4b : (y4 == x4) = false := by simpa using h4
                    have HNX2 := Lib.hid (HNX.out (by rw [HIA.out]; exact decide_eq_false fun e => h4 e.2))
                    clear hp h4 HNX HIA
                    go_wp2_with fail
                    go_quiet (fail)
                    go_wp2_with fail
                    go_roundw
                    case rel => exact ⟨j + 1, by omega, by go_num, .inl ⟨rfl, HNX2.out⟩, below_drewN HBJ.out _⟩
                    case measure => simp [intOf]; omega
                · rw [decide_eq_false hp] at hq
                  have HNX2 := Lib.hid (HNX.out (by rw [HIA.out]; exact decide_eq_false fun e => hp e.1))
                  clear hp HNX HIA
                  go_wp2_with fail
                  go_quiet (fail)
                  go_wp2_with fail
                  go_roundw
                  case rel => exact ⟨j + 1, by omega, by go_num, .inl ⟨rfl, HNX2.out⟩, below_drewN HBJ.out _⟩
                  case measure => simp [intOf]; omega
              · obtain rfl : j = k := by omega
                have HT0 : Hid (tr = 0) := by
                  show _ = _
                  rw [HTR2.out, if_neg]
                  rw [List.any_eq_true]
                  rintro ⟨y, hy, h⟩
                  obtain ⟨i, hi, rfl⟩ := List.getElem_of_mem hy
                  rw [List.length_take] at hi
                  rw [List.getElem_take, HNO.out i (by omega) (by omega)] at h
                  cases h
                have HRK3 := Lib.hid (HRK2.out.trans (if_neg (by rw [HT0.out]; simp)))
                have HF9 := Lib.hid ((HBJ.out.block _ (row_lt HF1.out)).trans HF1.out)
                have HB9 := Lib.hid (B1.out.trans (HBJ.out.mono B1.out.size))
                clear HRK2 HTR2 HT0 HBJ HNO
                go_wp2_with fail
                go_roundw
                case rel => exact ⟨j + 1, by omega, by go_num, HRK3.out, HF9.out, HB9.out⟩
                case measure => simp [intOf]; omega
            · have HRK3 := Lib.hid (HRK2.out.trans (if_pos (by rw [HT7.out]; simp)))
              have HF9 := Lib.hid ((HBJ.out.block _ (row_lt HF1.out)).trans HF1.out)
              have HB9 := Lib.hid (B1.out.trans (HBJ.out.mono B1.out.size))
              have HRK4 : Hid (r = some (7, k)) := by
                show _ = _
                rw [HRK3.out, HT7.out]
              clear HRK2 HTR2 HBJ HRK3
              rcases Nat.lt_or_ge j k with hjk | hjk
              · have hj2 : ((j : Nat) : Int) < (k : Nat) := by omega
                go_wp2_with (refine wpList_store_box rfl 32 _ _ rfl w.heap.size [.int .i64 7, .int .i64 (k : Nat)] rfl rfl 32 [.int .i64 0, .int .i64 0] HF9.out (by kernel_rfl) rfl (by simp [Value.oneCell']) ?_; intro wf hf tf)
                (try simp only [Exit.inBlock, Exit.then])
                refine bodyPost_ret (results_cell_row rfl _ _ w.heap.size 32 #[.int .i64 7, .int .i64 (k : Nat)] (0, 0) _ rfl hf Tryz.underlying32 rfl (by kernel_rfl)) rfl ?_
                rw [HRK4.out]
                exact ⟨rfl, (HB9.out).trans (tf.below (Nat.le_refl _))⟩
              · have hj2 : ¬ ((j : Nat) : Int) < (k : Nat) := by omega
                go_wp2_with (refine wpList_store_box rfl 32 _ _ rfl w.heap.size [.int .i64 7, .int .i64 (k : Nat)] rfl rfl 32 [.int .i64 0, .int .i64 0] HF9.out (by kernel_rfl) rfl (by simp [Value.oneCell']) ?_; intro wf hf tf)
                (try simp only [Exit.inBlock, Exit.then])
                refine bodyPost_ret (results_cell_row rfl _ _ w.heap.size 32 #[.int .i64 7, .int .i64 (k : Nat)] (0, 0) _ rfl hf Tryz.underlying32 rfl (by kernel_rfl)) rfl ?_
                rw [HRK4.out]
                exact ⟨rfl, (HB9.out).trans (tf.below (Nat.le_refl _))⟩
        · have hpos : (0 : Int) < ((e1 : Nat) : Int) := by omega
          have hei : ¬ ((e1 : Nat) : Int) = 0 := by omega
          have heb : (((e1 : Nat) : Int) == 0) = false := by simpa using hei
          have HTR2 := Lib.hid (HTR.out.trans (if_pos h0))
          have HRK3 : Hid (r = some (e1, k)) := by
            show _ = _
            rw [HRK2.out, HTR2.out, if_pos h0]
          clear HTR HTR2 HRK2
          go_wp2_with fail
          go_loopw [4, 6] (fun s4 s6 wr => s4 = .int .i64 (e1 : Nat) ∧ s6 = .int .i64 0 ∧ Hid (Below w1.heap.size w1 wr)) (fun _ _ _ => 0)
          case atStart => exact ⟨rfl, rfl, Below.refl _ _⟩
          case round =>
            obtain ⟨rfl, rfl, HBJ⟩ := hrel
            have HF9 := Lib.hid ((HBJ.out.block _ (row_lt HF1.out)).trans HF1.out)
            have HB9 := Lib.hid (B1.out.trans (HBJ.out.mono B1.out.size))
            rcases Nat.eq_zero_or_pos k with hz | hz
            · have hz2 : ¬ (0 : Int) < ((k : Nat) : Int) := by omega
              clear hz
              go_wp2_with (refine wpList_store_box rfl 32 _ _ rfl w.heap.size [.int .i64 (e1 : Nat), .int .i64 (k : Nat)] rfl rfl 32 [.int .i64 0, .int .i64 0] HF9.out (by kernel_rfl) rfl (by simp [Value.oneCell']) ?_; intro wf hf tf)
              (try simp only [Exit.inBlock, Exit.then])
              refine bodyPost_ret (results_cell_row rfl _ _ w.heap.size 32 #[.int .i64 (e1 : Nat), .int .i64 (k : Nat)] (0, 0) _ rfl hf Tryz.underlying32 rfl (by kernel_rfl)) rfl ?_
              rw [HRK3.out]
              exact ⟨rfl, (HB9.out).trans (tf.below (Nat.le_refl _))⟩
            · have hz2 : (0 : Int) < ((k : Nat) : Int) := by omega
              go_wp2_with (refine wpList_store_box rfl 32 _ _ rfl w.heap.size [.int .i64 (e1 : Nat), .int .i64 (k : Nat)] rfl rfl 32 [.int .i64 0, .int .i64 0] HF9.out (by kernel_rfl) rfl (by simp [Value.oneCell']) ?_; intro wf hf tf)
              (try simp only [Exit.inBlock, Exit.then])
              refine bodyPost_ret (results_cell_row rfl _ _ w.heap.size 32 #[.int .i64 (e1 : Nat), .int .i64 (k : Nat)] (0, 0) _ rfl hf Tryz.underlying32 rfl (by kernel_rfl)) rfl ?_
              rw [HRK3.out]
              exact ⟨rfl, (HB9.out).trans (tf.below (Nat.le_refl _))⟩
    · obtain rfl : k = N := by omega
      have HS1 : Hid (r = none) := by
        show _ = _
        rw [HS.out, HN.out, List.drop_length]
        rfl
      go_wp2_with fail
      refine (fine_any _).mono ?_
      rintro e w8 ⟨rfl, b8⟩
      have B8 := Lib.hid (HB.out.trans (b8.mono HB.out.size))
      have HF8 := Lib.hid ((b8.block _ (row_lt HF.out)).trans HF.out)
      clear b8
      go_wp2_with (refine wpList_store_box rfl 32 _ _ rfl w.heap.size [.int .i64 0, .int .i64 (-1)] rfl rfl 32 [.int .i64 0, .int .i64 0] HF8.out (by kernel_rfl) rfl (by simp [Value.oneCell']) ?_; intro wf hf tf)
      (try simp only [Exit.inBlock, Exit.then])
      refine bodyPost_ret (results_cell_row rfl _ _ w.heap.size 32 #[.int .i64 0, .int .i64 (-1)] (0, 0) _ rfl hf Tryz.underlying32 rfl (by kernel_rfl)) rfl ?_
      rw [HS1.out]
      exact ⟨rfl, B8.out.trans (tf.below (Nat.le_refl _))⟩
end Go.Proofs.YtphgakobfegpcaaGreatDoor
namespace Go.Proofs.YtphgakobfegpcaaGreatDoor
open Go.RowKit Go.Sort Go.Proofs

theorem MBk.goodsAt {w : World} {q : Nat} {F R : List Nat} {B : BkV} (H : MBk w q F R B) : ∃ A cap, w.cell? ⟨q, 0, none⟩ = some (.slice A B.1.length cap) ∧ RowAt encGoS 6 w A B.1 := by
  obtain ⟨vG, vL, A, cap, rfl, hn, rfl, hA, H⟩ := H
  obtain ⟨AG, cG, hvG, hr, -⟩ := RowAt.of_own (enc := encGoS) (k := 6) (fun _ => rfl) H.goods
  have h := H.own
  rw [hvG] at h
  exact ⟨AG, cG, cell_of_row _ _ 0 _ _ _ h, hr⟩
theorem MBk.lotsAt {w : World} {q : Nat} {F R : List Nat} {B : BkV} (H : MBk w q F R B) : ∃ A cap, w.cell? ⟨q, 1, none⟩ = some (.slice A B.2.1.length cap) ∧ RowAt encLoH 5 w A B.2.1 := by
  obtain ⟨vG, vL, A, cap, rfl, hn, rfl, hA, H⟩ := H
  obtain ⟨AL, cL, hvL, hr, -⟩ := RowAt.of_own (enc := encLoH) (k := 5) (fun _ => rfl) H.lots
  have h := H.own
  rw [hvL] at h
  exact ⟨AL, cL, cell_of_row _ _ 1 _ _ _ h, hr⟩
theorem MBk.linesAt {w : World} {q : Nat} {F R : List Nat} {B : BkV} (H : MBk w q F R B) : ∃ A cap, w.cell? ⟨q, 2, none⟩ = some (.slice A B.2.2.length cap) ∧ RowAt encLine 5 w A (linesM B.2.2) := by
  obtain ⟨vG, vL, A, cap, rfl, hn, rfl, hA, H⟩ := H
  exact ⟨A, cap, cell_of_row _ _ 2 _ _ _ H.own, H.lines⟩
theorem refFindL {w : World} {q : Nat} {F R : List Nat} {B : BkV} (H : MBk w q F R B) (hI : BkI B) (id : List UInt8) :
    Calls Tryz.prog 46 #[.pointer (some ⟨q, 0, none⟩), .string ⟨id.toArray⟩] w fun e w' => e = .returned (.int .i64 (idxK (fun x : LoH => x.1.1) B.2.1 id)) ∧ Below w.heap.size w w' := by
  obtain ⟨A, cap, c1, hr⟩ := H.lotsAt
  exact findL_any q A cap B.2.1 id w c1 hr (by have := hI.lfew; omega)
theorem refFindG {w : World} {q : Nat} {F R : List Nat} {B : BkV} (H : MBk w q F R B) (hI : BkI B) (c : List UInt8) :
    Calls Tryz.prog 47 #[.pointer (some ⟨q, 0, none⟩), .string ⟨c.toArray⟩] w fun e w' => e = .returned (.int .i64 (idxK (fun x : GoS => x.1.1) B.1 c)) ∧ Below w.heap.size w w' := by
  obtain ⟨A, cap, c0, hr⟩ := H.goodsAt
  exact findG_any q A cap B.1 c w c0 hr (by have := hI.gfew; omega)
theorem idxL (B : BkV) (id : List UInt8) : (fL B id = none ∧ idxK (fun x : LoH => x.1.1) B.2.1 id = -1) ∨ ∃ i, ∃ h : i < B.2.1.length, fL B id = some B.2.1[i] ∧ idxK (fun x : LoH => x.1.1) B.2.1 id = i ∧ B.2.1[i].1.1 = id := idxK_find _ _ _
theorem idxG (B : BkV) (c : List UInt8) : (fG B c = none ∧ idxK (fun x : GoS => x.1.1) B.1 c = -1) ∨ ∃ i, ∃ h : i < B.1.length, fG B c = some B.1[i] ∧ idxK (fun x : GoS => x.1.1) B.1 c = i ∧ B.1[i].1.1 = c := idxK_find _ _ _
end Go.Proofs.YtphgakobfegpcaaGreatDoor
