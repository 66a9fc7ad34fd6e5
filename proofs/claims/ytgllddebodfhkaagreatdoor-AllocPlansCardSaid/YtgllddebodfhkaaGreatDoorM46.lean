/- The document's book: what it holds, read. The document's book: LotsOf. Printed by gen/rblots.py. The document's book: Has. A stock has what its model has: AsStock answers 1. -/
import Derived.Deep.RegionHeld3
import Derived.Deep.CutBlock
import Derived.Test.YtgllddebodfhkaaGreatDoorM23
import Derived.Test.YtgllddebodfhkaaGreatDoorM25
import Derived.Test.YtgllddebodfhkaaGreatDoorM31
import Derived.Test.YtgllddebodfhkaaGreatDoorM32
import Derived.Test.YtgllddebodfhkaaGreatDoorM34
import Derived.Test.YtgllddebodfhkaaGreatDoorM43
import Derived.Test.YtgllddebodfhkaaGreatDoorM44
namespace Go.Proofs.YtgllddebodfhkaaGreatDoor
open Go.RowKit Go.Sort Go.Proofs

theorem MBk.goodsAt {w : World} {q : Nat} {F R : List Nat} {B : BkV} (H : MBk w q F R B) : ∃ A cap, w.cell? ⟨q, 0, none⟩ = some (.slice A B.1.length cap) ∧ RowAt encGoS 6 w A B.1 := by
  obtain ⟨vG, vL, A, cap, rfl, hn, rfl, hA, H⟩ := H
  obtain ⟨AG, cG, hvG, hr, -⟩ := RowAt.of_own (enc := encGoS) (k := 6) (fun _ => rfl) H.goods
  have h := H.own
  rw [hvG] at h
  exact ⟨AG, cG, cell_of_row _ _ 0 _ _ _ h, hr⟩
theorem MBk.lotsAt {w : World} {q : Nat} {F R : List Nat} {B : BkV} (H : MBk w q F R B) : ∃ A cap, w.cell? ⟨q, 1, none⟩ = some (.slice A B.2.1.length cap) ∧ RowAt encLoH 5 w A B.2.1 := by
  obtain ⟨vG, vL, A, cap, rfl, hn, rfl, hA, H⟩ := H
  obtain ⟨AL, cL, hvL, hr, -⟩ := RowAt.of_own (enc := encLoH) (k := 5) (fun _ => rfl) H.lots
  have h := H.own
  rw [hvL] at h
  exact ⟨AL, cL, cell_of_row _ _ 1 _ _ _ h, hr⟩
theorem MBk.linesAt {w : World} {q : Nat} {F R : List Nat} {B : BkV} (H : MBk w q F R B) : ∃ A cap, w.cell? ⟨q, 2, none⟩ = some (.slice A B.2.2.length cap) ∧ RowAt encLine 5 w A (linesM B.2.2) := by
  obtain ⟨vG, vL, A, cap, rfl, hn, rfl, hA, H⟩ := H
  exact ⟨A, cap, cell_of_row _ _ 2 _ _ _ H.own, H.lines⟩
theorem refFindL {w : World} {q : Nat} {F R : List Nat} {B : BkV} (H : MBk w q F R B) (hI : BkI B) (id : List UInt8) :
    Calls Tryz.prog 26 #[.pointer (some ⟨q, 0, none⟩), .string ⟨id.toArray⟩] w fun e w' => e = .returned (.int .i64 (idxK (fun x : LoH => x.1.1) B.2.1 id)) ∧ Below w.heap.size w w' := by
  obtain ⟨A, cap, c1, hr⟩ := H.lotsAt
  exact findL_any q A cap B.2.1 id w c1 hr (by have := hI.lfew; omega)
theorem refFindG {w : World} {q : Nat} {F R : List Nat} {B : BkV} (H : MBk w q F R B) (hI : BkI B) (c : List UInt8) :
    Calls Tryz.prog 27 #[.pointer (some ⟨q, 0, none⟩), .string ⟨c.toArray⟩] w fun e w' => e = .returned (.int .i64 (idxK (fun x : GoS => x.1.1) B.1 c)) ∧ Below w.heap.size w w' := by
  obtain ⟨A, cap, c0, hr⟩ := H.goodsAt
  exact findG_any q A cap B.1 c w c0 hr (by have := hI.gfew; omega)
theorem idxL (B : BkV) (id : List UInt8) : (fL B id = none ∧ idxK (fun x : LoH => x.1.1) B.2.1 id = -1) ∨ ∃ i, ∃ h : i < B.2.1.length, fL B id = some B.2.1[i] ∧ idxK (fun x : LoH => x.1.1) B.2.1 id = i ∧ B.2.1[i].1.1 = id := idxK_find _ _ _
theorem idxG (B : BkV) (c : List UInt8) : (fG B c = none ∧ idxK (fun x : GoS => x.1.1) B.1 c = -1) ∨ ∃ i, ∃ h : i < B.1.length, fG B c = some B.1[i] ∧ idxK (fun x : GoS => x.1.1) B.1 c = i ∧ B.1[i].1.1 = c := idxK_find _ _ _
end Go.Proofs.YtgllddebodfhkaaGreatDoor
namespace Go.Proofs.YtgllddebodfhkaaGreatDoor
open Go.RowKit Go.Sort Go.Proofs

/-- Lots of a code among the first. -/
def selL (c : List UInt8) (l : List LoH) : List LotV := (l.filter fun x => decide (x.1.2.1 = c)).map (·.1)
theorem selL_take (c : List UInt8) (l : List LoH) (k : Nat) (h : k < l.length) : selL c (l.take (k + 1)) = if l[k].1.2.1 = c then selL c (l.take k) ++ [l[k].1] else selL c (l.take k) := by
  unfold selL
  rw [List.take_succ_eq_append_getElem h, List.filter_append, List.map_append]
  by_cases hc : l[k].1.2.1 = c
  · rw [List.filter_cons_of_pos (by simpa using hc), if_pos hc]
    simp
  · rw [List.filter_cons_of_neg (by simpa using hc), if_neg hc]
    simp
theorem selL_len (c : List UInt8) (l : List LoH) : (selL c l).length ≤ l.length := by
  unfold selL
  rw [List.length_map]
  exact List.length_filter_le _ _
theorem lotsI_len (l : List LotV) : (lotsI l).length = l.length := (lotsI_both l).1.length_eq

set_option maxHeartbeats 6400000 in
set_option maxRecDepth 100000 in
theorem lotsOf_any {q : Nat} {F R : List Nat} {B : BkV} {w : World} (H : MBk w q F R B) (hI : BkI B) (code : List UInt8) :
    Calls Tryz.prog 66 #[.pointer (some ⟨q, 0, none⟩), .string ⟨code.toArray⟩] w fun e w' => ∃ A cap, e = .returned (.slice A (lotsB B code).length cap) ∧ RowAt encLot 4 w' A (lotsB B code) ∧ (∀ a, A = some a → w.heap.size ≤ a.block) ∧ Below w.heap.size w w' := by
  obtain ⟨i0, hi, hz0, hz1, hz2⟩ := info_parts lotInfo
  obtain ⟨AL, cL, hcl, hrL⟩ := H.lotsAt
  have HLB : Hid (lotsI (selL code B.2.1) = lotsB B code) := hI.lots_ins code
  have HSL := Lib.hid (selL_take code B.2.1)
  have HSN : Hid (∀ k, (lotsI (selL code (B.2.1.take k))).length ≤ 60) := fun k => by
    have h1 := selL_len code (B.2.1.take k)
    have h2 := hI.lfew
    rw [lotsI_len]
    rw [List.length_take] at h1
    omega
  have HQL := Lib.hid (fun W (h : Below w.heap.size w W) => (h.cell (lt_of_cell hcl)).trans hcl)
  have HRL := Lib.hid hrL
  obtain ⟨N, hN⟩ : ∃ N, N = B.2.1.length := ⟨_, rfl⟩
  have HN := Lib.hid hN
  rw [← hN] at HQL
  have hN60 : N ≤ 60 := by rw [hN]; exact hI.lfew
  clear hcl hrL H hI hN
  go_enter Tryz.func66, Tryz.ntmps66
  go_wp2_with fail
  go_loopw [5, 6] (fun v i wr => ∃ k : Nat, k ≤ N ∧ i = .int .i64 k ∧ Hid (wr.ownsRow w.heap.size 47 4 v (lotsI (selL code (B.2.1.take k))).length (flatL encLot (lotsI (selL code (B.2.1.take k))))) ∧ Hid (Below w.heap.size w wr)) (fun _ i _ => N - (intOf i).toNat)
  case atStart => exact ⟨0, by omega, rfl, World.ownsRow_nil _ _ _ _, Below.refl _ _⟩
  case round =>
    obtain ⟨k, hk, rfl, HOW, HB⟩ := hrel
    obtain ⟨wo, rfl⟩ : ∃ wo : World, wo = wr := ⟨_, rfl⟩
    have cl := HQL.out wo HB.out
    by_cases hkN : k < N
    · have hkx : k < B.2.1.length := by rw [← HN.out]; exact hkN
      obtain ⟨g, o, rfl, lg, cg⟩ := HRL.out.resolve_left (fun h => by rw [h] at hkx; simp at hkx)
      obtain ⟨y, hy⟩ : ∃ y, y = B.2.1[k] := ⟨_, rfl⟩
      have hsl := HSL.out k hkx
      rw [← hy] at hsl
      have hly : Lies wo g (o + k * 5) (encLot y.1) := fun j v hv => (HB.out.cell (p := ⟨g, o + k * 5 + j, none⟩) lg).trans (cg k hkx j v (by
        rw [← hy]
        have hj : j < 4 := (List.getElem?_eq_some_iff.1 hv).1
        rcases (show j = 0 ∨ j = 1 ∨ j = 2 ∨ j = 3 by omega) with rfl | rfl | rfl | rfl
        all_goals exact hv))
      obtain ⟨z, hz⟩ : ∃ z, z = y.1 := ⟨_, rfl⟩
      rw [← hz] at hsl hly
      have HLY := Lib.hid hly
      have hz4 : (encLot z).length = 4 := rfl
      have HZ1 := Lib.hid (encLot_one z)
      obtain ⟨LZ, hLZ⟩ : ∃ LZ, LZ = encLot z := ⟨_, rfl⟩
      have HLZ := Lib.hid hLZ
      rw [← hLZ] at hz4 HZ1 HLY
      have hk0 : (0 : Int) ≤ (k : Nat) := by omega
      have hk1 : ((k : Nat) : Int) < (N : Nat) := by omega
      have hba := below_one wo (.cells #[.string ⟨#[]⟩, .string ⟨#[]⟩, .int .i64 0, .int .i64 0] 47)
      have HSL1 := Lib.hid hsl
      obtain ⟨out, hout⟩ : ∃ out, out = lotsI (selL code (B.2.1.take k)) := ⟨_, rfl⟩
      have hn60 := HSN.out k
      rw [← hout] at HOW hn60
      have HOUT := Lib.hid hout
      obtain ⟨A5, c5, rfl, hr5, hge5⟩ := RowAt.of_own encLot_len HOW.out
      have hcap5 := own_cap HOW.out rfl
      have HAF := Lib.hid (own_form HOW.out rfl)
      have HR5 := Lib.hid hr5
      have HGE5 := Lib.hid hge5
      clear hy cg hly hz hsl hLZ hout hr5 hge5
      go_upto_region 6 with (first | (refine wpList_load_at rfl 47 _ rfl g (o + k * 5) rfl LZ HLY.out _ Tryz.underlying47 rfl (by rw [hz4]; kernel_rfl) ?_) | (refine wpList_store_box rfl 47 _ _ rfl wo.heap.size LZ rfl rfl _ [.string ⟨#[]⟩, .string ⟨#[]⟩, .int .i64 0, .int .i64 0] (heap_alloc_new wo _) (by rw [hz4]; kernel_rfl) (by rw [hz4]; rfl) HZ1.out ?_; intro w5 h5 tu5))
      have b5 := hba.trans (tu5.below (Nat.le_refl _))
      have B5 := Lib.hid (HB.out.trans (b5.mono HB.out.size))
      have HB5 := Lib.hid b5
      have HBX5 := Lib.hid h5
      have HR6 := Lib.hid (HR5.out.below b5)
      have hz5 := row_lt h5
      have e1 : w5.cell? ⟨wo.heap.size, 1, none⟩ = some (.string ⟨z.2.1.toArray⟩) := (cell_of_row _ _ _ _ _ _ h5).trans (by rw [HLZ.out]; rfl)
      clear tu5 hba h5 b5 HLY cl
      by_cases hc : z.2.1 = code
      · have hcb : (z.2.1 == code) = true := by simpa using hc
        have HSL2 : Hid (lotsI (selL code (B.2.1.take (k + 1))) = insS z out) := by
          show _ = _
          rw [HSL1.out, if_pos hc, lotsI_snoc, ← HOUT.out]
        have HTW := Lib.hid (fun j h1 h2 h3 => take_while_at (fun y : LotV => ltOf cfLot y z) out j h1 h2 h3)
        obtain ⟨n, hn⟩ : ∃ n, n = out.length := ⟨_, rfl⟩
        have HNO := Lib.hid hn
        rw [← hn] at hn60 hcap5 HAF ⊢
        clear hc HSL1 hn
        go_wp2_with fail
        go_loopw [8] (fun s8 wr2 => ∃ j : Nat, j ≤ n ∧ s8 = .int .i64 j ∧ Hid (∀ i (h : i < out.length), i < j → ltOf cfLot out[i] z = true) ∧ Hid (Below w5.heap.size w5 wr2)) (fun s8 _ => n - (intOf s8).toNat)
        case atStart => exact ⟨0, by omega, rfl, fun i _ h => absurd h (Nat.not_lt_zero _), Below.refl _ _⟩
        case round =>
          obtain ⟨j, hj, rfl, HLT, HBJ⟩ := hrel
          obtain ⟨wj, hwj⟩ : ∃ wj : World, wj = wr := ⟨_, rfl⟩
          rw [← hwj] at HBJ ⊢
          clear hwj
          by_cases hjn : j < n
          · have hjx : j < out.length := by rw [← HNO.out]; exact hjn
            obtain ⟨g5, o5, rfl, lg5, cg5⟩ := HR6.out.resolve_left (fun h => by rw [h] at hjx; simp at hjx)
            obtain ⟨x, hx⟩ : ∃ x, x = out[j] := ⟨_, rfl⟩
            have HUP : Hid (∀ W, Below w5.heap.size w5 W → Lies W g5 (o5 + j * 4) (encLot x) ∧ Lies W wo.heap.size 0 (encLot z)) := fun W hb => ⟨fun c v hv => (hb.cell (p := ⟨g5, o5 + j * 4 + c, none⟩) lg5).trans (cg5 j hjx c v (by rw [← hx]; exact hv)), by rw [← HLZ.out]; exact Lies.row _ ((hb.block _ hz5).trans HBX5.out)⟩
            have HXE := Lib.hid hx
            obtain ⟨lt1, hlt1⟩ : ∃ lt1, lt1 = ltOf cfLot x z := ⟨_, rfl⟩
            have HSO := Lib.hid (fun W => isSooner_any x z W)
            rw [← hlt1] at HSO
            have HLTX := Lib.hid hlt1
            have hd := HBJ.out.drew
            have hj0 : (0 : Int) ≤ (j : Nat) := by omega
            have hj1 : ((j : Nat) : Int) < (n : Nat) := by omega
            obtain ⟨x1, x2, x3, x4⟩ := x
            obtain ⟨z1, z2, z3, z4⟩ := z
            have HU8 : Hid (∀ W, Below w5.heap.size w5 W → W.cell? ⟨g5, o5 + j * 4, none⟩ = some (.string ⟨x1.toArray⟩) ∧ W.cell? ⟨g5, o5 + j * 4 + 1, none⟩ = some (.string ⟨x2.toArray⟩) ∧ W.cell? ⟨g5, o5 + j * 4 + 2, none⟩ = some (.int .i64 x3) ∧ W.cell? ⟨g5, o5 + j * 4 + 3, none⟩ = some (.int .i64 x4) ∧ W.cell? ⟨wo.heap.size, 0, none⟩ = some (.string ⟨z1.toArray⟩) ∧ W.cell? ⟨wo.heap.size, 1, none⟩ = some (.string ⟨z2.toArray⟩) ∧ W.cell? ⟨wo.heap.size, 2, none⟩ = some (.int .i64 z3) ∧ W.cell? ⟨wo.heap.size, 3, none⟩ = some (.int .i64 z4)) := fun W hb => by
              obtain ⟨h1, h2⟩ := HUP.out W hb
              exact ⟨h1 0 _ rfl, h1 1 _ rfl, h1 2 _ rfl, h1 3 _ rfl, h2 0 _ rfl, h2 1 _ rfl, h2 2 _ rfl, h2 3 _ rfl⟩
            simp only [encLot] at HSO
            clear hx cg5 hlt1 HUP
            go_wp2_with fail
            go_region_held3 (fun W => W.cell? ⟨g5, o5 + j * 4, none⟩ = some (.string ⟨x1.toArray⟩) ∧ W.cell? ⟨g5, o5 + j * 4 + 1, none⟩ = some (.string ⟨x2.toArray⟩) ∧ W.cell? ⟨g5, o5 + j * 4 + 2, none⟩ = some (.int .i64 x3) ∧ W.cell? ⟨g5, o5 + j * 4 + 3, none⟩ = some (.int .i64 x4) ∧ W.cell? ⟨wo.heap.size, 0, none⟩ = some (.string ⟨z1.toArray⟩) ∧ W.cell? ⟨wo.heap.size, 1, none⟩ = some (.string ⟨z2.toArray⟩) ∧ W.cell? ⟨wo.heap.size, 2, none⟩ = some (.int .i64 z3) ∧ W.cell? ⟨wo.heap.size, 3, none⟩ = some (.int .i64 z4))
              (first | exact HU8.out _ hd | exact HU8.out _ kk | go_keep)
              (first | (go_at_call 108; refine (HSO.out _).mono ?_; rintro e v ⟨rfl, bb⟩; have kk := hd.trans (bb.mono hd.size)))
            all_goals
              have KJ := Lib.hid kk
              clear kk bb hd HSO HU8
              cases lt1 with
              | true =>
                have HNX : Hid (∀ i (h : i < out.length), i < j + 1 → ltOf cfLot out[i] (z1, z2, z3, z4) = true) := fun i hi hij => by
                  rcases Nat.lt_succ_iff_lt_or_eq.1 hij with h | rfl
                  · exact HLT.out i hi h
                  · rw [← HXE.out]; exact HLTX.out.symm
                go_wp2_with fail
                go_roundw
                case rel => exact ⟨j + 1, by omega, by go_num, HNX.out, KJ.out⟩
                case measure => simp [intOf]; omega
              | false =>
                have HT := Lib.hid (HTW.out j HLT.out (fun _ => by rw [← HXE.out]; exact HLTX.out.symm) (by rw [← HNO.out]; exact Nat.le_of_lt hjn))
                have BJ := Lib.hid (B5.out.trans (KJ.out.mono B5.out.size))
                have hbxj := (KJ.out.block _ hz5).trans HBX5.out
                rw [HLZ.out] at hbxj
                simp only [encLot] at hbxj
                have HBXJ := Lib.hid hbxj
                clear hbxj
                have hzw := row_lt HBXJ.out
                have HRO : Hid (∀ W : World, RowAt encLot 4 (W.alloc (.cells #[.string ⟨z1.toArray⟩, .string ⟨z2.toArray⟩, .int .i64 z3, .int .i64 z4] 47)) (some ⟨W.heap.size, 0, none⟩) [(z1, z2, z3, z4)]) := fun W => row_one (heap_alloc_new _ _)
                obtain ⟨T, hT⟩ : ∃ T, T = out.take j := ⟨_, rfl⟩
                obtain ⟨D, hD⟩ : ∃ D, D = out.drop j := ⟨_, rfl⟩
                have HRT := Lib.hid ((HR6.out.takeK j).below KJ.out)
                have hrd := HR6.out.dropK j
                rw [← hT] at HRT
                rw [← hD] at hrd
                have hTk : j = T.length := by rw [hT, List.length_take, ← HNO.out]; omega
                have hND : D.length = n - j := by rw [hD, List.length_drop, ← HNO.out] <;> omega
                have HLW : Hid (insS (z1, z2, z3, z4) out = T ++ (z1, z2, z3, z4) :: D) := by
                  show _ = _
                  unfold insS
                  rw [HT.out.1, HT.out.2, hT, hD]
                have HRD := Lib.hid (fun W' (hb : Below w5.heap.size w5 W') => hrd.below hb)
                clear hT hD HT HTW HLT hrd
                obtain rfl : n = T.length + D.length := by omega
                subst hTk
                have hDp : 0 < D.length := by omega
                have i1 : ((T.length : Nat) : Int) ≤ (c5 : Nat) := by omega
                have i2 : ((T.length : Nat) : Int) ≤ ((T.length + D.length : Nat) : Int) := by omega
                have i3 : ¬ c5 = T.length := by omega
                clear hND
                go_upto_region 12 with (at_builtin; refine wpList_append_rows _ rfl (.tmp 45) (.tmp 48) 35 rfl v.heap.size 47 i0 _ 48 Tryz.underlying35 hi hz0 hz1 hz2 rfl encLot_len (by decide) encLot_one (.slice none 0 0) 0 [] rfl (World.ownsRow_nil _ _ _ _) _ _ T rfl HRT.out (by simp; omega) (by decide) (Nat.le_refl _) ?_; intro v6 w6 HO6 hb6; have HBX6 := Lib.hid ((hb6.block wo.heap.size hzw).trans HBXJ.out))
                have B6 := Lib.hid hb6
                go_upto_region 13 with (first | (refine wpList_load_at rfl 47 _ rfl wo.heap.size 0 rfl [.string ⟨z1.toArray⟩, .string ⟨z2.toArray⟩, .int .i64 z3, .int .i64 z4] (Lies.row _ HBX6.out) _ Tryz.underlying47 rfl (by kernel_rfl) ?_) | (at_builtin; refine wpList_append_rows _ rfl (.tmp 50) (.tmp 52) 35 rfl v.heap.size 47 i0 _ 48 Tryz.underlying35 hi hz0 hz1 hz2 rfl encLot_len (by decide) encLot_one v6 (0 + T.length) ([] ++ flatL encLot T) rfl (own_bl HO6.out (below_one _ _)) (some ⟨w6.heap.size, 0, none⟩) 1 [(z1, z2, z3, z4)] rfl (HRO.out _) (by simp; omega) (by decide) (Nat.le_trans B6.out.size (below_one w6 _).size) ?_; intro v7 w7 HO7 hb7))
                have B7 := Lib.hid (B6.out.trans (((below_one w6 (.cells #[.string ⟨z1.toArray⟩, .string ⟨z2.toArray⟩, .int .i64 z3, .int .i64 z4] 47)).mono B6.out.size).trans hb7))
                have HRD7 := HRD.out w7 (KJ.out.trans (B7.out.mono KJ.out.size))
                go_wp2_with (at_builtin; refine wpList_append_rows _ rfl (.tmp 54) (.tmp 57) 35 rfl v.heap.size 47 i0 _ 48 Tryz.underlying35 hi hz0 hz1 hz2 rfl encLot_len (by decide) encLot_one v7 _ _ rfl HO7.out _ _ D rfl HRD7 (by simp <;> omega) (by decide) B7.out.size ?_; intro v8 w8 HO8 hb8)
                have B8 := Lib.hid (B7.out.trans hb8)
                have ho8 := own_base HO8.out BJ.out.size
                rw [show 0 + T.length + [(z1, z2, z3, z4)].length + (D : List LotV).length = (T ++ (z1, z2, z3, z4) :: D).length by simp <;> omega, show [] ++ flatL encLot T ++ flatL encLot [(z1, z2, z3, z4)] ++ flatL encLot D = flatL encLot (T ++ (z1, z2, z3, z4) :: D) by simp [flatL]] at ho8
                have HO9 := Lib.hid ho8
                clear ho8 hb8
                go_roundw
                case rel =>
                  refine ⟨k + 1, by omega, by go_num, ?_, BJ.out.trans (B8.out.mono BJ.out.size)⟩
                  show World.ownsRow _ _ _ _ _ _ _
                  rw [HSL2.out, HLW.out]
                  exact HO9.out
                case measure => simp [intOf]; omega
          · obtain rfl : j = n := by omega
            have hd := HBJ.out.drew
            have HT := Lib.hid (HTW.out j HLT.out (fun h => by rw [← HNO.out] at h; omega) (by rw [← HNO.out]; exact Nat.le_refl _))
            obtain ⟨z1, z2, z3, z4⟩ := z
            rcases HAF.out with ⟨rfl, hn0, rfl⟩ | ⟨g5, rfl⟩
            · have hout0 : out = [] := List.eq_nil_of_length_eq_zero (by rw [← HNO.out]; exact hn0)
              subst hn0
              go_wp2_with fail
              refine wp_region_held_drew (S := fun W => True) (by kernel_rfl) (trivial) (fun hHeld => ?_)
              refine wpAnyH_take (i := 0) (oi := _) (v := .int .i64 0) rfl (by kernel_rfl) (by kernel_rfl) (by kernel_rfl) (fun _ _ _ h => h) (Or.inl ⟨by kernel_rfl, fun W hSw => ?_⟩) hHeld ?_
              · dsimp only at hSw
                go_simp
                all_goals omega
              change wpAnyH _ _ _ _ _ _ _ (Act.put _ (some 31) _) _
              (try simp only [Act.put, List.setIfInBounds_toArray, List.set_cons_zero, List.set_cons_succ])
              refine wpAnyH_take (i := 1) (oi := _) (v := .slice none 0 0) rfl (by kernel_rfl) (by kernel_rfl) (by kernel_rfl) (fun _ _ _ h => h) (Or.inl ⟨by kernel_rfl, fun W hSw => ?_⟩) hHeld ?_
              · dsimp only at hSw
                go_simp
                all_goals omega
              change wpAnyH _ _ _ _ _ _ _ (Act.put _ (some 32) _) _
              (try simp only [Act.put, List.setIfInBounds_toArray, List.set_cons_zero, List.set_cons_succ])
              refine wpAnyH_take (i := 2) (oi := _) (v := .int .i64 0) rfl (by kernel_rfl) (by kernel_rfl) (by kernel_rfl) (fun _ _ _ h => h) (Or.inl ⟨by kernel_rfl, fun W hSw => ?_⟩) hHeld ?_
              · dsimp only at hSw
                go_simp
                all_goals omega
              change wpAnyH _ _ _ _ _ _ _ (Act.put _ (some 33) _) _
              (try simp only [Act.put, List.setIfInBounds_toArray, List.set_cons_zero, List.set_cons_succ])
              refine wpAnyH_take (i := 3) (oi := _) (v := .bool false) rfl (by kernel_rfl) (by kernel_rfl) (by kernel_rfl) (fun _ _ _ h => h) (Or.inl ⟨by kernel_rfl, fun W hSw => ?_⟩) hHeld ?_
              · dsimp only at hSw
                go_simp
                all_goals omega
              change wpAnyH _ _ _ _ _ _ _ (Act.put _ (some 34) _) _
              (try simp only [Act.put, List.setIfInBounds_toArray, List.set_cons_zero, List.set_cons_succ])
              refine wpAnyH_take (i := 4) (oi := _) (v := .bool false) rfl (by kernel_rfl) (by kernel_rfl) (by kernel_rfl) (fun _ _ _ h => h) (Or.inl ⟨by kernel_rfl, fun W hSw => ?_⟩) hHeld ?_
              · dsimp only at hSw
                go_simp
                all_goals omega
              change wpAnyH _ _ _ _ _ _ _ (Act.put _ (some 35) _) _
              (try simp only [Act.put, List.setIfInBounds_toArray, List.set_cons_zero, List.set_cons_succ])
              refine wpAnyH_take (i := 5) (oi := _) (v := undef) rfl (by kernel_rfl) (by kernel_rfl) (by kernel_rfl) (fun _ _ _ h => h) (Or.inr ⟨by kernel_rfl, rfl⟩) hHeld ?_
              change wpAnyH _ _ _ _ _ _ _ (Act.put _ (some 36) _) _
              (try simp only [Act.put, List.setIfInBounds_toArray, List.set_cons_zero, List.set_cons_succ])
              refine wpAnyH_take (i := 6) (oi := _) (v := undef) rfl (by kernel_rfl) (by kernel_rfl) (by kernel_rfl) (fun _ _ _ h => h) (Or.inr ⟨by kernel_rfl, rfl⟩) hHeld ?_
              change wpAnyH _ _ _ _ _ _ _ (Act.put _ (some 37) _) _
              (try simp only [Act.put, List.setIfInBounds_toArray, List.set_cons_zero, List.set_cons_succ])
              refine wpAnyH_take (i := 7) (oi := _) (v := undef) rfl (by kernel_rfl) (by kernel_rfl) (by kernel_rfl) (fun _ _ _ h => h) (Or.inr ⟨by kernel_rfl, rfl⟩) hHeld ?_
              change wpAnyH _ _ _ _ _ _ _ (Act.put _ (some 38) _) _
              (try simp only [Act.put, List.setIfInBounds_toArray, List.set_cons_zero, List.set_cons_succ])
              refine wpAnyH_take (i := 8) (oi := _) (v := undef) rfl (by kernel_rfl) (by kernel_rfl) (by kernel_rfl) (fun _ _ _ h => h) (Or.inr ⟨by kernel_rfl, rfl⟩) hHeld ?_
              change wpAnyH _ _ _ _ _ _ _ (Act.put _ (some 39) _) _
              (try simp only [Act.put, List.setIfInBounds_toArray, List.set_cons_zero, List.set_cons_succ])
              refine wpAnyH_take (i := 9) (oi := _) (v := undef) rfl (by kernel_rfl) (by kernel_rfl) (by kernel_rfl) (fun _ _ _ h => h) (Or.inr ⟨by kernel_rfl, rfl⟩) hHeld ?_
              change wpAnyH _ _ _ _ _ _ _ (Act.put _ (some 40) _) _
              (try simp only [Act.put, List.setIfInBounds_toArray, List.set_cons_zero, List.set_cons_succ])
              refine wpAnyH_take (i := 10) (oi := _) (v := undef) rfl (by kernel_rfl) (by kernel_rfl) (by kernel_rfl) (fun _ _ _ h => h) (Or.inr ⟨by kernel_rfl, rfl⟩) hHeld ?_
              change wpAnyH _ _ _ _ _ _ _ (Act.put _ (some 41) _) _
              (try simp only [Act.put, List.setIfInBounds_toArray, List.set_cons_zero, List.set_cons_succ])
              refine wpAnyH_take (i := 11) (oi := _) (v := .bool false) rfl (by kernel_rfl) (by kernel_rfl) (by kernel_rfl) (fun _ _ _ h => h) (Or.inl ⟨by kernel_rfl, fun W hSw => ?_⟩) hHeld ?_
              · dsimp only at hSw
                go_simp
                all_goals omega
              change wpAnyH _ _ _ _ _ _ _ (Act.put _ (some 42) _) _
              (try simp only [Act.put, List.setIfInBounds_toArray, List.set_cons_zero, List.set_cons_succ])
              refine wpAnyH_done (by kernel_rfl) ?_ _
              have KJ := Lib.hid hd
              clear hHeld
              generalize wj.drew = wk at hd KJ ⊢
              have BJ := Lib.hid (B5.out.trans (KJ.out.mono B5.out.size))
              have hbxj := (KJ.out.block _ hz5).trans HBX5.out
              rw [HLZ.out] at hbxj
              simp only [encLot] at hbxj
              have HBXJ := Lib.hid hbxj
              clear hbxj
              have hzw := row_lt HBXJ.out
              have HRO : Hid (∀ W : World, RowAt encLot 4 (W.alloc (.cells #[.string ⟨z1.toArray⟩, .string ⟨z2.toArray⟩, .int .i64 z3, .int .i64 z4] 47)) (some ⟨W.heap.size, 0, none⟩) [(z1, z2, z3, z4)]) := fun W => row_one (heap_alloc_new _ _)
              have HLW : Hid (insS (z1, z2, z3, z4) out = [] ++ (z1, z2, z3, z4) :: []) := by
                show _ = _
                unfold insS
                rw [HT.out.1, HT.out.2, hout0]
                rfl
              clear HT HTW HLT
              go_upto_region 12 with fail
              go_upto_region 13 with (first | (refine wpList_load_at rfl 47 _ rfl wo.heap.size 0 rfl [.string ⟨z1.toArray⟩, .string ⟨z2.toArray⟩, .int .i64 z3, .int .i64 z4] (Lies.row _ HBXJ.out) _ Tryz.underlying47 rfl (by kernel_rfl) ?_) | (at_builtin; refine wpList_append_rows _ rfl (.tmp 50) (.tmp 52) 35 rfl wk.heap.size 47 i0 _ 48 Tryz.underlying35 hi hz0 hz1 hz2 rfl encLot_len (by decide) encLot_one (.slice none 0 0) 0 [] rfl (World.ownsRow_nil _ _ _ _) (some ⟨wk.heap.size, 0, none⟩) 1 [(z1, z2, z3, z4)] rfl (HRO.out _) (by simp) (by decide) (below_one wk _).size ?_; intro v7 w7 HO7 hb7))
              have B7 := Lib.hid (((below_one wk (.cells #[.string ⟨z1.toArray⟩, .string ⟨z2.toArray⟩, .int .i64 z3, .int .i64 z4] 47)).trans hb7))
              go_wp2_with (at_builtin; refine wpList_append_rows _ rfl (.tmp 54) (.tmp 57) 35 rfl wk.heap.size 47 i0 _ 48 Tryz.underlying35 hi hz0 hz1 hz2 rfl encLot_len (by decide) encLot_one v7 _ _ rfl HO7.out _ _ [] rfl RowAt.nil (by simp) (by decide) B7.out.size ?_; intro v8 w8 HO8 hb8)
              have B8 := Lib.hid (B7.out.trans hb8)
              have ho8 := own_base HO8.out BJ.out.size
              rw [show 0 + [(z1, z2, z3, z4)].length + ([] : List LotV).length = ([] ++ (z1, z2, z3, z4) :: [] : List LotV).length by simp, show [] ++ flatL encLot [(z1, z2, z3, z4)] ++ flatL encLot [] = flatL encLot ([] ++ (z1, z2, z3, z4) :: []) by simp [flatL]] at ho8
              have HO9 := Lib.hid ho8
              clear ho8 hb8
              go_roundw
              case rel =>
                refine ⟨k + 1, by omega, by go_num, ?_, BJ.out.trans (B8.out.mono BJ.out.size)⟩
                show World.ownsRow _ _ _ _ _ _ _
                rw [HSL2.out, HLW.out]
                exact HO9.out
              case measure => simp [intOf]; omega
            · by_cases hcc : c5 = j
              · go_wp2_with fail
                refine wp_region_held_drew (S := fun W => True) (by kernel_rfl) (trivial) (fun hHeld => ?_)
                refine wpAnyH_take (i := 0) (oi := _) (v := .int .i64 (j : Nat)) rfl (by kernel_rfl) (by kernel_rfl) (by kernel_rfl) (fun _ _ _ h => h) (Or.inl ⟨by kernel_rfl, fun W hSw => ?_⟩) hHeld ?_
                · dsimp only at hSw
                  go_simp
                  all_goals omega
                change wpAnyH _ _ _ _ _ _ _ (Act.put _ (some 31) _) _
                (try simp only [Act.put, List.setIfInBounds_toArray, List.set_cons_zero, List.set_cons_succ])
                refine wpAnyH_take (i := 1) (oi := _) (v := .slice (some ⟨g5, 0, none⟩) j c5) rfl (by kernel_rfl) (by kernel_rfl) (by kernel_rfl) (fun _ _ _ h => h) (Or.inl ⟨by kernel_rfl, fun W hSw => ?_⟩) hHeld ?_
                · dsimp only at hSw
                  go_simp
                  all_goals omega
                change wpAnyH _ _ _ _ _ _ _ (Act.put _ (some 32) _) _
                (try simp only [Act.put, List.setIfInBounds_toArray, List.set_cons_zero, List.set_cons_succ])
                refine wpAnyH_take (i := 2) (oi := _) (v := .int .i64 (j : Nat)) rfl (by kernel_rfl) (by kernel_rfl) (by kernel_rfl) (fun _ _ _ h => h) (Or.inl ⟨by kernel_rfl, fun W hSw => ?_⟩) hHeld ?_
                · dsimp only at hSw
                  go_simp
                  all_goals omega
                change wpAnyH _ _ _ _ _ _ _ (Act.put _ (some 33) _) _
                (try simp only [Act.put, List.setIfInBounds_toArray, List.set_cons_zero, List.set_cons_succ])
                refine wpAnyH_take (i := 3) (oi := _) (v := .bool false) rfl (by kernel_rfl) (by kernel_rfl) (by kernel_rfl) (fun _ _ _ h => h) (Or.inl ⟨by kernel_rfl, fun W hSw => ?_⟩) hHeld ?_
                · dsimp only at hSw
                  go_simp
                  all_goals omega
                change wpAnyH _ _ _ _ _ _ _ (Act.put _ (some 34) _) _
                (try simp only [Act.put, List.setIfInBounds_toArray, List.set_cons_zero, List.set_cons_succ])
                refine wpAnyH_take (i := 4) (oi := _) (v := .bool false) rfl (by kernel_rfl) (by kernel_rfl) (by kernel_rfl) (fun _ _ _ h => h) (Or.inl ⟨by kernel_rfl, fun W hSw => ?_⟩) hHeld ?_
                · dsimp only at hSw
                  go_simp
                  all_goals omega
                change wpAnyH _ _ _ _ _ _ _ (Act.put _ (some 35) _) _
                (try simp only [Act.put, List.setIfInBounds_toArray, List.set_cons_zero, List.set_cons_succ])
                refine wpAnyH_take (i := 5) (oi := _) (v := undef) rfl (by kernel_rfl) (by kernel_rfl) (by kernel_rfl) (fun _ _ _ h => h) (Or.inr ⟨by kernel_rfl, rfl⟩) hHeld ?_
                change wpAnyH _ _ _ _ _ _ _ (Act.put _ (some 36) _) _
                (try simp only [Act.put, List.setIfInBounds_toArray, List.set_cons_zero, List.set_cons_succ])
                refine wpAnyH_take (i := 6) (oi := _) (v := undef) rfl (by kernel_rfl) (by kernel_rfl) (by kernel_rfl) (fun _ _ _ h => h) (Or.inr ⟨by kernel_rfl, rfl⟩) hHeld ?_
                change wpAnyH _ _ _ _ _ _ _ (Act.put _ (some 37) _) _
                (try simp only [Act.put, List.setIfInBounds_toArray, List.set_cons_zero, List.set_cons_succ])
                refine wpAnyH_take (i := 7) (oi := _) (v := undef) rfl (by kernel_rfl) (by kernel_rfl) (by kernel_rfl) (fun _ _ _ h => h) (Or.inr ⟨by kernel_rfl, rfl⟩) hHeld ?_
                change wpAnyH _ _ _ _ _ _ _ (Act.put _ (some 38) _) _
                (try simp only [Act.put, List.setIfInBounds_toArray, List.set_cons_zero, List.set_cons_succ])
                refine wpAnyH_take (i := 8) (oi := _) (v := undef) rfl (by kernel_rfl) (by kernel_rfl) (by kernel_rfl) (fun _ _ _ h => h) (Or.inr ⟨by kernel_rfl, rfl⟩) hHeld ?_
                change wpAnyH _ _ _ _ _ _ _ (Act.put _ (some 39) _) _
                (try simp only [Act.put, List.setIfInBounds_toArray, List.set_cons_zero, List.set_cons_succ])
                refine wpAnyH_take (i := 9) (oi := _) (v := undef) rfl (by kernel_rfl) (by kernel_rfl) (by kernel_rfl) (fun _ _ _ h => h) (Or.inr ⟨by kernel_rfl, rfl⟩) hHeld ?_
                change wpAnyH _ _ _ _ _ _ _ (Act.put _ (some 40) _) _
                (try simp only [Act.put, List.setIfInBounds_toArray, List.set_cons_zero, List.set_cons_succ])
                refine wpAnyH_take (i := 10) (oi := _) (v := undef) rfl (by kernel_rfl) (by kernel_rfl) (by kernel_rfl) (fun _ _ _ h => h) (Or.inr ⟨by kernel_rfl, rfl⟩) hHeld ?_
                change wpAnyH _ _ _ _ _ _ _ (Act.put _ (some 41) _) _
                (try simp only [Act.put, List.setIfInBounds_toArray, List.set_cons_zero, List.set_cons_succ])
                refine wpAnyH_take (i := 11) (oi := _) (v := .bool false) rfl (by kernel_rfl) (by kernel_rfl) (by kernel_rfl) (fun _ _ _ h => h) (Or.inl ⟨by kernel_rfl, fun W hSw => ?_⟩) hHeld ?_
                · dsimp only at hSw
                  go_simp
                  all_goals omega
                change wpAnyH _ _ _ _ _ _ _ (Act.put _ (some 42) _) _
                (try simp only [Act.put, List.setIfInBounds_toArray, List.set_cons_zero, List.set_cons_succ])
                refine wpAnyH_done (by kernel_rfl) ?_ _
                have KJ := Lib.hid hd
                clear hHeld
                generalize wj.drew = wk at hd KJ ⊢
                have BJ := Lib.hid (B5.out.trans (KJ.out.mono B5.out.size))
                have hbxj := (KJ.out.block _ hz5).trans HBX5.out
                rw [HLZ.out] at hbxj
                simp only [encLot] at hbxj
                have HBXJ := Lib.hid hbxj
                clear hbxj
                have hzw := row_lt HBXJ.out
                have HRO : Hid (∀ W : World, RowAt encLot 4 (W.alloc (.cells #[.string ⟨z1.toArray⟩, .string ⟨z2.toArray⟩, .int .i64 z3, .int .i64 z4] 47)) (some ⟨W.heap.size, 0, none⟩) [(z1, z2, z3, z4)]) := fun W => row_one (heap_alloc_new _ _)
                obtain ⟨T, hT⟩ : ∃ T, T = out.take j := ⟨_, rfl⟩
                obtain ⟨D, hD⟩ : ∃ D, D = out.drop j := ⟨_, rfl⟩
                have HRT := Lib.hid ((HR6.out.takeK j).below KJ.out)
                have hrd := HR6.out.dropK j
                rw [← hT] at HRT
                rw [← hD] at hrd
                have hTk : j = T.length := by rw [hT, List.length_take, ← HNO.out]; omega
                have hND : D.length = 0 := by rw [hD, List.length_drop, ← HNO.out] <;> omega
                have HLW : Hid (insS (z1, z2, z3, z4) out = T ++ (z1, z2, z3, z4) :: D) := by
                  show _ = _
                  unfold insS
                  rw [HT.out.1, HT.out.2, hT, hD]
                have HRD := Lib.hid (fun W' (hb : Below w5.heap.size w5 W') => hrd.below hb)
                clear hT hD HT HTW HLT hrd
                obtain rfl : D = [] := List.eq_nil_of_length_eq_zero hND
                subst hTk
                have i1 : ((T.length : Nat) : Int) ≤ (c5 : Nat) := by omega
                go_upto_region 12 with (at_builtin; refine wpList_append_rows _ rfl (.tmp 45) (.tmp 48) 35 rfl wk.heap.size 47 i0 _ 48 Tryz.underlying35 hi hz0 hz1 hz2 rfl encLot_len (by decide) encLot_one (.slice none 0 0) 0 [] rfl (World.ownsRow_nil _ _ _ _) _ _ T rfl HRT.out (by simp; omega) (by decide) (Nat.le_refl _) ?_; intro v6 w6 HO6 hb6; have HBX6 := Lib.hid ((hb6.block wo.heap.size hzw).trans HBXJ.out))
                have B6 := Lib.hid hb6
                go_upto_region 13 with (first | (refine wpList_load_at rfl 47 _ rfl wo.heap.size 0 rfl [.string ⟨z1.toArray⟩, .string ⟨z2.toArray⟩, .int .i64 z3, .int .i64 z4] (Lies.row _ HBX6.out) _ Tryz.underlying47 rfl (by kernel_rfl) ?_) | (at_builtin; refine wpList_append_rows _ rfl (.tmp 50) (.tmp 52) 35 rfl wk.heap.size 47 i0 _ 48 Tryz.underlying35 hi hz0 hz1 hz2 rfl encLot_len (by decide) encLot_one v6 (0 + T.length) ([] ++ flatL encLot T) rfl (own_bl HO6.out (below_one _ _)) (some ⟨w6.heap.size, 0, none⟩) 1 [(z1, z2, z3, z4)] rfl (HRO.out _) (by simp; omega) (by decide) (Nat.le_trans B6.out.size (below_one w6 _).size) ?_; intro v7 w7 HO7 hb7))
                have B7 := Lib.hid (B6.out.trans (((below_one w6 (.cells #[.string ⟨z1.toArray⟩, .string ⟨z2.toArray⟩, .int .i64 z3, .int .i64 z4] 47)).mono B6.out.size).trans hb7))
                have HRD7 := HRD.out w7 (KJ.out.trans (B7.out.mono KJ.out.size))
                go_wp2_with (at_builtin; refine wpList_append_rows _ rfl (.tmp 54) (.tmp 57) 35 rfl wk.heap.size 47 i0 _ 48 Tryz.underlying35 hi hz0 hz1 hz2 rfl encLot_len (by decide) encLot_one v7 _ _ rfl HO7.out _ _ [] rfl RowAt.nil (by simp <;> omega) (by decide) B7.out.size ?_; intro v8 w8 HO8 hb8)
                have B8 := Lib.hid (B7.out.trans hb8)
                have ho8 := own_base HO8.out BJ.out.size
                rw [show 0 + T.length + [(z1, z2, z3, z4)].length + ([] : List LotV).length = (T ++ (z1, z2, z3, z4) :: []).length by simp <;> omega, show [] ++ flatL encLot T ++ flatL encLot [(z1, z2, z3, z4)] ++ flatL encLot [] = flatL encLot (T ++ (z1, z2, z3, z4) :: []) by simp [flatL]] at ho8
                have HO9 := Lib.hid ho8
                clear ho8 hb8
                go_roundw
                case rel =>
                  refine ⟨k + 1, by omega, by go_num, ?_, BJ.out.trans (B8.out.mono BJ.out.size)⟩
                  show World.ownsRow _ _ _ _ _ _ _
                  rw [HSL2.out, HLW.out]
                  exact HO9.out
                case measure => simp [intOf]; omega
              · go_wp2_with fail
                refine wp_region_held_drew (S := fun W => True) (by kernel_rfl) (trivial) (fun hHeld => ?_)
                refine wpAnyH_take (i := 0) (oi := _) (v := .int .i64 (j : Nat)) rfl (by kernel_rfl) (by kernel_rfl) (by kernel_rfl) (fun _ _ _ h => h) (Or.inl ⟨by kernel_rfl, fun W hSw => ?_⟩) hHeld ?_
                · dsimp only at hSw
                  go_simp
                  all_goals omega
                change wpAnyH _ _ _ _ _ _ _ (Act.put _ (some 31) _) _
                (try simp only [Act.put, List.setIfInBounds_toArray, List.set_cons_zero, List.set_cons_succ])
                refine wpAnyH_take (i := 1) (oi := _) (v := .slice (some ⟨g5, 0, none⟩) j c5) rfl (by kernel_rfl) (by kernel_rfl) (by kernel_rfl) (fun _ _ _ h => h) (Or.inl ⟨by kernel_rfl, fun W hSw => ?_⟩) hHeld ?_
                · dsimp only at hSw
                  go_simp
                  all_goals omega
                change wpAnyH _ _ _ _ _ _ _ (Act.put _ (some 32) _) _
                (try simp only [Act.put, List.setIfInBounds_toArray, List.set_cons_zero, List.set_cons_succ])
                refine wpAnyH_take (i := 2) (oi := _) (v := .int .i64 (j : Nat)) rfl (by kernel_rfl) (by kernel_rfl) (by kernel_rfl) (fun _ _ _ h => h) (Or.inl ⟨by kernel_rfl, fun W hSw => ?_⟩) hHeld ?_
                · dsimp only at hSw
                  go_simp
                  all_goals omega
                change wpAnyH _ _ _ _ _ _ _ (Act.put _ (some 33) _) _
                (try simp only [Act.put, List.setIfInBounds_toArray, List.set_cons_zero, List.set_cons_succ])
                refine wpAnyH_take (i := 3) (oi := _) (v := .bool false) rfl (by kernel_rfl) (by kernel_rfl) (by kernel_rfl) (fun _ _ _ h => h) (Or.inl ⟨by kernel_rfl, fun W hSw => ?_⟩) hHeld ?_
                · dsimp only at hSw
                  go_simp
                  all_goals omega
                change wpAnyH _ _ _ _ _ _ _ (Act.put _ (some 34) _) _
                (try simp only [Act.put, List.setIfInBounds_toArray, List.set_cons_zero, List.set_cons_succ])
                refine wpAnyH_take (i := 4) (oi := _) (v := .bool false) rfl (by kernel_rfl) (by kernel_rfl) (by kernel_rfl) (fun _ _ _ h => h) (Or.inl ⟨by kernel_rfl, fun W hSw => ?_⟩) hHeld ?_
                · dsimp only at hSw
                  go_simp
                  all_goals omega
                change wpAnyH _ _ _ _ _ _ _ (Act.put _ (some 35) _) _
                (try simp only [Act.put, List.setIfInBounds_toArray, List.set_cons_zero, List.set_cons_succ])
                refine wpAnyH_take (i := 5) (oi := _) (v := undef) rfl (by kernel_rfl) (by kernel_rfl) (by kernel_rfl) (fun _ _ _ h => h) (Or.inr ⟨by kernel_rfl, rfl⟩) hHeld ?_
                change wpAnyH _ _ _ _ _ _ _ (Act.put _ (some 36) _) _
                (try simp only [Act.put, List.setIfInBounds_toArray, List.set_cons_zero, List.set_cons_succ])
                refine wpAnyH_take (i := 6) (oi := _) (v := undef) rfl (by kernel_rfl) (by kernel_rfl) (by kernel_rfl) (fun _ _ _ h => h) (Or.inr ⟨by kernel_rfl, rfl⟩) hHeld ?_
                change wpAnyH _ _ _ _ _ _ _ (Act.put _ (some 37) _) _
                (try simp only [Act.put, List.setIfInBounds_toArray, List.set_cons_zero, List.set_cons_succ])
                refine wpAnyH_take (i := 7) (oi := _) (v := undef) rfl (by kernel_rfl) (by kernel_rfl) (by kernel_rfl) (fun _ _ _ h => h) (Or.inr ⟨by kernel_rfl, rfl⟩) hHeld ?_
                change wpAnyH _ _ _ _ _ _ _ (Act.put _ (some 38) _) _
                (try simp only [Act.put, List.setIfInBounds_toArray, List.set_cons_zero, List.set_cons_succ])
                refine wpAnyH_take (i := 8) (oi := _) (v := undef) rfl (by kernel_rfl) (by kernel_rfl) (by kernel_rfl) (fun _ _ _ h => h) (Or.inr ⟨by kernel_rfl, rfl⟩) hHeld ?_
                change wpAnyH _ _ _ _ _ _ _ (Act.put _ (some 39) _) _
                (try simp only [Act.put, List.setIfInBounds_toArray, List.set_cons_zero, List.set_cons_succ])
                refine wpAnyH_take (i := 9) (oi := _) (v := undef) rfl (by kernel_rfl) (by kernel_rfl) (by kernel_rfl) (fun _ _ _ h => h) (Or.inr ⟨by kernel_rfl, rfl⟩) hHeld ?_
                change wpAnyH _ _ _ _ _ _ _ (Act.put _ (some 40) _) _
                (try simp only [Act.put, List.setIfInBounds_toArray, List.set_cons_zero, List.set_cons_succ])
                refine wpAnyH_take (i := 10) (oi := _) (v := undef) rfl (by kernel_rfl) (by kernel_rfl) (by kernel_rfl) (fun _ _ _ h => h) (Or.inr ⟨by kernel_rfl, rfl⟩) hHeld ?_
                change wpAnyH _ _ _ _ _ _ _ (Act.put _ (some 41) _) _
                (try simp only [Act.put, List.setIfInBounds_toArray, List.set_cons_zero, List.set_cons_succ])
                refine wpAnyH_take (i := 11) (oi := _) (v := .bool false) rfl (by kernel_rfl) (by kernel_rfl) (by kernel_rfl) (fun _ _ _ h => h) (Or.inl ⟨by kernel_rfl, fun W hSw => ?_⟩) hHeld ?_
                · dsimp only at hSw
                  go_simp
                  all_goals omega
                change wpAnyH _ _ _ _ _ _ _ (Act.put _ (some 42) _) _
                (try simp only [Act.put, List.setIfInBounds_toArray, List.set_cons_zero, List.set_cons_succ])
                refine wpAnyH_done (by kernel_rfl) ?_ _
                have KJ := Lib.hid hd
                clear hHeld
                generalize wj.drew = wk at hd KJ ⊢
                have BJ := Lib.hid (B5.out.trans (KJ.out.mono B5.out.size))
                have hbxj := (KJ.out.block _ hz5).trans HBX5.out
                rw [HLZ.out] at hbxj
                simp only [encLot] at hbxj
                have HBXJ := Lib.hid hbxj
                clear hbxj
                have hzw := row_lt HBXJ.out
                have HRO : Hid (∀ W : World, RowAt encLot 4 (W.alloc (.cells #[.string ⟨z1.toArray⟩, .string ⟨z2.toArray⟩, .int .i64 z3, .int .i64 z4] 47)) (some ⟨W.heap.size, 0, none⟩) [(z1, z2, z3, z4)]) := fun W => row_one (heap_alloc_new _ _)
                obtain ⟨T, hT⟩ : ∃ T, T = out.take j := ⟨_, rfl⟩
                obtain ⟨D, hD⟩ : ∃ D, D = out.drop j := ⟨_, rfl⟩
                have HRT := Lib.hid ((HR6.out.takeK j).below KJ.out)
                have hrd := HR6.out.dropK j
                rw [← hT] at HRT
                rw [← hD] at hrd
                have hTk : j = T.length := by rw [hT, List.length_take, ← HNO.out]; omega
                have hND : D.length = 0 := by rw [hD, List.length_drop, ← HNO.out] <;> omega
                have HLW : Hid (insS (z1, z2, z3, z4) out = T ++ (z1, z2, z3, z4) :: D) := by
                  show _ = _
                  unfold insS
                  rw [HT.out.1, HT.out.2, hT, hD]
                have HRD := Lib.hid (fun W' (hb : Below w5.heap.size w5 W') => hrd.below hb)
                clear hT hD HT HTW HLT hrd
                obtain rfl : D = [] := List.eq_nil_of_length_eq_zero hND
                subst hTk
                have i1 : ((T.length : Nat) : Int) ≤ (c5 : Nat) := by omega
                go_upto_region 12 with (at_builtin; refine wpList_append_rows _ rfl (.tmp 45) (.tmp 48) 35 rfl wk.heap.size 47 i0 _ 48 Tryz.underlying35 hi hz0 hz1 hz2 rfl encLot_len (by decide) encLot_one (.slice none 0 0) 0 [] rfl (World.ownsRow_nil _ _ _ _) _ _ T rfl HRT.out (by simp; omega) (by decide) (Nat.le_refl _) ?_; intro v6 w6 HO6 hb6; have HBX6 := Lib.hid ((hb6.block wo.heap.size hzw).trans HBXJ.out))
                have B6 := Lib.hid hb6
                go_upto_region 13 with (first | (refine wpList_load_at rfl 47 _ rfl wo.heap.size 0 rfl [.string ⟨z1.toArray⟩, .string ⟨z2.toArray⟩, .int .i64 z3, .int .i64 z4] (Lies.row _ HBX6.out) _ Tryz.underlying47 rfl (by kernel_rfl) ?_) | (at_builtin; refine wpList_append_rows _ rfl (.tmp 50) (.tmp 52) 35 rfl wk.heap.size 47 i0 _ 48 Tryz.underlying35 hi hz0 hz1 hz2 rfl encLot_len (by decide) encLot_one v6 (0 + T.length) ([] ++ flatL encLot T) rfl (own_bl HO6.out (below_one _ _)) (some ⟨w6.heap.size, 0, none⟩) 1 [(z1, z2, z3, z4)] rfl (HRO.out _) (by simp; omega) (by decide) (Nat.le_trans B6.out.size (below_one w6 _).size) ?_; intro v7 w7 HO7 hb7))
                have B7 := Lib.hid (B6.out.trans (((below_one w6 (.cells #[.string ⟨z1.toArray⟩, .string ⟨z2.toArray⟩, .int .i64 z3, .int .i64 z4] 47)).mono B6.out.size).trans hb7))
                have HRD7 := HRD.out w7 (KJ.out.trans (B7.out.mono KJ.out.size))
                go_wp2_with (at_builtin; refine wpList_append_rows _ rfl (.tmp 54) (.tmp 57) 35 rfl wk.heap.size 47 i0 _ 48 Tryz.underlying35 hi hz0 hz1 hz2 rfl encLot_len (by decide) encLot_one v7 _ _ rfl HO7.out _ _ [] rfl RowAt.nil (by simp <;> omega) (by decide) B7.out.size ?_; intro v8 w8 HO8 hb8)
                have B8 := Lib.hid (B7.out.trans hb8)
                have ho8 := own_base HO8.out BJ.out.size
                rw [show 0 + T.length + [(z1, z2, z3, z4)].length + ([] : List LotV).length = (T ++ (z1, z2, z3, z4) :: []).length by simp <;> omega, show [] ++ flatL encLot T ++ flatL encLot [(z1, z2, z3, z4)] ++ flatL encLot [] = flatL encLot (T ++ (z1, z2, z3, z4) :: []) by simp [flatL]] at ho8
                have HO9 := Lib.hid ho8
                clear ho8 hb8
                go_roundw
                case rel =>
                  refine ⟨k + 1, by omega, by go_num, ?_, BJ.out.trans (B8.out.mono BJ.out.size)⟩
                  show World.ownsRow _ _ _ _ _ _ _
                  rw [HSL2.out, HLW.out]
                  exact HO9.out
                case measure => simp [intOf]; omega
      · have hcb : (z.2.1 == code) = false := by simpa using hc
        have HSL2 : Hid (lotsI (selL code (B.2.1.take (k + 1))) = out) := by
          show _ = _
          rw [HSL1.out, if_neg hc, ← HOUT.out]
        have HOW5 := Lib.hid (own_bl HOW.out HB5.out)
        clear hc HSL1
        go_wp2_with fail
        go_roundw
        case rel =>
          refine ⟨k + 1, by omega, by go_num, ?_, B5.out⟩
          show World.ownsRow _ _ _ _ _ _ _
          rw [HSL2.out]
          exact HOW5.out
        case measure => simp [intOf]; omega
    · obtain rfl : k = N := by omega
      have hT : B.2.1.take k = B.2.1 := List.take_of_length_le (by rw [← HN.out]; exact Nat.le_refl _)
      rw [hT, HLB.out] at HOW
      obtain ⟨A5, c5, rfl, hr5, hge5⟩ := RowAt.of_own encLot_len HOW.out
      have HR5 := Lib.hid hr5
      clear hT HOW hr5
      go_wp2_with fail
      go_ret
      exact ⟨A5, c5, rfl, HR5.out, hge5, HB.out⟩
end Go.Proofs.YtgllddebodfhkaaGreatDoor
namespace Go.Proofs.YtgllddebodfhkaaGreatDoor
open Go.RowKit Go.Sort Go.Proofs

def hasTo (m : StkV) (c : List UInt8) (l : List LoH) : Nat := ((l.filter fun x => decide (x.1.2.1 = c)).map fun x => ofM m x.1.1).sum
theorem hasTo_take (m : StkV) (c : List UInt8) (l : List LoH) (k : Nat) (h : k < l.length) : hasTo m c (l.take (k + 1)) = hasTo m c (l.take k) + if l[k].1.2.1 = c then ofM m l[k].1.1 else 0 := by
  unfold hasTo
  rw [List.take_succ_eq_append_getElem h, List.filter_append, List.map_append, List.sum_append]
  by_cases hc : l[k].1.2.1 = c
  · rw [List.filter_cons_of_pos (by simpa using hc), if_pos hc]
    simp
  · rw [List.filter_cons_of_neg (by simpa using hc), if_neg hc]
    simp
theorem hasTo_le (m : StkV) (c : List UInt8) (l : List LoH) (k : Nat) : hasTo m c (l.take k) ≤ hasTo m c l := by
  have h : hasTo m c l = hasTo m c (l.take k) + hasTo m c (l.drop k) := by
    unfold hasTo
    conv => lhs; rw [← List.take_append_drop k l]
    rw [List.filter_append, List.map_append, List.sum_append]
  omega

set_option maxHeartbeats 1600000 in
set_option maxRecDepth 100000 in
theorem refHas_any {q : Nat} {F R : List Nat} {B : BkV} {w : World} (H : MBk w q F R B) (hI : BkI B) (code : List UInt8) (hh : hasOf B code ≤ 4611686018427387904) :
    Calls Tryz.prog 67 #[.pointer (some ⟨q, 0, none⟩), .string ⟨code.toArray⟩] w fun e w' => e = .returned (.int .i64 (hasOf B code : Nat)) ∧ Below w.heap.size w w' := by
  obtain ⟨AL, cL, hcl, hrL⟩ := H.lotsAt
  obtain ⟨AS, cS, hcs, hrS⟩ := H.linesAt
  obtain ⟨T, hT⟩ : ∃ T, T = hasOf B code := ⟨_, rfl⟩
  have HT : Hid (hasTo B.2.2 code B.2.1 = T) := hT.symm
  have HTK := Lib.hid (hasTo_take B.2.2 code B.2.1)
  have HLE := Lib.hid (fun k => hasTo_le B.2.2 code B.2.1 k)
  have HOF := Lib.hid (fun W (h : Below w.heap.size w W) id => refOf_m hI.stk AS cS W (hrS.below h) id)
  have HQL := Lib.hid (fun W (h : Below w.heap.size w W) => (h.cell (lt_of_cell hcl)).trans hcl)
  have HQS := Lib.hid (fun W (h : Below w.heap.size w W) => (h.cell (lt_of_cell hcs)).trans hcs)
  have HRL := Lib.hid hrL
  obtain ⟨N, hN⟩ : ∃ N, N = B.2.1.length := ⟨_, rfl⟩
  have HN := Lib.hid hN
  obtain ⟨NS, hNS⟩ : ∃ NS, NS = B.2.2.length := ⟨_, rfl⟩
  rw [← hN] at HQL
  rw [← hNS] at HOF HQS
  rw [← hT] at hh ⊢
  have hN60 : N ≤ 60 := by rw [hN]; exact hI.lfew
  generalize B.2.2 = stk at HT HTK HLE HOF
  clear hT hcl hrL hcs hrS H hI hN hNS
  go_enter Tryz.func67, Tryz.ntmps67
  go_wp2_with fail
  go_loopw [5, 6] (fun a i wr => ∃ k : Nat, k ≤ N ∧ i = .int .i64 k ∧ a = .int .i64 (hasTo stk code (B.2.1.take k) : Nat) ∧ Hid (Below w.heap.size w wr)) (fun _ i _ => N - (intOf i).toNat)
  case atStart => exact ⟨0, by omega, rfl, rfl, Below.refl _ _⟩
  case round =>
    obtain ⟨k, hk, rfl, rfl, HB⟩ := hrel
    have cl := HQL.out wr HB.out
    by_cases hkN : k < N
    · have hkx : k < B.2.1.length := by rw [← HN.out]; exact hkN
      obtain ⟨g, o, rfl, lg, cg⟩ := HRL.out.resolve_left (fun h => by rw [h] at hkx; simp at hkx)
      obtain ⟨y, hy⟩ : ∃ y, y = B.2.1[k] := ⟨_, rfl⟩
      have htk := HTK.out k hkx
      rw [← hy] at htk
      have hle1 := HLE.out (k + 1)
      rw [HT.out, htk] at hle1
      have HTK1 := Lib.hid htk
      have hCX : ∀ W, Below w.heap.size w W → W.cell? ⟨g, o + k * 5, none⟩ = some (.string ⟨y.1.1.toArray⟩) ∧ W.cell? ⟨g, o + k * 5 + 1, none⟩ = some (.string ⟨y.1.2.1.toArray⟩) := fun W hb => by
        have h : ∀ c v, (encLoH y)[c]? = some v → W.cell? ⟨g, o + k * 5 + c, none⟩ = some v := fun c v hv => (hb.cell (p := ⟨g, o + k * 5 + c, none⟩) lg).trans (cg k hkx c v (by rw [← hy]; exact hv))
        exact ⟨h 0 _ rfl, h 1 _ rfl⟩
      have HCX := Lib.hid hCX
      have HOF1 := Lib.hid (fun W (h : Below w.heap.size w W) => HOF.out W h y.1.1)
      obtain ⟨c0, c1⟩ := hCX wr HB.out
      generalize hasTo stk code (B.2.1.take k) = sk at HTK1 hle1 ⊢
      generalize ofM stk y.1.1 = ov at HTK1 hle1 HOF1
      obtain ⟨⟨y1, y2, y3, y4⟩, y5⟩ := y
      simp only at HTK1 hle1 HCX HOF1 c0 c1
      have hk0 : (0 : Int) ≤ (k : Nat) := by omega
      have hk1 : ((k : Nat) : Int) < (N : Nat) := by omega
      clear hy cg htk hCX
      by_cases hc : y2 = code
      · have hcb : (y2 == code) = true := by simpa using hc
        have HTK2 := Lib.hid (HTK1.out.trans (by rw [if_pos hc]))
        rw [if_pos hc] at hle1
        have hwr : IntKind.i64.wrap (((sk : Nat) : Int) + ((ov : Nat) : Int)) = ((sk : Nat) : Int) + ((ov : Nat) : Int) := wrap_small (by omega) (by omega)
        have HUP : Hid (∀ W, Below w.heap.size w W → W.cell? ⟨q, 1, none⟩ = some (.slice (some ⟨g, o, none⟩) N cL) ∧ W.cell? ⟨q, 2, none⟩ = some (.slice AS NS cS) ∧ W.cell? ⟨g, o + k * 5, none⟩ = some (.string ⟨y1.toArray⟩)) := fun W hb => ⟨HQL.out W hb, HQS.out W hb, (HCX.out W hb).1⟩
        have hd := HB.out.drew
        clear hc HTK1
        go_wp2_with fail
        go_region_held3 (fun W => W.cell? ⟨q, 1, none⟩ = some (.slice (some ⟨g, o, none⟩) N cL) ∧ W.cell? ⟨q, 2, none⟩ = some (.slice AS NS cS) ∧ W.cell? ⟨g, o + k * 5, none⟩ = some (.string ⟨y1.toArray⟩))
          (first | exact HUP.out _ hd | exact HUP.out _ kk | go_keep)
          (first | (go_at_call 74; refine (HOF1.out _ hd).mono ?_; rintro e v ⟨rfl, bb⟩; have kk := hd.trans (bb.mono hd.size)))
        all_goals
          have K4 := Lib.hid kk
          clear kk bb hd HOF1
          go_wp2_with fail
          go_roundw
          case rel => exact ⟨k + 1, by omega, by go_num, by rw [HTK2.out]; simp, K4.out⟩
          case measure => simp [intOf]; omega
      · have hcb : (y2 == code) = false := by simpa using hc
        have HTK2 := Lib.hid (HTK1.out.trans (by rw [if_neg hc]))
        clear hc HTK1
        go_wp2_with fail
        go_roundw
        case rel => exact ⟨k + 1, by omega, by go_num, by rw [HTK2.out]; simp, HB.out⟩
        case measure => simp [intOf]; omega
    · obtain rfl : k = N := by omega
      have hT : B.2.1.take k = B.2.1 := List.take_of_length_le (by rw [← HN.out]; exact Nat.le_refl _)
      rw [hT, HT.out]
      clear hT
      go_wp2_with fail
      go_ret
      exact ⟨rfl, HB.out⟩
end Go.Proofs.YtgllddebodfhkaaGreatDoor
namespace Go.Proofs.YtgllddebodfhkaaGreatDoor
open Go.RowKit Go.Sort Go.Proofs

/-- The five cells of a line that lies in a row. -/
theorem RowAt.line {w : World} {g o : Nat} {l : List LineV} (h : RowAt encLine 5 w (some ⟨g, o, none⟩) l) (k : Nat) (hk : k < l.length) :
    w.cell? ⟨g, o + k * 5, none⟩ = some (.string ⟨l[k].1.1.toArray⟩) ∧ w.cell? ⟨g, o + k * 5 + 1, none⟩ = some (.int .i64 l[k].1.2.1) ∧ w.cell? ⟨g, o + k * 5 + 2, none⟩ = some (.int .i64 l[k].1.2.2) ∧ w.cell? ⟨g, o + k * 5 + 3, none⟩ = some (.string ⟨l[k].2.1.toArray⟩) ∧ w.cell? ⟨g, o + k * 5 + 4, none⟩ = some (.int .i64 l[k].2.2) := by
  rcases h with rfl | ⟨b, o', h1, _, h3⟩
  · simp at hk
  · cases h1
    exact range5L fun c v hv => h3 k hk c v hv
theorem RowAt.some_of {w : World} {A : Option Addr} {l : List LineV} (h : RowAt encLine 5 w A l) {k : Nat} (hk : k < l.length) : ∃ g o, A = some ⟨g, o, none⟩ := by
  rcases h with rfl | ⟨b, o, h1, _⟩
  · simp at hk
  · exact ⟨b, o, h1⟩

set_option maxHeartbeats 1600000 in
set_option maxRecDepth 100000 in
theorem asStock_any (E : Nat → Addr) (p b : Nat) {m : StkV} (hI : StkI m) (A : Option Addr) (cap : Nat) (w : World) (h : StkAt w p b m) (hrow : RowAt encLine 5 w A (linesM m)) (hG : PlaceG E w) :
    Calls Tryz.prog 65 #[.pointer (some ⟨p, 0, none⟩), .agg #[.slice A m.length cap]] w fun e w' => e = .returned (.int .i64 1) ∧ Below w.heap.size w w' := by
  have HLI := Lib.hid (fun W (hb : Below w.heap.size w W) => linesStock_any p b m W (h.below hb) hI.well.inPs (by have := hI.well.few; omega))
  have HTX := Lib.hid (fun W (hb : Below w.heap.size w W) => textStock_any E p b m W (h.below hb) hI.well (hG.below hb))
  have HRT := Lib.hid (fun W (hb : Below w.heap.size w W) => refText_m hI A cap W (hrow.below hb))
  have HOF := Lib.hid (fun lot W (hb : Below w.heap.size w W) => ofStock_any p b m lot W (h.below hb) (by have := hI.few lot; omega))
  have HRO := Lib.hid (fun lot W (hb : Below w.heap.size w W) => refOf_m hI A cap W (hrow.below hb) lot)
  have HROW := Lib.hid (fun W (hb : Below w.heap.size w W) => hrow.below hb)
  have hf := hI.well.few
  have HN := Lib.hid (linesM_len m)
  have HQ := Lib.hid (fun x W => neqLine x x W)
  unfold LinesEnds at HLI
  generalize linesM m = l at HLI HROW HN
  obtain ⟨N, hN⟩ : ∃ N, N = m.length := ⟨_, rfl⟩
  rw [← hN] at HLI HRT HRO hf HN ⊢
  have HB0 := Lib.hid (below_one w (.cells #[.slice A N cap] 94))
  have HC0 := Lib.hid (cell_of_row _ _ 0 _ _ _ (heap_alloc_new w (.cells #[.slice A N cap] 94)))
  clear h hI hrow hG hN
  go_enter Tryz.func65, Tryz.ntmps65
  go_wp2_with fail
  refine (HLI.out _ HB0.out).mono ?_
  rintro e w1 ⟨A1, cap1, rfl, hr1, -, b1⟩
  have B1 := Lib.hid (HB0.out.trans (b1.mono HB0.out.size))
  have HR1 := Lib.hid hr1
  have c0 : w1.cell? ⟨w.heap.size, 0, none⟩ = some (.slice A N cap) := (b1.cell (p := ⟨_, 0, none⟩) (by simp)).trans HC0.out
  have lw : w.heap.size < w1.heap.size := heap_two b1
  clear hr1 b1 HLI HC0
  go_wp2_with fail
  have hd : Below w.heap.size w w1.drew := B1.out.drew
  have qd : Below w1.heap.size w1 w1.drew := (Below.refl _ _).drew
  go_region_held3 (fun w' => w'.cell? ⟨w.heap.size, 0, none⟩ = some (.slice A N cap))
    (first | exact c0 | exact (q34.cell (p := ⟨_, 0, none⟩) lw).trans c0 | exact (q4.cell (p := ⟨_, 0, none⟩) lw).trans c0 | exact (q3.cell (p := ⟨_, 0, none⟩) lw).trans c0 | go_keep)
    (first
      | (go_at_call 41; refine (HTX.out _ hd).mono ?_; rintro e w3 ⟨rfl, bb3⟩; have q3 : Below w1.heap.size w1 w3 := qd.trans bb3; have b3 := B1.out.trans (q3.mono B1.out.size))
      | (go_at_call 107; refine (HRT.out _ hd).mono ?_; rintro e w4 ⟨rfl, bb4⟩; have q4 : Below w1.heap.size w1 w4 := qd.trans bb4; have b4 := B1.out.trans (q4.mono B1.out.size))
      | (go_at_call 41; refine (HTX.out _ b4).mono ?_; rintro e w3 ⟨rfl, bb3⟩; have q34 : Below w1.heap.size w1 w3 := q4.trans (bb3.mono q4.size); have b34 := B1.out.trans (q34.mono B1.out.size))
      | (go_at_call 107; refine (HRT.out _ b3).mono ?_; rintro e w4 ⟨rfl, bb4⟩; have q34 : Below w1.heap.size w1 w4 := q3.trans (bb4.mono q3.size); have b34 := B1.out.trans (q34.mono B1.out.size)))
  have B4 := Lib.hid b34
  have HR4 := Lib.hid (HR1.out.below q34)
  have HC4 := Lib.hid ((q34.cell (p := ⟨w.heap.size, 0, none⟩) lw).trans c0)
  have lw4 := Nat.lt_of_lt_of_le lw q34.size
  clear b34 q34 b3 q3 bb3 bb4 hd qd c0 HR1 HTX HRT B1 lw
  go_wp2_with fail
  go_loopw [6] (fun i wr => ∃ k : Nat, k ≤ N ∧ i = .int .i64 k ∧ Below w4.heap.size w4 wr) (fun i _ => N - (intOf i).toNat)
  case atStart => exact ⟨0, by omega, rfl, Below.refl _ _⟩
  case round =>
    obtain ⟨k, hk, rfl, hb⟩ := hrel
    have HB := Lib.hid (B4.out.trans (hb.mono B4.out.size))
    have HB4 := Lib.hid hb
    have c0 : wr.cell? ⟨w.heap.size, 0, none⟩ = some (.slice A N cap) := (hb.cell (p := ⟨_, 0, none⟩) lw4).trans HC4.out
    have lwr := Nat.lt_of_lt_of_le lw4 hb.size
    by_cases hkN : k < N
    · have hkl : k < l.length := by rw [HN.out]; exact hkN
      have hr1 := HR4.out.below hb
      have hr2 := HROW.out _ HB.out
      clear hb
      obtain ⟨g, o, rfl⟩ := hr1.some_of hkl
      obtain ⟨g2, o2, rfl⟩ := hr2.some_of hkl
      obtain ⟨e0, e1, e2, e3, e4⟩ := hr1.line k hkl
      obtain ⟨f0, f1, f2, f3, f4⟩ := hr2.line k hkl
      generalize l[k] = x at e0 e1 e2 e3 e4 f0 f1 f2 f3 f4
      have hq := HQ.out x
      have HO1 := Lib.hid (HOF.out x.2.1)
      have HO2 := Lib.hid (HRO.out x.2.1)
      generalize ofM m x.2.1 = ox at HO1 HO2
      obtain ⟨⟨a1, a2, a3⟩, a4, a5⟩ := x
      simp only [encLine] at hq
      simp only at e0 e1 e2 e3 e4 f0 f1 f2 f3 f4 HO1 HO2
      clear hr1 hr2 hkl
      have HC0 := Lib.hid c0
      have hd := HB.out.drew
      have qd : Below wr.heap.size wr wr.drew := (Below.refl _ _).drew
      go_wp2_with fail
      have up := Lib.hid (fun (W : World) (hW : Below wr.heap.size wr W) (q : Addr) (v : Value) (h : wr.cell? q = some v) => (hW.cell (lt_of_cell h)).trans h)
      go_region_held3 (fun w' => w'.cell? ⟨w.heap.size, 0, none⟩ = some (.slice (some ⟨g2, o2, none⟩) N cap) ∧ w'.cell? ⟨g, o + k * 5, none⟩ = some (.string ⟨a1.toArray⟩) ∧ w'.cell? ⟨g, o + k * 5 + 1, none⟩ = some (.int .i64 a2) ∧ w'.cell? ⟨g, o + k * 5 + 2, none⟩ = some (.int .i64 a3) ∧ w'.cell? ⟨g, o + k * 5 + 3, none⟩ = some (.string ⟨a4.toArray⟩) ∧ w'.cell? ⟨g, o + k * 5 + 4, none⟩ = some (.int .i64 a5) ∧ w'.cell? ⟨g2, o2 + k * 5, none⟩ = some (.string ⟨a1.toArray⟩) ∧ w'.cell? ⟨g2, o2 + k * 5 + 1, none⟩ = some (.int .i64 a2) ∧ w'.cell? ⟨g2, o2 + k * 5 + 2, none⟩ = some (.int .i64 a3) ∧ w'.cell? ⟨g2, o2 + k * 5 + 3, none⟩ = some (.string ⟨a4.toArray⟩) ∧ w'.cell? ⟨g2, o2 + k * 5 + 4, none⟩ = some (.int .i64 a5))
        (first
          | exact ⟨c0, e0, e1, e2, e3, e4, f0, f1, f2, f3, f4⟩
          | exact ⟨up.out _ q34 _ _ c0, up.out _ q34 _ _ e0, up.out _ q34 _ _ e1, up.out _ q34 _ _ e2, up.out _ q34 _ _ e3, up.out _ q34 _ _ e4, up.out _ q34 _ _ f0, up.out _ q34 _ _ f1, up.out _ q34 _ _ f2, up.out _ q34 _ _ f3, up.out _ q34 _ _ f4⟩
          | exact ⟨up.out _ q3 _ _ c0, up.out _ q3 _ _ e0, up.out _ q3 _ _ e1, up.out _ q3 _ _ e2, up.out _ q3 _ _ e3, up.out _ q3 _ _ e4, up.out _ q3 _ _ f0, up.out _ q3 _ _ f1, up.out _ q3 _ _ f2, up.out _ q3 _ _ f3, up.out _ q3 _ _ f4⟩
          | go_keep)
        (first
          | (go_at_call 22; refine (HO1.out _ hd).mono ?_; rintro e w5 ⟨rfl, bb3⟩; have q3 : Below wr.heap.size wr w5 := qd.trans bb3; have b3 := HB.out.trans (q3.mono HB.out.size))
          | (go_at_call 74; refine (HO2.out _ b3).mono ?_; rintro e w6 ⟨rfl, bb4⟩; have q34 : Below wr.heap.size wr w6 := q3.trans (bb4.mono q3.size)))
      have B6 := Lib.hid (HB4.out.trans (q34.mono HB4.out.size))
      clear q34 b3 q3 bb3 bb4 hd qd c0 e0 e1 e2 e3 e4 f0 f1 f2 f3 f4 hq up
      go_wp2
      go_roundw
      case rel => exact ⟨k + 1, by omega, by go_num, B6.out⟩
      case measure => simp [intOf]; omega
    · obtain rfl : k = N := by omega
      go_wp2_with fail
      go_ret
      exact ⟨rfl, HB.out⟩
end Go.Proofs.YtgllddebodfhkaaGreatDoor
