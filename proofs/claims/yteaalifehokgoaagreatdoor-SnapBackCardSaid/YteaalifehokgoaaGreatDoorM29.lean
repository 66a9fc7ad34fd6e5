/- The document's book: Do, at lots. Printed by gen/bkinl.py. -/
import Derived.Test.YteaalifehokgoaaGreatDoorM28
namespace Go.Proofs.YteaalifehokgoaaGreatDoor
open Go.RowKit Go.Sort Go.Proofs
set_option maxHeartbeats 3200000 in
set_option maxRecDepth 100000 in
theorem refDo_lot (q : Nat) (vG vL : Value) (A : Option Addr) (cap : Nat) (B : BkV) (x : EntV) (w : World) (H : MBkM w q vG vL A cap B) (hI : BkI B) (hs : ShortE x) (he : entE x = 0) (hk : x.1 = kLot) :
  Calls Tryz.prog 25 #[.pointer (some ⟨q, 0, none⟩), .agg (encEnt x).toArray] w fun e w' => e = .returned (.int .i64 (doE B x : Nat)) ∧
   ((doE B x ≠ 0 ∧ Below w.heap.size w w') ∨ (doE B x = 0 ∧ ∃ v', w'.heap[q]? = some (.cells #[vG, v', .slice A B.2.2.length cap] 71 (0, 0)) ∧ w'.ownsRow w.heap.size 124 5 v' (B.2.1.length + 1) (flatL encLoH (insLo (x.2.2.1, 0) B.2.1)) ∧ ButF [q] w w')) := by
 obtain ⟨i0, hi, hz0, hz1, hz2⟩ := info_parts lot2Info
 have HEE := Lib.hid (fun W => refEntE_any x W hs)
 have hrow := heap_alloc_new w (.cells (encEnt x).toArray 43)
 have B0 := Lib.hid (below_one w (.cells (encEnt x).toArray 43))
 have h14 : (encEnt x).length = 14 := rfl
 have hfew := hI.lfew
 have hql := (H.lt q (by simp))
 obtain ⟨AG, cG, hvG, hrG, -⟩ := RowAt.of_own encLoH_len H.lots
 have hcap := own_cap H.lots hvG
 have HAG := Lib.hid (own_form H.lots hvG)
 obtain ⟨AH, cH, hvH, hrH, -⟩ := RowAt.of_own encGoS_len H.goods
 have hgf := hI.gfew
 have HFH := Lib.hid (fun W c0 hr => findG_any q AH cH B.1 x.2.2.1.2.1 W c0 hr (by omega))
 have HIH := Lib.hid (idxK_find (fun y : GoS => y.1.1) B.1 x.2.2.1.2.1)
 have HFF := Lib.hid (show fG B x.2.2.1.2.1 = B.1.find? (fun y : GoS => decide (y.1.1 = x.2.2.1.2.1)) from rfl)
 have HRH := Lib.hid hrH
 have hown := H.own
 rw [hvG, hvH] at hown
 rw [hvH]
 have HOWN := Lib.hid hown
 have HRG := Lib.hid hrG
 have hk0 : (encEnt x)[0]? = some (.string ⟨x.1.toArray⟩) := rfl
 have hk1 : (encEnt x)[3]? = some (.string ⟨x.2.2.1.1.toArray⟩) := rfl
 have hk4 : (encEnt x)[4]? = some (.string ⟨x.2.2.1.2.1.toArray⟩) := rfl
 have HGL := Lib.hid (fun (W : World) (b : Nat) (h : Lies W b 0 (encEnt x)) => ent_lot h)
 have HFG := Lib.hid (fun W c0 hr => findL_any q AG cG B.2.1 x.2.2.1.1 W c0 hr (by omega))
 have HDO := Lib.hid (show doE B x = if (fL B x.2.2.1.1).isSome = true then 7 else if (fG B x.2.2.1.2.1).isSome = false then 6 else if 60 ≤ B.2.1.length then 8 else 0 by unfold doE; rw [if_neg (by simpa using he), if_neg (by rw [hk]; decide), if_pos hk])
 rw [he] at HEE
 rw [hk] at hk0
 have HTW := Lib.hid (fun k h1 h2 h3 => take_while_at (fun y : LoH => ltB y.1.1 x.2.2.1.1) B.2.1 k h1 h2 h3)
 have HIN := Lib.hid (show insLo (x.2.2.1, 0) B.2.1 = B.2.1.takeWhile (fun y => ltB y.1.1 x.2.2.1.1) ++ (x.2.2.1, 0) :: B.2.1.dropWhile (fun y => ltB y.1.1 x.2.2.1.1) from rfl)
 have HIX := Lib.hid (idxK_find (fun y : LoH => y.1.1) B.2.1 x.2.2.1.1)
 have HFE := Lib.hid (show fL B x.2.2.1.1 = B.2.1.find? (fun y : LoH => decide (y.1.1 = x.2.2.1.1)) from rfl)
 obtain ⟨N, hN⟩ : ∃ N, N = B.2.1.length := ⟨_, rfl⟩
 have HN := Lib.hid hN
 obtain ⟨NL, hNL⟩ : ∃ N, N = B.2.2.length := ⟨_, rfl⟩
 obtain ⟨NG, hNG⟩ : ∃ N, N = B.1.length := ⟨_, rfl⟩
 rw [← hNL, ← hNG] at HOWN
 rw [← hNG] at HFH hgf
 rw [← hNL, ← hNG]
 rw [← hN] at HOWN HDO HFG hfew hcap HAG ⊢
 have HNL := Lib.hid (show N = 0 → B.2.1 = [] from fun h => List.eq_nil_of_length_eq_zero (hN.symm.trans h))
 clear hs he hk hI H hown hrG hvG hN hNL hNG hrH hvH hgf
 generalize idxK (fun y : LoH => y.1.1) B.2.1 x.2.2.1.1 = ix at HFG HIX
 generalize idxK (fun y : GoS => y.1.1) B.1 x.2.2.1.2.1 = ih at HFH HIH
 generalize fL B x.2.2.1.1 = fnd at HDO HFE
 generalize fG B x.2.2.1.2.1 = fgo at HDO HFF
 generalize doE B x = de at HDO ⊢
 generalize insLo (x.2.2.1, 0) B.2.1 = lnew at HIN ⊢
 generalize x.2.2.1 = gx at *
 generalize encEnt x = LX at *
 obtain ⟨g1, g2, g3, g4⟩ := gx
 simp only [encLot] at HGL hk1 hk4 HFG HTW HIN HIX HFE HFH HIH HFF
 go_enter Tryz.func25, Tryz.ntmps25
 go_wp2_with (refine wpList_load_at rfl 43 _ rfl w.heap.size 0 rfl LX (Lies.row _ hrow) _ Tryz.underlying43 rfl (by rw [h14]; kernel_rfl) ?_)
 refine (HEE.out _).mono ?_
 rintro e w1 ⟨rfl, b1⟩
 have B1 := Lib.hid (B0.out.trans (b1.mono B0.out.size))
 have hr1 := row_below b1 hrow (by simp)
 have e0 : w1.cell? ⟨w.heap.size, 0, none⟩ = some (.string ⟨kLot.toArray⟩) := (cell_of_row _ _ _ _ _ _ hr1).trans (by simpa using hk0)
 have e1 : w1.cell? ⟨w.heap.size, 3, none⟩ = some (.string ⟨g1.toArray⟩) := (cell_of_row _ _ _ _ _ _ hr1).trans (by simpa using hk1)
 simp only [kLot] at e0
 have hq1 := (B1.out.block q hql).trans HOWN.out
 have cq := cell_of_row _ _ 1 _ _ _ hq1
 have cqh1 := cell_of_row _ _ 0 _ _ _ hq1
 have hrw1 := HRG.out.below B1.out
 clear b1 hrow hk0 hq1
 go_wp2_with fail
 refine (HFG.out w1 cq hrw1).mono ?_
 rintro e w2 ⟨rfl, b2⟩
 have B2 := Lib.hid (B1.out.trans (b2.mono B1.out.size))
 have hr2 := row_below b2 hr1 (row_lt hr1)
 have cqh : w2.cell? ⟨q, 0, none⟩ = some (.slice AH NG cH) := (b2.cell (lt_of_cell cqh1)).trans cqh1
 have e4 : w2.cell? ⟨w.heap.size, 4, none⟩ = some (.string ⟨g2.toArray⟩) := (cell_of_row _ _ _ _ _ _ hr2).trans (by simpa using hk4)
 clear b2 cq e0 e1 hr1 hrw1 HFG B1 HEE cqh1
 rcases HIX.out with ⟨f1, f2⟩ | ⟨i, hi, f1, f2, -⟩
 ·rw [← HFE.out] at f1
  have HD1 : Hid (de = if fgo.isSome = false then 6 else if 60 ≤ N then 8 else 0) := by
   show _ = _
   rw [HDO.out, f1]
   rfl
  rw [f2]
  clear f1 f2 HIX
  go_wp2_with fail
  refine (HFH.out w2 cqh (HRH.out.below B2.out)).mono ?_
  rintro e w3 ⟨rfl, b3⟩
  have B3 := Lib.hid (B2.out.trans (b3.mono B2.out.size))
  have hr3 := row_below b3 hr2 (row_lt hr2)
  have cq2 : w3.cell? ⟨q, 1, none⟩ = some (.slice AG N cG) := cell_of_row _ _ 1 _ _ _ ((B3.out.block q hql).trans HOWN.out)
  have e12 : w3.cell? ⟨w.heap.size, 3, none⟩ = some (.string ⟨g1.toArray⟩) := (cell_of_row _ _ _ _ _ _ hr3).trans (by simpa using hk1)
  clear b3 hr2 cqh e4 HFH B2 HRH hk1 hk4
  rcases HIH.out with ⟨f1, f2⟩ | ⟨i, hi, f1, f2, -⟩
  ·rw [← HFF.out] at f1
   have HD2 : Hid (de = 6) := by
    show _ = _
    rw [HD1.out, f1]
    rfl
   rw [f2]
   clear f1 f2 HIH
   go_wp2_with fail
   go_ret
   rw [HD2.out]
   exact ⟨rfl, .inl ⟨by decide, B3.out⟩⟩
  rw [← HFF.out] at f1
  have HD1' : Hid (de = if 60 ≤ N then 8 else 0) := by
   show _ = _
   rw [HD1.out, f1]
   rfl
  rw [f2]
  have hpi : ¬ ((i : Nat) : Int) < 0 := by omega
  replace HD1 := HD1'
  clear f1 f2 HIH hi HFF HD1'
  by_cases hfull : 60 ≤ N
  ·have HD2 := Lib.hid (HD1.out.trans (if_pos hfull))
   go_wp2_with fail
   go_ret
   rw [HD2.out]
   exact ⟨rfl, .inl ⟨by decide, B3.out⟩⟩
  ·have HD2 := Lib.hid (HD1.out.trans (if_neg hfull))
   go_wp2_with fail
   go_loopw [8] (fun i wr => ∃ k : Nat, k ≤ N ∧ i = .int .i64 k ∧ Hid (∀ j (h : j < B.2.1.length), j < k → ltB B.2.1[j].1.1 g1 = true) ∧ Below w3.heap.size w3 wr) (fun i _ => N - (intOf i).toNat)
   case atStart => exact ⟨0, by omega, rfl, fun j _ h => absurd h (Nat.not_lt_zero _), Below.refl _ _⟩
   case round =>
    obtain ⟨k, hk, rfl, HNO, hb⟩ := hrel
    have HB := Lib.hid hb
    have cq3 : wr.cell? ⟨q, 1, none⟩ = some (.slice AG N cG) := (hb.cell (lt_of_cell cq2)).trans cq2
    have e13 : wr.cell? ⟨w.heap.size, 3, none⟩ = some (.string ⟨g1.toArray⟩) := (hb.cell (lt_of_cell e12)).trans e12
    have HB3 := Lib.hid (B3.out.trans (hb.mono B3.out.size))
    clear hb
    by_cases hkN : k < N
    ·have hkx : k < B.2.1.length := by rw [← HN.out]; exact hkN
     obtain ⟨g, o, rfl, lg, cg⟩ := HRG.out.resolve_left (fun h => by rw [h] at hkx; simp at hkx)
     obtain ⟨y, hy⟩ : ∃ y, y = B.2.1[k] := ⟨_, rfl⟩
     have e0 := rangeLo (x := y) (w := wr) (b := g) (o := o + k * 5) (fun cc v hv => by
      have h1 := cg k hkx cc v (by rw [← hy]; exact hv)
      exact (HB3.out.cell (p := ⟨g, o + k * 5 + cc, none⟩) lg).trans h1)
     have HY := Lib.hid hy
     clear hy cg
     by_cases hlt : ltB y.1.1 g1 = true
     ·have HNX : Hid (∀ j (h : j < B.2.1.length), j < k + 1 → ltB B.2.1[j].1.1 g1 = true) := fun j hj hjk => by
       rcases Nat.lt_succ_iff_lt_or_eq.1 hjk with h | rfl
       ·exact HNO.out j hj h
       ·rw [← HY.out]; exact hlt
      obtain ⟨⟨a1, a2, a4, a5⟩, a3⟩ := y
      simp only at e0 hlt
      have hbl : Op.bytesLess a1 g1 = true := hlt
      clear hlt
      go_wp2_with fail
      go_region
      all_goals
       go_wp2
       go_roundw
       case rel => exact ⟨k + 1, by omega, by go_num, HNX.out, HB.out.drew⟩
       case measure => simp [intOf]; omega
     ·have HT := Lib.hid (HTW.out k HNO.out (fun _ => by rw [← HY.out]; simpa using hlt) (by rw [← HN.out]; exact hk))
      obtain ⟨⟨a1, a2, a4, a5⟩, a3⟩ := y
      simp only at e0 hlt
      have hbl : Op.bytesLess a1 g1 = false := by simpa [ltB] using hlt
      clear hlt
      go_wp2_with fail
      go_region
      all_goals
       have he4 : wr.drew.heap[w.heap.size]? = some (.cells LX.toArray 43 (0, 0)) := (HB.out.block _ (row_lt hr3)).trans hr3
       have hqz : q < w.heap.size := hql
       have B4 : Below w.heap.size w wr.drew := HB3.out.drew
       have hez := row_lt he4
       obtain ⟨T, hT⟩ : ∃ T, T = B.2.1.take k := ⟨_, rfl⟩
       obtain ⟨D, hD⟩ : ∃ D, D = B.2.1.drop k := ⟨_, rfl⟩
       have HRT := Lib.hid ((HRG.out.takeK k).below B4)
       have hrd := HRG.out.dropK k
       rw [← hT] at HT HRT
       rw [← hD] at HT hrd
       have hTk : k = T.length := by rw [hT, List.length_take, ← HN.out]; omega
       have hND : N = T.length + D.length := by rw [hT, hD, List.length_take, List.length_drop, ← HN.out]; omega
       have HLW : Hid (lnew = T ++ ((g1, g2, g3, g4), 0) :: D) := by
        show _ = _
        rw [HIN.out, HT.out.1, HT.out.2]
       clear hT hD HT HIN HTW HRG HN HNO HY HFE HDO HD1 e0 hbl
       subst hTk
       subst hND
       have hDp : 0 < D.length := by omega
       have HRD := Lib.hid hrd
       clear hrd
       have i1 : ((T.length : Nat) : Int) ≤ (cG : Nat) := by omega
       have i2 : ((T.length : Nat) : Int) ≤ ((T.length + D.length : Nat) : Int) := by omega
       have i3 : ¬ cG = T.length := by omega
       have cq4 : wr.drew.cell? ⟨q, 1, none⟩ = some (.slice (some ⟨g, o, none⟩) (T.length + D.length) cG) := cq3
       go_upto_region 29 with (at_builtin; refine wpList_append_rows _ rfl (.tmp 131) (.tmp 137) 66 rfl (w.heap.size + 1) 124 i0 _ 56 Tryz.underlying66 hi hz0 hz1 hz2 rfl encLoH_len (by decide) encLoH_one (.slice none 0 0) 0 [] rfl (World.ownsRow_nil _ _ _ _) _ _ T rfl HRT.out (by simp; omega) (by decide) (Nat.succ_le_of_lt hez) ?_; intro v5 w5 HO5 hb5; have HB5 := Lib.hid hb5; have he5 := row_below hb5 he4 (Nat.lt_succ_self _); have cq5 := (hb5.cell (p := ⟨q, 1, none⟩) (by show q < _; omega)).trans cq4; have hez5 := row_lt he5)
       go_upto_region 30 with (first | (refine wpList_load_at rfl 39 (.tmp 140) rfl w.heap.size 3 rfl [.string ⟨g1.toArray⟩, .string ⟨g2.toArray⟩, .int .i64 g3, .int .i64 g4] (HGL.out w5 _ (Lies.row _ he5)) _ Tryz.underlying39 rfl (by kernel_rfl) ?_) | (at_builtin; refine wpList_append_rows _ rfl (.tmp 139) (.tmp 143) 66 rfl (w.heap.size + 1) 124 i0 _ 56 Tryz.underlying66 hi hz0 hz1 hz2 rfl encLoH_len (by decide) encLoH_one v5 (0 + T.length) ([] ++ flatL encLoH T) rfl (own_bl HO5.out (below_one _ _)) (some ⟨w5.heap.size, 0, none⟩) 1 [((g1, g2, g3, g4), 0)] rfl (row_one (heap_alloc_new _ _)) (by simp; omega) (by decide) (Nat.le_trans (Nat.succ_le_of_lt hez5) (below_one w5 _).size) ?_; intro v6 w6 HO6 hb6; have HB6 := Lib.hid (((below_one w5 (.cells #[.string ⟨g1.toArray⟩, .string ⟨g2.toArray⟩, .int .i64 g3, .int .i64 g4, .int .i64 0] 124)).mono (Nat.succ_le_of_lt hez5)).trans hb6); have cq6 := ((hb6.cell (p := ⟨q, 1, none⟩) (by show q < _; omega)).trans ((below_one w5 _).cell (p := ⟨q, 1, none⟩) (by show q < _; omega))).trans cq5; have hez6 := hb6.size))
       have HB46 := Lib.hid ((B4.trans (HB5.out.mono (Nat.le_succ _))).trans (HB6.out.mono (Nat.le_succ _)))
       have HRD6 := HRD.out.below HB46.out
       have hl7 : 0 + T.length + [((g1, g2, g3, g4), 0)].length + D.length = T.length + D.length + 1 := by simp <;> omega
       go_wp2_with (first | (at_builtin; refine wpList_append_rows _ rfl (.tmp 146) (.tmp 152) 66 rfl (w.heap.size + 1) 124 i0 _ 56 Tryz.underlying66 hi hz0 hz1 hz2 rfl encLoH_len (by decide) encLoH_one v6 _ _ rfl HO6.out _ _ D rfl HRD6 (by simp; omega) (by decide) (Nat.le_trans (Nat.succ_le_of_lt hez5) HB6.out.size) ?_; intro v7 w7 HO7 hb7; have HO8 := HO7.out; rw [hl7] at HO8; obtain ⟨A7, c7, rfl⟩ := own_slice HO8; have HB7 := Lib.hid (HB46.out.trans (hb7.mono (Nat.le_succ _))); have hq7 := (HB7.out.block q hql).trans HOWN.out) | (refine wpList_store_val rfl 66 _ _ rfl q 1 (.slice A7 (T.length + D.length + 1) c7) rfl rfl rfl _ [.slice AH NG cH, .slice (some ⟨g, o, none⟩) (T.length + D.length) cG, .slice A NL cap] hq7 (by kernel_rfl) (Nat.le_of_ble_eq_true rfl) rfl ?_; intro w8 h8 tu8))
       go_ret
       have h9 := own_base (own_turned HO8 tu8 (by omega)) (Nat.le_succ w.heap.size)
       rw [show [] ++ flatL encLoH T ++ flatL encLoH [((g1, g2, g3, g4), 0)] ++ flatL encLoH D = flatL encLoH lnew by rw [HLW.out]; simp [flatL]] at h9
       exact ⟨by rw [HD2.out]; rfl, .inr ⟨HD2.out, _, h8, h9, (ButF.of_below HB7.out).step (ButF.of_turned tu8 (.inl (by simp)))⟩⟩
    ·obtain rfl : k = N := by omega
     have HT := Lib.hid (HTW.out k HNO.out (fun h => by rw [← HN.out] at h; omega) (by rw [← HN.out]; exact hk))
     rcases HAG.out with ⟨rfl, hN0, rfl⟩ | ⟨g, rfl⟩
     ·have hB1 := HNL.out hN0
      subst hN0
      go_wp2_with fail
      go_region
      all_goals
       have he4 : wr.drew.heap[w.heap.size]? = some (.cells LX.toArray 43 (0, 0)) := (HB.out.block _ (row_lt hr3)).trans hr3
       have hqz : q < w.heap.size := hql
       have B4 : Below w.heap.size w wr.drew := HB3.out.drew
       have hez := row_lt he4
       have HLW : Hid (lnew = [] ++ ((g1, g2, g3, g4), 0) :: []) := by
        show _ = _
        rw [HIN.out, HT.out.1, HT.out.2, hB1]
        rfl
       have HRT : Hid (RowAt encLoH 5 wr.drew (none : Option Addr) []) := RowAt.nil
       have HRD : Hid (RowAt encLoH 5 w (none : Option Addr) []) := RowAt.nil
       clear HT HIN HTW HRG HN HNO HFE HDO HD1
       have cq4 : wr.drew.cell? ⟨q, 1, none⟩ = some (.slice none 0 0) := cq3
       have cq5 := cq4
       have hez5 := hez
       go_upto_region 29 with fail
       go_upto_region 30 with (first | (refine wpList_load_at rfl 39 (.tmp 140) rfl w.heap.size 3 rfl [.string ⟨g1.toArray⟩, .string ⟨g2.toArray⟩, .int .i64 g3, .int .i64 g4] (HGL.out wr.drew _ (Lies.row _ he4)) _ Tryz.underlying39 rfl (by kernel_rfl) ?_) | (at_builtin; refine wpList_append_rows _ rfl (.tmp 139) (.tmp 143) 66 rfl (w.heap.size + 1) 124 i0 _ 56 Tryz.underlying66 hi hz0 hz1 hz2 rfl encLoH_len (by decide) encLoH_one (.slice none 0 0) 0 [] rfl (World.ownsRow_nil _ _ _ _) (some ⟨wr.drew.heap.size, 0, none⟩) 1 [((g1, g2, g3, g4), 0)] rfl (row_one (heap_alloc_new _ _)) (Nat.le_of_ble_eq_true rfl) (by decide) (Nat.le_trans (Nat.succ_le_of_lt hez5) (below_one wr.drew _).size) ?_; intro v6 w6 HO6 hb6; have HB6 := Lib.hid (((below_one wr.drew (.cells #[.string ⟨g1.toArray⟩, .string ⟨g2.toArray⟩, .int .i64 g3, .int .i64 g4, .int .i64 0] 124)).mono (Nat.succ_le_of_lt hez5)).trans hb6); have cq6 := ((hb6.cell (p := ⟨q, 1, none⟩) (by show q < _; omega)).trans ((below_one wr.drew _).cell (p := ⟨q, 1, none⟩) (by show q < _; omega))).trans cq5; have hez6 := hb6.size))
       have HB46 := Lib.hid (B4.trans (HB6.out.mono (Nat.le_succ _)))
       have hl7 : 0 + 0 + [((g1, g2, g3, g4), 0)].length + ([] : List LoH).length = 1 := by simp <;> omega
       go_wp2_with (first | (at_builtin; refine wpList_append_rows _ rfl (.tmp 146) (.tmp 152) 66 rfl (w.heap.size + 1) 124 i0 _ 56 Tryz.underlying66 hi hz0 hz1 hz2 rfl encLoH_len (by decide) encLoH_one v6 _ _ rfl HO6.out _ _ [] rfl RowAt.nil (Nat.le_of_ble_eq_true rfl) (by decide) (Nat.le_trans (Nat.succ_le_of_lt hez5) HB6.out.size) ?_; intro v7 w7 HO7 hb7; have HO8 := HO7.out; rw [hl7] at HO8; obtain ⟨A7, c7, rfl⟩ := own_slice HO8; have HB7 := Lib.hid (HB46.out.trans (hb7.mono (Nat.le_succ _))); have hq7 := (HB7.out.block q hql).trans HOWN.out) | (refine wpList_store_val rfl 66 _ _ rfl q 1 (.slice A7 (1) c7) rfl rfl rfl _ [.slice AH NG cH, .slice none 0 0, .slice A NL cap] hq7 (by kernel_rfl) (Nat.le_of_ble_eq_true rfl) rfl ?_; intro w8 h8 tu8))
       go_ret
       have h9 := own_base (own_turned HO8 tu8 (by omega)) (Nat.le_succ w.heap.size)
       rw [show [] ++ flatL encLoH [((g1, g2, g3, g4), 0)] ++ flatL encLoH [] = flatL encLoH lnew by rw [HLW.out]; simp [flatL]] at h9
       exact ⟨by rw [HD2.out]; rfl, .inr ⟨HD2.out, _, h8, h9, (ButF.of_below HB7.out).step (ButF.of_turned tu8 (.inl (by simp)))⟩⟩
     ·by_cases hcc : cG = k
      ·go_wp2_with fail
       go_region
       all_goals
        have he4 : wr.drew.heap[w.heap.size]? = some (.cells LX.toArray 43 (0, 0)) := (HB.out.block _ (row_lt hr3)).trans hr3
        have hqz : q < w.heap.size := hql
        have B4 : Below w.heap.size w wr.drew := HB3.out.drew
        have hez := row_lt he4
        obtain ⟨T, hT⟩ : ∃ T, T = B.2.1 := ⟨_, rfl⟩
        have HRT := Lib.hid (HRG.out.below B4)
        rw [← hT] at HRT
        have hTk : k = T.length := by rw [hT]; exact HN.out
        have HLW : Hid (lnew = T ++ ((g1, g2, g3, g4), 0) :: []) := by
         show _ = _
         rw [HIN.out, HT.out.1, HT.out.2, hT, HN.out, List.take_length, List.drop_length]
        have HRD : Hid (RowAt encLoH 5 w (none : Option Addr) []) := RowAt.nil
        clear hT HT HIN HTW HRG HN HNO HFE HDO HD1
        subst hTk
        have i1 : ((T.length : Nat) : Int) ≤ (cG : Nat) := by omega
        have cq4 : wr.drew.cell? ⟨q, 1, none⟩ = some (.slice (some ⟨g, 0, none⟩) T.length cG) := cq3
        go_upto_region 29 with (at_builtin; refine wpList_append_rows _ rfl (.tmp 131) (.tmp 137) 66 rfl (w.heap.size + 1) 124 i0 _ 56 Tryz.underlying66 hi hz0 hz1 hz2 rfl encLoH_len (by decide) encLoH_one (.slice none 0 0) 0 [] rfl (World.ownsRow_nil _ _ _ _) _ _ T rfl HRT.out (by simp; omega) (by decide) (Nat.succ_le_of_lt hez) ?_; intro v5 w5 HO5 hb5; have HB5 := Lib.hid hb5; have he5 := row_below hb5 he4 (Nat.lt_succ_self _); have cq5 := (hb5.cell (p := ⟨q, 1, none⟩) (by show q < _; omega)).trans cq4; have hez5 := row_lt he5)
        go_upto_region 30 with (first | (refine wpList_load_at rfl 39 (.tmp 140) rfl w.heap.size 3 rfl [.string ⟨g1.toArray⟩, .string ⟨g2.toArray⟩, .int .i64 g3, .int .i64 g4] (HGL.out w5 _ (Lies.row _ he5)) _ Tryz.underlying39 rfl (by kernel_rfl) ?_) | (at_builtin; refine wpList_append_rows _ rfl (.tmp 139) (.tmp 143) 66 rfl (w.heap.size + 1) 124 i0 _ 56 Tryz.underlying66 hi hz0 hz1 hz2 rfl encLoH_len (by decide) encLoH_one v5 (0 + T.length) ([] ++ flatL encLoH T) rfl (own_bl HO5.out (below_one _ _)) (some ⟨w5.heap.size, 0, none⟩) 1 [((g1, g2, g3, g4), 0)] rfl (row_one (heap_alloc_new _ _)) (by simp; omega) (by decide) (Nat.le_trans (Nat.succ_le_of_lt hez5) (below_one w5 _).size) ?_; intro v6 w6 HO6 hb6; have HB6 := Lib.hid (((below_one w5 (.cells #[.string ⟨g1.toArray⟩, .string ⟨g2.toArray⟩, .int .i64 g3, .int .i64 g4, .int .i64 0] 124)).mono (Nat.succ_le_of_lt hez5)).trans hb6); have cq6 := ((hb6.cell (p := ⟨q, 1, none⟩) (by show q < _; omega)).trans ((below_one w5 _).cell (p := ⟨q, 1, none⟩) (by show q < _; omega))).trans cq5; have hez6 := hb6.size))
        have HB46 := Lib.hid ((B4.trans (HB5.out.mono (Nat.le_succ _))).trans (HB6.out.mono (Nat.le_succ _)))
        have hl7 : 0 + T.length + [((g1, g2, g3, g4), 0)].length + ([] : List LoH).length = T.length + 1 := by simp <;> omega
        go_wp2_with (first | (at_builtin; refine wpList_append_rows _ rfl (.tmp 146) (.tmp 152) 66 rfl (w.heap.size + 1) 124 i0 _ 56 Tryz.underlying66 hi hz0 hz1 hz2 rfl encLoH_len (by decide) encLoH_one v6 _ _ rfl HO6.out _ _ [] rfl RowAt.nil (by simp; omega) (by decide) (Nat.le_trans (Nat.succ_le_of_lt hez5) HB6.out.size) ?_; intro v7 w7 HO7 hb7; have HO8 := HO7.out; rw [hl7] at HO8; obtain ⟨A7, c7, rfl⟩ := own_slice HO8; have HB7 := Lib.hid (HB46.out.trans (hb7.mono (Nat.le_succ _))); have hq7 := (HB7.out.block q hql).trans HOWN.out) | (refine wpList_store_val rfl 66 _ _ rfl q 1 (.slice A7 (T.length + 1) c7) rfl rfl rfl _ [.slice AH NG cH, .slice (some ⟨g, 0, none⟩) T.length cG, .slice A NL cap] hq7 (by kernel_rfl) (Nat.le_of_ble_eq_true rfl) rfl ?_; intro w8 h8 tu8))
        go_ret
        have h9 := own_base (own_turned HO8 tu8 (by omega)) (Nat.le_succ w.heap.size)
        rw [show [] ++ flatL encLoH T ++ flatL encLoH [((g1, g2, g3, g4), 0)] ++ flatL encLoH [] = flatL encLoH lnew by rw [HLW.out]; simp [flatL]] at h9
        exact ⟨by rw [HD2.out]; rfl, .inr ⟨HD2.out, _, h8, h9, (ButF.of_below HB7.out).step (ButF.of_turned tu8 (.inl (by simp)))⟩⟩
      ·go_wp2_with fail
       go_region
       all_goals
        have he4 : wr.drew.heap[w.heap.size]? = some (.cells LX.toArray 43 (0, 0)) := (HB.out.block _ (row_lt hr3)).trans hr3
        have hqz : q < w.heap.size := hql
        have B4 : Below w.heap.size w wr.drew := HB3.out.drew
        have hez := row_lt he4
        obtain ⟨T, hT⟩ : ∃ T, T = B.2.1 := ⟨_, rfl⟩
        have HRT := Lib.hid (HRG.out.below B4)
        rw [← hT] at HRT
        have hTk : k = T.length := by rw [hT]; exact HN.out
        have HLW : Hid (lnew = T ++ ((g1, g2, g3, g4), 0) :: []) := by
         show _ = _
         rw [HIN.out, HT.out.1, HT.out.2, hT, HN.out, List.take_length, List.drop_length]
        have HRD : Hid (RowAt encLoH 5 w (none : Option Addr) []) := RowAt.nil
        clear hT HT HIN HTW HRG HN HNO HFE HDO HD1
        subst hTk
        have i1 : ((T.length : Nat) : Int) ≤ (cG : Nat) := by omega
        have cq4 : wr.drew.cell? ⟨q, 1, none⟩ = some (.slice (some ⟨g, 0, none⟩) T.length cG) := cq3
        go_upto_region 29 with (at_builtin; refine wpList_append_rows _ rfl (.tmp 131) (.tmp 137) 66 rfl (w.heap.size + 1) 124 i0 _ 56 Tryz.underlying66 hi hz0 hz1 hz2 rfl encLoH_len (by decide) encLoH_one (.slice none 0 0) 0 [] rfl (World.ownsRow_nil _ _ _ _) _ _ T rfl HRT.out (by simp; omega) (by decide) (Nat.succ_le_of_lt hez) ?_; intro v5 w5 HO5 hb5; have HB5 := Lib.hid hb5; have he5 := row_below hb5 he4 (Nat.lt_succ_self _); have cq5 := (hb5.cell (p := ⟨q, 1, none⟩) (by show q < _; omega)).trans cq4; have hez5 := row_lt he5)
        go_upto_region 30 with (first | (refine wpList_load_at rfl 39 (.tmp 140) rfl w.heap.size 3 rfl [.string ⟨g1.toArray⟩, .string ⟨g2.toArray⟩, .int .i64 g3, .int .i64 g4] (HGL.out w5 _ (Lies.row _ he5)) _ Tryz.underlying39 rfl (by kernel_rfl) ?_) | (at_builtin; refine wpList_append_rows _ rfl (.tmp 139) (.tmp 143) 66 rfl (w.heap.size + 1) 124 i0 _ 56 Tryz.underlying66 hi hz0 hz1 hz2 rfl encLoH_len (by decide) encLoH_one v5 (0 + T.length) ([] ++ flatL encLoH T) rfl (own_bl HO5.out (below_one _ _)) (some ⟨w5.heap.size, 0, none⟩) 1 [((g1, g2, g3, g4), 0)] rfl (row_one (heap_alloc_new _ _)) (by simp; omega) (by decide) (Nat.le_trans (Nat.succ_le_of_lt hez5) (below_one w5 _).size) ?_; intro v6 w6 HO6 hb6; have HB6 := Lib.hid (((below_one w5 (.cells #[.string ⟨g1.toArray⟩, .string ⟨g2.toArray⟩, .int .i64 g3, .int .i64 g4, .int .i64 0] 124)).mono (Nat.succ_le_of_lt hez5)).trans hb6); have cq6 := ((hb6.cell (p := ⟨q, 1, none⟩) (by show q < _; omega)).trans ((below_one w5 _).cell (p := ⟨q, 1, none⟩) (by show q < _; omega))).trans cq5; have hez6 := hb6.size))
        have HB46 := Lib.hid ((B4.trans (HB5.out.mono (Nat.le_succ _))).trans (HB6.out.mono (Nat.le_succ _)))
        have hl7 : 0 + T.length + [((g1, g2, g3, g4), 0)].length + ([] : List LoH).length = T.length + 1 := by simp <;> omega
        go_wp2_with (first | (at_builtin; refine wpList_append_rows _ rfl (.tmp 146) (.tmp 152) 66 rfl (w.heap.size + 1) 124 i0 _ 56 Tryz.underlying66 hi hz0 hz1 hz2 rfl encLoH_len (by decide) encLoH_one v6 _ _ rfl HO6.out _ _ [] rfl RowAt.nil (by simp; omega) (by decide) (Nat.le_trans (Nat.succ_le_of_lt hez5) HB6.out.size) ?_; intro v7 w7 HO7 hb7; have HO8 := HO7.out; rw [hl7] at HO8; obtain ⟨A7, c7, rfl⟩ := own_slice HO8; have HB7 := Lib.hid (HB46.out.trans (hb7.mono (Nat.le_succ _))); have hq7 := (HB7.out.block q hql).trans HOWN.out) | (refine wpList_store_val rfl 66 _ _ rfl q 1 (.slice A7 (T.length + 1) c7) rfl rfl rfl _ [.slice AH NG cH, .slice (some ⟨g, 0, none⟩) T.length cG, .slice A NL cap] hq7 (by kernel_rfl) (Nat.le_of_ble_eq_true rfl) rfl ?_; intro w8 h8 tu8))
        go_ret
        have h9 := own_base (own_turned HO8 tu8 (by omega)) (Nat.le_succ w.heap.size)
        rw [show [] ++ flatL encLoH T ++ flatL encLoH [((g1, g2, g3, g4), 0)] ++ flatL encLoH [] = flatL encLoH lnew by rw [HLW.out]; simp [flatL]] at h9
        exact ⟨by rw [HD2.out]; rfl, .inr ⟨HD2.out, _, h8, h9, (ButF.of_below HB7.out).step (ButF.of_turned tu8 (.inl (by simp)))⟩⟩
 ·rw [← HFE.out] at f1
  have HD1 : Hid (de = 7) := by
   show _ = _
   rw [HDO.out, f1]
   rfl
  rw [f2]
  have hp : (0 : Int) ≤ (i : Nat) := by omega
  clear f1 f2 HIX hi
  go_wp2_with fail
  go_ret
  rw [HD1.out]
  exact ⟨rfl, .inl ⟨by decide, B2.out⟩⟩
end Go.Proofs.YteaalifehokgoaaGreatDoor
