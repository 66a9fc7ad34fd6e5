/- The document's book: Do, where an entry has an error; at goods. Printed by gen/bkins.py. -/
import Derived.Deep.DeepCutAuto
import Derived.Test.YteaalifehokgoaaGreatDoorM15
import Derived.Test.YteaalifehokgoaaGreatDoorM20
import Derived.Test.YteaalifehokgoaaGreatDoorM21
import Derived.Test.YteaalifehokgoaaGreatDoorM26
import Derived.Test.YteaalifehokgoaaGreatDoorM27
namespace Go.Proofs.YteaalifehokgoaaGreatDoor
open Go.RowKit Go.Sort Go.Proofs
theorem own_form {w : World} {B e size n cap : Nat} {A : Option Addr} {v : Value} {xs : List Value} (h : w.ownsRow B e size v n xs) (hv : v = .slice A n cap) : (A = none ∧ n = 0 ∧ cap = 0) ∨ ∃ g, A = some ⟨g, 0, none⟩ := by
 subst hv
 rcases h.2 with ⟨h0, h1⟩ | ⟨g, cap', cur, h1, _⟩
 ·cases h0
  exact .inl ⟨rfl, h1, rfl⟩
 ·cases h1
  exact .inr ⟨g, rfl⟩
theorem take_while_at {α : Type} (p : α → Bool) : ∀ (l : List α) (k : Nat), (∀ j (h : j < l.length), j < k → p l[j] = true) → (∀ h : k < l.length, p l[k] = false) → k ≤ l.length → l.takeWhile p = l.take k ∧ l.dropWhile p = l.drop k
 |[], k, _, _, h => by simp
 |x :: r, 0, _, h, _ => by
  have h0 : p x = false := h (by simp)
  rw [List.takeWhile_cons_of_neg (by simp [h0]), List.dropWhile_cons_of_neg (by simp [h0])]
  simp
 |x :: r, k + 1, h1, h2, h3 => by
  have h0 : p x = true := h1 0 (by simp) (by omega)
  obtain ⟨e1, e2⟩ := take_while_at p r k (fun j hj hk => h1 (j + 1) (by simpa using hj) (by omega)) (fun hk => h2 (by simpa using hk)) (by simpa using h3)
  rw [List.takeWhile_cons_of_pos h0, List.dropWhile_cons_of_pos h0, e1, e2]
  simp
theorem goods2Info : (Tryz.prog.info? 121).map (fun i => (i.zero, i.size, i.bytes)) = some (some (.agg #[.string ⟨#[]⟩, .int .i64 0, .int .i64 0, .int .i64 0, .int .i64 0, .int .i64 0]), 6, 56) := by kernel_rfl
theorem lot2Info : (Tryz.prog.info? 124).map (fun i => (i.zero, i.size, i.bytes)) = some (some (.agg #[.string ⟨#[]⟩, .string ⟨#[]⟩, .int .i64 0, .int .i64 0, .int .i64 0]), 5, 56) := by kernel_rfl
theorem ent_goodsL {w : World} {b : Nat} {x : EntV} (h : Lies w b 0 (encEnt x)) : Lies w b 1 (encGoods x.2.1) := fun j v hv => by
 have hj : j < 2 := (List.getElem?_eq_some_iff.1 hv).1
 have := h (1 + j) v (by match j, hj, hv with | 0, _, hv => exact hv | 1, _, hv => exact hv)
 simpa using this
theorem RowAt.dropK {α : Type} {enc : α → List Value} {k : Nat} {w : World} {g o : Nat} {xs : List α} (h : RowAt enc k w (some ⟨g, o, none⟩) xs) (i : Nat) : RowAt enc k w (some ⟨g, o + i * k, none⟩) (xs.drop i) := by
 rcases h with h | ⟨b, o', h1, h2, h3⟩
 ·exact .inl (by rw [h]; simp)
 ·cases h1
  refine .inr ⟨g, _, rfl, h2, fun j hj c v hv => ?_⟩
  rw [List.getElem_drop] at hv
  have := h3 (i + j) (by rw [List.length_drop] at hj; omega) c v hv
  rw [Nat.add_mul, ← Nat.add_assoc] at this
  exact this
theorem RowAt.takeK {α : Type} {enc : α → List Value} {k : Nat} {w : World} {A : Option Addr} {xs : List α} (h : RowAt enc k w A xs) (i : Nat) : RowAt enc k w A (xs.take i) := by
 rcases h with h | ⟨b, o', h1, h2, h3⟩
 ·exact .inl (by rw [h]; simp)
 ·refine .inr ⟨b, o', h1, h2, fun j hj c v hv => ?_⟩
  rw [List.getElem_take] at hv
  exact h3 j (by rw [List.length_take] at hj; omega) c v hv
set_option maxHeartbeats 800000 in
set_option maxRecDepth 100000 in
theorem refDo_err (q : Nat) (x : EntV) (w : World) (hs : ShortE x) (he : entE x ≠ 0) (hle : entE x ≤ 12) :
  Calls Tryz.prog 25 #[.pointer (some ⟨q, 0, none⟩), .agg (encEnt x).toArray] w fun e w' => e = .returned (.int .i64 (entE x : Nat)) ∧ Below w.heap.size w w' := by
 have HEE := Lib.hid (fun W => refEntE_any x W hs)
 have hrow := heap_alloc_new w (.cells (encEnt x).toArray 43)
 have B0 := Lib.hid (below_one w (.cells (encEnt x).toArray 43))
 have h14 : (encEnt x).length = 14 := rfl
 have hpos : (0 : Int) < (entE x : Nat) := by omega
 clear he hle hs
 generalize entE x = ee at *
 generalize encEnt x = LX at *
 go_enter Tryz.func25, Tryz.ntmps25
 go_wp2_with (refine wpList_load_at rfl 43 _ rfl w.heap.size 0 rfl LX (Lies.row _ hrow) _ Tryz.underlying43 rfl (by rw [h14]; kernel_rfl) ?_)
 refine (HEE.out _).mono ?_
 rintro e w1 ⟨rfl, b1⟩
 have B1 := Lib.hid (B0.out.trans (b1.mono B0.out.size))
 clear b1 hrow
 go_wp2_with fail
 go_ret
 exact ⟨rfl, B1.out⟩
set_option maxHeartbeats 3200000 in
set_option maxRecDepth 100000 in
theorem refDo_goods (q : Nat) (vG vL : Value) (A : Option Addr) (cap : Nat) (B : BkV) (x : EntV) (w : World) (H : MBkM w q vG vL A cap B) (hI : BkI B) (hs : ShortE x) (he : entE x = 0) (hk : x.1 = kGoods) :
  Calls Tryz.prog 25 #[.pointer (some ⟨q, 0, none⟩), .agg (encEnt x).toArray] w fun e w' => e = .returned (.int .i64 (doE B x : Nat)) ∧
   ((doE B x ≠ 0 ∧ Below w.heap.size w w') ∨ (doE B x = 0 ∧ ∃ v', w'.heap[q]? = some (.cells #[v', vL, .slice A B.2.2.length cap] 71 (0, 0)) ∧ w'.ownsRow w.heap.size 121 6 v' (B.1.length + 1) (flatL encGoS (insG (x.2.1, zeroSums) B.1)) ∧ ButF [q] w w')) := by
 obtain ⟨i0, hi, hz0, hz1, hz2⟩ := info_parts goods2Info
 have HEE := Lib.hid (fun W => refEntE_any x W hs)
 have hrow := heap_alloc_new w (.cells (encEnt x).toArray 43)
 have B0 := Lib.hid (below_one w (.cells (encEnt x).toArray 43))
 have h14 : (encEnt x).length = 14 := rfl
 have hfew := hI.gfew
 have hql := (H.lt q (by simp))
 obtain ⟨AG, cG, hvG, hrG, -⟩ := RowAt.of_own encGoS_len H.goods
 have hcap := own_cap H.goods hvG
 have HAG := Lib.hid (own_form H.goods hvG)
 have hown := H.own
 rw [hvG] at hown
 have HOWN := Lib.hid hown
 have HRG := Lib.hid hrG
 have hk0 : (encEnt x)[0]? = some (.string ⟨x.1.toArray⟩) := rfl
 have hk1 : (encEnt x)[1]? = some (.string ⟨x.2.1.1.toArray⟩) := rfl
 have HGL := Lib.hid (fun (W : World) (b : Nat) (h : Lies W b 0 (encEnt x)) => ent_goodsL h)
 have HFG := Lib.hid (fun W c0 hr => findG_any q AG cG B.1 x.2.1.1 W c0 hr (by omega))
 have HDO := Lib.hid (show doE B x = if (fG B x.2.1.1).isSome = true then 7 else if 30 ≤ B.1.length then 8 else 0 by unfold doE; rw [if_neg (by simpa using he), if_pos hk])
 rw [he] at HEE
 rw [hk] at hk0
 have HTW := Lib.hid (fun k h1 h2 h3 => take_while_at (fun y : GoS => ltB y.1.1 x.2.1.1) B.1 k h1 h2 h3)
 have HIN := Lib.hid (show insG (x.2.1, zeroSums) B.1 = B.1.takeWhile (fun y => ltB y.1.1 x.2.1.1) ++ (x.2.1, zeroSums) :: B.1.dropWhile (fun y => ltB y.1.1 x.2.1.1) from rfl)
 have HIX := Lib.hid (idxK_find (fun y : GoS => y.1.1) B.1 x.2.1.1)
 have HFE := Lib.hid (show fG B x.2.1.1 = B.1.find? (fun y : GoS => decide (y.1.1 = x.2.1.1)) from rfl)
 obtain ⟨N, hN⟩ : ∃ N, N = B.1.length := ⟨_, rfl⟩
 have HN := Lib.hid hN
 obtain ⟨NL, hNL⟩ : ∃ N, N = B.2.2.length := ⟨_, rfl⟩
 rw [← hNL] at HOWN ⊢
 rw [← hN] at HOWN HDO HFG hfew hcap HAG ⊢
 have HNL := Lib.hid (show N = 0 → B.1 = [] from fun h => List.eq_nil_of_length_eq_zero (hN.symm.trans h))
 clear hs he hk hI H hown hrG hvG hN hNL
 generalize idxK (fun y : GoS => y.1.1) B.1 x.2.1.1 = ix at HFG HIX
 generalize fG B x.2.1.1 = fnd at HDO HFE
 generalize doE B x = de at HDO ⊢
 generalize insG (x.2.1, zeroSums) B.1 = lnew at HIN ⊢
 generalize x.2.1 = gx at *
 generalize encEnt x = LX at *
 obtain ⟨g1, g2⟩ := gx
 simp only [encGoods] at HGL hk1 HFG HTW HIN HIX HFE
 go_enter Tryz.func25, Tryz.ntmps25
 go_wp2_with (refine wpList_load_at rfl 43 _ rfl w.heap.size 0 rfl LX (Lies.row _ hrow) _ Tryz.underlying43 rfl (by rw [h14]; kernel_rfl) ?_)
 refine (HEE.out _).mono ?_
 rintro e w1 ⟨rfl, b1⟩
 have B1 := Lib.hid (B0.out.trans (b1.mono B0.out.size))
 have hr1 := row_below b1 hrow (by simp)
 have e0 : w1.cell? ⟨w.heap.size, 0, none⟩ = some (.string ⟨kGoods.toArray⟩) := (cell_of_row _ _ _ _ _ _ hr1).trans (by simpa using hk0)
 have e1 : w1.cell? ⟨w.heap.size, 1, none⟩ = some (.string ⟨g1.toArray⟩) := (cell_of_row _ _ _ _ _ _ hr1).trans (by simpa using hk1)
 simp only [kGoods] at e0
 have hq1 := (B1.out.block q hql).trans HOWN.out
 have cq := cell_of_row _ _ 0 _ _ _ hq1
 have hrw1 := HRG.out.below B1.out
 clear b1 hrow hk0 hk1 hq1
 go_wp2_with fail
 refine (HFG.out w1 cq hrw1).mono ?_
 rintro e w2 ⟨rfl, b2⟩
 have B2 := Lib.hid (B1.out.trans (b2.mono B1.out.size))
 have hr2 := row_below b2 hr1 (row_lt hr1)
 have cq2 : w2.cell? ⟨q, 0, none⟩ = some (.slice AG N cG) := (b2.cell (lt_of_cell cq)).trans cq
 have e12 : w2.cell? ⟨w.heap.size, 1, none⟩ = some (.string ⟨g1.toArray⟩) := (b2.cell (lt_of_cell e1)).trans e1
 clear b2 cq e0 e1 hr1 hrw1 HFG B1 HEE
 rcases HIX.out with ⟨f1, f2⟩ | ⟨i, hi, f1, f2, -⟩
 ·rw [← HFE.out] at f1
  have HD1 : Hid (de = if 30 ≤ N then 8 else 0) := by
   show _ = _
   rw [HDO.out, f1]
   rfl
  rw [f2]
  clear f1 f2 HIX
  by_cases hfull : 30 ≤ N
  ·have HD2 := Lib.hid (HD1.out.trans (if_pos hfull))
   go_wp2_with fail
   go_ret
   rw [HD2.out]
   exact ⟨rfl, .inl ⟨by decide, B2.out⟩⟩
  ·have HD2 := Lib.hid (HD1.out.trans (if_neg hfull))
   go_wp2_with fail
   go_loopw [6] (fun i wr => ∃ k : Nat, k ≤ N ∧ i = .int .i64 k ∧ Hid (∀ j (h : j < B.1.length), j < k → ltB B.1[j].1.1 g1 = true) ∧ Below w2.heap.size w2 wr) (fun i _ => N - (intOf i).toNat)
   case atStart => exact ⟨0, by omega, rfl, fun j _ h => absurd h (Nat.not_lt_zero _), Below.refl _ _⟩
   case round =>
    obtain ⟨k, hk, rfl, HNO, hb⟩ := hrel
    have HB := Lib.hid hb
    have cq3 : wr.cell? ⟨q, 0, none⟩ = some (.slice AG N cG) := (hb.cell (lt_of_cell cq2)).trans cq2
    have e13 : wr.cell? ⟨w.heap.size, 1, none⟩ = some (.string ⟨g1.toArray⟩) := (hb.cell (lt_of_cell e12)).trans e12
    have HB3 := Lib.hid (B2.out.trans (hb.mono B2.out.size))
    clear hb
    by_cases hkN : k < N
    ·have hkx : k < B.1.length := by rw [← HN.out]; exact hkN
     obtain ⟨g, o, rfl, lg, cg⟩ := HRG.out.resolve_left (fun h => by rw [h] at hkx; simp at hkx)
     obtain ⟨y, hy⟩ : ∃ y, y = B.1[k] := ⟨_, rfl⟩
     have e0 := range6L (x := y) (w := wr) (b := g) (o := o + k * 6) (fun cc v hv => by
      have h1 := cg k hkx cc v (by rw [← hy]; exact hv)
      exact (HB3.out.cell (p := ⟨g, o + k * 6 + cc, none⟩) lg).trans h1)
     have HY := Lib.hid hy
     clear hy cg
     by_cases hlt : ltB y.1.1 g1 = true
     ·have HNX : Hid (∀ j (h : j < B.1.length), j < k + 1 → ltB B.1[j].1.1 g1 = true) := fun j hj hjk => by
       rcases Nat.lt_succ_iff_lt_or_eq.1 hjk with h | rfl
       ·exact HNO.out j hj h
       ·rw [← HY.out]; exact hlt
      obtain ⟨⟨a1, a2⟩, a3⟩ := y
      simp only at e0 hlt
      have hbl : Op.bytesLess a1 g1 = true := hlt
      clear hlt
      go_wp2_with fail
      go_region
      all_goals
       go_wp2
       go_roundw
       case rel => exact ⟨k + 1, by omega, by go_num, HNX.out, HB.out.drew⟩
       case measure => simp [intOf]; omega
     ·have HT := Lib.hid (HTW.out k HNO.out (fun _ => by rw [← HY.out]; simpa using hlt) (by rw [← HN.out]; exact hk))
      obtain ⟨⟨a1, a2⟩, a3⟩ := y
      simp only at e0 hlt
      have hbl : Op.bytesLess a1 g1 = false := by simpa [ltB] using hlt
      clear hlt
      go_wp2_with fail
      go_region
      all_goals
       have he4 : wr.drew.heap[w.heap.size]? = some (.cells LX.toArray 43 (0, 0)) := (HB.out.block _ (row_lt hr2)).trans hr2
       have hqz : q < w.heap.size := hql
       have B4 : Below w.heap.size w wr.drew := HB3.out.drew
       have hez := row_lt he4
       obtain ⟨T, hT⟩ : ∃ T, T = B.1.take k := ⟨_, rfl⟩
       obtain ⟨D, hD⟩ : ∃ D, D = B.1.drop k := ⟨_, rfl⟩
       have HRT := Lib.hid ((HRG.out.takeK k).below B4)
       have hrd := HRG.out.dropK k
       rw [← hT] at HT HRT
       rw [← hD] at HT hrd
       have hTk : k = T.length := by rw [hT, List.length_take, ← HN.out]; omega
       have hND : N = T.length + D.length := by rw [hT, hD, List.length_take, List.length_drop, ← HN.out]; omega
       have HLW : Hid (lnew = T ++ ((g1, g2), zeroSums) :: D) := by
        show _ = _
        rw [HIN.out, HT.out.1, HT.out.2]
       clear hT hD HT HIN HTW HRG HN HNO HY HFE HDO HD1 e0 hbl
       subst hTk
       subst hND
       have hDp : 0 < D.length := by omega
       have HRD := Lib.hid hrd
       clear hrd
       have i1 : ((T.length : Nat) : Int) ≤ (cG : Nat) := by omega
       have i2 : ((T.length : Nat) : Int) ≤ ((T.length + D.length : Nat) : Int) := by omega
       have i3 : ¬ cG = T.length := by omega
       have cq4 : wr.drew.cell? ⟨q, 0, none⟩ = some (.slice (some ⟨g, o, none⟩) (T.length + D.length) cG) := cq3
       go_upto_region 14 with (at_builtin; refine wpList_append_rows _ rfl (.tmp 61) (.tmp 67) 65 rfl (w.heap.size + 1) 121 i0 _ 56 Tryz.underlying65 hi hz0 hz1 hz2 rfl encGoS_len (by decide) encGoS_one (.slice none 0 0) 0 [] rfl (World.ownsRow_nil _ _ _ _) _ _ T rfl HRT.out (by simp; omega) (by decide) (Nat.succ_le_of_lt hez) ?_; intro v5 w5 HO5 hb5; have HB5 := Lib.hid hb5; have he5 := row_below hb5 he4 (Nat.lt_succ_self _); have cq5 := (hb5.cell (p := ⟨q, 0, none⟩) (by show q < _; omega)).trans cq4; have hez5 := row_lt he5)
       go_upto_region 15 with (first | (refine wpList_load_at rfl 37 (.tmp 70) rfl w.heap.size 1 rfl [.string ⟨g1.toArray⟩, .int .i64 g2] (HGL.out w5 _ (Lies.row _ he5)) _ Tryz.underlying37 rfl (by kernel_rfl) ?_) | (at_builtin; refine wpList_append_rows _ rfl (.tmp 69) (.tmp 73) 65 rfl (w.heap.size + 1) 121 i0 _ 56 Tryz.underlying65 hi hz0 hz1 hz2 rfl encGoS_len (by decide) encGoS_one v5 (0 + T.length) ([] ++ flatL encGoS T) rfl (own_bl HO5.out (below_one _ _)) (some ⟨w5.heap.size, 0, none⟩) 1 [((g1, g2), zeroSums)] rfl (row_one (heap_alloc_new _ _)) (by simp; omega) (by decide) (Nat.le_trans (Nat.succ_le_of_lt hez5) (below_one w5 _).size) ?_; intro v6 w6 HO6 hb6; have HB6 := Lib.hid (((below_one w5 (.cells #[.string ⟨g1.toArray⟩, .int .i64 g2, .int .i64 0, .int .i64 0, .int .i64 0, .int .i64 0] 121)).mono (Nat.succ_le_of_lt hez5)).trans hb6); have cq6 := ((hb6.cell (p := ⟨q, 0, none⟩) (by show q < _; omega)).trans ((below_one w5 _).cell (p := ⟨q, 0, none⟩) (by show q < _; omega))).trans cq5; have hez6 := hb6.size))
       have HB46 := Lib.hid ((B4.trans (HB5.out.mono (Nat.le_succ _))).trans (HB6.out.mono (Nat.le_succ _)))
       have HRD6 := HRD.out.below HB46.out
       have hl7 : 0 + T.length + [((g1, g2), zeroSums)].length + D.length = T.length + D.length + 1 := by simp <;> omega
       go_wp2_with (first | (at_builtin; refine wpList_append_rows _ rfl (.tmp 76) (.tmp 82) 65 rfl (w.heap.size + 1) 121 i0 _ 56 Tryz.underlying65 hi hz0 hz1 hz2 rfl encGoS_len (by decide) encGoS_one v6 _ _ rfl HO6.out _ _ D rfl HRD6 (by simp; omega) (by decide) (Nat.le_trans (Nat.succ_le_of_lt hez5) HB6.out.size) ?_; intro v7 w7 HO7 hb7; have HO8 := HO7.out; rw [hl7] at HO8; obtain ⟨A7, c7, rfl⟩ := own_slice HO8; have HB7 := Lib.hid (HB46.out.trans (hb7.mono (Nat.le_succ _))); have hq7 := (HB7.out.block q hql).trans HOWN.out) | (refine wpList_store_val rfl 65 _ _ rfl q 0 (.slice A7 (T.length + D.length + 1) c7) rfl rfl rfl _ [.slice (some ⟨g, o, none⟩) (T.length + D.length) cG, vL, .slice A NL cap] hq7 (by kernel_rfl) (Nat.le_of_ble_eq_true rfl) rfl ?_; intro w8 h8 tu8))
       go_ret
       have h9 := own_base (own_turned HO8 tu8 (by omega)) (Nat.le_succ w.heap.size)
       rw [show [] ++ flatL encGoS T ++ flatL encGoS [((g1, g2), zeroSums)] ++ flatL encGoS D = flatL encGoS lnew by rw [HLW.out]; simp [flatL]] at h9
       exact ⟨by rw [HD2.out]; rfl, .inr ⟨HD2.out, _, h8, h9, (ButF.of_below HB7.out).step (ButF.of_turned tu8 (.inl (by simp)))⟩⟩
    ·obtain rfl : k = N := by omega
     have HT := Lib.hid (HTW.out k HNO.out (fun h => by rw [← HN.out] at h; omega) (by rw [← HN.out]; exact hk))
     rcases HAG.out with ⟨rfl, hN0, rfl⟩ | ⟨g, rfl⟩
     ·have hB1 := HNL.out hN0
      subst hN0
      go_wp2_with fail
      go_region
      all_goals
       have he4 : wr.drew.heap[w.heap.size]? = some (.cells LX.toArray 43 (0, 0)) := (HB.out.block _ (row_lt hr2)).trans hr2
       have hqz : q < w.heap.size := hql
       have B4 : Below w.heap.size w wr.drew := HB3.out.drew
       have hez := row_lt he4
       have HLW : Hid (lnew = [] ++ ((g1, g2), zeroSums) :: []) := by
        show _ = _
        rw [HIN.out, HT.out.1, HT.out.2, hB1]
        rfl
       have HRT : Hid (RowAt encGoS 6 wr.drew (none : Option Addr) []) := RowAt.nil
       have HRD : Hid (RowAt encGoS 6 w (none : Option Addr) []) := RowAt.nil
       clear HT HIN HTW HRG HN HNO HFE HDO HD1
       have cq4 : wr.drew.cell? ⟨q, 0, none⟩ = some (.slice none 0 0) := cq3
       have cq5 := cq4
       have hez5 := hez
       go_upto_region 14 with fail
       go_upto_region 15 with (first | (refine wpList_load_at rfl 37 (.tmp 70) rfl w.heap.size 1 rfl [.string ⟨g1.toArray⟩, .int .i64 g2] (HGL.out wr.drew _ (Lies.row _ he4)) _ Tryz.underlying37 rfl (by kernel_rfl) ?_) | (at_builtin; refine wpList_append_rows _ rfl (.tmp 69) (.tmp 73) 65 rfl (w.heap.size + 1) 121 i0 _ 56 Tryz.underlying65 hi hz0 hz1 hz2 rfl encGoS_len (by decide) encGoS_one (.slice none 0 0) 0 [] rfl (World.ownsRow_nil _ _ _ _) (some ⟨wr.drew.heap.size, 0, none⟩) 1 [((g1, g2), zeroSums)] rfl (row_one (heap_alloc_new _ _)) (Nat.le_of_ble_eq_true rfl) (by decide) (Nat.le_trans (Nat.succ_le_of_lt hez5) (below_one wr.drew _).size) ?_; intro v6 w6 HO6 hb6; have HB6 := Lib.hid (((below_one wr.drew (.cells #[.string ⟨g1.toArray⟩, .int .i64 g2, .int .i64 0, .int .i64 0, .int .i64 0, .int .i64 0] 121)).mono (Nat.succ_le_of_lt hez5)).trans hb6); have cq6 := ((hb6.cell (p := ⟨q, 0, none⟩) (by show q < _; omega)).trans ((below_one wr.drew _).cell (p := ⟨q, 0, none⟩) (by show q < _; omega))).trans cq5; have hez6 := hb6.size))
       have HB46 := Lib.hid (B4.trans (HB6.out.mono (Nat.le_succ _)))
       have hl7 : 0 + 0 + [((g1, g2), zeroSums)].length + ([] : List GoS).length = 1 := by simp <;> omega
       go_wp2_with (first | (at_builtin; refine wpList_append_rows _ rfl (.tmp 76) (.tmp 82) 65 rfl (w.heap.size + 1) 121 i0 _ 56 Tryz.underlying65 hi hz0 hz1 hz2 rfl encGoS_len (by decide) encGoS_one v6 _ _ rfl HO6.out _ _ [] rfl RowAt.nil (Nat.le_of_ble_eq_true rfl) (by decide) (Nat.le_trans (Nat.succ_le_of_lt hez5) HB6.out.size) ?_; intro v7 w7 HO7 hb7; have HO8 := HO7.out; rw [hl7] at HO8; obtain ⟨A7, c7, rfl⟩ := own_slice HO8; have HB7 := Lib.hid (HB46.out.trans (hb7.mono (Nat.le_succ _))); have hq7 := (HB7.out.block q hql).trans HOWN.out) | (refine wpList_store_val rfl 65 _ _ rfl q 0 (.slice A7 (1) c7) rfl rfl rfl _ [.slice none 0 0, vL, .slice A NL cap] hq7 (by kernel_rfl) (Nat.le_of_ble_eq_true rfl) rfl ?_; intro w8 h8 tu8))
       go_ret
       have h9 := own_base (own_turned HO8 tu8 (by omega)) (Nat.le_succ w.heap.size)
       rw [show [] ++ flatL encGoS [((g1, g2), zeroSums)] ++ flatL encGoS [] = flatL encGoS lnew by rw [HLW.out]; simp [flatL]] at h9
       exact ⟨by rw [HD2.out]; rfl, .inr ⟨HD2.out, _, h8, h9, (ButF.of_below HB7.out).step (ButF.of_turned tu8 (.inl (by simp)))⟩⟩
     ·by_cases hcc : cG = k
      ·go_wp2_with fail
       go_region
       all_goals
        have he4 : wr.drew.heap[w.heap.size]? = some (.cells LX.toArray 43 (0, 0)) := (HB.out.block _ (row_lt hr2)).trans hr2
        have hqz : q < w.heap.size := hql
        have B4 : Below w.heap.size w wr.drew := HB3.out.drew
        have hez := row_lt he4
        obtain ⟨T, hT⟩ : ∃ T, T = B.1 := ⟨_, rfl⟩
        have HRT := Lib.hid (HRG.out.below B4)
        rw [← hT] at HRT
        have hTk : k = T.length := by rw [hT]; exact HN.out
        have HLW : Hid (lnew = T ++ ((g1, g2), zeroSums) :: []) := by
         show _ = _
         rw [HIN.out, HT.out.1, HT.out.2, hT, HN.out, List.take_length, List.drop_length]
        have HRD : Hid (RowAt encGoS 6 w (none : Option Addr) []) := RowAt.nil
        clear hT HT HIN HTW HRG HN HNO HFE HDO HD1
        subst hTk
        have i1 : ((T.length : Nat) : Int) ≤ (cG : Nat) := by omega
        have cq4 : wr.drew.cell? ⟨q, 0, none⟩ = some (.slice (some ⟨g, 0, none⟩) T.length cG) := cq3
        go_upto_region 14 with (at_builtin; refine wpList_append_rows _ rfl (.tmp 61) (.tmp 67) 65 rfl (w.heap.size + 1) 121 i0 _ 56 Tryz.underlying65 hi hz0 hz1 hz2 rfl encGoS_len (by decide) encGoS_one (.slice none 0 0) 0 [] rfl (World.ownsRow_nil _ _ _ _) _ _ T rfl HRT.out (by simp; omega) (by decide) (Nat.succ_le_of_lt hez) ?_; intro v5 w5 HO5 hb5; have HB5 := Lib.hid hb5; have he5 := row_below hb5 he4 (Nat.lt_succ_self _); have cq5 := (hb5.cell (p := ⟨q, 0, none⟩) (by show q < _; omega)).trans cq4; have hez5 := row_lt he5)
        go_upto_region 15 with (first | (refine wpList_load_at rfl 37 (.tmp 70) rfl w.heap.size 1 rfl [.string ⟨g1.toArray⟩, .int .i64 g2] (HGL.out w5 _ (Lies.row _ he5)) _ Tryz.underlying37 rfl (by kernel_rfl) ?_) | (at_builtin; refine wpList_append_rows _ rfl (.tmp 69) (.tmp 73) 65 rfl (w.heap.size + 1) 121 i0 _ 56 Tryz.underlying65 hi hz0 hz1 hz2 rfl encGoS_len (by decide) encGoS_one v5 (0 + T.length) ([] ++ flatL encGoS T) rfl (own_bl HO5.out (below_one _ _)) (some ⟨w5.heap.size, 0, none⟩) 1 [((g1, g2), zeroSums)] rfl (row_one (heap_alloc_new _ _)) (by simp; omega) (by decide) (Nat.le_trans (Nat.succ_le_of_lt hez5) (below_one w5 _).size) ?_; intro v6 w6 HO6 hb6; have HB6 := Lib.hid (((below_one w5 (.cells #[.string ⟨g1.toArray⟩, .int .i64 g2, .int .i64 0, .int .i64 0, .int .i64 0, .int .i64 0] 121)).mono (Nat.succ_le_of_lt hez5)).trans hb6); have cq6 := ((hb6.cell (p := ⟨q, 0, none⟩) (by show q < _; omega)).trans ((below_one w5 _).cell (p := ⟨q, 0, none⟩) (by show q < _; omega))).trans cq5; have hez6 := hb6.size))
        have HB46 := Lib.hid ((B4.trans (HB5.out.mono (Nat.le_succ _))).trans (HB6.out.mono (Nat.le_succ _)))
        have hl7 : 0 + T.length + [((g1, g2), zeroSums)].length + ([] : List GoS).length = T.length + 1 := by simp <;> omega
        go_wp2_with (first | (at_builtin; refine wpList_append_rows _ rfl (.tmp 76) (.tmp 82) 65 rfl (w.heap.size + 1) 121 i0 _ 56 Tryz.underlying65 hi hz0 hz1 hz2 rfl encGoS_len (by decide) encGoS_one v6 _ _ rfl HO6.out _ _ [] rfl RowAt.nil (by simp; omega) (by decide) (Nat.le_trans (Nat.succ_le_of_lt hez5) HB6.out.size) ?_; intro v7 w7 HO7 hb7; have HO8 := HO7.out; rw [hl7] at HO8; obtain ⟨A7, c7, rfl⟩ := own_slice HO8; have HB7 := Lib.hid (HB46.out.trans (hb7.mono (Nat.le_succ _))); have hq7 := (HB7.out.block q hql).trans HOWN.out) | (refine wpList_store_val rfl 65 _ _ rfl q 0 (.slice A7 (T.length + 1) c7) rfl rfl rfl _ [.slice (some ⟨g, 0, none⟩) T.length cG, vL, .slice A NL cap] hq7 (by kernel_rfl) (Nat.le_of_ble_eq_true rfl) rfl ?_; intro w8 h8 tu8))
        go_ret
        have h9 := own_base (own_turned HO8 tu8 (by omega)) (Nat.le_succ w.heap.size)
        rw [show [] ++ flatL encGoS T ++ flatL encGoS [((g1, g2), zeroSums)] ++ flatL encGoS [] = flatL encGoS lnew by rw [HLW.out]; simp [flatL]] at h9
        exact ⟨by rw [HD2.out]; rfl, .inr ⟨HD2.out, _, h8, h9, (ButF.of_below HB7.out).step (ButF.of_turned tu8 (.inl (by simp)))⟩⟩
      ·go_wp2_with fail
       go_region
       all_goals
        have he4 : wr.drew.heap[w.heap.size]? = some (.cells LX.toArray 43 (0, 0)) := (HB.out.block _ (row_lt hr2)).trans hr2
        have hqz : q < w.heap.size := hql
        have B4 : Below w.heap.size w wr.drew := HB3.out.drew
        have hez := row_lt he4
        obtain ⟨T, hT⟩ : ∃ T, T = B.1 := ⟨_, rfl⟩
        have HRT := Lib.hid (HRG.out.below B4)
        rw [← hT] at HRT
        have hTk : k = T.length := by rw [hT]; exact HN.out
        have HLW : Hid (lnew = T ++ ((g1, g2), zeroSums) :: []) := by
         show _ = _
         rw [HIN.out, HT.out.1, HT.out.2, hT, HN.out, List.take_length, List.drop_length]
        have HRD : Hid (RowAt encGoS 6 w (none : Option Addr) []) := RowAt.nil
        clear hT HT HIN HTW HRG HN HNO HFE HDO HD1
        subst hTk
        have i1 : ((T.length : Nat) : Int) ≤ (cG : Nat) := by omega
        have cq4 : wr.drew.cell? ⟨q, 0, none⟩ = some (.slice (some ⟨g, 0, none⟩) T.length cG) := cq3
        go_upto_region 14 with (at_builtin; refine wpList_append_rows _ rfl (.tmp 61) (.tmp 67) 65 rfl (w.heap.size + 1) 121 i0 _ 56 Tryz.underlying65 hi hz0 hz1 hz2 rfl encGoS_len (by decide) encGoS_one (.slice none 0 0) 0 [] rfl (World.ownsRow_nil _ _ _ _) _ _ T rfl HRT.out (by simp; omega) (by decide) (Nat.succ_le_of_lt hez) ?_; intro v5 w5 HO5 hb5; have HB5 := Lib.hid hb5; have he5 := row_below hb5 he4 (Nat.lt_succ_self _); have cq5 := (hb5.cell (p := ⟨q, 0, none⟩) (by show q < _; omega)).trans cq4; have hez5 := row_lt he5)
        go_upto_region 15 with (first | (refine wpList_load_at rfl 37 (.tmp 70) rfl w.heap.size 1 rfl [.string ⟨g1.toArray⟩, .int .i64 g2] (HGL.out w5 _ (Lies.row _ he5)) _ Tryz.underlying37 rfl (by kernel_rfl) ?_) | (at_builtin; refine wpList_append_rows _ rfl (.tmp 69) (.tmp 73) 65 rfl (w.heap.size + 1) 121 i0 _ 56 Tryz.underlying65 hi hz0 hz1 hz2 rfl encGoS_len (by decide) encGoS_one v5 (0 + T.length) ([] ++ flatL encGoS T) rfl (own_bl HO5.out (below_one _ _)) (some ⟨w5.heap.size, 0, none⟩) 1 [((g1, g2), zeroSums)] rfl (row_one (heap_alloc_new _ _)) (by simp; omega) (by decide) (Nat.le_trans (Nat.succ_le_of_lt hez5) (below_one w5 _).size) ?_; intro v6 w6 HO6 hb6; have HB6 := Lib.hid (((below_one w5 (.cells #[.string ⟨g1.toArray⟩, .int .i64 g2, .int .i64 0, .int .i64 0, .int .i64 0, .int .i64 0] 121)).mono (Nat.succ_le_of_lt hez5)).trans hb6); have cq6 := ((hb6.cell (p := ⟨q, 0, none⟩) (by show q < _; omega)).trans ((below_one w5 _).cell (p := ⟨q, 0, none⟩) (by show q < _; omega))).trans cq5; have hez6 := hb6.size))
        have HB46 := Lib.hid ((B4.trans (HB5.out.mono (Nat.le_succ _))).trans (HB6.out.mono (Nat.le_succ _)))
        have hl7 : 0 + T.length + [((g1, g2), zeroSums)].length + ([] : List GoS).length = T.length + 1 := by simp <;> omega
        go_wp2_with (first | (at_builtin; refine wpList_append_rows _ rfl (.tmp 76) (.tmp 82) 65 rfl (w.heap.size + 1) 121 i0 _ 56 Tryz.underlying65 hi hz0 hz1 hz2 rfl encGoS_len (by decide) encGoS_one v6 _ _ rfl HO6.out _ _ [] rfl RowAt.nil (by simp; omega) (by decide) (Nat.le_trans (Nat.succ_le_of_lt hez5) HB6.out.size) ?_; intro v7 w7 HO7 hb7; have HO8 := HO7.out; rw [hl7] at HO8; obtain ⟨A7, c7, rfl⟩ := own_slice HO8; have HB7 := Lib.hid (HB46.out.trans (hb7.mono (Nat.le_succ _))); have hq7 := (HB7.out.block q hql).trans HOWN.out) | (refine wpList_store_val rfl 65 _ _ rfl q 0 (.slice A7 (T.length + 1) c7) rfl rfl rfl _ [.slice (some ⟨g, 0, none⟩) T.length cG, vL, .slice A NL cap] hq7 (by kernel_rfl) (Nat.le_of_ble_eq_true rfl) rfl ?_; intro w8 h8 tu8))
        go_ret
        have h9 := own_base (own_turned HO8 tu8 (by omega)) (Nat.le_succ w.heap.size)
        rw [show [] ++ flatL encGoS T ++ flatL encGoS [((g1, g2), zeroSums)] ++ flatL encGoS [] = flatL encGoS lnew by rw [HLW.out]; simp [flatL]] at h9
        exact ⟨by rw [HD2.out]; rfl, .inr ⟨HD2.out, _, h8, h9, (ButF.of_below HB7.out).step (ButF.of_turned tu8 (.inl (by simp)))⟩⟩
 ·rw [← HFE.out] at f1
  have HD1 : Hid (de = 7) := by
   show _ = _
   rw [HDO.out, f1]
   rfl
  rw [f2]
  have hp : (0 : Int) ≤ (i : Nat) := by omega
  clear f1 f2 HIX hi
  go_wp2_with fail
  go_ret
  rw [HD1.out]
  exact ⟨rfl, .inl ⟨by decide, B2.out⟩⟩
end Go.Proofs.YteaalifehokgoaaGreatDoor
