/- Tasks of counting: Count. What a row's list of package-level variables gives the walks: sentinels, strconv's table; what the world's shape gives. errors.Is and errors.As at the errors of this program: sentinels, faults with a place, nil. -/
import Derived.LaidLaws
import Derived.Stop.LaidErr
import Derived.Shelf.Vars
import Derived.LaidEql
import Derived.Stop.Asserts
import Derived.RowKitTokens
import Derived.Test.YtchiojiicehpeaaGreatDoorM01
import Derived.Test.YtchiojiicehpeaaGreatDoorM32
namespace Go.Proofs.YtchiojiicehpeaaGreatDoor
open Go.RowKit Go.Sort Go.Proofs
def CouEnds (E : Nat → Addr) (w : World) (p : Nat) (F R : List Nat) (ts : List TaskV) (k : Int) (b : List UInt8) (s : List LineV) (e : Ending) (w' : World) : Prop :=
 (∃ v, e = .returned v ∧ FltC E (countR ts k b s) v w') ∧ ∃ R', TaskIs w' p F R' (countT ts k b s) ∧ ButF F w w' ∧ (∀ i ∈ R', i ∈ R ∨ w.heap.size ≤ i)
theorem countR_err {E : Nat → Addr} {w w' : World} {p : Nat} {F R : List Nat} {ts : List TaskV} {k : Int} {b : List UInt8} {s : List LineV} (H : TaskIs w p F R ts) (hb : Below w.heap.size w w') {f : Nat × Option Nat} (hf : countR ts k b s = some f) {v : Value} (hv : FltC E (some f) v w') : CouEnds E w p F R ts k b s (.returned v) w' := by
 refine ⟨⟨v, rfl, by rw [hf]; exact hv⟩, R, ?_, ButF.of_below hb, fun i hi => .inl hi⟩
 unfold countT
 rw [hf, if_neg (by simp)]
 exact H.below hb
set_option maxHeartbeats 6400000 in
set_option maxRecDepth 100000 in
theorem countTask_any (E : Nat → Addr) {w : World} {p : Nat} {F R : List Nat} {ts : List TaskV} (H : TaskIs w p F R ts) (k : Int) (b : List UInt8) (hbl : b.length ≤ 1000000) (SA : Option Addr) (scap : Nat) (s : List LineV) (hs : s.length ≤ 1000) (hsc : s.length ≤ scap) (hsr : RowAt encLine 5 w SA s) (hsF : ∀ a, SA = some a → s ≠ [] → a.block ∉ F)
  (htl : ∀ x ∈ ts, x.2.2.2.2.length ≤ 1000) (hG : TaskH E w) :
  Calls Tryz.prog 17 #[.pointer (some ⟨p, 0, none⟩), .int .i64 k, .string ⟨b.toArray⟩, .slice SA s.length scap] w (CouEnds E w p F R ts k b s) := by
 have HEND := Lib.hid (fun (f : Nat × Option Nat) (hf : countR ts k b s = some f) W (hb : Below w.heap.size w W) v (hv : FltC E (some f) v W) => (countR_err H hb hf hv : CouEnds E w p F R ts k b s (.returned v) W))
 have HT := Lib.hid H
 obtain ⟨v, cs, hcs, hm, hF, hnd, hR1, hR⟩ := H
 have HA := Lib.hid (atTasks_any hm k)
 have e5 := hG.bk.stk.place.name
 have e6 := hG.bk.none
 have e7 := hG.bk.exist
 have e11 := hG.state
 have l5 := lt_of_cell e5
 have l6 := lt_of_cell e6
 have l7 := lt_of_cell e7
 have l11 := lt_of_cell e11
 simp only at l5 l6 l7 l11
 unfold ErrAt at e5 e6 e7 e11
 have HBK := Lib.hid (fun W (hb : Below w.heap.size w W) => cntCheck_any E SA scap s W (hsr.below hb) (by omega) hsc (hG.bk.below hb))
 have HCL := Lib.hid (fun W (hr : RowAt encLine 5 W SA s) => cloneLine_any SA scap s W hs hr)
 have HSR := Lib.hid hsr
 have HN := Lib.hid (name_any b (by omega))
 obtain ⟨sn, hsn⟩ : ∃ sn, sn = s.length := ⟨_, rfl⟩
 have HSN := Lib.hid hsn
 have hAL0 : Hid (∀ (B : Option Addr) (bc : Nat) (m : List LineV) W (hb : Below w.heap.size w W) (hm : RowAt encLine 5 W B m) (hml : m.length ≤ 100000), Calls Tryz.prog 55 #[.slice SA sn scap, .slice B m.length bc] W fun e w' => e = .returned (.bool (alikeL s m)) ∧ Below W.heap.size W w') := fun B bc m W hb hm hml => by
  rw [hsn]
  exact alike_any SA B scap bc s m W (hsr.below hb) (by omega) hm hml
 rw [← hsn] at HBK HCL ⊢
 clear hG hsr hsn
 by_cases hk : k < 0 ∨ (cs.length : Int) ≤ k
 ·have HO : Hid (countR ts k b s = some (6, none)) := by
   show _ = _
   unfold countR
   rw [atT_none (by rw [← hcs, List.length_map]; exact hk)]
  rw [taskP_none hk] at HA
  clear hm hnd hR hk
  go_enter Tryz.func17, Tryz.ntmps17
  go_wp2_with fail
  refine HA.out.mono ?_
  rintro e w1 ⟨rfl, rfl⟩
  go_wp2_with fail
  go_ret
  exact HEND.out _ HO.out _ (Below.refl _ _) _ rfl
 ·obtain ⟨m, rfl⟩ : ∃ m : Nat, k = m := ⟨k.toNat, by omega⟩
  have hmx : m < cs.length := by omega
  obtain ⟨g, cap, rfl, hg, -, -, hcell⟩ := hm.at_ hmx
  rw [taskP_at hmx] at HA
  have hTW := TaskW.of hm hF hnd (fun k hk => hR k (by rw [hR1]; exact hk)) (by omega)
  have HRL : Hid (∀ k ∈ sheetsL cs, k < w.heap.size) := fun k hk => (hR k (by rw [hR1]; exact hk)).2
  obtain ⟨x, hx⟩ : ∃ x, x = cs[m] := ⟨_, rfl⟩
  have hx2 : cs[m]? = some x := by rw [hx]; exact List.getElem?_eq_getElem hmx
  have hat : atT ts (m : Int) = some x.1 := by
   rw [← hcs, atT_at (by rw [List.length_map]; exact hmx), List.getElem_map, hx]
  have hxl := htl x.1 (by rw [← hcs, hx]; exact List.mem_map_of_mem (List.getElem_mem hmx))
  have hXS := hm.sheet x (by rw [hx]; exact List.getElem_mem hmx)
  have hXA := hTW.apart x (by rw [hx]; exact List.getElem_mem hmx)
  rw [← hx] at hcell
  have c1 := hcell 1 _ rfl
  have c2 := hcell 2 _ rfl
  have c4 := hcell 4 _ rfl
  have hRC : countR ts (m : Int) b s = countE x.1 b s := by unfold countR; rw [hat]
  have HTX : Hid (countT ts (m : Int) b s = if countE x.1 b s = none then setT ts (m : Int) (fun x => countX x b s) else ts) := by show _ = _; unfold countT; rw [hRC]
  rw [hRC] at HEND
  have HCE : Hid (countE x.1 b s = if x.1.2.1 ≠ sOpen ∧ x.1.2.1 ≠ sAgain then some (11, none) else if nameB b = false then some (5, none) else if x.1.2.1 = sAgain ∧ b = x.1.2.2.1 then some (7, none) else match sheetF [] s with
   |some (c, i) => some (c, some i)
   |none => none) := rfl
  have HRC := Lib.hid hRC
  obtain ⟨⟨x1, x2, x3, x4, x5⟩, XA, xc⟩ := x
  simp only at c1 c2 c4 hxl hXS hXA HCE HTX HEND HRC
  have HXS := Lib.hid hXS
  have HXA := Lib.hid hXA
  have HX2 := Lib.hid hx2
  have HTW := Lib.hid hTW
  obtain ⟨x5n, hx5n⟩ : ∃ x5n, x5n = x5.length := ⟨_, rfl⟩
  have HX5 := Lib.hid hx5n
  rw [← hx5n] at c4 hxl
  have HU : Hid (∀ W, Below w.heap.size w W → W.cell? ⟨0, 0, none⟩ = some (.iface 373 (.pointer (some (E 5)))) ∧ W.cell? ⟨1, 0, none⟩ = some (.iface 373 (.pointer (some (E 7)))) ∧ W.cell? ⟨g, m * 5 + 1, none⟩ = some (.string ⟨x2.toArray⟩) ∧ W.cell? ⟨g, m * 5 + 2, none⟩ = some (.string ⟨x3.toArray⟩) ∧ W.cell? ⟨g, m * 5 + 4, none⟩ = some (.slice XA x5n xc)) := fun W hb => ⟨(hb.cell l5).trans e5, (hb.cell l7).trans e7, (hb.cell hg).trans c1, (hb.cell hg).trans c2, (hb.cell hg).trans c4⟩
  have HAL : Hid (∀ W (hb : Below w.heap.size w W), Calls Tryz.prog 55 #[.slice SA sn scap, .slice XA x5n xc] W fun e w' => e = .returned (.bool (alikeL s x5)) ∧ Below W.heap.size W w') := fun W hb => by
   have := hAL0.out XA xc x5 W hb (hXS.below hb) (by rw [← hx5n]; omega)
   rwa [← hx5n] at this
  have HSG : Hid (∀ a, SA = some a → s ≠ [] → a.block ≠ g) := fun a ha hn e => hsF a ha hn (by rw [hF]; exact List.mem_cons_of_mem _ (by rw [e]; exact blockL_mem rfl))
  have hgF : g ∈ F := by rw [hF]; exact List.mem_cons_of_mem _ (blockL_mem rfl)
  have HEN : Hid (∀ w6 y, TaskW w6 p g cap cs.length (cs.set m y) → ButF F w w6 → y.1 = countX (x1, x2, x3, x4, x5) b s → ((y.2.1 = XA ∧ y.1.2.2.2.2 = x5) ∨ ∀ a, y.2.1 = some a → w.heap.size ≤ a.block) → ∃ R', TaskIs w6 p F R' (setT ts (m : Int) (fun x => countX x b s)) ∧ ButF F w w6 ∧ ∀ i ∈ R', i ∈ R ∨ w.heap.size ≤ i) := fun w6 y h6 hb6 hy hy2 => by
   obtain ⟨R', r1, r2⟩ := h6.ends (w := w) hF hx2 (fun k hk => hR k (by rw [hR1]; exact hk)) hb6.size (fun k hk => HT.out.lt k (.inl hk)) (fun x => countX x b s) hy hy2
   exact ⟨R', by rw [← hcs]; exact r1, hb6, by rw [hR1]; exact r2⟩
  clear hm hk hcell hx hx2 hat hXS hXA hx5n hAL0 hRC htl l5 l7 hTW e5 e7
  by_cases hst : x2 ≠ sOpen ∧ x2 ≠ sAgain
  ·have HE : Hid (countE (x1, x2, x3, x4, x5) b s = some (11, none)) := HCE.out.trans (if_pos hst)
   have s1 : (x2 == [111, 112, 101, 110]) = false := by simpa [sOpen] using hst.1
   have s2 : (x2 == [97, 103, 97, 105, 110]) = false := by simpa [sAgain] using hst.2
   clear hst HCE
   go_enter Tryz.func17, Tryz.ntmps17
   go_wp2_with fail
   refine HA.out.mono ?_
   rintro e w1 ⟨rfl, rfl⟩
   go_wp2_with fail
   go_ret
   exact HEND.out _ HE.out _ (Below.refl _ _) _ rfl
  ·have hst2 : x2 = sOpen ∨ x2 = sAgain := by
    by_cases h : x2 = sOpen
    ·exact .inl h
    ·exact .inr (Classical.byContradiction fun h2 => hst ⟨h, h2⟩)
   have HCE1 := Lib.hid (HCE.out.trans (if_neg hst))
   clear HCE hst
   rcases hst2 with hst | hst
   ·have s1 : (x2 == [111, 112, 101, 110]) = true := by rw [hst]; rfl
    have s2 : (x2 == [97, 103, 97, 105, 110]) = false := by rw [hst]; rfl
    have HNA : Hid (¬ (x2 = sAgain ∧ b = x3)) := fun e => absurd (hst.symm.trans e.1) (by decide)
    have HCX2 : Hid (countX (x1, x2, x3, x4, x5) b s = (x1, sCounted, b, x4, s)) := by show _ = _; unfold countX; rw [if_pos hst]
    clear hst
    go_enter Tryz.func17, Tryz.ntmps17
    go_wp2_with fail
    refine HA.out.mono ?_
    rintro e w1 ⟨rfl, rfl⟩
    go_wp2_with fail
    refine (HN.out w).mono ?_
    rintro e w1 ⟨rfl, b1⟩
    have B1 := Lib.hid b1
    clear b1
    obtain ⟨e5, e7, c1, c2, c4⟩ := HU.out w1 B1.out
    cases hnm : nameB b with
    |false =>
     have HE : Hid (countE (x1, x2, x3, x4, x5) b s = some (5, none)) := HCE1.out.trans (if_pos hnm)
     clear hnm
     go_wp2_with fail
     go_ret
     exact HEND.out _ HE.out _ B1.out _ rfl
    |true =>
     have HCE2 := Lib.hid (HCE1.out.trans (if_neg (by rw [hnm]; decide)))
     clear hnm HCE1
     have HCE3 := Lib.hid (HCE2.out.trans (if_neg HNA.out))
     clear HCE2
     go_wp2_with fail
     refine (HBK.out w1 B1.out).mono ?_
     rintro e w2 ⟨v2, rfl, hv2, b2⟩
     have B2 := Lib.hid (B1.out.trans (b2.mono B1.out.size))
     clear b2 e5 e7 c1 c2 c4
     obtain ⟨-, -, c1, c2, c4⟩ := HU.out w2 B2.out
     cases hsf : sheetF [] s with
     |some f =>
      obtain ⟨fc, fi⟩ := f
      rw [hsf] at hv2 HCE3
      obtain ⟨h0, fb, rfl, hfb⟩ := hv2
      have HFB := Lib.hid hfb
      clear hfb hsf
      go_wp2_with fail
      go_ret
      exact HEND.out _ HCE3.out _ B2.out _ ⟨h0, fb, rfl, HFB.out⟩
     |none =>
      rw [hsf] at hv2 HCE3
      obtain rfl : v2 = .nilIface := hv2
      have HTX2 : Hid (countT ts (m : Int) b s = setT ts (m : Int) (fun x => countX x b s)) := HTX.out.trans (if_pos HCE3.out)
      have HRN := Lib.hid (HRC.out.trans HCE3.out)
      clear hsf HTX
      have HW2 := Lib.hid (HTW.out.below HRL.out B2.out)
      have HS2 := Lib.hid (HSR.out.below B2.out)
      have HBF2 := Lib.hid (ButF.of_below (F := F) B2.out)
      obtain ⟨L2, hL2, hl2⟩ := HW2.out.row
      have HL2 := Lib.hid hL2
      clear hL2
      go_wp2_with (first | (refine wpList_store_val rfl 9 _ _ rfl g (m * 5 + 2) (.string ⟨b.toArray⟩) rfl rfl rfl _ L2 HL2.out (by kernel_rfl) (by omega) rfl ?_; intro w3 h3 tu3; have HW3 := Lib.hid (HW2.out.str HL2.out hl2 hmx (by decide) h3 tu3 HX2.out ((x1, x2, b, x4, x5), XA, xc) rfl rfl rfl); have HS3 := Lib.hid (rowKeep HS2.out tu3 HSG.out); have HBF3 := Lib.hid (HBF2.out.step (ButF.of_turned tu3 (.inl hgF))); obtain ⟨L3, hL3, hl3⟩ := HW3.out.row; have HL3 := Lib.hid hL3; clear hL3 h3 tu3) | (refine wpList_store_val rfl 9 _ _ rfl g (m * 5 + 1) (.string ⟨sCounted.toArray⟩) rfl rfl rfl _ L3 HL3.out (by kernel_rfl) (by omega) rfl ?_; intro w4 h4 tu4; have HW4 := Lib.hid (HW3.out.str2 HL3.out hl3 hmx (by decide) h4 tu4 ((x1, sCounted, b, x4, x5), XA, xc) rfl rfl rfl); have HS4 := Lib.hid (rowKeep HS3.out tu4 HSG.out); have HBF4 := Lib.hid (HBF3.out.step (ButF.of_turned tu4 (.inl hgF))); obtain ⟨L4, hL4, hl4⟩ := HW4.out.row; have HL4 := Lib.hid hL4; clear hL4 h4 tu4))
      have HRL4 : Hid (∀ k ∈ sheetsL (cs.set m ((x1, sCounted, b, x4, x5), XA, xc)), k < w4.heap.size) := fun k hk => by
       rcases sheets_sub hk with h1 | ⟨h1, a, h2, rfl⟩
       ·exact Nat.lt_of_lt_of_le (HRL.out k h1) HBF4.out.size
       ·exact Nat.lt_of_lt_of_le (HRL.out a.block (mem_sheets (List.mem_of_getElem? HX2.out) h2 h1)) HBF4.out.size
      refine (HCL.out w4 HS4.out).mono ?_
      rintro e w5 ⟨A5, c5, rfl, hr5, hf5, hc5, b5⟩
      have HW5 := Lib.hid (HW4.out.below (fun k hk => HRL4.out k hk) b5)
      have HBF5 := Lib.hid (HBF4.out.then_below b5)
      have HR5 := Lib.hid hr5
      have HF5 : Hid (∀ a, A5 = some a → w.heap.size ≤ a.block) := fun a ha => Nat.le_trans HBF4.out.size (hf5 a ha)
      have HG5 : Hid (∀ a, A5 = some a → a.block ≠ g) := fun a ha e => by have := HF5.out a ha; omega
      obtain ⟨L5, hL5, hl5⟩ := HW5.out.row
      have HL5 := Lib.hid hL5
      clear hL5 hr5 hf5 b5
      go_wp2_with (refine wpList_store_val rfl 33 _ _ rfl g (m * 5 + 4) (.slice A5 sn c5) rfl rfl rfl _ L5 HL5.out (by kernel_rfl) (by omega) rfl ?_; intro w6 h6 tu6; have HW6 := Lib.hid (HW5.out.sheet2 HL5.out hl5 hmx h6 tu6 ((x1, sCounted, b, x4, s), A5, c5) (by rw [HSN.out]; rfl) HR5.out HG5.out (by show s.length ≤ c5; rw [← HSN.out]; exact hc5)); have HBF6 := Lib.hid (HBF5.out.step (ButF.of_turned tu6 (.inl hgF))); clear h6 tu6)
      go_ret
      refine ⟨⟨_, rfl, ?_⟩, ?_⟩
      ·rw [HRN.out]
       rfl
      ·rw [HTX2.out]
       exact HEN.out w6 _ HW6.out HBF6.out HCX2.out.symm (.inr HF5.out)
   ·have s1 : (x2 == [111, 112, 101, 110]) = false := by rw [hst]; rfl
    have s2 : (x2 == [97, 103, 97, 105, 110]) = true := by rw [hst]; rfl
    have HCX : Hid (countX (x1, x2, x3, x4, x5) b s = if alikeL s x5 = true then (x1, sCounted, x3, b, x5) else (x1, x2, b, [], s)) := by show _ = _; unfold countX; rw [if_neg (by show ¬ x2 = sOpen; rw [hst]; decide)]
    have HST := Lib.hid hst
    clear hst
    go_enter Tryz.func17, Tryz.ntmps17
    go_wp2_with fail
    refine HA.out.mono ?_
    rintro e w1 ⟨rfl, rfl⟩
    go_wp2_with fail
    refine (HN.out w).mono ?_
    rintro e w1 ⟨rfl, b1⟩
    have B1 := Lib.hid b1
    clear b1
    obtain ⟨e5, e7, c1, c2, c4⟩ := HU.out w1 B1.out
    cases hnm : nameB b with
    |false =>
     have HE : Hid (countE (x1, x2, x3, x4, x5) b s = some (5, none)) := HCE1.out.trans (if_pos hnm)
     clear hnm
     go_wp2_with fail
     go_ret
     exact HEND.out _ HE.out _ B1.out _ rfl
    |true =>
     have HCE2 := Lib.hid (HCE1.out.trans (if_neg (by rw [hnm]; decide)))
     clear hnm HCE1
     by_cases hby : b = x3
     ·have HE : Hid (countE (x1, x2, x3, x4, x5) b s = some (7, none)) := HCE2.out.trans (if_pos ⟨HST.out, hby⟩)
      have s3 : (b == x3) = true := by simpa using hby
      clear hby HCE2
      go_wp2_with fail
      go_ret
      exact HEND.out _ HE.out _ B1.out _ rfl
     ·have s3 : (b == x3) = false := by simpa using hby
      have HNA : Hid (¬ (x2 = sAgain ∧ b = x3)) := fun e => hby e.2
      clear hby
      have HCE3 := Lib.hid (HCE2.out.trans (if_neg HNA.out))
      clear HCE2
      go_wp2_with fail
      refine (HBK.out w1 B1.out).mono ?_
      rintro e w2 ⟨v2, rfl, hv2, b2⟩
      have B2 := Lib.hid (B1.out.trans (b2.mono B1.out.size))
      clear b2 e5 e7 c1 c2 c4
      obtain ⟨-, -, c1, c2, c4⟩ := HU.out w2 B2.out
      cases hsf : sheetF [] s with
      |some f =>
       obtain ⟨fc, fi⟩ := f
       rw [hsf] at hv2 HCE3
       obtain ⟨h0, fb, rfl, hfb⟩ := hv2
       have HFB := Lib.hid hfb
       clear hfb hsf
       go_wp2_with fail
       go_ret
       exact HEND.out _ HCE3.out _ B2.out _ ⟨h0, fb, rfl, HFB.out⟩
      |none =>
       rw [hsf] at hv2 HCE3
       obtain rfl : v2 = .nilIface := hv2
       have HTX2 : Hid (countT ts (m : Int) b s = setT ts (m : Int) (fun x => countX x b s)) := HTX.out.trans (if_pos HCE3.out)
       have HRN := Lib.hid (HRC.out.trans HCE3.out)
       clear hsf HTX
       go_wp2_with fail
       refine (HAL.out w2 B2.out).mono ?_
       rintro e w8 ⟨rfl, b8⟩
       have B8 := Lib.hid (B2.out.trans (b8.mono B2.out.size))
       clear b8
       cases hal : alikeL s x5 with
       |true =>
        have HCX2 := Lib.hid (HCX.out.trans (if_pos hal))
        clear hal HCX
        have HW2 := Lib.hid (HTW.out.below HRL.out B8.out)
        have HS2 := Lib.hid (HSR.out.below B8.out)
        have HBF2 := Lib.hid (ButF.of_below (F := F) B8.out)
        obtain ⟨L2, hL2, hl2⟩ := HW2.out.row
        have HL2 := Lib.hid hL2
        clear hL2
        go_wp2_with (first | (refine wpList_store_val rfl 9 _ _ rfl g (m * 5 + 3) (.string ⟨b.toArray⟩) rfl rfl rfl _ L2 HL2.out (by kernel_rfl) (by omega) rfl ?_; intro w3 h3 tu3; have HW3 := Lib.hid (HW2.out.str HL2.out hl2 hmx (by decide) h3 tu3 HX2.out ((x1, x2, x3, b, x5), XA, xc) rfl rfl rfl); have HS3 := Lib.hid (rowKeep HS2.out tu3 HSG.out); have HBF3 := Lib.hid (HBF2.out.step (ButF.of_turned tu3 (.inl hgF))); obtain ⟨L3, hL3, hl3⟩ := HW3.out.row; have HL3 := Lib.hid hL3; clear hL3 h3 tu3) | (refine wpList_store_val rfl 9 _ _ rfl g (m * 5 + 1) (.string ⟨sCounted.toArray⟩) rfl rfl rfl _ L3 HL3.out (by kernel_rfl) (by omega) rfl ?_; intro w4 h4 tu4; have HW4 := Lib.hid (HW3.out.str2 HL3.out hl3 hmx (by decide) h4 tu4 ((x1, sCounted, x3, b, x5), XA, xc) rfl rfl rfl); have HS4 := Lib.hid (rowKeep HS3.out tu4 HSG.out); have HBF4 := Lib.hid (HBF3.out.step (ButF.of_turned tu4 (.inl hgF))); obtain ⟨L4, hL4, hl4⟩ := HW4.out.row; have HL4 := Lib.hid hL4; clear hL4 h4 tu4))
        go_ret
        refine ⟨⟨_, rfl, ?_⟩, ?_⟩
        ·rw [HRN.out]
         rfl
        ·rw [HTX2.out]
         exact HEN.out w4 _ HW4.out HBF4.out HCX2.out.symm (.inl ⟨rfl, rfl⟩)
       |false =>
        have HCX2 := Lib.hid (HCX.out.trans (if_neg (by rw [hal]; decide)))
        clear hal HCX
        have HW2 := Lib.hid (HTW.out.below HRL.out B8.out)
        have HS2 := Lib.hid (HSR.out.below B8.out)
        have HBF2 := Lib.hid (ButF.of_below (F := F) B8.out)
        obtain ⟨L2, hL2, hl2⟩ := HW2.out.row
        have HL2 := Lib.hid hL2
        clear hL2
        go_wp2_with (first | (refine wpList_store_val rfl 9 _ _ rfl g (m * 5 + 2) (.string ⟨b.toArray⟩) rfl rfl rfl _ L2 HL2.out (by kernel_rfl) (by omega) rfl ?_; intro w3 h3 tu3; have HW3 := Lib.hid (HW2.out.str HL2.out hl2 hmx (by decide) h3 tu3 HX2.out ((x1, x2, b, x4, x5), XA, xc) rfl rfl rfl); have HS3 := Lib.hid (rowKeep HS2.out tu3 HSG.out); have HBF3 := Lib.hid (HBF2.out.step (ButF.of_turned tu3 (.inl hgF))); obtain ⟨L3, hL3, hl3⟩ := HW3.out.row; have HL3 := Lib.hid hL3; clear hL3 h3 tu3) | (refine wpList_store_val rfl 9 _ _ rfl g (m * 5 + 3) (.string ⟨#[]⟩) rfl rfl rfl _ L3 HL3.out (by kernel_rfl) (by omega) rfl ?_; intro w4 h4 tu4; have HW4 := Lib.hid (HW3.out.str2 HL3.out hl3 hmx (by decide) h4 tu4 ((x1, x2, b, [], x5), XA, xc) rfl rfl rfl); have HS4 := Lib.hid (rowKeep HS3.out tu4 HSG.out); have HBF4 := Lib.hid (HBF3.out.step (ButF.of_turned tu4 (.inl hgF))); obtain ⟨L4, hL4, hl4⟩ := HW4.out.row; have HL4 := Lib.hid hL4; clear hL4 h4 tu4))
        have HRL4 : Hid (∀ k ∈ sheetsL (cs.set m ((x1, x2, b, [], x5), XA, xc)), k < w4.heap.size) := fun k hk => by
         rcases sheets_sub hk with h1 | ⟨h1, a, h2, rfl⟩
         ·exact Nat.lt_of_lt_of_le (HRL.out k h1) HBF4.out.size
         ·exact Nat.lt_of_lt_of_le (HRL.out a.block (mem_sheets (List.mem_of_getElem? HX2.out) h2 h1)) HBF4.out.size
        refine (HCL.out w4 HS4.out).mono ?_
        rintro e w5 ⟨A5, c5, rfl, hr5, hf5, hc5, b5⟩
        have HW5 := Lib.hid (HW4.out.below (fun k hk => HRL4.out k hk) b5)
        have HBF5 := Lib.hid (HBF4.out.then_below b5)
        have HR5 := Lib.hid hr5
        have HF5 : Hid (∀ a, A5 = some a → w.heap.size ≤ a.block) := fun a ha => Nat.le_trans HBF4.out.size (hf5 a ha)
        have HG5 : Hid (∀ a, A5 = some a → a.block ≠ g) := fun a ha e => by have := HF5.out a ha; omega
        obtain ⟨L5, hL5, hl5⟩ := HW5.out.row
        have HL5 := Lib.hid hL5
        clear hL5 hr5 hf5 b5
        go_wp2_with (refine wpList_store_val rfl 33 _ _ rfl g (m * 5 + 4) (.slice A5 sn c5) rfl rfl rfl _ L5 HL5.out (by kernel_rfl) (by omega) rfl ?_; intro w6 h6 tu6; have HW6 := Lib.hid (HW5.out.sheet2 HL5.out hl5 hmx h6 tu6 ((x1, x2, b, [], s), A5, c5) (by rw [HSN.out]; rfl) HR5.out HG5.out (by show s.length ≤ c5; rw [← HSN.out]; exact hc5)); have HBF6 := Lib.hid (HBF5.out.step (ButF.of_turned tu6 (.inl hgF))); clear h6 tu6)
        go_ret
        refine ⟨⟨_, rfl, ?_⟩, ?_⟩
        ·rw [HRN.out]
         rfl
        ·rw [HTX2.out]
         exact HEN.out w6 _ HW6.out HBF6.out HCX2.out.symm (.inr HF5.out)
end Go.Proofs.YtchiojiicehpeaaGreatDoor
namespace Go.Proofs.YtchiojiicehpeaaGreatDoor
open Go.RowKit Go.ChangeShapes
structure Sent (g : Nat) (a : Addr) (text : List UInt8) (w : World) : Prop where
 at_ : ErrAt g a w
 text : ∃ s : ByteArray, w.cell? a = some (.string s) ∧ s.data.toList = text
 row : ∃ cs t, w.heap[a.block]? = some (.cells cs t (0, 0))
theorem Sent.below {g : Nat} {a : Addr} {l : List UInt8} {w w' : World} (h : Sent g a l w) (hb : Below w.heap.size w w') : Sent g a l w' := by
 obtain ⟨s, hs, ht⟩ := h.text
 obtain ⟨cs, t, hr⟩ := h.row
 exact ⟨h.at_.below hb, ⟨s, by rw [hb.cell (lt_of_cell hs)]; exact hs, ht⟩, ⟨cs, t, by rw [hb.block _ (lt_of_cell hs)]; exact hr⟩⟩
theorem errRow : ∀ u, Tryz.prog.typeName? 3 u = some "*errors.errorString" → u = 373 := fun u h =>
 typeName_ptr_named (nm := "errors.errorString") (by kernel_rfl) (by kernel_rfl) (by decide) u h
set_option maxRecDepth 100000 in
theorem sent_of {n : String} {l : List UInt8} {r : List (String × DataW Unit)} {W : World} {g : Nat}
  (h : laidMet Tryz.prog ((n, .iface "*errors.errorString" (.ptr (.agg [.lit (.string l)]))) :: r) W)
  (hg : Tryz.prog.globalNamed n = some g) (ht : (Tryz.prog.globals[g]?).map (·.type) = some 43) : ∃ a, Sent g a l W := by
 obtain ⟨ps, ⟨g0, t0, cs0, f0, p0, q0, hg0, ht0, hv0, hd0, _, e0⟩, _, hrows⟩ := h
 obtain rfl := Option.some.inj (hg.symm.trans hg0)
 obtain rfl := Option.some.inj (ht.symm.trans ht0)
 subst e0
 obtain ⟨l0⟩ := cs0
 have ok0 : ∀ u v, l0 = [.iface u v] → Value.okWide Tryz.prog W .any 0 u v := fun u v e => by
  subst e
  exact (hrows g 0 (by simp [MemPlace.row])).2 u v (by simpa using World.var?_cell hg0 hv0 0)
 obtain ⟨a0, s0, rfl, hc0, hs0, hz0, rfl⟩ := errorString_of_trod Tryz.underlying43 errRow Tryz.underlying373 Tryz.underlying375 rfl rfl Tryz.underlying9 (by kernel_rfl) (by kernel_rfl) hd0 ok0
 obtain ⟨c0, t0, hb0⟩ := (hrows a0.block a0.off (by simp [MemPlace.row])).1
 exact ⟨a0, by unfold ErrAt; simpa using World.var?_cell hg0 hv0 0, ⟨s0, hc0, hs0⟩, ⟨c0, t0, hb0⟩⟩
end Go.Proofs.YtchiojiicehpeaaGreatDoor
namespace Go.Proofs.YtchiojiicehpeaaGreatDoor
open Go.RowKit Go.Extern.Stop Go.Stop Go.Extern
/-! Closed facts: reflectlite's entries at this program's types. -/
theorem isTypeOf (v : Value) (w : World) : (Extern.ReflectliteType.typeOf #[.iface 373 v]).run Tryz.prog w = .ok (.iface 286 (.agg #[.pointer (some ⟨21, 373, none⟩)])) w := by kernel_rfl
theorem isComparable (w : World) : ((Extern.ReflectliteType.method fun t => do Extern.Rtype.noPackHeld "Comparable" t; (fun a => Value.bool a.comparable) <$> typeInfo t) #[.agg #[.pointer (some ⟨21, 373, none⟩)]]).run Tryz.prog w = .ok (.bool true) w := by kernel_rfl
theorem isMethodComparable (v : Value) (w : World) : (Go.method 502 286 v "Comparable").run Tryz.prog w = .ok (327, v) w := by kernel_rfl
theorem isComp : (Tryz.prog.info? 373).map (·.comparable) = some true := by kernel_rfl
theorem isSize : (Tryz.prog.info? 375).map (·.size) = some 1 := by kernel_rfl
theorem noIsE (v : Value) (xT : TypeId) (w : World) : (Instr.typeAssert (.iface 373 v) xT 297 true).run Tryz.prog w = .ok (.tuple #[.nilIface, .bool false]) w := run_typeAssert_lacksB Tryz.underlying297 (by kernel_rfl) (by kernel_rfl) v xT w
theorem noUnwrapE (v : Value) (xT : TypeId) (w : World) : (Instr.typeAssert (.iface 373 v) xT 293 true).run Tryz.prog w = .ok (.tuple #[.nilIface, .bool false]) w := run_typeAssert_lacksB Tryz.underlying293 (by kernel_rfl) (by kernel_rfl) v xT w
theorem noUnwrapsE (v : Value) (xT : TypeId) (w : World) : (Instr.typeAssert (.iface 373 v) xT 295 true).run Tryz.prog w = .ok (.tuple #[.nilIface, .bool false]) w := run_typeAssert_lacksB Tryz.underlying295 (by kernel_rfl) (by kernel_rfl) v xT w
theorem noAsE (v : Value) (xT : TypeId) (w : World) : (Instr.typeAssert (.iface 373 v) xT 290 true).run Tryz.prog w = .ok (.tuple #[.nilIface, .bool false]) w := run_typeAssert_lacksB Tryz.underlying290 (by kernel_rfl) (by kernel_rfl) v xT w
theorem noIsF (v : Value) (xT : TypeId) (w : World) : (Instr.typeAssert (.iface 178 v) xT 297 true).run Tryz.prog w = .ok (.tuple #[.nilIface, .bool false]) w := run_typeAssert_lacksB Tryz.underlying297 (by kernel_rfl) (by kernel_rfl) v xT w
theorem hasUnwrapF (v : Value) (xT : TypeId) (w : World) : (Instr.typeAssert (.iface 178 v) xT 293 true).run Tryz.prog w = .ok (.tuple #[.iface 178 v, .bool true]) w := run_typeAssert_hasB Tryz.underlying293 (by kernel_rfl) v xT w
theorem methodUnwrapF (v : Value) (w : World) : (Go.method 502 178 v "Unwrap").run Tryz.prog w = .ok (321, v) w := by kernel_rfl
theorem ex_TypeOf : ∀ (args : Array Value) (w : World), (callFunc 161 args).run Tryz.prog w = ((Extern.ReflectliteType.typeOf args).run Tryz.prog w).andThen fun v w' => .ok (.value v) w' :=
 @run_callFunc_extern Tryz.prog 161 _ Extern.ReflectliteType.typeOf Tryz.func161 (by kernel_rfl) (by kernel_rfl) (by kernel_rfl) (by kernel_rfl)
theorem ex_Comparable : ∀ (args : Array Value) (w : World), (callFunc 327 args).run Tryz.prog w = (((Extern.ReflectliteType.method fun t => do Extern.Rtype.noPackHeld "Comparable" t; pure (.bool (← typeInfo t).comparable)) args).run Tryz.prog w).andThen fun v w' => .ok (.value v) w' :=
 @run_callFunc_extern Tryz.prog 327 _ (Extern.ReflectliteType.method fun t => do Extern.Rtype.noPackHeld "Comparable" t; pure (.bool (← typeInfo t).comparable)) Tryz.func327 (by kernel_rfl) (by kernel_rfl) (by kernel_rfl) (by kernel_rfl)
theorem is_same (a : Addr) (w : World) :
  Calls Tryz.prog 101 #[.iface 373 (.pointer (some a)), .iface 373 (.pointer (some a))] w fun e w' => e = .returned (.bool true) ∧ w = w' := by
 obtain ⟨i, hi, hcmp⟩ := Option.map_eq_some_iff.1 isComp
 obtain ⟨j, hj, hjs⟩ := Option.map_eq_some_iff.1 isSize
 have h8 := ex_TypeOf
 have h32 := ex_Comparable
 have tT := isTypeOf
 have cT := isComparable
 have mR := isMethodComparable
 have heq := run_eql_iface_ptr_same (P := Tryz.prog) w a Tryz.underlying43 Tryz.underlying373 hi hcmp hj
 go_enter Tryz.func101, Tryz.ntmps101
 go_wp2
 refine wp_loop_rounds 1 ?_
 rw [rounds_succ]
 go_wp2
 go_ret
 exact ⟨rfl, rfl⟩
theorem is_other (a b : Addr) (ca cb : Array Value) (ta tb : TypeId) (w : World) (hne : a ≠ b) (ha : w.heap[a.block]? = some (.cells ca ta (0, 0))) (hb : w.heap[b.block]? = some (.cells cb tb (0, 0))) :
  Calls Tryz.prog 101 #[.iface 373 (.pointer (some a)), .iface 373 (.pointer (some b))] w fun e w' => e = .returned (.bool false) ∧ w = w' := by
 obtain ⟨i, hi, hcmp⟩ := Option.map_eq_some_iff.1 isComp
 obtain ⟨j, hj, hjs⟩ := Option.map_eq_some_iff.1 isSize
 have h8 := ex_TypeOf
 have h32 := ex_Comparable
 have tT := isTypeOf
 have cT := isComparable
 have mR := isMethodComparable
 have nE := noIsE
 have uE := noUnwrapE
 have vE := noUnwrapsE
 have heq := run_eql_iface_ptr_other (P := Tryz.prog) w Tryz.underlying43 Tryz.underlying373 hi hcmp hj (by rw [hjs]; decide) hne ha hb
 go_enter Tryz.func101, Tryz.ntmps101
 go_wp2
 refine wp_loop_rounds 1 ?_
 rw [rounds_succ]
 go_wp2
 go_ret
 exact ⟨rfl, rfl⟩
theorem is_fault_same (pb po : Nat) (b : Addr) (w : World) (h1 : w.cell? ⟨pb, po + 1, none⟩ = some (.iface 373 (.pointer (some b)))) :
  Calls Tryz.prog 101 #[.iface 178 (.pointer (some ⟨pb, po, none⟩)), .iface 373 (.pointer (some b))] w fun e w' => e = .returned (.bool true) ∧ w = w' := by
 obtain ⟨i, hi, hcmp⟩ := Option.map_eq_some_iff.1 isComp
 obtain ⟨j, hj, hjs⟩ := Option.map_eq_some_iff.1 isSize
 have h8 := ex_TypeOf
 have h32 := ex_Comparable
 have tT := isTypeOf
 have cT := isComparable
 have mR := isMethodComparable
 have nE := noIsE
 have uE := noUnwrapE
 have vE := noUnwrapsE
 have nW := noIsF
 have uW := hasUnwrapF
 have mU := methodUnwrapF
 have heq := run_eql_iface_ptr_same (P := Tryz.prog) w b Tryz.underlying43 Tryz.underlying373 hi hcmp hj
 have hty := run_eql_iface_types (P := Tryz.prog) 178 373 (.pointer (some ⟨pb, po, none⟩)) (.pointer (some b)) Tryz.underlying43 (by decide) w
 go_enter Tryz.func101, Tryz.ntmps101
 go_wp2
 refine wp_loop_rounds 2 ?_
 rw [rounds_succ]
 go_wp2
 rw [rounds_succ]
 go_wp2
 go_ret
 exact ⟨rfl, rfl⟩
theorem is_fault_other (pb po : Nat) (b a : Addr) (ca cb : Array Value) (ta tb : TypeId) (w : World) (h1 : w.cell? ⟨pb, po + 1, none⟩ = some (.iface 373 (.pointer (some a)))) (hne : a ≠ b) (ha : w.heap[a.block]? = some (.cells ca ta (0, 0))) (hb : w.heap[b.block]? = some (.cells cb tb (0, 0))) :
  Calls Tryz.prog 101 #[.iface 178 (.pointer (some ⟨pb, po, none⟩)), .iface 373 (.pointer (some b))] w fun e w' => e = .returned (.bool false) ∧ w = w' := by
 obtain ⟨i, hi, hcmp⟩ := Option.map_eq_some_iff.1 isComp
 obtain ⟨j, hj, hjs⟩ := Option.map_eq_some_iff.1 isSize
 have h8 := ex_TypeOf
 have h32 := ex_Comparable
 have tT := isTypeOf
 have cT := isComparable
 have mR := isMethodComparable
 have nE := noIsE
 have uE := noUnwrapE
 have vE := noUnwrapsE
 have nW := noIsF
 have uW := hasUnwrapF
 have mU := methodUnwrapF
 have heq := run_eql_iface_ptr_other (P := Tryz.prog) w Tryz.underlying43 Tryz.underlying373 hi hcmp hj (by rw [hjs]; decide) hne ha hb
 have hty := run_eql_iface_types (P := Tryz.prog) 178 373 (.pointer (some ⟨pb, po, none⟩)) (.pointer (some b)) Tryz.underlying43 (by decide) w
 go_enter Tryz.func101, Tryz.ntmps101
 go_wp2
 refine wp_loop_rounds 2 ?_
 rw [rounds_succ]
 go_wp2
 rw [rounds_succ]
 go_wp2
 go_ret
 exact ⟨rfl, rfl⟩
end Go.Proofs.YtchiojiicehpeaaGreatDoor
