/- The law CountClasses, walked. Printed by gen/clslaw.py. -/
import Derived.Deep.CutBlock
import Derived.Deep.RegionHeld3
import Derived.Test.YtphgakobfegpcaaGreatDoorM38
import Derived.Test.YtphgakobfegpcaaGreatDoorLCountClasses05
import Derived.Test.YtphgakobfegpcaaGreatDoorLCountClasses06
namespace Go.Proofs.YtphgakobfegpcaaGreatDoor
open Go.RowKit Go.Sort Go.Proofs

/-- What holds of one of the first. -/
def anyK (f : Nat → Bool) : Nat → Bool
  | 0 => false
  | k + 1 => anyK f k || f k
theorem anyK_true (f : Nat → Bool) : ∀ k, anyK f k = true ↔ ∃ i, i < k ∧ f i = true
  | 0 => by simp [anyK]
  | k + 1 => by
    rw [anyK, Bool.or_eq_true, anyK_true f k]
    constructor
    · rintro (⟨i, hi, h⟩ | h)
      · exact ⟨i, by omega, h⟩
      · exact ⟨k, by omega, h⟩
    · rintro ⟨i, hi, h⟩
      rcases Nat.lt_or_ge i k with h1 | h1
      · exact .inl ⟨i, h1, h⟩
      · obtain rfl : i = k := by omega
        exact .inr h
def outAt (O : List Int) (i : Nat) : Int := O[i]?.getD 0
theorem anyK_cls {O : List Int} (h0 : ∀ x ∈ O, 0 ≤ x) : anyK (fun i => decide (0 < outAt O i)) O.length = anyK (fun i => clsOf O i == [97]) O.length := by
  rw [Bool.eq_iff_iff, anyK_true, anyK_true]
  have h := cls_any h0
  constructor
  · rintro ⟨i, hi, hp⟩
    obtain ⟨j, hj, hc⟩ := h.1 ⟨i, hi, by simpa [outAt, List.getElem?_eq_getElem hi] using hp⟩
    exact ⟨j, hj, by simpa using hc⟩
  · rintro ⟨i, hi, hc⟩
    obtain ⟨j, hj, hp⟩ := h.2 ⟨i, hi, by simpa using hc⟩
    exact ⟨j, hj, by simpa [outAt, List.getElem?_eq_getElem hj] using hp⟩
theorem cls_mono_at {O : List Int} (h0 : ∀ x ∈ O, 0 ≤ x) {i k : Nat} (hi : i < O.length) (hk : k < O.length) (h : outAt O i < outAt O k) : Op.bytesLess (clsOf O i) (clsOf O k) = false := by
  unfold outAt at h
  rw [List.getElem?_eq_getElem hi, List.getElem?_eq_getElem hk] at h
  exact cls_mono h0 hi hk h

set_option maxHeartbeats 800000 in
set_option maxRecDepth 100000 in
theorem countClasses_out (E : Nat → Addr) (A0 : Option Addr) (cap0 : Nat) (xs0 : List EntV) (w : World) (hG : BkG E w) (hX0 : RowAt encEnt 14 w A0 xs0) (h : longL xs0 40 = 1) :
    Calls Tryz.prog 4 #[.slice A0 xs0.length cap0] w fun e w' => e = .returned (.bool true) ∧ Below w.heap.size w w' := by
  have HC := Lib.hid (counted_any E w hG)
  have HL := Lib.hid (fun W (hb : Below w.heap.size w W) => longEntries_any A0 cap0 xs0 40 W (by decide) (hX0.below hb))
  rw [h] at HL
  clear hG hX0 h
  go_enter Tryz.func4, Tryz.ntmps4
  go_wp2_with fail
  refine HC.out.mono ?_
  rintro e w1 ⟨rfl, b1⟩
  have B1 := Lib.hid b1
  clear b1
  go_wp2_with fail
  refine (HL.out w1 B1.out).mono ?_
  rintro e w2 ⟨rfl, b2⟩
  have B2 := Lib.hid (B1.out.trans (b2.mono B1.out.size))
  clear b2
  go_wp2_with fail
  go_ret
  exact ⟨rfl, B2.out⟩

set_option maxHeartbeats 3200000 in
set_option maxRecDepth 100000 in
theorem countClasses_in (E : Nat → Addr) (A0 : Option Addr) (cap0 : Nat) (xs0 : List EntV) (w : World) (hG : BkG E w) (hE : ErrG E w) (hX0 : RowAt encEnt 14 w A0 xs0) (hl0 : longL xs0 40 = 0) :
    Calls Tryz.prog 4 #[.slice A0 xs0.length cap0] w fun e w' => e = .returned (.bool true) ∧ Below w.heap.size w w' := by
  have HC := Lib.hid (counted_any E w hG)
  have HL := Lib.hid (fun W (hb : Below w.heap.size w W) => longEntries_any A0 cap0 xs0 40 W (by decide) (hX0.below hb))
  rw [hl0] at HL
  obtain ⟨s1, s2⟩ := longL_short hl0
  have HBO := Lib.hid (fun W (hb : Below w.heap.size w W) => bookOf_any E A0 cap0 xs0 W (hX0.below hb) (by omega) (fun x hx => longN_ShortE (s2 x hx)) (hG.below hb) (hE.below hb))
  have hI := BkI.all BkI.nil xs0
  generalize doAll bk0 xs0 = B at HBO hI
  have HGO := Lib.hid (fun p F W (H : BookIs W p F B) => goodsBk_any H hI)
  have HCS := Lib.hid (fun p F W (H : BookIs W p F B) => classes_any H hI)
  have HSU := Lib.hid (fun c p F W (H : BookIs W p F B) => sumsBk_any H c)
  have HSA := Lib.hid hI.sums_at
  obtain ⟨hO1, -, hO3⟩ := hI.outs
  obtain ⟨O, hO⟩ : ∃ O, O = outsB B := ⟨_, rfl⟩
  obtain ⟨N, hN⟩ : ∃ N, N = B.1.length := ⟨_, rfl⟩
  have hOL : O.length = N := by rw [hO, hN]; simp [outsB]
  have HOA : Hid (∀ k (hk : k < B.1.length), outAt O k = B.1[k].2.2.1) := fun k hk => by
    unfold outAt
    rw [hO]
    simp [outsB, List.getElem?_eq_getElem hk]
  rw [← hO] at hO1 hO3 HCS
  have hAK := anyK_cls hO1
  rw [hOL] at hAK
  have HAK := Lib.hid hAK
  have HMO : Hid (∀ i k, i < N → k < N → outAt O i < outAt O k → Op.bytesLess (clsOf O i) (clsOf O k) = false) := fun i k hi hk h => cls_mono_at hO1 (by omega) (by omega) h
  have HABC : Hid (∀ i, clsOf O i = [97] ∨ clsOf O i = [98] ∨ clsOf O i = [99]) := fun i => class_abc _ _
  have HCL : Hid (∀ i (h : i < (classesL O).length), (classesL O)[i] = clsOf O i) := fun i h => by simp [classesL]
  have HCN : Hid ((classesL O).length = N) := by show _ = _; simp [classesL]; exact hOL
  have HLN : Hid (B.1.length = N) := hN.symm
  have hN30 : N ≤ 30 := by omega
  rw [← hN] at HGO HCS
  clear hG hE hX0 hl0 s1 s2 hO hN hOL hO1 hO3 hAK hI
  go_enter Tryz.func4, Tryz.ntmps4
  go_wp2_with fail
  refine HC.out.mono ?_
  rintro e w1 ⟨rfl, b1⟩
  have B1 := Lib.hid b1
  clear b1 HC
  go_wp2_with fail
  refine (HL.out w1 B1.out).mono ?_
  rintro e w2 ⟨rfl, b2⟩
  have B2 := Lib.hid (B1.out.trans (b2.mono B1.out.size))
  clear b2 HL B1
  go_wp2_with fail
  refine (HBO.out w2 B2.out).mono ?_
  rintro e w3 ⟨p, q0, rfl, hbo, b3⟩
  have B3 := Lib.hid (B2.out.trans (b3.mono B2.out.size))
  obtain ⟨F, G, R, hbk, -, -, -, -⟩ := hbo
  have HBK := Lib.hid hbk
  clear b3 HBO B2 hbk
  go_wp2_with fail
  refine (HGO.out p F w3 HBK.out).mono ?_
  rintro e w4 ⟨AG, cG, rfl, hgr, -, b4⟩
  have B4 := Lib.hid (B3.out.trans (b4.mono B3.out.size))
  have HBK4 := Lib.hid (HBK.out.below b4)
  have HGR := Lib.hid hgr
  clear b4 hgr HGO HBK B3
  go_wp2_with fail
  refine (HCS.out p F w4 HBK4.out).mono ?_
  rintro e w5 ⟨AC, cC, rfl, hcs, b5⟩
  have B5 := Lib.hid (B4.out.trans (b5.mono B4.out.size))
  have HBK5 := Lib.hid (fun W (h : Below w5.heap.size w5 W) => (HBK4.out.below b5).below h)
  have HGR5 := Lib.hid (fun W (h : Below w5.heap.size w5 W) => (HGR.out.below b5).below h)
  have HCS5 := Lib.hid (fun W (h : Below w5.heap.size w5 W) => hcs.below h)
  clear b5 hcs HCS HGR HBK4 B4
  /- what a walk reads of the two rows -/
  have HGC : Hid (0 < N → ∃ g og, AG = some ⟨g, og, none⟩ ∧ ∀ k, k < N → ∀ W, Below w5.heap.size w5 W → ∃ c : List UInt8, (∃ hk : k < B.1.length, c = B.1[k].1.1) ∧ W.cell? ⟨g, og + k * 2, none⟩ = some (.string ⟨c.toArray⟩)) := fun h0 => by
    have hl : 0 < (B.1.map (·.1)).length := by rw [List.length_map, HLN.out]; exact h0
    obtain ⟨g, og, hA, lg, -⟩ := HGR5.out w5 (Below.refl _ _) |>.resolve_left (fun h => by rw [h] at hl; simp at hl)
    refine ⟨g, og, hA, fun k hk W hb => ?_⟩
    obtain ⟨g', og', hA', -, cg⟩ := HGR5.out W hb |>.resolve_left (fun h => by rw [h] at hl; simp at hl)
    rw [hA] at hA'
    cases hA'
    have hkB : k < B.1.length := by rw [HLN.out]; exact hk
    have h := cg k (by rw [List.length_map]; exact hkB) 0
    rw [List.getElem_map] at h
    exact ⟨_, ⟨hkB, rfl⟩, h _ rfl⟩
  have HCC : Hid (0 < N → ∃ c oc, AC = some ⟨c, oc, none⟩ ∧ ∀ k, k < N → ∀ W, Below w5.heap.size w5 W → W.cell? ⟨c, oc + k, none⟩ = some (.string ⟨(clsOf O k).toArray⟩)) := fun h0 => by
    have hl : 0 < (classesL O).length := by rw [HCN.out]; exact h0
    obtain ⟨c, oc, hA, lc, cc⟩ := HCS5.out w5 (Below.refl _ _) |>.resolve_left (fun h => by rw [h] at hl; simp at hl)
    refine ⟨c, oc, hA, fun k hk W hb => ?_⟩
    have hk' : k < (classesL O).length := by rw [HCN.out]; exact hk
    have h := cc k hk'
    rw [HCL.out k hk'] at h
    exact (hb.cell lc).trans h
  clear HGR5 HCS5 HCL HCN
  go_wp2_with fail
  go_loopw [9, 10, 11] (fun a f i wr => ∃ k : Nat, k ≤ N ∧ i = .int .i64 k ∧ a = .bool (anyK (fun i => decide (0 < outAt O i)) k) ∧ f = .bool (anyK (fun i => clsOf O i == [97]) k) ∧ Hid (Below w5.heap.size w5 wr)) (fun _ _ i _ => N - (intOf i).toNat)
  case atStart => exact ⟨0, by omega, rfl, rfl, rfl, Below.refl _ _⟩
  case round =>
    obtain ⟨k, hk, rfl, rfl, rfl, HB⟩ := hrel
    obtain ⟨wo, rfl⟩ : ∃ wo : World, wo = wr := ⟨_, rfl⟩
    have HAN : Hid (anyK (fun i => decide (0 < outAt O i)) (k + 1) = (anyK (fun i => decide (0 < outAt O i)) k || decide (0 < outAt O k))) := rfl
    have HFN : Hid (anyK (fun i => clsOf O i == [97]) (k + 1) = (anyK (fun i => clsOf O i == [97]) k || (clsOf O k == [97]))) := rfl
    by_cases hkN : k < N
    · obtain ⟨g, og, rfl, hgc⟩ := HGC.out (by omega)
      obtain ⟨cb, oc, rfl, hcc⟩ := HCC.out (by omega)
      have HG5 := Lib.hid hgc
      have HC5 := Lib.hid hcc
      obtain ⟨code, ⟨hkB, hcode⟩, hcell⟩ := hgc k hkN wo HB.out
      have hsum := HSU.out code p F
      rw [hcode, HSA.out k hkB, ← hcode] at hsum
      have hoa := HOA.out k hkB
      obtain ⟨⟨x0, s1, s2, s3, s4⟩, hx⟩ : ∃ x, x = B.1[k] := ⟨_, rfl⟩
      rw [← hx] at hsum hoa
      simp only [encSums] at hsum hoa
      have HSM := Lib.hid (hsum wo (HBK5.out wo HB.out))
      have HABK := Lib.hid (HABC.out k)
      have hcl := hcc k hkN
      have HMK := Lib.hid (fun j (hj : j < N) => HMO.out k j hkN hj)
      rw [hoa] at HAN HMK
      have hfd : ∀ W, (Instr.field 47 (.agg #[.int .i64 s1, .int .i64 s2, .int .i64 s3, .int .i64 s4]) 1).run Tryz.prog W = .ok (.int .i64 s2) W := fun _ => by kernel_rfl
      generalize anyK (fun i => decide (0 < outAt O i)) k = ab at HAN ⊢
      generalize anyK (fun i => clsOf O i == [97]) k = fb at HFN ⊢
      obtain ⟨ck, hck⟩ : ∃ ck, ck = clsOf O k := ⟨_, rfl⟩
      rw [← hck] at HABK hcl HFN HMK
      have HCLK := Lib.hid hcl
      have hd := HB.out.drew
      have hk0 : (0 : Int) ≤ (k : Nat) := by omega
      have hk1 : ((k : Nat) : Int) < (N : Nat) := by omega
      clear hgc hcc hcode hx hsum hoa hck hcl
      go_wp2_with fail
      refine HSM.out.mono ?_
      rintro e w6 ⟨rfl, b6⟩
      have B6 := Lib.hid (HB.out.trans (b6.mono HB.out.size))
      have c6 := HCLK.out w6 B6.out
      clear b6 HSM hcell hd
      go_upto_region 17 with fail
      go_cut [9] from 54 to 58 (fun s9 wx => s9 = .bool (ab || decide (0 < s2)) ∧ w6 = wx)
      case first =>
        cases ab with
        | true =>
          go_wp2_with fail
          go_meet
          exact ⟨rfl, rfl⟩
        | false =>
          by_cases hp : 0 < s2
          · go_wp2_with fail
            go_meet
            exact ⟨by simp [hp], rfl⟩
          · go_wp2_with fail
            go_meet
            exact ⟨by simp [hp], rfl⟩
      case rest =>
        obtain ⟨rfl, rfl⟩ := hcut
        have HAN2 : Hid (anyK (fun i => decide (0 < outAt O i)) (k + 1) = (ab || decide (0 < s2))) := HAN.out
        generalize (ab || decide (0 < s2)) = ab2 at HAN2 ⊢
        go_upto_region 18 with fail
        go_cut [10] from 59 to 66 (fun s10 wx => s10 = .bool (fb || (ck == [97])) ∧ w6 = wx)
        case first =>
          cases fb with
          | true =>
            go_wp2_with fail
            go_meet
            exact ⟨rfl, rfl⟩
          | false =>
            rcases HABK.out with rfl | rfl | rfl
            · go_wp2_with fail
              go_meet
              exact ⟨rfl, rfl⟩
            · go_wp2_with fail
              go_meet
              exact ⟨rfl, rfl⟩
            · go_wp2_with fail
              go_meet
              exact ⟨rfl, rfl⟩
        case rest =>
          obtain ⟨rfl, rfl⟩ := hcut
          have HFN2 : Hid (anyK (fun i => clsOf O i == [97]) (k + 1) = (fb || (ck == [97]))) := HFN.out
          generalize (fb || (ck == [97])) = fb2 at HFN2 ⊢
          go_upto_region 19 with fail
          go_cut [85] from 67 to 85 (fun s85 wx => s85 = .bool false ∧ w6 = wx)
          case first =>
            rcases HABK.out with rfl | rfl | rfl
            · go_wp2_with fail
              go_meet
              exact ⟨rfl, rfl⟩
            · go_wp2_with fail
              go_meet
              exact ⟨rfl, rfl⟩
            · go_wp2_with fail
              go_meet
              exact ⟨rfl, rfl⟩
          case rest =>
            obtain ⟨rfl, rfl⟩ := hcut
            clear HABK HABC HAN HFN c6
            go_wp2_with fail
            go_loopw [13] (fun i wr => ∃ j : Nat, j ≤ N ∧ i = .int .i64 j ∧ Hid (Below w5.heap.size w5 wr)) (fun i _ => N - (intOf i).toNat)
            case atStart => exact ⟨0, by omega, rfl, B6.out⟩
            case round =>
              obtain ⟨j, hj, rfl, HBJ⟩ := hrel
              by_cases hjN : j < N
              · obtain ⟨code2, ⟨hjB, hcode2⟩, hcell2⟩ := HG5.out j hjN wr HBJ.out
                have HUP : Hid (∀ W, Below w5.heap.size w5 W → W.cell? ⟨g, og + j * 2, none⟩ = some (.string ⟨code2.toArray⟩) ∧ W.cell? ⟨cb, oc + j, none⟩ = some (.string ⟨(clsOf O j).toArray⟩) ∧ W.cell? ⟨cb, oc + k, none⟩ = some (.string ⟨ck.toArray⟩)) := fun W hb => by
                  obtain ⟨c', ⟨h1, h2⟩, h3⟩ := HG5.out j hjN W hb
                  rw [h2, ← hcode2] at h3
                  exact ⟨h3, HC5.out j hjN W hb, HCLK.out W hb⟩
                have hsum := HSU.out code2 p F
                rw [hcode2, HSA.out j hjB, ← hcode2] at hsum
                have hoa := HOA.out j hjB
                obtain ⟨⟨y0, t1, t2, t3, t4⟩, hy⟩ : ∃ y, y = B.1[j] := ⟨_, rfl⟩
                rw [← hy] at hsum hoa
                simp only [encSums] at hsum hoa
                have hmo := HMK.out j hjN
                rw [hoa] at hmo
                have hd := HBJ.out.drew
                have HBD := Lib.hid (HBK5.out _ hd)
                have HSM := Lib.hid (fun W (H : BookIs W p F B) => hsum W H)
                have hfd2 : ∀ W, (Instr.field 47 (.agg #[.int .i64 t1, .int .i64 t2, .int .i64 t3, .int .i64 t4]) 1).run Tryz.prog W = .ok (.int .i64 t2) W := fun _ => by kernel_rfl
                have hj0 : (0 : Int) ≤ (j : Nat) := by omega
                have hj1 : ((j : Nat) : Int) < (N : Nat) := by omega
                generalize clsOf O j = cj at HUP hmo
                clear hcode2 hcell2 hy hsum hoa
                by_cases hgt : s2 < t2
                · have hmo1 := hmo hgt
                  have hmo2 : Op.bytesLess cj ck = false → cj = ck := fun h => Classical.byContradiction fun hne => by
                    have h1 := ltB_total (a := cj) (b := ck) h hne
                    unfold ltB at h1
                    rw [hmo1] at h1
                    cases h1
                  clear hmo
                  go_wp2_with fail
                  refine wp_region_held_drew (S := fun W => W.cell? ⟨g, og + j * 2, none⟩ = some (.string ⟨code2.toArray⟩) ∧ W.cell? ⟨cb, oc + j, none⟩ = some (.string ⟨cj.toArray⟩) ∧ W.cell? ⟨cb, oc + k, none⟩ = some (.string ⟨ck.toArray⟩)) (by kernel_rfl) (HUP.out _ hd) (fun hHeld => ?_)
                  refine wpAnyH_take (i := 0) (oi := _) (v := .pointer (some ⟨p, 0, none⟩)) rfl (by kernel_rfl) (by kernel_rfl) (by kernel_rfl) (fun _ _ _ h => h) (Or.inl ⟨by kernel_rfl, fun W hSw => ?_⟩) hHeld ?_
                  · dsimp only at hSw
                    go_simp
                    all_goals (first | omega | exact hmo2 | simpa using hmo2)
                  change wpAnyH _ _ _ _ _ _ _ (Act.put _ (some 92) _) _
                  (try simp only [Act.put, List.setIfInBounds_toArray, List.set_cons_zero, List.set_cons_succ])
                  refine wpAnyH_take (i := 1) (oi := _) (v := .slice (some ⟨g, og, none⟩) N cG) rfl (by kernel_rfl) (by kernel_rfl) (by kernel_rfl) (fun _ _ _ h => h) (Or.inl ⟨by kernel_rfl, fun W hSw => ?_⟩) hHeld ?_
                  · dsimp only at hSw
                    go_simp
                    all_goals (first | omega | exact hmo2 | simpa using hmo2)
                  change wpAnyH _ _ _ _ _ _ _ (Act.put _ (some 93) _) _
                  (try simp only [Act.put, List.setIfInBounds_toArray, List.set_cons_zero, List.set_cons_succ])
                  refine wpAnyH_take (i := 2) (oi := _) (v := .int .i64 (j : Nat)) rfl (by kernel_rfl) (by kernel_rfl) (by kernel_rfl) (fun _ _ _ h => h) (Or.inl ⟨by kernel_rfl, fun W hSw => ?_⟩) hHeld ?_
                  · dsimp only at hSw
                    go_simp
                    all_goals (first | omega | exact hmo2 | simpa using hmo2)
                  change wpAnyH _ _ _ _ _ _ _ (Act.put _ (some 94) _) _
                  (try simp only [Act.put, List.setIfInBounds_toArray, List.set_cons_zero, List.set_cons_succ])
                  refine wpAnyH_take (i := 3) (oi := _) (v := .pointer (some ⟨g, og + j * 2, none⟩)) rfl (by kernel_rfl) (by kernel_rfl) (by kernel_rfl) (fun _ _ _ h => h) (Or.inl ⟨by kernel_rfl, fun W hSw => ?_⟩) hHeld ?_
                  · dsimp only at hSw
                    go_simp
                    all_goals (first | omega | exact hmo2 | simpa using hmo2)
                  change wpAnyH _ _ _ _ _ _ _ (Act.put _ (some 95) _) _
                  (try simp only [Act.put, List.setIfInBounds_toArray, List.set_cons_zero, List.set_cons_succ])
                  refine wpAnyH_take (i := 4) (oi := _) (v := .pointer (some ⟨g, og + j * 2, none⟩)) rfl (by kernel_rfl) (by kernel_rfl) (by kernel_rfl) (fun _ _ _ h => h) (Or.inl ⟨by kernel_rfl, fun W hSw => ?_⟩) hHeld ?_
                  · dsimp only at hSw
                    go_simp
                    all_goals (first | omega | exact hmo2 | simpa using hmo2)
                  change wpAnyH _ _ _ _ _ _ _ (Act.put _ (some 96) _) _
                  (try simp only [Act.put, List.setIfInBounds_toArray, List.set_cons_zero, List.set_cons_succ])
                  refine wpAnyH_take (i := 5) (oi := _) (v := .string ⟨code2.toArray⟩) rfl (by kernel_rfl) (by kernel_rfl) (by kernel_rfl) (fun _ _ _ h => h) (Or.inl ⟨by kernel_rfl, fun W hSw => ?_⟩) hHeld ?_
                  · dsimp only at hSw
                    go_simp
                    all_goals (first | omega | exact hmo2 | simpa using hmo2)
                  change wpAnyH _ _ _ _ _ _ _ (Act.put _ (some 97) _) _
                  (try simp only [Act.put, List.setIfInBounds_toArray, List.set_cons_zero, List.set_cons_succ])
                  refine wpAnyH_take (i := 8) (oi := _) (v := .int .i64 s2) rfl (by kernel_rfl) (by kernel_rfl) (by kernel_rfl) (fun _ _ _ h => h) (Or.inl ⟨by kernel_rfl, fun W hSw => ?_⟩) hHeld ?_
                  · dsimp only at hSw
                    go_simp
                    all_goals (first | omega | exact hmo2 | simpa using hmo2)
                  change wpAnyH _ _ _ _ _ _ _ (Act.put _ (some 100) _) _
                  (try simp only [Act.put, List.setIfInBounds_toArray, List.set_cons_zero, List.set_cons_succ])
                  refine wpAnyH_ready (rs := [6]) (by kernel_rfl) (by simp) (AllReadyH.cons (o := _) rfl (fun K hK => ?_) AllReadyH.nil)
                  go_simp
                  refine (HSM.out _ HBD.out).mono ?_
                  rintro e v ⟨rfl, bb⟩
                  have k1 := hd.trans (bb.mono hd.size)
                  clear hHeld
                  go_wp2_with fail
                  refine hK.out _ _ (HUP.out _ k1) (fun hHeld => ?_)
                  clear hK K
                  (try simp only [Act.put, List.setIfInBounds_toArray, List.set_cons_zero, List.set_cons_succ])
                  refine wpAnyH_take (i := 7) (oi := _) (v := .int .i64 t2) rfl (by kernel_rfl) (by kernel_rfl) (by kernel_rfl) (fun _ _ _ h => h) (Or.inl ⟨by kernel_rfl, fun W hSw => ?_⟩) hHeld ?_
                  · dsimp only at hSw
                    go_simp
                    all_goals (first | omega | exact hmo2 | simpa using hmo2)
                  change wpAnyH _ _ _ _ _ _ _ (Act.put _ (some 99) _) _
                  (try simp only [Act.put, List.setIfInBounds_toArray, List.set_cons_zero, List.set_cons_succ])
                  refine wpAnyH_take (i := 9) (oi := _) (v := .bool true) rfl (by kernel_rfl) (by kernel_rfl) (by kernel_rfl) (fun _ _ _ h => h) (Or.inl ⟨by kernel_rfl, fun W hSw => ?_⟩) hHeld ?_
                  · dsimp only at hSw
                    go_simp
                    all_goals (first | omega | exact hmo2 | simpa using hmo2)
                  change wpAnyH _ _ _ _ _ _ _ (Act.put _ (some 101) _) _
                  (try simp only [Act.put, List.setIfInBounds_toArray, List.set_cons_zero, List.set_cons_succ])
                  refine wpAnyH_take (i := 10) (oi := _) (v := .bool true) rfl (by kernel_rfl) (by kernel_rfl) (by kernel_rfl) (fun _ _ _ h => h) (Or.inl ⟨by kernel_rfl, fun W hSw => ?_⟩) hHeld ?_
                  · dsimp only at hSw
                    go_simp
                    all_goals (first | omega | exact hmo2 | simpa using hmo2)
                  change wpAnyH _ _ _ _ _ _ _ (Act.put _ (some 102) _) _
                  (try simp only [Act.put, List.setIfInBounds_toArray, List.set_cons_zero, List.set_cons_succ])
                  refine wpAnyH_take (i := 11) (oi := _) (v := .slice (some ⟨cb, oc, none⟩) N cC) rfl (by kernel_rfl) (by kernel_rfl) (by kernel_rfl) (fun _ _ _ h => h) (Or.inl ⟨by kernel_rfl, fun W hSw => ?_⟩) hHeld ?_
                  · dsimp only at hSw
                    go_simp
                    all_goals (first | omega | exact hmo2 | simpa using hmo2)
                  change wpAnyH _ _ _ _ _ _ _ (Act.put _ (some 103) _) _
                  (try simp only [Act.put, List.setIfInBounds_toArray, List.set_cons_zero, List.set_cons_succ])
                  refine wpAnyH_take (i := 12) (oi := _) (v := .int .i64 (j : Nat)) rfl (by kernel_rfl) (by kernel_rfl) (by kernel_rfl) (fun _ _ _ h => h) (Or.inl ⟨by kernel_rfl, fun W hSw => ?_⟩) hHeld ?_
                  · dsimp only at hSw
                    go_simp
                    all_goals (first | omega | exact hmo2 | simpa using hmo2)
                  change wpAnyH _ _ _ _ _ _ _ (Act.put _ (some 104) _) _
                  (try simp only [Act.put, List.setIfInBounds_toArray, List.set_cons_zero, List.set_cons_succ])
                  refine wpAnyH_take (i := 13) (oi := _) (v := .pointer (some ⟨cb, oc + j, none⟩)) rfl (by kernel_rfl) (by kernel_rfl) (by kernel_rfl) (fun _ _ _ h => h) (Or.inl ⟨by kernel_rfl, fun W hSw => ?_⟩) hHeld ?_
                  · dsimp only at hSw
                    go_simp
                    all_goals (first | omega | exact hmo2 | simpa using hmo2)
                  change wpAnyH _ _ _ _ _ _ _ (Act.put _ (some 105) _) _
                  (try simp only [Act.put, List.setIfInBounds_toArray, List.set_cons_zero, List.set_cons_succ])
                  refine wpAnyH_take (i := 14) (oi := _) (v := .string ⟨cj.toArray⟩) rfl (by kernel_rfl) (by kernel_rfl) (by kernel_rfl) (fun _ _ _ h => h) (Or.inl ⟨by kernel_rfl, fun W hSw => ?_⟩) hHeld ?_
                  · dsimp only at hSw
                    go_simp
                    all_goals (first | omega | exact hmo2 | simpa using hmo2)
                  change wpAnyH _ _ _ _ _ _ _ (Act.put _ (some 106) _) _
                  (try simp only [Act.put, List.setIfInBounds_toArray, List.set_cons_zero, List.set_cons_succ])
                  refine wpAnyH_take (i := 15) (oi := _) (v := .slice (some ⟨cb, oc, none⟩) N cC) rfl (by kernel_rfl) (by kernel_rfl) (by kernel_rfl) (fun _ _ _ h => h) (Or.inl ⟨by kernel_rfl, fun W hSw => ?_⟩) hHeld ?_
                  · dsimp only at hSw
                    go_simp
                    all_goals (first | omega | exact hmo2 | simpa using hmo2)
                  change wpAnyH _ _ _ _ _ _ _ (Act.put _ (some 107) _) _
                  (try simp only [Act.put, List.setIfInBounds_toArray, List.set_cons_zero, List.set_cons_succ])
                  refine wpAnyH_take (i := 16) (oi := _) (v := .int .i64 (k : Nat)) rfl (by kernel_rfl) (by kernel_rfl) (by kernel_rfl) (fun _ _ _ h => h) (Or.inl ⟨by kernel_rfl, fun W hSw => ?_⟩) hHeld ?_
                  · dsimp only at hSw
                    go_simp
                    all_goals (first | omega | exact hmo2 | simpa using hmo2)
                  change wpAnyH _ _ _ _ _ _ _ (Act.put _ (some 108) _) _
                  (try simp only [Act.put, List.setIfInBounds_toArray, List.set_cons_zero, List.set_cons_succ])
                  refine wpAnyH_take (i := 17) (oi := _) (v := .pointer (some ⟨cb, oc + k, none⟩)) rfl (by kernel_rfl) (by kernel_rfl) (by kernel_rfl) (fun _ _ _ h => h) (Or.inl ⟨by kernel_rfl, fun W hSw => ?_⟩) hHeld ?_
                  · dsimp only at hSw
                    go_simp
                    all_goals (first | omega | exact hmo2 | simpa using hmo2)
                  change wpAnyH _ _ _ _ _ _ _ (Act.put _ (some 109) _) _
                  (try simp only [Act.put, List.setIfInBounds_toArray, List.set_cons_zero, List.set_cons_succ])
                  refine wpAnyH_take (i := 18) (oi := _) (v := .string ⟨ck.toArray⟩) rfl (by kernel_rfl) (by kernel_rfl) (by kernel_rfl) (fun _ _ _ h => h) (Or.inl ⟨by kernel_rfl, fun W hSw => ?_⟩) hHeld ?_
                  · dsimp only at hSw
                    go_simp
                    all_goals (first | omega | exact hmo2 | simpa using hmo2)
                  change wpAnyH _ _ _ _ _ _ _ (Act.put _ (some 110) _) _
                  (try simp only [Act.put, List.setIfInBounds_toArray, List.set_cons_zero, List.set_cons_succ])
                  refine wpAnyH_take (i := 19) (oi := _) (v := .bool false) rfl (by kernel_rfl) (by kernel_rfl) (by kernel_rfl) (fun _ _ _ h => h) (Or.inl ⟨by kernel_rfl, fun W hSw => ?_⟩) hHeld ?_
                  · dsimp only at hSw
                    go_simp
                    all_goals (first | omega | exact hmo2 | simpa using hmo2)
                  change wpAnyH _ _ _ _ _ _ _ (Act.put _ (some 111) _) _
                  (try simp only [Act.put, List.setIfInBounds_toArray, List.set_cons_zero, List.set_cons_succ])
                  refine wpAnyH_take (i := 20) (oi := _) (v := .bool false) rfl (by kernel_rfl) (by kernel_rfl) (by kernel_rfl) (fun _ _ _ h => h) (Or.inl ⟨by kernel_rfl, fun W hSw => ?_⟩) hHeld ?_
                  · dsimp only at hSw
                    go_simp
                    all_goals (first | omega | exact hmo2 | simpa using hmo2)
                  change wpAnyH _ _ _ _ _ _ _ (Act.put _ (some 112) _) _
                  (try simp only [Act.put, List.setIfInBounds_toArray, List.set_cons_zero, List.set_cons_succ])
                  refine wpAnyH_done (by kernel_rfl) ?_ _
                  have B7 := Lib.hid k1
                  clear HUP hd HBD HSM k1 bb
                  go_wp2_with fail
                  go_roundw
                  case rel => exact ⟨j + 1, by omega, by go_num, B7.out⟩
                  case measure => simp [intOf]; omega
                · clear hmo
                  go_wp2_with fail
                  refine wp_region_held_drew (S := fun W => W.cell? ⟨g, og + j * 2, none⟩ = some (.string ⟨code2.toArray⟩) ∧ W.cell? ⟨cb, oc + j, none⟩ = some (.string ⟨cj.toArray⟩) ∧ W.cell? ⟨cb, oc + k, none⟩ = some (.string ⟨ck.toArray⟩)) (by kernel_rfl) (HUP.out _ hd) (fun hHeld => ?_)
                  refine wpAnyH_take (i := 0) (oi := _) (v := .pointer (some ⟨p, 0, none⟩)) rfl (by kernel_rfl) (by kernel_rfl) (by kernel_rfl) (fun _ _ _ h => h) (Or.inl ⟨by kernel_rfl, fun W hSw => ?_⟩) hHeld ?_
                  · dsimp only at hSw
                    go_simp
                    all_goals omega
                  change wpAnyH _ _ _ _ _ _ _ (Act.put _ (some 92) _) _
                  (try simp only [Act.put, List.setIfInBounds_toArray, List.set_cons_zero, List.set_cons_succ])
                  refine wpAnyH_take (i := 1) (oi := _) (v := .slice (some ⟨g, og, none⟩) N cG) rfl (by kernel_rfl) (by kernel_rfl) (by kernel_rfl) (fun _ _ _ h => h) (Or.inl ⟨by kernel_rfl, fun W hSw => ?_⟩) hHeld ?_
                  · dsimp only at hSw
                    go_simp
                    all_goals omega
                  change wpAnyH _ _ _ _ _ _ _ (Act.put _ (some 93) _) _
                  (try simp only [Act.put, List.setIfInBounds_toArray, List.set_cons_zero, List.set_cons_succ])
                  refine wpAnyH_take (i := 2) (oi := _) (v := .int .i64 (j : Nat)) rfl (by kernel_rfl) (by kernel_rfl) (by kernel_rfl) (fun _ _ _ h => h) (Or.inl ⟨by kernel_rfl, fun W hSw => ?_⟩) hHeld ?_
                  · dsimp only at hSw
                    go_simp
                    all_goals omega
                  change wpAnyH _ _ _ _ _ _ _ (Act.put _ (some 94) _) _
                  (try simp only [Act.put, List.setIfInBounds_toArray, List.set_cons_zero, List.set_cons_succ])
                  refine wpAnyH_take (i := 3) (oi := _) (v := .pointer (some ⟨g, og + j * 2, none⟩)) rfl (by kernel_rfl) (by kernel_rfl) (by kernel_rfl) (fun _ _ _ h => h) (Or.inl ⟨by kernel_rfl, fun W hSw => ?_⟩) hHeld ?_
                  · dsimp only at hSw
                    go_simp
                    all_goals omega
                  change wpAnyH _ _ _ _ _ _ _ (Act.put _ (some 95) _) _
                  (try simp only [Act.put, List.setIfInBounds_toArray, List.set_cons_zero, List.set_cons_succ])
                  refine wpAnyH_take (i := 4) (oi := _) (v := .pointer (some ⟨g, og + j * 2, none⟩)) rfl (by kernel_rfl) (by kernel_rfl) (by kernel_rfl) (fun _ _ _ h => h) (Or.inl ⟨by kernel_rfl, fun W hSw => ?_⟩) hHeld ?_
                  · dsimp only at hSw
                    go_simp
                    all_goals omega
                  change wpAnyH _ _ _ _ _ _ _ (Act.put _ (some 96) _) _
                  (try simp only [Act.put, List.setIfInBounds_toArray, List.set_cons_zero, List.set_cons_succ])
                  refine wpAnyH_take (i := 5) (oi := _) (v := .string ⟨code2.toArray⟩) rfl (by kernel_rfl) (by kernel_rfl) (by kernel_rfl) (fun _ _ _ h => h) (Or.inl ⟨by kernel_rfl, fun W hSw => ?_⟩) hHeld ?_
                  · dsimp only at hSw
                    go_simp
                    all_goals omega
                  change wpAnyH _ _ _ _ _ _ _ (Act.put _ (some 97) _) _
                  (try simp only [Act.put, List.setIfInBounds_toArray, List.set_cons_zero, List.set_cons_succ])
                  refine wpAnyH_take (i := 8) (oi := _) (v := .int .i64 s2) rfl (by kernel_rfl) (by kernel_rfl) (by kernel_rfl) (fun _ _ _ h => h) (Or.inl ⟨by kernel_rfl, fun W hSw => ?_⟩) hHeld ?_
                  · dsimp only at hSw
                    go_simp
                    all_goals omega
                  change wpAnyH _ _ _ _ _ _ _ (Act.put _ (some 100) _) _
                  (try simp only [Act.put, List.setIfInBounds_toArray, List.set_cons_zero, List.set_cons_succ])
                  refine wpAnyH_ready (rs := [6]) (by kernel_rfl) (by simp) (AllReadyH.cons (o := _) rfl (fun K hK => ?_) AllReadyH.nil)
                  go_simp
                  refine (HSM.out _ HBD.out).mono ?_
                  rintro e v ⟨rfl, bb⟩
                  have k1 := hd.trans (bb.mono hd.size)
                  clear hHeld
                  go_wp2_with fail
                  refine hK.out _ _ (HUP.out _ k1) (fun hHeld => ?_)
                  clear hK K
                  (try simp only [Act.put, List.setIfInBounds_toArray, List.set_cons_zero, List.set_cons_succ])
                  refine wpAnyH_take (i := 7) (oi := _) (v := .int .i64 t2) rfl (by kernel_rfl) (by kernel_rfl) (by kernel_rfl) (fun _ _ _ h => h) (Or.inl ⟨by kernel_rfl, fun W hSw => ?_⟩) hHeld ?_
                  · dsimp only at hSw
                    go_simp
                    all_goals omega
                  change wpAnyH _ _ _ _ _ _ _ (Act.put _ (some 99) _) _
                  (try simp only [Act.put, List.setIfInBounds_toArray, List.set_cons_zero, List.set_cons_succ])
                  refine wpAnyH_take (i := 9) (oi := _) (v := .bool false) rfl (by kernel_rfl) (by kernel_rfl) (by kernel_rfl) (fun _ _ _ h => h) (Or.inl ⟨by kernel_rfl, fun W hSw => ?_⟩) hHeld ?_
                  · dsimp only at hSw
                    go_simp
                    all_goals omega
                  change wpAnyH _ _ _ _ _ _ _ (Act.put _ (some 101) _) _
                  (try simp only [Act.put, List.setIfInBounds_toArray, List.set_cons_zero, List.set_cons_succ])
                  refine wpAnyH_take (i := 10) (oi := _) (v := .bool false) rfl (by kernel_rfl) (by kernel_rfl) (by kernel_rfl) (fun _ _ _ h => h) (Or.inl ⟨by kernel_rfl, fun W hSw => ?_⟩) hHeld ?_
                  · dsimp only at hSw
                    go_simp
                    all_goals omega
                  change wpAnyH _ _ _ _ _ _ _ (Act.put _ (some 102) _) _
                  (try simp only [Act.put, List.setIfInBounds_toArray, List.set_cons_zero, List.set_cons_succ])
                  refine wpAnyH_take (i := 11) (oi := _) (v := undef) rfl (by kernel_rfl) (by kernel_rfl) (by kernel_rfl) (fun _ _ _ h => h) (Or.inr ⟨by kernel_rfl, rfl⟩) hHeld ?_
                  change wpAnyH _ _ _ _ _ _ _ (Act.put _ (some 103) _) _
                  (try simp only [Act.put, List.setIfInBounds_toArray, List.set_cons_zero, List.set_cons_succ])
                  refine wpAnyH_take (i := 12) (oi := _) (v := undef) rfl (by kernel_rfl) (by kernel_rfl) (by kernel_rfl) (fun _ _ _ h => h) (Or.inr ⟨by kernel_rfl, rfl⟩) hHeld ?_
                  change wpAnyH _ _ _ _ _ _ _ (Act.put _ (some 104) _) _
                  (try simp only [Act.put, List.setIfInBounds_toArray, List.set_cons_zero, List.set_cons_succ])
                  refine wpAnyH_take (i := 13) (oi := _) (v := undef) rfl (by kernel_rfl) (by kernel_rfl) (by kernel_rfl) (fun _ _ _ h => h) (Or.inr ⟨by kernel_rfl, rfl⟩) hHeld ?_
                  change wpAnyH _ _ _ _ _ _ _ (Act.put _ (some 105) _) _
                  (try simp only [Act.put, List.setIfInBounds_toArray, List.set_cons_zero, List.set_cons_succ])
                  refine wpAnyH_take (i := 14) (oi := _) (v := undef) rfl (by kernel_rfl) (by kernel_rfl) (by kernel_rfl) (fun _ _ _ h => h) (Or.inr ⟨by kernel_rfl, rfl⟩) hHeld ?_
                  change wpAnyH _ _ _ _ _ _ _ (Act.put _ (some 106) _) _
                  (try simp only [Act.put, List.setIfInBounds_toArray, List.set_cons_zero, List.set_cons_succ])
                  refine wpAnyH_take (i := 15) (oi := _) (v := undef) rfl (by kernel_rfl) (by kernel_rfl) (by kernel_rfl) (fun _ _ _ h => h) (Or.inr ⟨by kernel_rfl, rfl⟩) hHeld ?_
                  change wpAnyH _ _ _ _ _ _ _ (Act.put _ (some 107) _) _
                  (try simp only [Act.put, List.setIfInBounds_toArray, List.set_cons_zero, List.set_cons_succ])
                  refine wpAnyH_take (i := 16) (oi := _) (v := undef) rfl (by kernel_rfl) (by kernel_rfl) (by kernel_rfl) (fun _ _ _ h => h) (Or.inr ⟨by kernel_rfl, rfl⟩) hHeld ?_
                  change wpAnyH _ _ _ _ _ _ _ (Act.put _ (some 108) _) _
                  (try simp only [Act.put, List.setIfInBounds_toArray, List.set_cons_zero, List.set_cons_succ])
                  refine wpAnyH_take (i := 17) (oi := _) (v := undef) rfl (by kernel_rfl) (by kernel_rfl) (by kernel_rfl) (fun _ _ _ h => h) (Or.inr ⟨by kernel_rfl, rfl⟩) hHeld ?_
                  change wpAnyH _ _ _ _ _ _ _ (Act.put _ (some 109) _) _
                  (try simp only [Act.put, List.setIfInBounds_toArray, List.set_cons_zero, List.set_cons_succ])
                  refine wpAnyH_take (i := 18) (oi := _) (v := undef) rfl (by kernel_rfl) (by kernel_rfl) (by kernel_rfl) (fun _ _ _ h => h) (Or.inr ⟨by kernel_rfl, rfl⟩) hHeld ?_
                  change wpAnyH _ _ _ _ _ _ _ (Act.put _ (some 110) _) _
                  (try simp only [Act.put, List.setIfInBounds_toArray, List.set_cons_zero, List.set_cons_succ])
                  refine wpAnyH_take (i := 19) (oi := _) (v := undef) rfl (by kernel_rfl) (by kernel_rfl) (by kernel_rfl) (fun _ _ _ h => h) (Or.inr ⟨by kernel_rfl, rfl⟩) hHeld ?_
                  change wpAnyH _ _ _ _ _ _ _ (Act.put _ (some 111) _) _
                  (try simp only [Act.put, List.setIfInBounds_toArray, List.set_cons_zero, List.set_cons_succ])
                  refine wpAnyH_take (i := 20) (oi := _) (v := .bool false) rfl (by kernel_rfl) (by kernel_rfl) (by kernel_rfl) (fun _ _ _ h => h) (Or.inl ⟨by kernel_rfl, fun W hSw => ?_⟩) hHeld ?_
                  · dsimp only at hSw
                    go_simp
                    all_goals omega
                  change wpAnyH _ _ _ _ _ _ _ (Act.put _ (some 112) _) _
                  (try simp only [Act.put, List.setIfInBounds_toArray, List.set_cons_zero, List.set_cons_succ])
                  refine wpAnyH_done (by kernel_rfl) ?_ _
                  have B7 := Lib.hid k1
                  clear HUP hd HBD HSM k1 bb
                  go_wp2_with fail
                  go_roundw
                  case rel => exact ⟨j + 1, by omega, by go_num, B7.out⟩
                  case measure => simp [intOf]; omega
              · obtain rfl : j = N := by omega
                go_wp2_with fail
                go_roundw
                case rel => exact ⟨k + 1, by omega, by go_num, by rw [HAN2.out], by rw [HFN2.out], HBJ.out⟩
                case measure => simp [intOf]; omega
    · obtain rfl : k = N := by omega
      rw [HAK.out]
      generalize anyK (fun i => clsOf O i == [97]) k = fb
      cases fb
      all_goals
        go_wp2_with fail
        go_ret
        exact ⟨rfl, B5.out.trans (HB.out.mono B5.out.size)⟩

theorem countClasses_walk (E : Nat → Addr) (A0 : Option Addr) (cap0 : Nat) (xs0 : List EntV) (w : World) (hG : BkG E w) (hE : ErrG E w) (hX0 : RowAt encEnt 14 w A0 xs0) :
    Calls Tryz.prog 4 #[.slice A0 xs0.length cap0] w fun e w' => e = .returned (.bool true) ∧ Below w.heap.size w w' := by
  rcases longL_01 xs0 40 with h | h
  · exact countClasses_in E A0 cap0 xs0 w hG hE hX0 h
  · exact countClasses_out E A0 cap0 xs0 w hG hX0 h
end Go.Proofs.YtphgakobfegpcaaGreatDoor
