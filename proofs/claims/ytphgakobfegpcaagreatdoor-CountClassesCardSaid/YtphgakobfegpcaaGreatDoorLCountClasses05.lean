/- Counts: Classes. Counts, plainly: a sheet's fault; what Diff tells; behind it the stock is what was seen. No program in sight. -/
import Derived.Test.YtphgakobfegpcaaGreatDoorM15
import Derived.Test.YtphgakobfegpcaaGreatDoorM17
import Derived.Test.YtphgakobfegpcaaGreatDoorM20
import Derived.Test.YtphgakobfegpcaaGreatDoorM22
import Derived.Test.YtphgakobfegpcaaGreatDoorM42
import Derived.Test.YtphgakobfegpcaaGreatDoorLCountClasses04
namespace Go.Proofs.YtphgakobfegpcaaGreatDoor
open Go.RowKit Go.Sort Go.Proofs

set_option maxHeartbeats 400000 in
theorem class_any (a n : Int) (ha : 0 ≤ a) (ha2 : a ≤ 10000000000000000) (hn : 0 ≤ n) (hn2 : n ≤ 10000000000000000) (w : World) :
    Calls Tryz.prog 69 #[.int .i64 a, .int .i64 n] w fun e w' => e = .returned (.string ⟨(classB a n).toArray⟩) ∧ w = w' := by
  have hw1 : IntKind.i64.wrap (100 * a) = 100 * a := wrap_small (by omega) (by omega)
  have hw2 : IntKind.i64.wrap (80 * n) = 80 * n := wrap_small (by omega) (by omega)
  have hw3 : IntKind.i64.wrap (95 * n) = 95 * n := wrap_small (by omega) (by omega)
  unfold classB
  by_cases h0 : n = 0
  · rw [if_pos h0]
    subst h0
    go_enter Tryz.func69, Tryz.ntmps69
    go_wp2_with fail
    go_ret
    exact ⟨rfl, rfl⟩
  · rw [if_neg h0]
    by_cases h1 : 100 * a < 80 * n
    · rw [if_pos h1]
      go_enter Tryz.func69, Tryz.ntmps69
      go_wp2_with fail
      go_ret
      exact ⟨rfl, rfl⟩
    · rw [if_neg h1]
      by_cases h2 : 100 * a < 95 * n
      · rw [if_pos h2]
        go_enter Tryz.func69, Tryz.ntmps69
        go_wp2_with fail
        go_ret
        exact ⟨rfl, rfl⟩
      · rw [if_neg h2]
        go_enter Tryz.func69, Tryz.ntmps69
        go_wp2_with fail
        go_ret
        exact ⟨rfl, rfl⟩

theorem prs_take (l : List Int) (k : Nat) (h : k < l.length) : (prs l).take (k + 1) = (prs l).take k ++ [(k, l[k])] := by
  rw [List.take_succ_eq_append_getElem (by rw [prs_length]; exact h), prs_get l k h]
theorem below_made {w w' : World} (h : w.grownBy w' none) : Below w.heap.size w w' := ⟨h.os, h.tape, h.output, h.size, fun k hk => h.block k hk (by simp)⟩
theorem own_row {w : World} {B e size n q cap : Nat} {xs : List Value} (h : w.ownsRow B e size (.slice (some ⟨q, 0, none⟩) n cap) n xs) (h1 : size = 1) : ∃ L : List Value, w.heap[q]? = some (.cells L.toArray e (0, 0)) ∧ n ≤ L.length := by
  obtain ⟨L, h2, h3⟩ := own_block h
  exact ⟨L, h2, by rw [h1] at h3; omega⟩
theorem cls_all {w : World} {q : Nat} (O : List Int) (L : List Value) {ty : TypeId} (hq : w.heap[q]? = some (.cells L.toArray ty (0, 0))) (h : ∀ j (hj : j < (Stab.srt (ltOf cfGone) (prs O)).length), L[(Stab.srt (ltOf cfGone) (prs O))[j].1]? = some (.string ⟨(clsOf O (Stab.srt (ltOf cfGone) (prs O))[j].1).toArray⟩)) : StrsAt w (some ⟨q, 0, none⟩) (classesL O) := by
  refine .inr ⟨q, 0, rfl, row_lt hq, fun i hi => ?_⟩
  have hi' : i < O.length := by simpa [classesL] using hi
  obtain ⟨j, hj, e⟩ := srt_all O i hi'
  have h1 := h j hj
  rw [e] at h1
  rw [cell_of_row w q _ _ _ _ hq, Nat.zero_add]
  simpa [classesL] using h1

set_option maxHeartbeats 3200000 in
set_option maxRecDepth 100000 in
theorem classes_any {p : Nat} {F : List Nat} {B : BkV} {w : World} (H : BookIs w p F B) (hI : BkI B) :
    Calls Tryz.prog 19 #[.pointer (some ⟨p, 0, none⟩)] w fun e w' => ∃ A cap, e = .returned (.slice A B.1.length cap) ∧ StrsAt w' A (classesL (outsB B)) ∧ Below w.heap.size w w' := by
  obtain ⟨i0, hi, hz0, hz1, hz2⟩ := info_parts goneInfo
  obtain ⟨j0, hj, hy0, hy1, hy2⟩ := info_parts stringInfo1
  have HGO := Lib.hid (goodsBk_any H hI)
  have HSA := Lib.hid hI.sums_at
  have HSU := Lib.hid (fun c W (h : Below w.heap.size w W) => sumsBk_any (H.below h) c)
  obtain ⟨hO1, hO2, hO3⟩ := hI.outs
  obtain ⟨N, hN⟩ : ∃ N, N = B.1.length := ⟨_, rfl⟩
  have HN := Lib.hid hN
  obtain ⟨O, hO⟩ : ∃ O, O = outsB B := ⟨_, rfl⟩
  have HOL : Hid (O.length = N) := by show _ = _; rw [hO, hN]; simp [outsB]
  have HOK : Hid (∀ k (hk : k < B.1.length) (h : k < O.length), O[k] = B.1[k].2.2.1) := fun k hk h => by simp [hO, outsB]
  rw [← hO] at hO1 hO2 hO3 ⊢
  have hN30 : N ≤ 30 := by rw [← HOL.out]; exact hO3
  have hs0 : 0 ≤ sumI O := sumI_nonneg hO1
  have hs1 : sumI O ≤ 1979120929996800 := by
    have h1 := sumI_le hO2
    have h2 : (65970697666560 : Int) * O.length ≤ 65970697666560 * 30 := by omega
    omega
  have HST := Lib.hid (fun k => sumI_take_le hO1 k)
  have HTS := Lib.hid (fun k h => sumI_take O k h)
  have HPT := Lib.hid (prs_take O)
  have HSR := Lib.hid (cls_srt O)
  have HIX := Lib.hid (srt_idx O)
  obtain ⟨S, hS⟩ : ∃ S, S = Stab.srt (ltOf cfGone) (prs O) := ⟨_, rfl⟩
  have HSE := Lib.hid hS
  have HSL : Hid (S.length = N) := by show _ = _; rw [hS, Stab.srt_length, prs_length]; exact HOL.out
  have HSP : Hid (sndS S = sumI O) := by
    show _ = _
    rw [hS, sndS_perm (Stab.srt_perm _ _)]
    unfold sndS prs
    rw [List.map_map]
    congr 1
    exact List.ext_getElem (by simp) fun i h1 h2 => by simp
  have HSN : Hid (∀ j, 0 ≤ sndS (S.take j) ∧ sndS (S.take j) ≤ sumI O) := fun j => by
    have h0 : ∀ x ∈ S.map (·.2), 0 ≤ x := fun x hx => by
      obtain ⟨y, hy, rfl⟩ := List.mem_map.1 hx
      rw [hS] at hy
      obtain ⟨h1, h2⟩ := prs_mem ((Stab.srt_perm _ _).mem_iff.1 hy)
      rw [h2]
      exact hO1 _ (List.getElem_mem h1)
    have := sumI_take_le h0 j
    rw [← List.map_take] at this
    rw [← HSP.out]
    exact this
  have HSK := Lib.hid (sndS_take S)
  have HALL := Lib.hid (fun (W : World) q L ty => cls_all (w := W) (q := q) O L (ty := ty))
  have HLN : Hid (B.1.length = N) := hN.symm
  rw [← hS] at HSR HIX HALL
  clear hS hO hO1 hO2 hO3 H hI hN
  rw [HLN.out]
  rw [HLN.out] at HGO
  go_enter Tryz.func19, Tryz.ntmps19
  go_wp2_with fail
  refine HGO.out.mono ?_
  rintro e w2 ⟨A, cap, rfl, hgr, -, b2⟩
  have B2 := Lib.hid b2
  have HGR := Lib.hid (fun W (h : Below w2.heap.size w2 W) => hgr.below h)
  clear hgr b2 HGO
  go_wp2_with fail
  go_loopw [3, 4, 17] (fun v a i wr => ∃ k : Nat, k ≤ N ∧ i = .int .i64 k ∧ a = .int .i64 (sumI (O.take k)) ∧ Hid (wr.ownsRow w2.heap.size 141 2 v k (flatL encGone ((prs O).take k))) ∧ Hid (Below w2.heap.size w2 wr)) (fun _ _ i _ => N - (intOf i).toNat)
  case atStart => exact ⟨0, by omega, rfl, rfl, World.ownsRow_nil _ _ _ _, Below.refl _ _⟩
  case round =>
    obtain ⟨k, hk, rfl, rfl, HOWN, HB⟩ := hrel
    by_cases hkN : k < N
    · have hkB : k < B.1.length := by rw [HLN.out]; exact hkN
      have hkO : k < O.length := by rw [HOL.out]; exact hkN
      have hbw := B2.out.trans (HB.out.mono B2.out.size)
      obtain ⟨bk, o, rfl, lg, cg⟩ := HGR.out wr HB.out |>.resolve_left (fun h => by rw [List.map_eq_nil_iff] at h; rw [h] at hkB; simp at hkB)
      have ck := cg k (by rw [List.length_map]; exact hkB)
      rw [List.getElem_map] at ck
      have hsum := HSU.out B.1[k].1.1
      rw [HSA.out k hkB] at hsum
      have hok := HOK.out k hkB hkO
      have hts := HTS.out k hkO
      have hpt := HPT.out k hkO
      obtain ⟨⟨⟨x1, x2⟩, s1, s2, s3, s4⟩, hx⟩ : ∃ x, x = B.1[k] := ⟨_, rfl⟩
      rw [← hx] at ck hsum hok
      simp only at ck hsum hok
      have HSM := Lib.hid hsum
      have c0 := ck 0 _ rfl
      have c1 := ck 1 _ rfl
      simp only [Nat.add_zero] at c0
      have hb1 := HST.out (k + 1)
      have hb0 := HST.out k
      rw [hok] at hts hpt
      have HTS1 := Lib.hid hts
      have HNX : Hid (flatL encGone ((prs O).take (k + 1)) = flatL encGone ((prs O).take k) ++ flatL encGone [(k, s2)]) := by
        show _ = _
        rw [hpt, flatL_append]
      obtain ⟨sk, hsk⟩ : ∃ sk, sk = sumI (O.take k) := ⟨_, rfl⟩
      have HSK0 := Lib.hid hsk
      rw [← hsk] at hts hb0 ⊢
      rw [hts] at hb1
      have hwr : IntKind.i64.wrap (sk + s2) = sk + s2 := wrap_small (by omega) (by omega)
      have hfd : ∀ W, (Instr.field 47 (.agg #[.int .i64 s1, .int .i64 s2, .int .i64 s3, .int .i64 s4]) 1).run Tryz.prog W = .ok (.int .i64 s2) W := fun _ => by kernel_rfl
      have hsz := HB.out.size
      have ba := below_one wr (.cells #[.string ⟨x1.toArray⟩, .int .i64 x2] 50)
      have BA := Lib.hid (hbw.trans (ba.mono hbw.size))
      have BA2 := Lib.hid (HB.out.trans (ba.mono HB.out.size))
      have HOW1 := Lib.hid (own_bl HOWN.out ba)
      clear hx cg ck hsum hok hts hpt hsk hbw ba
      go_wp2_with fail
      refine (HSM.out _ BA.out).mono ?_
      rintro e w3 ⟨rfl, b3⟩
      have B3 := Lib.hid (BA2.out.trans (b3.mono BA2.out.size))
      have HOW3 := Lib.hid (own_bl HOW1.out b3)
      simp only [encSums]
      have hsz3 := B3.out.size
      clear b3 HSM BA BA2 HOW1
      go_wp2_with (at_builtin; refine wpList_append_rows _ rfl (.tmp 27) (.tmp 31) 139 rfl w2.heap.size 141 i0 _ 16 Tryz.underlying139 hi hz0 hz1 hz2 rfl encGone_len (by decide) encGone_one u3 k (flatL encGone ((prs O).take k)) rfl (own_bl HOW3.out (below_one _ _)) (some ⟨w3.heap.size, 0, none⟩) 1 [(k, s2)] rfl (row_one (heap_alloc_new _ _)) (by simp; omega) (by decide) (by simp; omega) ?_; intro v4 w4 HO4 hb4; have HB4 := Lib.hid hb4; clear hb4)
      go_roundw
      case rel =>
        refine ⟨k + 1, by omega, by go_num, by rw [HTS1.out, ← HSK0.out], ?_, (B3.out.trans ((below_one w3 _).mono B3.out.size)).trans HB4.out⟩
        show World.ownsRow _ _ _ _ _ _ _
        rw [HNX.out]
        exact HO4.out
      case measure => simp [intOf]; omega
    · obtain rfl : k = N := by omega
      have hT : O.take k = O := List.take_of_length_le (by rw [HOL.out]; exact Nat.le_refl _)
      have hT2 : (prs O).take k = prs O := List.take_of_length_le (by rw [prs_length, HOL.out]; exact Nat.le_refl _)
      rw [hT]
      have HSO := HOWN.out
      rw [hT2] at HSO
      obtain ⟨A3, c3, rfl, HSRT⟩ : ∃ A3 c3, u3 = .slice A3 k c3 ∧ Hid (Calls Tryz.prog 66 #[.slice A3 k c3, .func (.func 67) #[] #[]] wr fun e w' => e = .returned (.tuple #[]) ∧ RowAt encGone 2 w' A3 S ∧ Below w2.heap.size wr w') := by
        rcases HSO.2 with ⟨rfl, h0⟩ | ⟨g, cp, cur, rfl, hB, hg, _⟩
        · refine ⟨none, 0, by rw [h0], ?_⟩
          rw [h0]
          refine (sortGone_none wr).mono ?_
          rintro e w' ⟨rfl, rfl⟩
          exact ⟨rfl, .inl (List.eq_nil_of_length_eq_zero (by rw [HSL.out]; exact h0)), Below.refl _ _⟩
        · refine ⟨some ⟨g, 0, none⟩, cp, rfl, ?_⟩
          have hgl := row_lt hg
          have hpl : (prs O).length = k := by rw [prs_length]; exact HOL.out
          have hH : HoldsK encGone 2 wr g 0 (prs O).toArray := holds_of_own encGone_len (by decide) (by rw [hpl]; exact HSO)
          have hso := sortGone_any g cp (prs O) wr (by omega) hgl hH
          rw [hpl, ← HSE.out] at hso
          refine (show Calls Tryz.prog _ _ _ _ from hso).mono ?_
          rintro e w' ⟨rfl, S2⟩
          exact ⟨rfl, RowAt.of_sort encGone_len ⟨encGone_len, encGone_one, hH, hgl⟩ S2 (by rw [HSL.out, List.size_toArray, hpl]), sort_below (Below.refl _ _) S2 hB HB.out.size⟩
      clear hT hT2 HSO HOWN HSE
      go_wp2_with fail
      refine HSRT.out.mono ?_
      rintro e w5 ⟨rfl, hrow5, b5⟩
      have B5 := Lib.hid (HB.out.trans b5)
      have HR5 := Lib.hid hrow5
      have hsz5 := B5.out.size
      clear b5 hrow5 HSRT
      go_wp2_with (at_make; refine wpList_make_full _ rfl _ _ 44 rfl w2.heap.size 9 j0 _ 1 Tryz.underlying44 hj hy0 hy1 _ _ _ _ k rfl rfl rfl rfl (by rw [hy2]; omega) (by unfold maxLen; omega) (by omega) ?_; intro w6 hown6 hg6)
      obtain ⟨q, hq⟩ : ∃ q, q = w5.heap.size := ⟨_, rfl⟩
      rw [← hq] at hown6 ⊢
      obtain ⟨L6, hq6, hL6⟩ := own_row hown6 rfl
      have HQ6 := Lib.hid hq6
      have b6 := below_made hg6
      have B6 := Lib.hid (B5.out.trans (b6.mono B5.out.size))
      have HR6 := Lib.hid (HR5.out.below b6)
      have HRB : Hid (∀ a, A3 = some a → S ≠ [] → a.block < q) := fun a ha hs => by
        rcases HR5.out with h | ⟨b', o', h1, h2, -⟩
        · exact absurd h hs
        · rw [h1] at ha; cases ha; show b' < q; omega
      have hqw : w.heap.size ≤ q := by have := B2.out.size; omega
      have hq6l := row_lt hq6
      clear hown6 hg6 hq6 b6 hq HR5
      go_loopw [9, 44] (fun a i wr => ∃ (j : Nat) (L : List Value), j ≤ k ∧ i = .int .i64 j ∧ a = .int .i64 (sndS (S.take j)) ∧ L.length = L6.length ∧ Hid (wr.heap[q]? = some (.cells L.toArray 9 (0, 0))) ∧ Hid (∀ j' (h : j' < S.length), j' < j → L[S[j'].1]? = some (.string ⟨(clsOf O S[j'].1).toArray⟩)) ∧ Hid (ButF [q] w6 wr)) (fun _ i _ => k - (intOf i).toNat)
      case atStart => exact ⟨0, L6, by omega, rfl, rfl, rfl, HQ6.out, fun j' h h2 => absurd h2 (Nat.not_lt_zero _), ButF.refl _ _⟩
      case round =>
        obtain ⟨j, L, hj, rfl, rfl, hLL, HQ, HDN, HBF⟩ := hrel
        by_cases hjN : j < k
        · have hjS : j < S.length := by rw [HSL.out]; exact hjN
          have hne : S ≠ [] := fun e => by rw [e] at hjS; simp at hjS
          obtain ⟨gs, os, rfl, lg, cg⟩ := HR6.out |>.resolve_left hne
          have hgq : gs < q := HRB.out ⟨gs, os, none⟩ rfl hne
          obtain ⟨hix, -⟩ := HIX.out j hjS
          have hcl := HSR.out j hjS
          have hsk := HSK.out j hjS
          have hn0 := HSN.out j
          have hn1 := HSN.out (j + 1)
          have ck := cg j hjS
          obtain ⟨⟨at_, n⟩, hy⟩ : ∃ y, y = S[j] := ⟨_, rfl⟩
          rw [← hy] at hix hcl hsk ck
          simp only at hix hcl hsk
          have HY := Lib.hid hy
          have c0 := HBF.out.cell (ck 0 _ rfl) (by simp; omega)
          have c1 := HBF.out.cell (ck 1 _ rfl) (by simp; omega)
          simp only [Nat.add_zero] at c0
          have hatk : at_ < k := by rw [← HOL.out]; exact hix
          have hatL : at_ < L.length := by omega
          obtain ⟨sj, hsj⟩ : ∃ sj, sj = sndS (S.take j) := ⟨_, rfl⟩
          rw [← hsj] at hcl hsk hn0 ⊢
          rw [hsk] at hn1
          have HSKJ := Lib.hid hsk
          have HCL := Lib.hid hcl
          have hwr : IntKind.i64.wrap (sj + n) = sj + n := wrap_small (by omega) (by omega)
          have ba := below_one wr (.cells #[.int .i64 (at_ : Nat), .int .i64 n] 141)
          have hbx := heap_alloc_new wr (.cells #[.int .i64 (at_ : Nat), .int .i64 n] 141)
          have hqr := (ba.block q (row_lt HQ.out)).trans HQ.out
          have HBA := Lib.hid (HBF.out.then_below ba)
          have hq2 := row_lt HQ.out
          clear hy cg ck hcl hsk hsj HQ HBF hix
          go_upto_region 18 with fail
          generalize wr.alloc (.cells #[.int .i64 (at_ : Nat), .int .i64 n] 141) = wz at hbx hqr HBA ba ⊢
          have x0 : wz.cell? ⟨wr.heap.size, 0, none⟩ = some (.int .i64 (at_ : Nat)) := cell_of_row _ _ _ _ _ _ hbx
          have x1 : wz.cell? ⟨wr.heap.size, 1, none⟩ = some (.int .i64 n) := cell_of_row _ _ _ _ _ _ hbx
          have q0 : wz.cell? ⟨q, at_, none⟩ = some L[at_] := (cell_of_row _ _ _ _ _ _ hqr).trans (by simp [List.getElem?_eq_getElem hatL])
          have f0 := frozen_of_row wz q at_ _ _ hqr
          have hat0 : (0 : Int) ≤ (at_ : Nat) := by omega
          have hat1 : ((at_ : Nat) : Int) < (k : Nat) := by omega
          have HCLS := Lib.hid (fun W => class_any sj (sumI O) hn0.1 (by omega) hs0 (by omega) W)
          go_wp2_with fail
          go_region_held3 (fun W => W.cell? ⟨wr.heap.size, 0, none⟩ = some (.int .i64 (at_ : Nat)))
            (first | exact x0 | exact cell_set_other x0 (by omega) | go_keep)
            (first | (go_at_call 69; refine (HCLS.out _).mono ?_; rintro e v ⟨rfl, rfl⟩))
          all_goals
            have h9 : (wz.setCell ⟨q, at_, none⟩ (.string ⟨(classB sj (sumI O)).toArray⟩)).drew.heap[q]? = some (.cells (L.set at_ (.string ⟨(classB sj (sumI O)).toArray⟩)).toArray 9 (0, 0)) := set_rowL hqr at_ (.string ⟨(classB sj (sumI O)).toArray⟩)
            have t9 := (sets_turned (b := q) [(at_, .string ⟨(classB sj (sumI O)).toArray⟩)] wz).drew
            have hW : sets wz q [(at_, .string ⟨(classB sj (sumI O)).toArray⟩)] = wz.setCell ⟨q, at_, none⟩ (.string ⟨(classB sj (sumI O)).toArray⟩) := rfl
            rw [hW] at t9
            have x19 := (World.cell?_of_block (a := ⟨wr.heap.size, 1, none⟩) (t9.block wr.heap.size (by omega))).trans x1
            clear hW hqr q0 f0 x0 x1 HCLS hbx
            generalize (wz.setCell ⟨q, at_, none⟩ (.string ⟨(classB sj (sumI O)).toArray⟩)).drew = W9 at h9 t9 x19 ⊢
            have HBF9 := Lib.hid (HBA.out.step (ButF.of_turned t9 (.inl (by simp))))
            have H9 := Lib.hid h9
            rw [← HCL.out] at H9
            clear h9 t9 HBA ba c0 c1
            go_wp2_with fail
            go_roundw
            case rel =>
              refine ⟨j + 1, L.set at_ (.string ⟨(clsOf O at_).toArray⟩), by omega, by go_num, by rw [HSKJ.out], by rw [List.length_set]; exact hLL, H9.out, fun j' h hlt => ?_, HBF9.out⟩
              by_cases he : S[j'].1 = at_
              · rw [he, List.getElem?_set_self hatL]
              · rw [List.getElem?_set_ne (fun e => he e.symm)]
                refine HDN.out j' h ?_
                have : j' ≠ j := fun e => he (by subst e; rw [← HY.out])
                omega
            case measure => simp [intOf]; omega
        · obtain rfl : j = k := by omega
          have hT : S.take j = S := List.take_of_length_le (by rw [HSL.out]; exact Nat.le_refl _)
          have HST2 : Hid (StrsAt wr (some ⟨q, 0, none⟩) (classesL O)) := HALL.out wr q L _ HQ.out fun j' h => HDN.out j' h (by rw [HSL.out] at h; exact h)
          have HB9 : Hid (Below w.heap.size w wr) := B2.out.trans ((B6.out.mono B2.out.size).trans (HBF.out.below (by have := B6.out.size; have := B2.out.size; omega) (by simp; omega)))
          clear HQ HDN HBF
          go_wp2_with fail
          go_ret
          exact ⟨_, _, rfl, HST2.out, HB9.out⟩
end Go.Proofs.YtphgakobfegpcaaGreatDoor
namespace Go.Proofs.YtphgakobfegpcaaGreatDoor
open Go.RowKit Go.Sort Go.Proofs

/-- The error of a line of a sheet behind others; a sheet's first fault, from a line on. -/
def lineE (done : List LineV) (x : LineV) : Nat :=
  if placeE x.1 ≠ 0 then placeE x.1 else if nameB x.2.1 = false then 5 else if wiB x.2.2 0 1099511627776 = false then 2 else if done.any (fun y => isAt x.1 x.2.1 y) = true then 7 else 0
def sheetF : List LineV → List LineV → Option (Nat × Nat)
  | _, [] => none
  | done, x :: r => if lineE done x ≠ 0 then some (lineE done x, done.length) else sheetF (done ++ [x]) r
/-- What a line tells: an entry, or none; what a sheet tells: entries, or a fault. -/
def diffX (m : StkV) (x : LineV) : List EntV :=
  if x.2.2 - (atM m (x.1, x.2.1) : Nat) > 0 then [(kMore, zeroGoods, (x.2.1, [], 0, 0), zeroPlace, x.1, x.2.2 - (atM m (x.1, x.2.1) : Nat))]
  else if x.2.2 - (atM m (x.1, x.2.1) : Nat) < 0 then [(kLess, zeroGoods, (x.2.1, [], 0, 0), x.1, zeroPlace, - (x.2.2 - (atM m (x.1, x.2.1) : Nat)))] else []
def diffL (m : StkV) (l : List LineV) : List EntV := l.flatMap (diffX m)
def noLot (B : BkV) : List LineV → Nat → Option (Nat × Nat)
  | [], _ => none
  | x :: r, i => if (fL B x.2.1).isSome = true then noLot B r (i + 1) else some (6, i)
def diffB (B : BkV) (l : List LineV) : List EntV ⊕ (Nat × Nat) :=
  match sheetF [] l with
  | some e => .inr e
  | none => match noLot B l 0 with
    | some e => .inr e
    | none => .inl (diffL B.2.2 l)

/-- A sheet with no fault: its lines are well, and no two of one place and lot. -/
theorem sheet_none : ∀ (l done : List LineV), sheetF done l = none → (∀ x ∈ l, placeE x.1 = 0 ∧ nameB x.2.1 = true ∧ 0 ≤ x.2.2 ∧ x.2.2 ≤ 1099511627776) ∧ (∀ x ∈ l, ∀ y ∈ done, isAt x.1 x.2.1 y = false) ∧ l.Pairwise fun x y => (x.1, x.2.1) ≠ (y.1, y.2.1)
  | [], _, _ => ⟨by simp, by simp, List.Pairwise.nil⟩
  | x :: r, done, h => by
    unfold sheetF at h
    split at h
    · cases h
    rename_i h1
    simp only [ne_eq, Classical.not_not] at h1
    obtain ⟨i1, i2, i3⟩ := sheet_none r (done ++ [x]) h
    unfold lineE at h1
    split at h1
    · rename_i q; exact absurd h1 q
    rename_i q1
    split at h1
    · cases h1
    rename_i q2
    split at h1
    · cases h1
    rename_i q3
    split at h1
    · cases h1
    rename_i q4
    simp only [ne_eq, Classical.not_not] at q1
    unfold wiB at q3
    simp only [decide_eq_false_iff_not, Classical.not_not] at q3
    refine ⟨fun y hy => ?_, fun y hy z hz => ?_, List.pairwise_cons.2 ⟨fun y hy e => ?_, i3⟩⟩
    · rcases List.mem_cons.1 hy with rfl | hy
      · exact ⟨q1, by simpa using q2, q3.1, q3.2⟩
      · exact i1 y hy
    · rcases List.mem_cons.1 hy with rfl | hy
      · simp only [Bool.not_eq_true, List.any_eq_false] at q4
        have := q4 z hz
        simpa using this
      · exact i2 y hy z (List.mem_append_left _ hz)
    · have := i2 y hy x (by simp)
      unfold isAt at this
      have h2 := of_decide_eq_false this
      simp only [Prod.mk.injEq] at e
      exact h2 ⟨e.1, e.2⟩
/-- What such an entry makes of pieces at places. -/
theorem at_more {B : BkV} {p : PlaceV} {id : List UInt8} {n : Int} (he : doE B (kMore, zeroGoods, (id, [], 0, 0), zeroPlace, p, n) = 0) (k : KeyV) :
    atM (doB B (kMore, zeroGoods, (id, [], 0, 0), zeroPlace, p, n)).2.2 k = if k = (p, id) then atM B.2.2 k + n.toNat else atM B.2.2 k := by
  have hm : (doB B (kMore, zeroGoods, (id, [], 0, 0), zeroPlace, p, n)).2.2 = putM B.2.2 p id n := by
    unfold doB
    rw [if_neg (by simpa using he), if_neg (by decide : ¬ kMore = kGoods), if_neg (by decide : ¬ kMore = kLot)]
    unfold doP
    simp only
    unfold actM
    rw [if_pos (.inr rfl)]
  have hp : putE B.2.2 p id n = 0 := by
    unfold doE at he
    split at he
    · rename_i h; exact absurd he h
    rw [if_neg (by decide : ¬ kMore = kGoods), if_neg (by decide : ¬ kMore = kLot)] at he
    obtain ⟨y, _, ha, _⟩ := pc_zero he
    unfold actE at ha
    rwa [if_pos (.inr rfl)] at ha
  rw [hm, at_put hp]
theorem at_less {B : BkV} {p : PlaceV} {id : List UInt8} {n : Int} (he : doE B (kLess, zeroGoods, (id, [], 0, 0), p, zeroPlace, n) = 0) (k : KeyV) :
    atM (doB B (kLess, zeroGoods, (id, [], 0, 0), p, zeroPlace, n)).2.2 k = if k = (p, id) then atM B.2.2 k - n.toNat else atM B.2.2 k := by
  have hm : (doB B (kLess, zeroGoods, (id, [], 0, 0), p, zeroPlace, n)).2.2 = takeM B.2.2 p id n := by
    unfold doB
    rw [if_neg (by simpa using he), if_neg (by decide : ¬ kLess = kGoods), if_neg (by decide : ¬ kLess = kLot)]
    unfold doP
    simp only
    unfold actM
    rw [if_neg (by decide : ¬ (kLess = kIn ∨ kLess = kMore)), if_pos (.inr rfl)]
  have hp : takeE B.2.2 p id n = 0 := by
    unfold doE at he
    split at he
    · rename_i h; exact absurd he h
    rw [if_neg (by decide : ¬ kLess = kGoods), if_neg (by decide : ¬ kLess = kLot)] at he
    obtain ⟨y, _, ha, _⟩ := pc_zero he
    unfold actE at ha
    rwa [if_neg (by decide : ¬ (kLess = kIn ∨ kLess = kMore)), if_pos (.inr rfl)] at ha
  rw [hm, at_take hp]
/-- Entries that are all done with no error. -/
def allOk (B : BkV) : List EntV → Prop
  | [] => True
  | x :: r => doE B x = 0 ∧ allOk (doB B x) r
theorem allOk_app : ∀ (a b : List EntV) (B : BkV), allOk B (a ++ b) ↔ allOk B a ∧ allOk (doAll B a) b
  | [], b, B => by simp [allOk, doAll]
  | x :: a, b, B => by
    have ih := allOk_app a b (doB B x)
    show (doE B x = 0 ∧ allOk (doB B x) (a ++ b)) ↔ (doE B x = 0 ∧ allOk (doB B x) a) ∧ allOk (doAll (doB B x) a) b
    rw [ih, and_assoc]
/-- Behind what Diff tells the stock is what was seen. -/
theorem diff_seen : ∀ (l : List LineV) (m : StkV) (B : BkV), (∀ x ∈ l, 0 ≤ x.2.2) → (l.Pairwise fun x y => (x.1, x.2.1) ≠ (y.1, y.2.1)) → (∀ x ∈ l, atM B.2.2 (x.1, x.2.1) = atM m (x.1, x.2.1)) → allOk B (diffL m l) →
    (∀ x ∈ l, (atM (doAll B (diffL m l)).2.2 (x.1, x.2.1) : Int) = x.2.2) ∧ ∀ k, (∀ x ∈ l, (x.1, x.2.1) ≠ k) → atM (doAll B (diffL m l)).2.2 k = atM B.2.2 k
  | [], m, B, _, _, _, _ => ⟨by simp, fun _ _ => rfl⟩
  | x :: r, m, B, h0, hp, ha, hok => by
    have hp' := List.pairwise_cons.1 hp
    have e : diffL m (x :: r) = diffX m x ++ diffL m r := rfl
    rw [e, allOk_app] at hok
    have one : (atM (doAll B (diffX m x)).2.2 (x.1, x.2.1) : Int) = x.2.2 ∧ ∀ k, (x.1, x.2.1) ≠ k → atM (doAll B (diffX m x)).2.2 k = atM B.2.2 k := by
      have hx := ha x List.mem_cons_self
      have hx0 := h0 x List.mem_cons_self
      have hok1 := hok.1
      unfold diffX at hok1 ⊢
      split at hok1
      · rename_i h1
        rw [if_pos h1]
        have hm := at_more hok1.1
        constructor
        · show (atM (doB B _).2.2 _ : Int) = _
          rw [hm, if_pos rfl]
          omega
        · intro k hk
          show atM (doB B _).2.2 _ = _
          rw [hm, if_neg (fun e => hk e.symm)]
      · rename_i h1
        rw [if_neg h1]
        split at hok1
        · rename_i h2
          rw [if_pos h2]
          have hm := at_less hok1.1
          constructor
          · show (atM (doB B _).2.2 _ : Int) = _
            rw [hm, if_pos rfl]
            omega
          · intro k hk
            show atM (doB B _).2.2 _ = _
            rw [hm, if_neg (fun e => hk e.symm)]
        · rename_i h2
          rw [if_neg h2]
          refine ⟨?_, fun _ _ => rfl⟩
          show (atM B.2.2 _ : Int) = _
          omega
    have hB : ∀ y ∈ r, atM (doAll B (diffX m x)).2.2 (y.1, y.2.1) = atM m (y.1, y.2.1) := fun y hy => (one.2 _ (hp'.1 y hy)).trans (ha y (List.mem_cons_of_mem _ hy))
    obtain ⟨i1, i2⟩ := diff_seen r m (doAll B (diffX m x)) (fun y hy => h0 y (List.mem_cons_of_mem _ hy)) hp'.2 hB hok.2
    have ea : doAll B (diffX m x ++ diffL m r) = doAll (doAll B (diffX m x)) (diffL m r) := by unfold doAll; rw [List.foldl_append]
    rw [e, ea]
    refine ⟨fun y hy => ?_, fun k hk => ?_⟩
    · rcases List.mem_cons.1 hy with rfl | hy
      · rw [i2 _ fun z hz e => hp'.1 z hz e.symm]
        exact one.1
      · exact i1 y hy
    · rw [i2 k fun z hz => hk z (List.mem_cons_of_mem _ hz), one.2 k (hk x List.mem_cons_self)]
/-- A second Diff tells nothing. -/
theorem diff_twice {l : List LineV} {m : StkV} (h : ∀ x ∈ l, (atM m (x.1, x.2.1) : Int) = x.2.2) : diffL m l = [] := by
  unfold diffL
  rw [List.flatMap_eq_nil_iff]
  intro x hx
  have := h x hx
  unfold diffX
  rw [if_neg (by omega), if_neg (by omega)]
end Go.Proofs.YtphgakobfegpcaaGreatDoor
