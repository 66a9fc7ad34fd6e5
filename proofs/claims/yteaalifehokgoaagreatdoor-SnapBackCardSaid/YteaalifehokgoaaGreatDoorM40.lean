/- The program's book: All (lots by their names). -/
import Derived.Test.YteaalifehokgoaaGreatDoorM39
namespace Go.Proofs.YteaalifehokgoaaGreatDoor
open Go.RowKit Go.Sort Go.Proofs
set_option maxHeartbeats 1600000 in
set_option maxRecDepth 100000 in
theorem allBk_any {p : Nat} {F : List Nat} {B : BkV} {w : World} (H : BookIs w p F B) (hI : BkI B) :
  Calls Tryz.prog 29 #[.pointer (some ⟨p, 0, none⟩)] w fun e w' => ∃ A cap, e = .returned (.slice A B.2.1.length cap) ∧ RowAt encLot 4 w' A (B.2.1.map (·.1)) ∧ (∀ a, A = some a → w.heap.size ≤ a.block) ∧ Below w.heap.size w w' := by
 obtain ⟨i0, hi, hz0, hz1, hz2⟩ := info_parts lotInfo
 obtain ⟨g, l, h, s, q, c, -, -, hm⟩ := H
 obtain ⟨⟨-, c1, -, -, -⟩, -⟩ := hm.cells
 have HC := Lib.hid (fun W (h : Below w.heap.size w W) => ((BookM.below hm h).cells).1.2.1)
 have HM := Lib.hid (fun W (h : Below w.heap.size w W) k => (hm.lots.below h).look (P := Tryz.prog) (t := 103) (kt := 9) (by kernel_rfl) Tryz.underlying103 (zeroLotE _) k false)
 obtain ⟨m, hM, hget⟩ := hm.lots
 obtain ⟨L, hL⟩ : ∃ L, L = B.2.1.map (·.1) := ⟨_, rfl⟩
 obtain ⟨ks, hks⟩ : ∃ ks, ks = B.2.1.map fun x : LoH => x.1.1 := ⟨_, rfl⟩
 have hl : ks.length = L.length := by rw [hks, hL]; simp
 have HG : Hid (∀ i (h : i < L.length) (h' : i < ks.length), lotsF B ks[i] = some L[i]) := fun i h h' => by
  have hi : i < B.2.1.length := by rw [hL] at h; simpa using h
  have e1 : ks[i] = B.2.1[i].1.1 := by simp [hks]
  have e2 : L[i] = B.2.1[i].1 := by simp [hL]
  rw [e1, e2]
  unfold lotsF
  rw [hI.fL_is (List.getElem_mem hi)]
  rfl
 have hp : (m.map (·.1)).Perm ks := by
  have := (lots_perm hI hM.nodup hget).map (·.1)
  rw [hks]
  rw [List.map_map] at this
  exact this
 have hsrt : ks.Pairwise fun x y => ltB x y = true := by rw [hks, List.pairwise_map]; exact hI.ls
 have hfew : ks.length ≤ 60 := by rw [hks, List.length_map]; exact hI.lfew
 have HK := Lib.hid (keysLots_any hM hp hsrt (fun k hk => by rw [hks] at hk; obtain ⟨x, hx, rfl⟩ := List.mem_map.1 hk; have := lots_len hI x hx; omega) (by omega))
 have hlen : B.2.1.length = ks.length := by rw [hks]; simp
 rw [hlen]
 rw [← hL]
 obtain ⟨N, hN⟩ : ∃ N, N = ks.length := ⟨_, rfl⟩
 have HN := Lib.hid hN
 have HLL : Hid (N = L.length) := hN.trans hl
 rw [← hN] at HK hfew ⊢
 have B0 := Lib.hid (below_one w (.cells #[.map (some l)] 103))
 clear hm hget hp hsrt hlen hl hN hks hL hI hM
 go_enter Tryz.func29, Tryz.ntmps29
 go_wp2_with fail
 refine (mkLots_any _ _).mono ?_
 rintro e w1 ⟨rfl, rfl⟩
 clear c1
 go_wp2_with fail
 refine HK.out.mono ?_
 rintro e w2 ⟨A, cap, rfl, hst, b2⟩
 have B2 := Lib.hid (B0.out.trans (b2.mono B0.out.size))
 have HST := Lib.hid (fun W (h : Below w2.heap.size w2 W) => hst.below h)
 clear hst b2 HK B0
 go_wp2_with fail
 go_loopw [3, 13] (fun v i wr => ∃ k : Nat, k ≤ N ∧ i = .int .i64 k ∧ Hid (wr.ownsRow w2.heap.size 39 4 v k (flatL encLot (L.take k))) ∧ Hid (Below w2.heap.size w2 wr)) (fun _ i _ => N - (intOf i).toNat)
 case atStart => exact ⟨0, by omega, rfl, World.ownsRow_nil _ _ _ _, Below.refl _ _⟩
 case round =>
  obtain ⟨k, hk, rfl, HOWN, HB⟩ := hrel
  by_cases hkN : k < N
  ·have hkx : k < ks.length := by rw [← HN.out]; exact hkN
   have hkG : k < L.length := by rw [← HLL.out]; exact hkN
   have hbw := B2.out.trans (HB.out.mono B2.out.size)
   obtain ⟨bk, o, rfl, lg, cg⟩ := HST.out wr HB.out |>.resolve_left (fun h => by rw [h] at hkx; simp at hkx)
   have ck := cg k hkx
   have hlook := HM.out wr hbw ks[k]
   have c1 := HC.out wr hbw
   rw [HG.out k hkG hkx] at hlook
   have HNX : Hid (flatL encLot (L.take (k + 1)) = flatL encLot (L.take k) ++ flatL encLot [L[k]]) := by
    show _ = _
    rw [List.take_succ_eq_append_getElem hkG, flatL_append]
   obtain ⟨⟨x1, x2, x3, x4⟩, hx⟩ : ∃ x, x = L[k] := ⟨_, rfl⟩
   rw [← hx] at hlook HNX
   simp only [Option.getD_some, eLot, encLot, Bool.false_eq_true, if_false] at hlook
   have hsz := HB.out.size
   generalize ks[k] = kk at ck hlook
   clear hx hbw cg
   go_wp2_with (at_builtin; refine wpList_append_rows _ rfl (.tmp 17) (.tmp 24) 82 rfl w2.heap.size 39 i0 _ 48 Tryz.underlying82 hi hz0 hz1 hz2 rfl encLot_len (by decide) encLot_one u3 k (flatL encLot (L.take k)) rfl (own_bl HOWN.out (below_one _ _)) (some ⟨wr.heap.size, 0, none⟩) 1 [(x1, x2, x3, x4)] rfl (row_one (heap_alloc_new _ _)) (by simp; omega) (by decide) (by simp; omega) ?_; intro v3 w3 HO3 hb3; have HB3 := Lib.hid hb3; clear hb3)
   go_roundw
   case rel =>
    refine ⟨k + 1, by omega, by go_num, ?_, (HB.out.trans ((below_one wr _).mono HB.out.size)).trans HB3.out⟩
    show World.ownsRow _ _ _ _ _ _ _
    rw [HNX.out]
    exact HO3.out
   case measure => simp [intOf]; omega
  ·obtain rfl : k = N := by omega
   have hT : L.take k = L := List.take_of_length_le (by rw [← HLL.out]; exact Nat.le_refl _)
   have ho := HOWN.out
   rw [hT] at ho
   have hkG := HLL.out
   rw [hkG] at ho
   obtain ⟨A', c', rfl, hra, hge⟩ := RowAt.of_own encLot_len ho
   have HRA := Lib.hid hra
   have HGE := Lib.hid hge
   have HKG := Lib.hid hkG
   clear hT hra hge HOWN ho hkG
   go_wp2_with fail
   go_ret
   refine ⟨A', c', by rw [← HKG.out]; rfl, HRA.out, fun a ha => by have := HGE.out a ha; have := B2.out.size; omega, B2.out.trans (HB.out.mono B2.out.size)⟩
end Go.Proofs.YteaalifehokgoaaGreatDoor
