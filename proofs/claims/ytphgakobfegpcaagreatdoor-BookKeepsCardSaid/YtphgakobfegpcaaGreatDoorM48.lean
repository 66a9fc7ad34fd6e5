/- The law BookKeeps, walked. Printed by gen/bkeeps.py. -/
import Derived.Deep.RegionHeld3
import Derived.Deep.CutBlock
import Derived.Test.YtphgakobfegpcaaGreatDoorM20
import Derived.Test.YtphgakobfegpcaaGreatDoorM29
import Derived.Test.YtphgakobfegpcaaGreatDoorM38
import Derived.Test.YtphgakobfegpcaaGreatDoorM40
import Derived.Test.YtphgakobfegpcaaGreatDoorM43
import Derived.Test.YtphgakobfegpcaaGreatDoorM47
namespace Go.Proofs.YtphgakobfegpcaaGreatDoor
open Go.RowKit Go.Sort Go.Proofs

theorem doAll_take1 (B : BkV) (l : List EntV) (k : Nat) (h : k < l.length) : doAll B (l.take (k + 1)) = doB (doAll B (l.take k)) l[k] := by
  unfold doAll
  rw [List.take_succ_eq_append_getElem h, List.foldl_append]
  rfl
theorem BkI.goods_sums {B : BkV} (hI : BkI B) {x : GoS} (hx : x ∈ B.1) : sumsOf B x.1.1 = x.2 := by
  unfold sumsOf
  rw [hI.fG_is hx]
theorem BkI.has_le {B : BkV} (hI : BkI B) {x : GoS} (hx : x ∈ B.1) : hasOf B x.1.1 ≤ 4611686018427387904 := by
  have h1 := hI.pac x hx
  have h2 := (hI.gok x hx).2
  unfold OkS mostS at h2
  omega
theorem BkI.lot_held {B : BkV} (hI : BkI B) {c : List UInt8} {l : LotV} (hl : l ∈ lotsB B c) : heldOf B l.1 ≤ ofM B.2.2 l.1 := by
  obtain ⟨-, h, hm⟩ := lotsB_mem.1 hl
  unfold heldOf
  rw [hI.fL_is hm]
  exact (hI.lok _ hm).2.1
/-- Names of a bounded length. -/
def ShortK (x : EntV) : Prop := x.2.2.1.1.length ≤ 1000000000 ∧ x.2.2.1.2.1.length ≤ 1000000000
/-- What the law leans on. -/
structure BkLawG (E : Nat → Addr) (w : World) : Prop where
  bk : BkG E w
  tab : TabG w
theorem BkLawG.below {E : Nat → Addr} {w w' : World} (h : BkLawG E w) (hb : Below w.heap.size w w') : BkLawG E w' := ⟨h.bk.below hb, h.tab.below hb⟩
theorem BkLawG.text {E : Nat → Addr} {w : World} (h : BkLawG E w) : PlaceG E w := ⟨h.bk.stk.place.name, h.bk.stk.place.bound, h.tab⟩

set_option maxHeartbeats 800000 in
set_option maxRecDepth 100000 in
theorem bookKeeps_out (E : Nat → Addr) (A0 : Option Addr) (cap0 : Nat) (xs0 : List EntV) (w : World) (hG : BkLawG E w) (hX0 : RowAt encEnt 14 w A0 xs0) (h : longL xs0 50 = 1) :
    Calls Tryz.prog 6 #[.slice A0 xs0.length cap0] w fun e w' => e = .returned (.bool true) ∧ Below w.heap.size w w' := by
  have HC := Lib.hid (started_any E w hG.bk)
  have HL := Lib.hid (fun W (hb : Below w.heap.size w W) => longEntries_any A0 cap0 xs0 50 W (by decide) (hX0.below hb))
  rw [h] at HL
  clear hG hX0 h
  go_enter Tryz.func6, Tryz.ntmps6
  go_wp2_with fail
  refine HC.out.mono ?_
  rintro e w1 ⟨rfl, b1⟩
  have B1 := Lib.hid b1
  clear b1
  go_wp2_with fail
  refine (HL.out w1 B1.out).mono ?_
  rintro e w2 ⟨rfl, b2⟩
  have B2 := Lib.hid (B1.out.trans (b2.mono B1.out.size))
  clear b2
  go_wp2_with fail
  go_ret
  exact ⟨rfl, B2.out⟩

set_option maxHeartbeats 6400000 in
set_option maxRecDepth 100000 in
theorem bookKeeps_in (E : Nat → Addr) (A0 : Option Addr) (cap0 : Nat) (xs0 : List EntV) (w : World) (hG : BkLawG E w) (hX0 : RowAt encEnt 14 w A0 xs0) (hl0 : longL xs0 50 = 0) :
    Calls Tryz.prog 6 #[.slice A0 xs0.length cap0] w fun e w' => e = .returned (.bool true) ∧ Below w.heap.size w w' := by
  have HC := Lib.hid (started_any E w hG.bk)
  have HL := Lib.hid (fun W (hb : Below w.heap.size w W) => longEntries_any A0 cap0 xs0 50 W (by decide) (hX0.below hb))
  rw [hl0] at HL
  obtain ⟨s1, s2⟩ := longL_short hl0
  have HSH : Hid (∀ x ∈ xs0, ShortK x) := fun x hx => longN_short (s2 x hx)
  have HX0 := Lib.hid (fun W (hb : Below w.heap.size w W) => hX0.below hb)
  have HG := Lib.hid (fun W (hb : Below w.heap.size w W) => hG.below hb)
  have HI := Lib.hid (fun k : Nat => BkI.all BkI.nil (xs0.take k))
  have HDO := Lib.hid (fun k p F x W (hb : Below w.heap.size w W) (H : BookIs W p F (doAll bk0 (xs0.take k))) (hs : ShortK x) => do_any E x H (HI.out k) hs.1 hs.2 (hG.bk.below hb))
  obtain ⟨M, hM⟩ : ∃ M, M = xs0.length := ⟨_, rfl⟩
  have HM := Lib.hid hM
  rw [← hM] at HL s1 ⊢
  clear hG hX0 hl0 s2 hM
  go_enter Tryz.func6, Tryz.ntmps6
  go_wp2_with fail
  refine HC.out.mono ?_
  rintro e w1 ⟨rfl, b1⟩
  have B1 := Lib.hid b1
  clear b1 HC
  go_wp2_with fail
  refine (HL.out w1 B1.out).mono ?_
  rintro e w2 ⟨rfl, b2⟩
  have B2 := Lib.hid (B1.out.trans (b2.mono B1.out.size))
  clear b2 HL B1
  go_wp2_with fail
  refine (newBook_any w2).mono ?_
  rintro e w3 ⟨p, F0, rfl, hbk, hF0, b3⟩
  have B3 := Lib.hid (B2.out.trans (b3.mono B2.out.size))
  have HBK3 := Lib.hid hbk
  have HF3 : Hid (∀ j ∈ F0, w.heap.size ≤ j) := fun j hj => by have := hF0 j hj; have := B2.out.size; omega
  clear hbk hF0 b3 B2
  go_wp2_with fail
  go_loopw [5] (fun i wr => ∃ k : Nat, k ≤ M ∧ i = .int .i64 k ∧ Hid (∃ F', BookIs wr p F' (doAll bk0 (xs0.take k)) ∧ ∀ j ∈ F', w.heap.size ≤ j) ∧ Hid (Below w.heap.size w wr)) (fun i _ => M - (intOf i).toNat)
  case atStart => exact ⟨0, by omega, rfl, ⟨F0, HBK3.out, HF3.out⟩, B3.out⟩
  case round =>
    obtain ⟨k, hk, rfl, HBK, HB⟩ := hrel
    by_cases hkM : k < M
    · have hkx : k < xs0.length := by rw [← HM.out]; exact hkM
      obtain ⟨F', hbk, hf1⟩ := HBK.out
      have HBK1 := Lib.hid hbk
      have HF1 := Lib.hid hf1
      obtain ⟨g, o, rfl, lg, cg⟩ := HX0.out w (Below.refl _ _) |>.resolve_left (fun h => by rw [h] at hkx; simp at hkx)
      obtain ⟨x, hx⟩ : ∃ x, x = xs0[k] := ⟨_, rfl⟩
      have hlies : ∀ W, Below w.heap.size w W → Lies W g (o + k * 14) (encEnt x) := fun W hb j v hv =>
        (hb.cell (p := ⟨g, o + k * 14 + j, none⟩) lg).trans (cg k hkx j v (by rw [← hx]; exact hv))
      have HLI := Lib.hid hlies
      have hsx := HSH.out x (by rw [hx]; exact List.getElem_mem hkx)
      have HNX : Hid (doB (doAll bk0 (xs0.take k)) x = doAll bk0 (xs0.take (k + 1))) := by
        show _ = _
        rw [doAll_take1 bk0 xs0 k hkx, hx]
      have HST : Hid (doE (doAll bk0 (xs0.take k)) x ≠ 0 → doB (doAll bk0 (xs0.take k)) x = doAll bk0 (xs0.take k)) := fun h => by unfold doB; rw [if_pos h]
      have HD := Lib.hid (fun W (hb : Below w.heap.size w W) (H : BookIs W p F' (doAll bk0 (xs0.take k))) => HDO.out k p F' x W hb H hsx)
      have HIK := Lib.hid (HI.out k)
      have h14 : (encEnt x).length = 14 := rfl
      clear hbk hf1 HBK hx cg hlies hsx
      generalize doE (doAll bk0 (xs0.take k)) x = de at HD HST
      generalize doB (doAll bk0 (xs0.take k)) x = Bn at HD HST HNX
      generalize doAll bk0 (xs0.take k) = B at HBK1 HD HST HIK
      generalize encEnt x = LX at HLI HD h14
      go_wp2_with fail
      refine (copyBook_any HBK1.out).mono ?_
      rintro e w4 ⟨p2, F2, rfl, hc4, hF2, b4⟩
      have B4 := Lib.hid (HB.out.trans (b4.mono HB.out.size))
      have HBK4 := Lib.hid (HBK1.out.below b4)
      have HLT := Lib.hid HBK1.out.lt
      have HC4 := Lib.hid hc4
      have HF2 := Lib.hid hF2
      have HL4 := Lib.hid (HLI.out _ B4.out)
      clear hc4 hF2 b4 HBK1
      go_wp2_with (refine wpList_load_at rfl 69 _ rfl g (o + k * 14) rfl LX HL4.out _ Tryz.underlying69 rfl (by rw [h14]; kernel_rfl) ?_)
      refine (HD.out w4 B4.out HBK4.out).mono ?_
      rintro e w5 ⟨rfl, ⟨F5, hb5, hf5⟩, bf5⟩
      have B5 := Lib.hid (B4.out.trans (bf5.below B4.out.size HF1.out))
      have HC5 := Lib.hid (HC4.out.butF bf5 fun j hj hf => by have := HF2.out j hj; have := HLT.out j hf; omega)
      have HBK5 := Lib.hid hb5
      have HF5 : Hid (∀ j ∈ F5, w.heap.size ≤ j) := fun j hj => (hf5 j hj).elim (HF1.out j) (fun h => by have := B4.out.size; omega)
      clear hb5 hf5 bf5 HD HLI HL4 HBK4
      by_cases h0 : de = 0
      · rw [h0, errOf_zero]
        clear h0 HST
        go_wp2_with fail
        go_roundw
        case rel => exact ⟨k + 1, by omega, by go_num, ⟨F5, by rw [← HNX.out]; exact HBK5.out, HF5.out⟩, B5.out⟩
        case measure => simp [intOf]; omega
      · have HSB := Lib.hid (HST.out h0)
        rw [errOf_pos _ _ h0]
        have HSM : Hid (Calls Tryz.prog 36 #[.pointer (some ⟨p2, 0, none⟩), .pointer (some ⟨p, 0, none⟩)] w5 fun e w' => e = .returned (.bool true) ∧ Below w5.heap.size w5 w') := by
          have hb := HBK5.out
          rw [HSB.out] at hb
          obtain ⟨r, hr, hcall⟩ := sameBk_any E HC5.out hb HIK.out HIK.out (HG.out _ B5.out).text
          have : r = true := hr.2 (BkEq.refl _)
          subst this
          exact hcall
        clear h0 HST
        go_wp2_with fail
        refine HSM.out.mono ?_
        rintro e w6 ⟨rfl, b6⟩
        have B6 := Lib.hid (B5.out.trans (b6.mono B5.out.size))
        have HBK6 := Lib.hid (HBK5.out.below b6)
        clear b6 HSM
        go_wp2_with fail
        go_roundw
        case rel => exact ⟨k + 1, by omega, by go_num, ⟨F5, by rw [← HNX.out]; exact HBK6.out, HF5.out⟩, B6.out⟩
        case measure => simp [intOf]; omega
    · obtain rfl : k = M := by omega
      have hT : xs0.take k = xs0 := List.take_of_length_le (by rw [← HM.out]; exact Nat.le_refl _)
      have hIB := HI.out k
      rw [hT] at HBK hIB
      obtain ⟨F', hbk, -⟩ := HBK.out
      clear HDO HI HSH HX0 hT HBK
      generalize doAll bk0 xs0 = B at hbk hIB
      have HIB := Lib.hid hIB
      have HBK := Lib.hid hbk
      clear hbk hIB
      go_wp2_with fail
      refine (goodsBk_any HBK.out HIB.out).mono ?_
      rintro e w4 ⟨AG, cG, rfl, hrG, -, b4⟩
      have B4 := Lib.hid (HB.out.trans (b4.mono HB.out.size))
      have HBK4 := Lib.hid (HBK.out.below b4)
      have HRG := Lib.hid (fun W (hb : Below w4.heap.size w4 W) => hrG.below hb)
      clear hrG b4 HBK
      go_wp2_with fail
      refine (stockBk_any HBK4.out).mono ?_
      rintro e w5 ⟨qs, cs, rfl, -, -, hst, b5⟩
      have B5 := Lib.hid (B4.out.trans (b5.mono B4.out.size))
      have HB5 := Lib.hid b5
      have HBW := Lib.hid (fun W (hb : Below w5.heap.size w5 W) => HBK4.out.below (b5.trans (hb.mono b5.size)))
      have HSK := Lib.hid (fun W (hb : Below w5.heap.size w5 W) => hst.below hb)
      clear hst b5
      obtain ⟨NG, hNG⟩ : ∃ NG, NG = B.1.length := ⟨_, rfl⟩
      have HNG := Lib.hid hNG
      rw [← hNG]
      have hgf := HIB.out.gfew
      rw [← hNG] at hgf
      clear hNG
      go_wp2_with fail
      go_loopw [9] (fun i wr => ∃ n : Nat, n ≤ NG ∧ i = .int .i64 n ∧ Hid (Below w5.heap.size w5 wr)) (fun i _ => NG - (intOf i).toNat)
      case atStart => exact ⟨0, by omega, rfl, Below.refl _ _⟩
      case round =>
        obtain ⟨n, hn, rfl, HBR⟩ := hrel
        by_cases hnG : n < NG
        · have hnx : n < B.1.length := by rw [← HNG.out]; exact hnG
          have hnm : n < (B.1.map (·.1)).length := by rw [List.length_map]; exact hnx
          obtain ⟨z, hz⟩ : ∃ z, z = B.1[n] := ⟨_, rfl⟩
          have hzm : z ∈ B.1 := by rw [hz]; exact List.getElem_mem hnx
          have hpac := HIB.out.pac z hzm
          have hoks := (HIB.out.gok z hzm).2
          have hhas := HIB.out.has_le hzm
          have hsum := HIB.out.goods_sums hzm
          have HCW : Hid (∀ W, Below w5.heap.size w5 W → ∃ g o, AG = some ⟨g, o, none⟩ ∧ W.cell? ⟨g, o + n * 2, none⟩ = some (.string ⟨z.1.1.toArray⟩)) := fun W hb => by
            rcases HRG.out W (HB5.out.trans (hb.mono HB5.out.size)) with h | ⟨b', o', h1, h2, h3⟩
            · rw [h] at hnm; simp at hnm
            · exact ⟨b', o', h1, h3 n hnm 0 _ (by rw [List.getElem_map, ← hz]; rfl)⟩
          obtain ⟨g, o, rfl, -⟩ := HCW.out w5 (Below.refl _ _)
          have HCL : Hid (∀ W, Below w5.heap.size w5 W → W.cell? ⟨g, o + n * 2, none⟩ = some (.string ⟨z.1.1.toArray⟩)) := fun W hb => by
            obtain ⟨g', o', h1, h2⟩ := HCW.out W hb
            cases h1
            exact h2
          have HSU := Lib.hid (fun W hb => sumsBk_any (HBW.out W hb) z.1.1)
          have HHA : Hid (∀ W, Below w5.heap.size w5 W → Calls Tryz.prog 38 #[.pointer (some ⟨p, 0, none⟩), .string ⟨z.1.1.toArray⟩] W fun e w' => e = .returned (.int .i64 (z.2.1 - z.2.2.1 + z.2.2.2.1 - z.2.2.2.2)) ∧ Below W.heap.size W w') := fun W hb => by
            have := hasBk_any (HBW.out W hb) HIB.out z.1.1 hhas
            rw [hpac] at this
            exact this
          have HLO := Lib.hid (fun W hb => lotsBk_any (HBW.out W hb) HIB.out z.1.1)
          have HLM := Lib.hid (fun l (hl : l ∈ lotsB B z.1.1) => HIB.out.lot_held hl)
          have HLS := Lib.hid (HIB.out.lots_strict z.1.1)
          have HLL : Hid ((lotsB B z.1.1).length ≤ 60) := by
            show _ ≤ _
            unfold lotsB
            rw [Stab.srt_length, List.length_map]
            exact Nat.le_trans (List.length_filter_le _ _) HIB.out.lfew
          rw [hsum] at HSU
          unfold OkS mostS at hoks
          clear hz hpac hhas hsum HCW hzm
          generalize z.1.1 = code at *
          obtain ⟨_, s1, s2, s3, s4⟩ := z
          simp only [encSums] at HSU HHA hoks
          obtain ⟨q1, q2, q3, q4, q5, q6, q7, q8⟩ := hoks
          have cg0 := HCL.out wr HBR.out
          have hn0 : (0 : Int) ≤ (n : Nat) := by omega
          have hn1 : ((n : Nat) : Int) < (NG : Nat) := by omega
          go_upto_region 18 with fail
          go_wp2_with fail
          refine (HSU.out wr HBR.out).mono ?_
          rintro e w6 ⟨rfl, b6⟩
          have bx := below_one w6 (.cells #[.int .i64 0, .int .i64 0, .int .i64 0, .int .i64 0] 47)
          go_upto_region 19 with (refine wpList_store_box rfl 47 _ _ rfl w6.heap.size [.int .i64 s1, .int .i64 s2, .int .i64 s3, .int .i64 s4] rfl rfl _ [.int .i64 0, .int .i64 0, .int .i64 0, .int .i64 0] (heap_alloc_new w6 _) (by kernel_rfl) rfl (encSums_one (s1, s2, s3, s4)) ?_; intro w7 h7 tu7)
          have b67 := bx.trans (tu7.below (Nat.le_refl _))
          have B7 := Lib.hid ((HBR.out.trans (b6.mono HBR.out.size)).trans (b67.mono (Nat.le_trans HBR.out.size b6.size)))
          have HUP : Hid (∀ W, Below w7.heap.size w7 W → W.cell? ⟨g, o + n * 2, none⟩ = some (.string ⟨code.toArray⟩) ∧ W.cell? ⟨w6.heap.size, 0, none⟩ = some (.int .i64 s1) ∧ W.cell? ⟨w6.heap.size, 1, none⟩ = some (.int .i64 s2) ∧ W.cell? ⟨w6.heap.size, 2, none⟩ = some (.int .i64 s3) ∧ W.cell? ⟨w6.heap.size, 3, none⟩ = some (.int .i64 s4)) := fun W hb =>
            ⟨HCL.out W (B7.out.trans (hb.mono B7.out.size)), (row4f ((hb.block _ (row_lt h7)).trans h7)).1⟩
          have hd := (Below.refl w7.heap.size w7).drew
          have n1 : ¬ s1 < 0 := by omega
          have n2 : ¬ s2 < 0 := by omega
          have d1 : decide (s1 < 0) = false := decide_eq_false n1
          have d2 : decide (s2 < 0) = false := decide_eq_false n2
          have x1 : IntKind.i64.wrap (s1 - s2) = s1 - s2 := wrap_small (by omega) (by omega)
          have x2 : IntKind.i64.wrap (s1 - s2 + s3) = s1 - s2 + s3 := wrap_small (by omega) (by omega)
          have x3 : IntKind.i64.wrap (s1 - s2 + s3 - s4) = s1 - s2 + s3 - s4 := wrap_small (by omega) (by omega)
          clear b6 bx tu7 b67 cg0 h7
          go_region_held3 (fun W => W.cell? ⟨g, o + n * 2, none⟩ = some (.string ⟨code.toArray⟩) ∧ W.cell? ⟨w6.heap.size, 0, none⟩ = some (.int .i64 s1) ∧ W.cell? ⟨w6.heap.size, 1, none⟩ = some (.int .i64 s2) ∧ W.cell? ⟨w6.heap.size, 2, none⟩ = some (.int .i64 s3) ∧ W.cell? ⟨w6.heap.size, 3, none⟩ = some (.int .i64 s4))
            (first | exact HUP.out _ hd | exact HUP.out _ kk | go_keep)
            (first | (go_at_call 38; refine (HHA.out _ B7.out.drew).mono ?_; rintro e v ⟨rfl, bb⟩; have kk := hd.trans (bb.mono hd.size)))
          all_goals
            have B8 := Lib.hid (B7.out.trans (kk.mono B7.out.size))
            have cg1 := HCL.out v B8.out
            have HLO8 := Lib.hid (HLO.out v B8.out)
            clear kk bb hd HUP x1 x2 x3 HSU HHA HLO B7
            go_wp2_with fail
            refine HLO8.out.mono ?_
            rintro e w9 ⟨AL, cL, rfl, hrL, -, b9⟩
            have B9 := Lib.hid (B8.out.trans (b9.mono B8.out.size))
            have HRL := Lib.hid (fun W (hb : Below w9.heap.size w9 W) => hrL.below hb)
            clear hrL b9 HLO8 cg1 B8
            generalize lotsB B code = LL at HRL HLM HLS HLL
            obtain ⟨NL, hNL⟩ : ∃ NL, NL = LL.length := ⟨_, rfl⟩
            have HNL := Lib.hid hNL
            rw [← hNL] at HLL ⊢
            have hl60 := HLL.out
            clear hNL
            go_wp2_with fail
            obtain ⟨wo, rfl⟩ : ∃ wo : World, wo = wr := ⟨_, rfl⟩
            go_loopw [12, 13] (fun i _ wi => ∃ m : Nat, m ≤ NL ∧ i = .int .i64 m ∧ Hid (Below w9.heap.size w9 wi)) (fun i _ _ => NL - (intOf i).toNat)
            case atStart => exact ⟨0, by omega, rfl, Below.refl _ _⟩
            case round =>
              obtain ⟨m, hm, rfl, HBI⟩ := hrel
              by_cases hmL : m < NL
              · have hmx : m < LL.length := by rw [← HNL.out]; exact hmL
                have HB5I := Lib.hid (B9.out.trans (HBI.out.mono B9.out.size))
                obtain ⟨y, hy⟩ : ∃ y, y = LL[m] := ⟨_, rfl⟩
                have hhe := HLM.out y (by rw [hy]; exact List.getElem_mem hmx)
                have HHE := Lib.hid (fun W hb => heldBk_any (HBW.out W hb) y.1)
                have HOF := Lib.hid (fun W hb => ofStock_P HIB.out.stk y.1 W (HSK.out W hb))
                obtain ⟨gl, ol, rfl, ll, cl⟩ := HRL.out w9 (Below.refl _ _) |>.resolve_left (fun h => by rw [h] at hmx; simp at hmx)
                have HCY : Hid (∀ W, Below w9.heap.size w9 W → ∀ j (hj : j < LL.length), W.cell? ⟨gl, ol + j * 4, none⟩ = some (.string ⟨LL[j].1.toArray⟩) ∧ W.cell? ⟨gl, ol + j * 4 + 1, none⟩ = some (.string ⟨LL[j].2.1.toArray⟩) ∧ W.cell? ⟨gl, ol + j * 4 + 2, none⟩ = some (.int .i64 LL[j].2.2.1) ∧ W.cell? ⟨gl, ol + j * 4 + 3, none⟩ = some (.int .i64 LL[j].2.2.2)) := fun W hb j hj =>
                  have up := fun c v (hv : (encLot LL[j])[c]? = some v) => (hb.cell (p := ⟨gl, ol + j * 4 + c, none⟩) ll).trans (cl j hj c v hv)
                  ⟨up 0 _ rfl, up 1 _ rfl, up 2 _ rfl, up 3 _ rfl⟩
                have HSO : Hid (∀ K (hK : m = K + 1) (h1 : K < LL.length), ∀ W, Calls Tryz.prog 42 #[.agg (encLot LL[K]).toArray, .agg (encLot y).toArray] W fun e w' => e = .returned (.bool true) ∧ Below W.heap.size W w') := fun K hK h1 W => by
                  have := sooner_any LL[K] y W
                  rw [hy, List.pairwise_iff_getElem.1 HLS.out K m h1 hmx (by omega)] at this
                  rw [hy]
                  exact this
                have hc0 := (HCY.out wr HBI.out m hmx).1
                rw [← hy] at hc0
                have hm0 : (0 : Int) ≤ (m : Nat) := by omega
                have hm1 : ((m : Nat) : Int) < (NL : Nat) := by omega
                have HY := Lib.hid hy
                clear hy cl
                generalize heldOf B y.1 = hh at HHE hhe
                generalize ofM B.2.2 y.1 = oo at HOF hhe
                have hh1 : ¬ ((hh : Nat) : Int) < 0 := by omega
                have hh2 : ¬ ((oo : Nat) : Int) < (hh : Nat) := by omega
                obtain ⟨y1, y2, y3, y4⟩ := y
                simp only [encLot] at HSO HHE HOF hc0
                go_wp2_with fail
                refine (HHE.out wr HB5I.out).mono ?_
                rintro e wj ⟨rfl, rfl⟩
                clear HHE
                rcases Nat.eq_zero_or_pos m with hz | hp
                · have hm2 : ¬ (0 : Int) < (m : Nat) := by omega
                  have HUP : Hid (∀ W, Below w9.heap.size w9 W → W.cell? ⟨gl, ol + m * 4, none⟩ = some (.string ⟨y1.toArray⟩)) := fun W hb => by
                    have h := (HCY.out W hb m hmx).1
                    rw [← HY.out] at h
                    exact h
                  have hd := HBI.out.drew
                  have HD5 := Lib.hid HB5I.out.drew
                  clear hz HSO HCY
                  go_wp2_with fail
                  refine wp_region_held_drew (S := fun W => W.cell? ⟨gl, ol + m * 4, none⟩ = some (.string ⟨y1.toArray⟩)) (by kernel_rfl) (HUP.out _ hd) (fun hHeld => ?_)
                  refine wpAnyH_take (i := 0) (oi := _) (v := .int .i64 (hh : Nat)) rfl (by kernel_rfl) (by kernel_rfl) (by kernel_rfl) (fun _ _ _ h => h) (Or.inl ⟨by kernel_rfl, fun W hSw => ?_⟩) hHeld ?_
                  · dsimp only at hSw
                    go_simp
                    all_goals omega
                  change wpAnyH _ _ _ _ _ _ _ (Act.put _ (some 113) _) _
                  (try simp only [Act.put, List.setIfInBounds_toArray, List.set_cons_zero, List.set_cons_succ])
                  refine wpAnyH_take (i := 1) (oi := _) (v := .bool false) rfl (by kernel_rfl) (by kernel_rfl) (by kernel_rfl) (fun _ _ _ h => h) (Or.inl ⟨by kernel_rfl, fun W hSw => ?_⟩) hHeld ?_
                  · dsimp only at hSw
                    go_simp
                    all_goals omega
                  change wpAnyH _ _ _ _ _ _ _ (Act.put _ (some 114) _) _
                  (try simp only [Act.put, List.setIfInBounds_toArray, List.set_cons_zero, List.set_cons_succ])
                  refine wpAnyH_take (i := 2) (oi := _) (v := .bool false) rfl (by kernel_rfl) (by kernel_rfl) (by kernel_rfl) (fun _ _ _ h => h) (Or.inl ⟨by kernel_rfl, fun W hSw => ?_⟩) hHeld ?_
                  · dsimp only at hSw
                    go_simp
                    all_goals omega
                  change wpAnyH _ _ _ _ _ _ _ (Act.put _ (some 115) _) _
                  (try simp only [Act.put, List.setIfInBounds_toArray, List.set_cons_zero, List.set_cons_succ])
                  refine wpAnyH_take (i := 3) (oi := _) (v := .int .i64 (hh : Nat)) rfl (by kernel_rfl) (by kernel_rfl) (by kernel_rfl) (fun _ _ _ h => h) (Or.inl ⟨by kernel_rfl, fun W hSw => ?_⟩) hHeld ?_
                  · dsimp only at hSw
                    go_simp
                    all_goals omega
                  change wpAnyH _ _ _ _ _ _ _ (Act.put _ (some 116) _) _
                  (try simp only [Act.put, List.setIfInBounds_toArray, List.set_cons_zero, List.set_cons_succ])
                  refine wpAnyH_take (i := 4) (oi := _) (v := .pointer (some ⟨qs, 0, none⟩)) rfl (by kernel_rfl) (by kernel_rfl) (by kernel_rfl) (fun _ _ _ h => h) (Or.inl ⟨by kernel_rfl, fun W hSw => ?_⟩) hHeld ?_
                  · dsimp only at hSw
                    go_simp
                    all_goals omega
                  change wpAnyH _ _ _ _ _ _ _ (Act.put _ (some 117) _) _
                  (try simp only [Act.put, List.setIfInBounds_toArray, List.set_cons_zero, List.set_cons_succ])
                  refine wpAnyH_take (i := 5) (oi := _) (v := .slice (some ⟨gl, ol, none⟩) NL cL) rfl (by kernel_rfl) (by kernel_rfl) (by kernel_rfl) (fun _ _ _ h => h) (Or.inl ⟨by kernel_rfl, fun W hSw => ?_⟩) hHeld ?_
                  · dsimp only at hSw
                    go_simp
                    all_goals omega
                  change wpAnyH _ _ _ _ _ _ _ (Act.put _ (some 118) _) _
                  (try simp only [Act.put, List.setIfInBounds_toArray, List.set_cons_zero, List.set_cons_succ])
                  refine wpAnyH_take (i := 6) (oi := _) (v := .int .i64 (m : Nat)) rfl (by kernel_rfl) (by kernel_rfl) (by kernel_rfl) (fun _ _ _ h => h) (Or.inl ⟨by kernel_rfl, fun W hSw => ?_⟩) hHeld ?_
                  · dsimp only at hSw
                    go_simp
                    all_goals omega
                  change wpAnyH _ _ _ _ _ _ _ (Act.put _ (some 119) _) _
                  (try simp only [Act.put, List.setIfInBounds_toArray, List.set_cons_zero, List.set_cons_succ])
                  refine wpAnyH_take (i := 7) (oi := _) (v := .pointer (some ⟨gl, ol + m * 4, none⟩)) rfl (by kernel_rfl) (by kernel_rfl) (by kernel_rfl) (fun _ _ _ h => h) (Or.inl ⟨by kernel_rfl, fun W hSw => ?_⟩) hHeld ?_
                  · dsimp only at hSw
                    go_simp
                    all_goals omega
                  change wpAnyH _ _ _ _ _ _ _ (Act.put _ (some 120) _) _
                  (try simp only [Act.put, List.setIfInBounds_toArray, List.set_cons_zero, List.set_cons_succ])
                  refine wpAnyH_take (i := 8) (oi := _) (v := .pointer (some ⟨gl, ol + m * 4, none⟩)) rfl (by kernel_rfl) (by kernel_rfl) (by kernel_rfl) (fun _ _ _ h => h) (Or.inl ⟨by kernel_rfl, fun W hSw => ?_⟩) hHeld ?_
                  · dsimp only at hSw
                    go_simp
                    all_goals omega
                  change wpAnyH _ _ _ _ _ _ _ (Act.put _ (some 121) _) _
                  (try simp only [Act.put, List.setIfInBounds_toArray, List.set_cons_zero, List.set_cons_succ])
                  refine wpAnyH_take (i := 9) (oi := _) (v := .string ⟨y1.toArray⟩) rfl (by kernel_rfl) (by kernel_rfl) (by kernel_rfl) (fun _ _ _ h => h) (Or.inl ⟨by kernel_rfl, fun W hSw => ?_⟩) hHeld ?_
                  · dsimp only at hSw
                    go_simp
                    all_goals omega
                  change wpAnyH _ _ _ _ _ _ _ (Act.put _ (some 122) _) _
                  (try simp only [Act.put, List.setIfInBounds_toArray, List.set_cons_zero, List.set_cons_succ])
                  refine wpAnyH_ready (rs := [10]) (by kernel_rfl) (by simp) (AllReadyH.cons (o := _) rfl (fun K hK => ?_) AllReadyH.nil)
                  go_simp
                  refine (HOF.out _ HD5.out).mono ?_
                  rintro e v ⟨rfl, bb⟩
                  have k1 := hd.trans (bb.mono hd.size)
                  clear hHeld
                  go_wp2_with fail
                  refine hK.out _ _ (HUP.out _ k1) (fun hHeld => ?_)
                  clear hK K
                  (try simp only [Act.put, List.setIfInBounds_toArray, List.set_cons_zero, List.set_cons_succ])
                  refine wpAnyH_take (i := 11) (oi := _) (v := .bool false) rfl (by kernel_rfl) (by kernel_rfl) (by kernel_rfl) (fun _ _ _ h => h) (Or.inl ⟨by kernel_rfl, fun W hSw => ?_⟩) hHeld ?_
                  · dsimp only at hSw
                    go_simp
                    all_goals omega
                  change wpAnyH _ _ _ _ _ _ _ (Act.put _ (some 124) _) _
                  (try simp only [Act.put, List.setIfInBounds_toArray, List.set_cons_zero, List.set_cons_succ])
                  refine wpAnyH_take (i := 12) (oi := _) (v := .bool false) rfl (by kernel_rfl) (by kernel_rfl) (by kernel_rfl) (fun _ _ _ h => h) (Or.inl ⟨by kernel_rfl, fun W hSw => ?_⟩) hHeld ?_
                  · dsimp only at hSw
                    go_simp
                    all_goals omega
                  change wpAnyH _ _ _ _ _ _ _ (Act.put _ (some 125) _) _
                  (try simp only [Act.put, List.setIfInBounds_toArray, List.set_cons_zero, List.set_cons_succ])
                  refine wpAnyH_take (i := 13) (oi := _) (v := .bool false) rfl (by kernel_rfl) (by kernel_rfl) (by kernel_rfl) (fun _ _ _ h => h) (Or.inl ⟨by kernel_rfl, fun W hSw => ?_⟩) hHeld ?_
                  · dsimp only at hSw
                    go_simp
                    all_goals omega
                  change wpAnyH _ _ _ _ _ _ _ (Act.put _ (some 126) _) _
                  (try simp only [Act.put, List.setIfInBounds_toArray, List.set_cons_zero, List.set_cons_succ])
                  refine wpAnyH_take (i := 14) (oi := _) (v := .int .i64 (m : Nat)) rfl (by kernel_rfl) (by kernel_rfl) (by kernel_rfl) (fun _ _ _ h => h) (Or.inl ⟨by kernel_rfl, fun W hSw => ?_⟩) hHeld ?_
                  · dsimp only at hSw
                    go_simp
                    all_goals omega
                  change wpAnyH _ _ _ _ _ _ _ (Act.put _ (some 127) _) _
                  (try simp only [Act.put, List.setIfInBounds_toArray, List.set_cons_zero, List.set_cons_succ])
                  refine wpAnyH_take (i := 15) (oi := _) (v := .bool false) rfl (by kernel_rfl) (by kernel_rfl) (by kernel_rfl) (fun _ _ _ h => h) (Or.inl ⟨by kernel_rfl, fun W hSw => ?_⟩) hHeld ?_
                  · dsimp only at hSw
                    go_simp
                    all_goals omega
                  change wpAnyH _ _ _ _ _ _ _ (Act.put _ (some 128) _) _
                  (try simp only [Act.put, List.setIfInBounds_toArray, List.set_cons_zero, List.set_cons_succ])
                  refine wpAnyH_take (i := 16) (oi := _) (v := .bool false) rfl (by kernel_rfl) (by kernel_rfl) (by kernel_rfl) (fun _ _ _ h => h) (Or.inl ⟨by kernel_rfl, fun W hSw => ?_⟩) hHeld ?_
                  · dsimp only at hSw
                    go_simp
                    all_goals omega
                  change wpAnyH _ _ _ _ _ _ _ (Act.put _ (some 129) _) _
                  (try simp only [Act.put, List.setIfInBounds_toArray, List.set_cons_zero, List.set_cons_succ])
                  refine wpAnyH_take (i := 17) (oi := _) (v := undef) rfl (by kernel_rfl) (by kernel_rfl) (by kernel_rfl) (fun _ _ _ h => h) (Or.inr ⟨by kernel_rfl, rfl⟩) hHeld ?_
                  change wpAnyH _ _ _ _ _ _ _ (Act.put _ (some 130) _) _
                  (try simp only [Act.put, List.setIfInBounds_toArray, List.set_cons_zero, List.set_cons_succ])
                  refine wpAnyH_take (i := 18) (oi := _) (v := undef) rfl (by kernel_rfl) (by kernel_rfl) (by kernel_rfl) (fun _ _ _ h => h) (Or.inr ⟨by kernel_rfl, rfl⟩) hHeld ?_
                  change wpAnyH _ _ _ _ _ _ _ (Act.put _ (some 131) _) _
                  (try simp only [Act.put, List.setIfInBounds_toArray, List.set_cons_zero, List.set_cons_succ])
                  refine wpAnyH_take (i := 19) (oi := _) (v := undef) rfl (by kernel_rfl) (by kernel_rfl) (by kernel_rfl) (fun _ _ _ h => h) (Or.inr ⟨by kernel_rfl, rfl⟩) hHeld ?_
                  change wpAnyH _ _ _ _ _ _ _ (Act.put _ (some 132) _) _
                  (try simp only [Act.put, List.setIfInBounds_toArray, List.set_cons_zero, List.set_cons_succ])
                  refine wpAnyH_take (i := 20) (oi := _) (v := undef) rfl (by kernel_rfl) (by kernel_rfl) (by kernel_rfl) (fun _ _ _ h => h) (Or.inr ⟨by kernel_rfl, rfl⟩) hHeld ?_
                  change wpAnyH _ _ _ _ _ _ _ (Act.put _ (some 133) _) _
                  (try simp only [Act.put, List.setIfInBounds_toArray, List.set_cons_zero, List.set_cons_succ])
                  refine wpAnyH_take (i := 21) (oi := _) (v := undef) rfl (by kernel_rfl) (by kernel_rfl) (by kernel_rfl) (fun _ _ _ h => h) (Or.inr ⟨by kernel_rfl, rfl⟩) hHeld ?_
                  change wpAnyH _ _ _ _ _ _ _ (Act.put _ (some 134) _) _
                  (try simp only [Act.put, List.setIfInBounds_toArray, List.set_cons_zero, List.set_cons_succ])
                  refine wpAnyH_take (i := 22) (oi := _) (v := undef) rfl (by kernel_rfl) (by kernel_rfl) (by kernel_rfl) (fun _ _ _ h => h) (Or.inr ⟨by kernel_rfl, rfl⟩) hHeld ?_
                  change wpAnyH _ _ _ _ _ _ _ (Act.put _ (some 135) _) _
                  (try simp only [Act.put, List.setIfInBounds_toArray, List.set_cons_zero, List.set_cons_succ])
                  refine wpAnyH_take (i := 23) (oi := _) (v := undef) rfl (by kernel_rfl) (by kernel_rfl) (by kernel_rfl) (fun _ _ _ h => h) (Or.inr ⟨by kernel_rfl, rfl⟩) hHeld ?_
                  change wpAnyH _ _ _ _ _ _ _ (Act.put _ (some 136) _) _
                  (try simp only [Act.put, List.setIfInBounds_toArray, List.set_cons_zero, List.set_cons_succ])
                  refine wpAnyH_take (i := 24) (oi := _) (v := undef) rfl (by kernel_rfl) (by kernel_rfl) (by kernel_rfl) (fun _ _ _ h => h) (Or.inr ⟨by kernel_rfl, rfl⟩) hHeld ?_
                  change wpAnyH _ _ _ _ _ _ _ (Act.put _ (some 137) _) _
                  (try simp only [Act.put, List.setIfInBounds_toArray, List.set_cons_zero, List.set_cons_succ])
                  refine wpAnyH_take (i := 25) (oi := _) (v := undef) rfl (by kernel_rfl) (by kernel_rfl) (by kernel_rfl) (fun _ _ _ h => h) (Or.inr ⟨by kernel_rfl, rfl⟩) hHeld ?_
                  change wpAnyH _ _ _ _ _ _ _ (Act.put _ (some 138) _) _
                  (try simp only [Act.put, List.setIfInBounds_toArray, List.set_cons_zero, List.set_cons_succ])
                  refine wpAnyH_take (i := 26) (oi := _) (v := undef) rfl (by kernel_rfl) (by kernel_rfl) (by kernel_rfl) (fun _ _ _ h => h) (Or.inr ⟨by kernel_rfl, rfl⟩) hHeld ?_
                  change wpAnyH _ _ _ _ _ _ _ (Act.put _ (some 139) _) _
                  (try simp only [Act.put, List.setIfInBounds_toArray, List.set_cons_zero, List.set_cons_succ])
                  refine wpAnyH_take (i := 27) (oi := _) (v := undef) rfl (by kernel_rfl) (by kernel_rfl) (by kernel_rfl) (fun _ _ _ h => h) (Or.inr ⟨by kernel_rfl, rfl⟩) hHeld ?_
                  change wpAnyH _ _ _ _ _ _ _ (Act.put _ (some 140) _) _
                  (try simp only [Act.put, List.setIfInBounds_toArray, List.set_cons_zero, List.set_cons_succ])
                  refine wpAnyH_take (i := 28) (oi := _) (v := .bool false) rfl (by kernel_rfl) (by kernel_rfl) (by kernel_rfl) (fun _ _ _ h => h) (Or.inl ⟨by kernel_rfl, fun W hSw => ?_⟩) hHeld ?_
                  · dsimp only at hSw
                    go_simp
                    all_goals omega
                  change wpAnyH _ _ _ _ _ _ _ (Act.put _ (some 141) _) _
                  (try simp only [Act.put, List.setIfInBounds_toArray, List.set_cons_zero, List.set_cons_succ])
                  refine wpAnyH_take (i := 29) (oi := _) (v := .bool false) rfl (by kernel_rfl) (by kernel_rfl) (by kernel_rfl) (fun _ _ _ h => h) (Or.inl ⟨by kernel_rfl, fun W hSw => ?_⟩) hHeld ?_
                  · dsimp only at hSw
                    go_simp
                    all_goals omega
                  change wpAnyH _ _ _ _ _ _ _ (Act.put _ (some 142) _) _
                  (try simp only [Act.put, List.setIfInBounds_toArray, List.set_cons_zero, List.set_cons_succ])
                  refine wpAnyH_done (by kernel_rfl) ?_ _
                  have BX := Lib.hid k1
                  clear k1 bb hd HUP HD5
                  go_wp2_with fail
                  go_roundw
                  case rel => exact ⟨m + 1, by omega, by go_num, BX.out⟩
                  case measure => simp [intOf]; omega
                · obtain ⟨K, rfl⟩ : ∃ K, m = K + 1 := ⟨m - 1, by omega⟩
                  have hKx : K < LL.length := by omega
                  have HS1 := Lib.hid (HSO.out K rfl hKx)
                  obtain ⟨t, ht⟩ : ∃ t, t = LL[K] := ⟨_, rfl⟩
                  rw [← ht] at HS1
                  have HUP0 : Hid (∀ W, Below w9.heap.size w9 W → (W.cell? ⟨gl, ol + K * 4, none⟩ = some (.string ⟨t.1.toArray⟩) ∧ W.cell? ⟨gl, ol + K * 4 + 1, none⟩ = some (.string ⟨t.2.1.toArray⟩) ∧ W.cell? ⟨gl, ol + K * 4 + 2, none⟩ = some (.int .i64 t.2.2.1) ∧ W.cell? ⟨gl, ol + K * 4 + 3, none⟩ = some (.int .i64 t.2.2.2)) ∧ (W.cell? ⟨gl, ol + (K + 1) * 4, none⟩ = some (.string ⟨y1.toArray⟩) ∧ W.cell? ⟨gl, ol + (K + 1) * 4 + 1, none⟩ = some (.string ⟨y2.toArray⟩) ∧ W.cell? ⟨gl, ol + (K + 1) * 4 + 2, none⟩ = some (.int .i64 y3) ∧ W.cell? ⟨gl, ol + (K + 1) * 4 + 3, none⟩ = some (.int .i64 y4))) := fun W hb => by
                    have h1 := HCY.out W hb K hKx
                    have h2 := HCY.out W hb (K + 1) hmx
                    rw [← ht] at h1
                    rw [← HY.out] at h2
                    exact ⟨h1, h2⟩
                  clear ht
                  obtain ⟨t1, t2, t3, t4⟩ := t
                  simp only at HS1
                  have g1 : (0 : Int) < ((K + 1 : Nat) : Int) := by omega
                  have g2 : IntKind.i64.wrap (((K + 1 : Nat) : Int) - 1) = (K : Nat) := by
                    have : ((K + 1 : Nat) : Int) - 1 = (K : Nat) := by omega
                    rw [this]
                    exact wrap_small (by omega) (by omega)
                  have g2' : IntKind.i64.wrap ((K : Nat) + 1 - 1 : Int) = (K : Nat) := by
                    have : ((K : Nat) : Int) + 1 - 1 = (K : Nat) := by omega
                    rw [this]
                    exact wrap_small (by omega) (by omega)
                  have g3 : ((K : Nat) : Int) < (NL : Nat) := by omega
                  have g5 : (0 : Int) ≤ (K : Int) + 1 := by omega
                  have g6 : (K : Int) + 1 < (NL : Int) := by omega
                  have g7 : (0 : Int) < (K : Int) + 1 := by omega
                  have g8 : decide ((0 : Int) < (K : Int) + 1) = true := decide_eq_true g7
                  have g9 : K + 1 < NL := by omega
                  have d3 : decide (oo < hh) = false := decide_eq_false (by omega)
                  have d4 : decide (((oo : Nat) : Int) < ((hh : Nat) : Int)) = false := decide_eq_false (by omega)
                  have g10 : IntKind.i64.wrap (K : Int) = K := wrap_small (by omega) (by omega)
                  have g4 : (0 : Int) ≤ (K : Nat) := by omega
                  have HUP : Hid (∀ W, Below w9.heap.size w9 W → W.cell? ⟨gl, ol + K * 4, none⟩ = some (.string ⟨t1.toArray⟩) ∧ W.cell? ⟨gl, ol + K * 4 + 1, none⟩ = some (.string ⟨t2.toArray⟩) ∧ W.cell? ⟨gl, ol + K * 4 + 2, none⟩ = some (.int .i64 t3) ∧ W.cell? ⟨gl, ol + K * 4 + 3, none⟩ = some (.int .i64 t4) ∧ W.cell? ⟨gl, ol + (K + 1) * 4, none⟩ = some (.string ⟨y1.toArray⟩) ∧ W.cell? ⟨gl, ol + (K + 1) * 4 + 1, none⟩ = some (.string ⟨y2.toArray⟩) ∧ W.cell? ⟨gl, ol + (K + 1) * 4 + 2, none⟩ = some (.int .i64 y3) ∧ W.cell? ⟨gl, ol + (K + 1) * 4 + 3, none⟩ = some (.int .i64 y4)) := fun W hb => by
                    obtain ⟨⟨h1, h2, h3, h4⟩, h5, h6, h7, h8⟩ := HUP0.out W hb
                    exact ⟨h1, h2, h3, h4, h5, h6, h7, h8⟩
                  have hd := HBI.out.drew
                  have HD5 := Lib.hid HB5I.out.drew
                  clear HUP0 HSO HCY hp
                  go_wp2_with fail
                  go_region_held3 (fun W => W.cell? ⟨gl, ol + K * 4, none⟩ = some (.string ⟨t1.toArray⟩) ∧ W.cell? ⟨gl, ol + K * 4 + 1, none⟩ = some (.string ⟨t2.toArray⟩) ∧ W.cell? ⟨gl, ol + K * 4 + 2, none⟩ = some (.int .i64 t3) ∧ W.cell? ⟨gl, ol + K * 4 + 3, none⟩ = some (.int .i64 t4) ∧ W.cell? ⟨gl, ol + (K + 1) * 4, none⟩ = some (.string ⟨y1.toArray⟩) ∧ W.cell? ⟨gl, ol + (K + 1) * 4 + 1, none⟩ = some (.string ⟨y2.toArray⟩) ∧ W.cell? ⟨gl, ol + (K + 1) * 4 + 2, none⟩ = some (.int .i64 y3) ∧ W.cell? ⟨gl, ol + (K + 1) * 4 + 3, none⟩ = some (.int .i64 y4))
                    (first | exact HUP.out _ hd | exact HUP.out _ k1 | exact HUP.out _ k2 | go_keep)
                    (first
                      | (go_at_call 41; refine (HOF.out _ HD5.out).mono ?_; rintro e v1 ⟨rfl, bb1⟩; have k1 := hd.trans (bb1.mono hd.size))
                      | (go_at_call 42; refine (HS1.out _).mono ?_; rintro e v2 ⟨rfl, bb2⟩; have k2 := k1.trans (bb2.mono k1.size)))
                  all_goals
                    have BX := Lib.hid k2
                    clear k1 k2 bb1 bb2 hd HUP HD5
                    go_wp2_with fail
                    go_roundw
                    case rel => exact ⟨K + 1 + 1, by omega, by go_num, BX.out⟩
                    case measure => simp [intOf]; omega
              · obtain rfl : m = NL := by omega
                go_wp2_with fail
                go_roundw
                case rel => exact ⟨n + 1, by omega, by go_num, B9.out.trans (HBI.out.mono B9.out.size)⟩
                case measure => simp [intOf]; omega
        · obtain rfl : n = NG := by omega
          go_wp2_with fail
          go_ret
          exact ⟨rfl, B5.out.trans (HBR.out.mono B5.out.size)⟩

theorem bookKeeps_walk (E : Nat → Addr) (A0 : Option Addr) (cap0 : Nat) (xs0 : List EntV) (w : World) (hG : BkLawG E w) (hX0 : RowAt encEnt 14 w A0 xs0) :
    Calls Tryz.prog 6 #[.slice A0 xs0.length cap0] w fun e w' => e = .returned (.bool true) ∧ Below w.heap.size w w' := by
  rcases longL_01 xs0 50 with h | h
  · exact bookKeeps_in E A0 cap0 xs0 w hG hX0 h
  · exact bookKeeps_out E A0 cap0 xs0 w hG hX0 h
end Go.Proofs.YtphgakobfegpcaaGreatDoor
