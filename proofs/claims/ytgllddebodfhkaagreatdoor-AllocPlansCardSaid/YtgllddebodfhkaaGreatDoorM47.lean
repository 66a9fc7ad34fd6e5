/- A book has what its model has: AsBook answers 1. Printed by gen/asbk.py. -/
import Derived.BigQuiet
import Derived.Test.YtgllddebodfhkaaGreatDoorM22
import Derived.Test.YtgllddebodfhkaaGreatDoorM24
import Derived.Test.YtgllddebodfhkaaGreatDoorM44
import Derived.Test.YtgllddebodfhkaaGreatDoorM46
namespace Go.Proofs.YtgllddebodfhkaaGreatDoor
open Go.RowKit Go.Sort Go.Proofs

theorem asStock_P (E : Nat → Addr) {p c : Nat} {m : StkV} (hI : StkI m) (A : Option Addr) (cap : Nat) (w : World) (h : StkP w p c m) (hrow : RowAt encLine 5 w A (linesM m)) (hG : PlaceG E w) :
    Calls Tryz.prog 65 #[.pointer (some ⟨p, 0, none⟩), .agg #[.slice A m.length cap]] w fun e w' => e = .returned (.int .i64 1) ∧ Below w.heap.size w w' := by
  obtain ⟨m', h1, h2⟩ := h
  have hI' := hI.perm h2.symm
  have he : linesM m = linesM m' := (lines_permE hI' h2).symm
  have h := asStock_any E p c hI' A cap w h1 (by rw [← he]; exact hrow) hG
  rw [h2.length_eq] at h
  exact h
theorem BkI.has_any {B : BkV} (hI : BkI B) (c : List UInt8) : hasOf B c ≤ 4611686018427387904 := by
  cases h : fG B c with
  | none =>
    have h0 : hasOf B c = 0 := by
      unfold hasOf
      rw [List.filter_eq_nil_iff.2]
      · rfl
      · intro y hy hc
        have := (hI.lok y hy).2.2
        rw [show y.1.2.1 = c by simpa using hc, h] at this
        cases this
    omega
  | some x =>
    have h1 := hI.pac x (find_mem (fun y : GoS => y.1.1) h).1
    have h2 := (hI.gok x (find_mem (fun y : GoS => y.1.1) h).1).2
    rw [(find_mem (fun y : GoS => y.1.1) h).2] at h1
    unfold OkS mostS at h2
    omega

set_option maxHeartbeats 6400000 in
set_option maxRecDepth 100000 in
theorem asBook_any (E : Nat → Addr) {p q : Nat} {F G R : List Nat} {B : BkV} {w : World} (H : BookIs w p F B) (M : MBk w q G R B) (hI : BkI B) (hG : PlaceG E w) :
    Calls Tryz.prog 25 #[.pointer (some ⟨p, 0, none⟩), .pointer (some ⟨q, 0, none⟩)] w fun e w' => e = .returned (.int .i64 1) ∧ Below w.heap.size w w' := by
  obtain ⟨AG, cG, hcg, hrg⟩ := M.goodsAt
  obtain ⟨AL, cL, hcl, hrl⟩ := M.lotsAt
  obtain ⟨AS, cS, hcs, hrs⟩ := M.linesAt
  have HGO := Lib.hid (goodsBk_any H hI)
  have HSK := Lib.hid (fun W (h : Below w.heap.size w W) => stockBk_any (H.below h))
  have HAS := Lib.hid (fun qs cs W (h : Below w.heap.size w W) (hs : StkP W qs cs B.2.2) => asStock_P E hI.stk AS cS W hs (hrs.below h) (hG.below h))
  have HSU := Lib.hid (fun c W (h : Below w.heap.size w W) => sumsBk_any (H.below h) c)
  have HSA : Hid (∀ k (hk : k < B.1.length), sumsOf B B.1[k].1.1 = B.1[k].2) := fun k hk => by
    unfold sumsOf
    rw [hI.fG_is (List.getElem_mem hk)]
  have HLX : Hid (∀ c, (lotsB B c).length ≤ 60) := fun c => by
    have h := List.length_filter_le (fun x : LoH => decide (x.1.2.1 = c)) B.2.1
    have h2 := hI.lfew
    unfold lotsB
    rw [(Stab.srt_perm _ _).length_eq, List.length_map]
    omega
  have HLO := Lib.hid (fun c W (h : Below w.heap.size w W) => lotsBk_any (H.below h) hI c)
  have HRO := Lib.hid (fun c W (h : Below w.heap.size w W) => lotsOf_any (M.below h) hI c)
  have HHA := Lib.hid (fun c W (h : Below w.heap.size w W) => hasBk_any (H.below h) hI c (hI.has_any c))
  have HRH := Lib.hid (fun c W (h : Below w.heap.size w W) => refHas_any (M.below h) hI c (hI.has_any c))
  have HLT := Lib.hid (fun id W (h : Below w.heap.size w W) => lotBk_any (H.below h) id)
  have HHE := Lib.hid (fun id W (h : Below w.heap.size w W) => heldBk_any (H.below h) id)
  have HFL : Hid (∀ k (hk : k < B.2.1.length), lotsF B B.2.1[k].1.1 = some B.2.1[k].1 ∧ heldOf B B.2.1[k].1.1 = B.2.1[k].2) := fun k hk => by
    unfold lotsF heldOf
    rw [hI.fL_is (List.getElem_mem hk)]
    exact ⟨rfl, rfl⟩
  obtain ⟨NG, hNG⟩ : ∃ N, N = B.1.length := ⟨_, rfl⟩
  obtain ⟨NL, hNL⟩ : ∃ N, N = B.2.1.length := ⟨_, rfl⟩
  obtain ⟨NS, hNS⟩ : ∃ N, N = B.2.2.length := ⟨_, rfl⟩
  have HNG := Lib.hid hNG
  have HNL := Lib.hid hNL
  rw [← hNG] at hcg HGO
  rw [← hNL] at hcl
  rw [← hNS] at hcs HAS
  have hg30 : NG ≤ 30 := by rw [hNG]; exact hI.gfew
  have hl60 : NL ≤ 60 := by rw [hNL]; exact hI.lfew
  have HCQ : Hid (∀ W, Below w.heap.size w W → W.cell? ⟨q, 0, none⟩ = some (.slice AG NG cG) ∧ W.cell? ⟨q, 1, none⟩ = some (.slice AL NL cL) ∧ W.cell? ⟨q, 2, none⟩ = some (.slice AS NS cS)) := fun W h =>
    ⟨(h.cell (lt_of_cell hcg)).trans hcg, (h.cell (lt_of_cell hcl)).trans hcl, (h.cell (lt_of_cell hcs)).trans hcs⟩
  have HRG := Lib.hid (fun W (h : Below w.heap.size w W) => hrg.below h)
  have HRL := Lib.hid (fun W (h : Below w.heap.size w W) => hrl.below h)
  clear hcg hrg hcl hrl hcs hrs hNG hNL hNS H M hI hG
  go_enter Tryz.func25, Tryz.ntmps25
  go_wp2_with fail
  refine HGO.out.mono ?_
  rintro e w1 ⟨A1, c1, rfl, hr1, -, b1⟩
  have B1 := Lib.hid b1
  have HR1 := Lib.hid (fun W (h : Below w1.heap.size w1 W) => hr1.below h)
  have hd := b1.drew
  have hdw : Below w1.heap.size w1 w1.drew := (Below.refl _ _).drew
  have HUP : Hid (∀ W, Below w.heap.size w W → W.cell? ⟨q, 0, none⟩ = some (.slice AG NG cG) ∧ W.cell? ⟨q, 2, none⟩ = some (.slice AS NS cS)) := fun W h => ⟨(HCQ.out W h).1, (HCQ.out W h).2.2⟩
  clear b1 hr1 HGO
  go_wp2_with fail
  go_region_held3 (fun W => W.cell? ⟨q, 0, none⟩ = some (.slice AG NG cG) ∧ W.cell? ⟨q, 2, none⟩ = some (.slice AS NS cS))
    (first | exact HUP.out _ hd | exact HUP.out _ kk | exact HUP.out _ k2 | go_keep)
    (first
      | (go_at_call 21; refine (HSK.out _ hd).mono ?_; rintro e v2 ⟨qs, cs, rfl, -, -, hst, bb⟩; have kk := hd.trans (bb.mono hd.size); have kw := hdw.trans (bb.mono hdw.size))
      | (go_at_call 65; refine (HAS.out qs cs _ kk hst).mono ?_; rintro e v3 ⟨rfl, bb2⟩; have k2 := kk.trans (bb2.mono kk.size); have kw2 := kw.trans (bb2.mono kw.size)))
  all_goals
    have K2 := Lib.hid k2
    have KW2 := Lib.hid kw2
    clear kk kw hst bb bb2 hd hdw HSK HAS k2 kw2 HUP
    go_wp2_with fail
    go_loopw [6] (fun i wr => ∃ k : Nat, k ≤ NG ∧ i = .int .i64 k ∧ Hid (Below w1.heap.size w1 wr)) (fun i _ => NG - (intOf i).toNat)
    case atStart => exact ⟨0, by omega, rfl, KW2.out⟩
    case round =>
      obtain ⟨k, hk, rfl, HB⟩ := hrel
      obtain ⟨wo, rfl⟩ : ∃ wo : World, wo = wr := ⟨_, rfl⟩
      by_cases hkN : k < NG
      · have hkx : k < B.1.length := by rw [← HNG.out]; exact hkN
        have hbw := B1.out.trans (HB.out.mono B1.out.size)
        obtain ⟨g1, o1, rfl, lg1, cg1⟩ := HR1.out w1 (Below.refl _ _) |>.resolve_left (fun h => by rw [List.map_eq_nil_iff] at h; rw [h] at hkx; simp at hkx)
        obtain ⟨g2, o2, rfl, lg2, cg2⟩ := HRG.out w (Below.refl _ _) |>.resolve_left (fun h => by rw [h] at hkx; simp at hkx)
        obtain ⟨x, hx⟩ : ∃ x, x = B.1[k] := ⟨_, rfl⟩
        have hsum := HSU.out x.1.1
        have hsa := HSA.out k hkx
        rw [← hx] at hsa
        rw [hsa] at hsum
        have hc1 : ∀ W, Below w1.heap.size w1 W → ∀ c v, (encGoods x.1)[c]? = some v → W.cell? ⟨g1, o1 + k * 2 + c, none⟩ = some v := fun W hb c v hv =>
          (hb.cell (p := ⟨g1, o1 + k * 2 + c, none⟩) lg1).trans (cg1 k (by rw [List.length_map]; exact hkx) c v (by rw [List.getElem_map, ← hx]; exact hv))
        have hc2 : ∀ W, Below w.heap.size w W → ∀ c v, (encGoS x)[c]? = some v → W.cell? ⟨g2, o2 + k * 6 + c, none⟩ = some v := fun W hb c v hv =>
          (hb.cell (p := ⟨g2, o2 + k * 6 + c, none⟩) lg2).trans (cg2 k hkx c v (by rw [← hx]; exact hv))
        have hneq := fun W => neqGoods x.1 x.1 W
        obtain ⟨⟨x1, x2⟩, s1, s2, s3, s4⟩ := x
        simp only [encSums, encGoods, decide_true, Bool.not_true] at hsum hneq
        have HUP : Hid (∀ W, Below w1.heap.size w1 W → W.cell? ⟨g1, o1 + k * 2, none⟩ = some (.string ⟨x1.toArray⟩) ∧ W.cell? ⟨g1, o1 + k * 2 + 1, none⟩ = some (.int .i64 x2)) := fun W hb => ⟨hc1 W hb 0 _ rfl, hc1 W hb 1 _ rfl⟩
        have HUQ : Hid (∀ W, Below w.heap.size w W → W.cell? ⟨q, 0, none⟩ = some (.slice (some ⟨g2, o2, none⟩) NG cG) ∧ W.cell? ⟨g2, o2 + k * 6, none⟩ = some (.string ⟨x1.toArray⟩) ∧ W.cell? ⟨g2, o2 + k * 6 + 1, none⟩ = some (.int .i64 x2) ∧ W.cell? ⟨g2, o2 + k * 6 + 2, none⟩ = some (.int .i64 s1) ∧ W.cell? ⟨g2, o2 + k * 6 + 2 + 1, none⟩ = some (.int .i64 s2) ∧ W.cell? ⟨g2, o2 + k * 6 + 2 + 2, none⟩ = some (.int .i64 s3) ∧ W.cell? ⟨g2, o2 + k * 6 + 2 + 3, none⟩ = some (.int .i64 s4)) := fun W hb => ⟨(HCQ.out W hb).1, hc2 W hb 0 _ rfl, hc2 W hb 1 _ rfl, hc2 W hb 2 _ rfl, hc2 W hb 3 _ rfl, hc2 W hb 4 _ rfl, hc2 W hb 5 _ rfl⟩
        have HSM := Lib.hid hsum
        have hk0 : (0 : Int) ≤ (k : Nat) := by omega
        have hk1 : ((k : Nat) : Int) < (NG : Nat) := by omega
        have BW := Lib.hid hbw
        clear hx hsa cg1 cg2 hc1 hc2 hsum hbw
        obtain ⟨d0, d1⟩ := HUP.out wo HB.out
        go_wp2_with fail
        refine (HSM.out wo BW.out).mono ?_
        rintro e w4 ⟨rfl, b4⟩
        have ba := below_one w4 (.cells #[.int .i64 s1, .int .i64 s2, .int .i64 s3, .int .i64 s4] 60)
        have hbx := heap_alloc_new w4 (.cells #[.int .i64 s1, .int .i64 s2, .int .i64 s3, .int .i64 s4] 60)
        have BW4 := Lib.hid ((BW.out.trans (b4.mono BW.out.size)).trans (ba.mono (by have := BW.out.size; have := b4.size; omega)))
        have HB4 := Lib.hid ((HB.out.trans (b4.mono HB.out.size)).trans (ba.mono (by have := HB.out.size; have := b4.size; omega)))
        obtain ⟨d0, d1⟩ := HUP.out _ HB4.out
        obtain ⟨e0, e1, e2, e3, e4, e5, e6⟩ := HUQ.out _ BW4.out
        clear b4 ba HSM
        go_wp2_with fail
        generalize w4.alloc (.cells #[.int .i64 s1, .int .i64 s2, .int .i64 s3, .int .i64 s4] 60) = w5 at hbx BW4 HB4 d0 d1 e0 e1 e2 e3 e4 e5 e6 ⊢
        have hb0 : w5.cell? ⟨w4.heap.size, 0, none⟩ = some (.int .i64 s1) := cell_of_row _ _ 0 _ _ _ hbx
        have hb1 : w5.cell? ⟨w4.heap.size, 1, none⟩ = some (.int .i64 s2) := cell_of_row _ _ 1 _ _ _ hbx
        have hb2 : w5.cell? ⟨w4.heap.size, 2, none⟩ = some (.int .i64 s3) := cell_of_row _ _ 2 _ _ _ hbx
        have hb3 : w5.cell? ⟨w4.heap.size, 3, none⟩ = some (.int .i64 s4) := cell_of_row _ _ 3 _ _ _ hbx
        go_quiet (fail)
        go_wp2_with fail
        refine (HLO.out x1 _ (below_drewN BW4.out _)).mono ?_
        rintro e w6 ⟨A6, c6, rfl, hr6, -, b6⟩
        have BW6 := Lib.hid ((below_drewN BW4.out _).trans (b6.mono (below_drewN BW4.out _).size))
        have HB6 := Lib.hid ((below_drewN HB4.out _).trans (b6.mono (below_drewN HB4.out _).size))
        have HR6 := Lib.hid hr6
        clear b6 hr6 BW4 HB4 d0 d1 e0 e1 e2 e3 e4 e5 e6 hbx hb0 hb1 hb2 hb3
        go_wp2_with fail
        refine (HRO.out x1 w6 BW6.out).mono ?_
        rintro e w7 ⟨A7, c7, rfl, hr7, -, b7⟩
        have BW7 := Lib.hid (BW6.out.trans (b7.mono BW6.out.size))
        have HB7 := Lib.hid (HB6.out.trans (b7.mono HB6.out.size))
        have HR67 := Lib.hid (HR6.out.below b7)
        have HR7 := Lib.hid hr7
        clear b7 hr7 BW6 HB6 HR6
        obtain ⟨LX, hLX⟩ : ∃ LX, LX = lotsB B x1 := ⟨_, rfl⟩
        rw [← hLX] at HR67 HR7 ⊢
        obtain ⟨NX, hNX⟩ : ∃ NX, NX = LX.length := ⟨_, rfl⟩
        have HNX := Lib.hid hNX
        rw [← hNX]
        have hx60 : NX ≤ 60 := by rw [hNX, hLX]; exact HLX.out x1
        clear hLX hNX
        go_wp2_with fail
        refine (HHA.out x1 w7 BW7.out).mono ?_
        rintro e w8 ⟨rfl, b8⟩
        have BW8 := Lib.hid (BW7.out.trans (b8.mono BW7.out.size))
        have HB8 := Lib.hid (HB7.out.trans (b8.mono HB7.out.size))
        have HR8 := Lib.hid (HR67.out.below b8)
        have HR8' := Lib.hid (HR7.out.below b8)
        clear b8 BW7 HB7 HR67 HR7
        go_wp2_with fail
        refine (HRH.out x1 w8 BW8.out).mono ?_
        rintro e w9 ⟨rfl, b9⟩
        have BW9 := Lib.hid (BW8.out.trans (b9.mono BW8.out.size))
        have HB9 := Lib.hid (HB8.out.trans (b9.mono HB8.out.size))
        have HR9 := Lib.hid (fun W (h : Below w9.heap.size w9 W) => (HR8.out.below b9).below h)
        have HR9' := Lib.hid (fun W (h : Below w9.heap.size w9 W) => (HR8'.out.below b9).below h)
        clear b9 BW8 HB8 HR8 HR8'
        go_wp2_with fail
        go_loopw [11] (fun i wr => ∃ j : Nat, j ≤ NX ∧ i = .int .i64 j ∧ Hid (Below w9.heap.size w9 wr)) (fun i _ => NX - (intOf i).toNat)
        case atStart => exact ⟨0, by omega, rfl, Below.refl _ _⟩
        case round =>
          obtain ⟨j, hj, rfl, HBJ⟩ := hrel
          by_cases hjN : j < NX
          · have hjx : j < LX.length := by rw [← HNX.out]; exact hjN
            obtain ⟨g6, o6, rfl, lg6, cg6⟩ := HR9.out wr HBJ.out |>.resolve_left (fun h => by rw [h] at hjx; simp at hjx)
            obtain ⟨g7, o7, rfl, lg7, cg7⟩ := HR9'.out wr HBJ.out |>.resolve_left (fun h => by rw [h] at hjx; simp at hjx)
            obtain ⟨y, hy⟩ : ∃ y, y = LX[j] := ⟨_, rfl⟩
            have h6 := cg6 j hjx
            have h7 := cg7 j hjx
            rw [← hy] at h6 h7
            have hneq2 := fun W => neqLotV y y W
            obtain ⟨y1, y2, y3, y4⟩ := y
            simp only [encLot, decide_true, Bool.not_true] at hneq2
            have p0 := h6 0 _ rfl
            have p1 := h6 1 _ rfl
            have p2 := h6 2 _ rfl
            have p3 := h6 3 _ rfl
            have q0 := h7 0 _ rfl
            have q1 := h7 1 _ rfl
            have q2 := h7 2 _ rfl
            have q3 := h7 3 _ rfl
            simp only [Nat.add_zero] at p0 q0
            have hj0 : (0 : Int) ≤ (j : Nat) := by omega
            have hj1 : ((j : Nat) : Int) < (NX : Nat) := by omega
            clear hy cg6 cg7 h6 h7
            go_wp2_with fail
            go_quiet (fail)
            go_wp2_with fail
            go_roundw
            case rel => exact ⟨j + 1, by omega, by go_num, below_drewN HBJ.out _⟩
            case measure => simp [intOf]; omega
          · obtain rfl : j = NX := by omega
            go_wp2_with fail
            go_roundw
            case rel => exact ⟨k + 1, by omega, by go_num, HB9.out.trans (HBJ.out.mono HB9.out.size)⟩
            case measure => simp [intOf]; omega
      · obtain rfl : k = NG := by omega
        have BW := Lib.hid (B1.out.trans (HB.out.mono B1.out.size))
        clear HR1 HLO HRO HHA HRH HSU HSA HRG
        go_wp2_with fail
        go_loopw [12] (fun i wr => ∃ j : Nat, j ≤ NL ∧ i = .int .i64 j ∧ Hid (Below w.heap.size w wr)) (fun i _ => NL - (intOf i).toNat)
        case atStart => exact ⟨0, by omega, rfl, BW.out⟩
        case round =>
          obtain ⟨j, hj, rfl, HBJ⟩ := hrel
          have cq := (HCQ.out wr HBJ.out).2.1
          by_cases hjN : j < NL
          · have hjx : j < B.2.1.length := by rw [← HNL.out]; exact hjN
            obtain ⟨g2, o2, rfl, lg2, cg2⟩ := HRL.out w (Below.refl _ _) |>.resolve_left (fun h => by rw [h] at hjx; simp at hjx)
            obtain ⟨y, hy⟩ : ∃ y, y = B.2.1[j] := ⟨_, rfl⟩
            obtain ⟨hf1, hf2⟩ := HFL.out j hjx
            rw [← hy] at hf1 hf2
            have hlk := HLT.out y.1.1 wr HBJ.out
            rw [hf1] at hlk
            have hhe := HHE.out y.1.1
            rw [hf2] at hhe
            have hc2 : ∀ W, Below w.heap.size w W → ∀ c v, (encLoH y)[c]? = some v → W.cell? ⟨g2, o2 + j * 5 + c, none⟩ = some v := fun W hb c v hv =>
              (hb.cell (p := ⟨g2, o2 + j * 5 + c, none⟩) lg2).trans (cg2 j hjx c v (by rw [← hy]; exact hv))
            have hneq2 := fun W => neqLotV y.1 y.1 W
            obtain ⟨⟨y1, y2, y3, y4⟩, yh⟩ := y
            simp only [encLot, decide_true, Bool.not_true, Option.getD_some, Option.isSome_some] at hneq2 hlk
            have HUQ : Hid (∀ W, Below w.heap.size w W → W.cell? ⟨q, 1, none⟩ = some (.slice (some ⟨g2, o2, none⟩) NL cL) ∧ W.cell? ⟨g2, o2 + j * 5, none⟩ = some (.string ⟨y1.toArray⟩) ∧ W.cell? ⟨g2, o2 + j * 5 + 1, none⟩ = some (.string ⟨y2.toArray⟩) ∧ W.cell? ⟨g2, o2 + j * 5 + 2, none⟩ = some (.int .i64 y3) ∧ W.cell? ⟨g2, o2 + j * 5 + 3, none⟩ = some (.int .i64 y4) ∧ W.cell? ⟨g2, o2 + j * 5 + 4, none⟩ = some (.int .i64 (yh : Nat))) := fun W hb => ⟨(HCQ.out W hb).2.1, hc2 W hb 0 _ rfl, hc2 W hb 1 _ rfl, hc2 W hb 2 _ rfl, hc2 W hb 3 _ rfl, hc2 W hb 4 _ rfl⟩
            have HLK := Lib.hid hlk
            have HHE1 := Lib.hid hhe
            have hj0 : (0 : Int) ≤ (j : Nat) := by omega
            have hj1 : ((j : Nat) : Int) < (NL : Nat) := by omega
            clear hy hf1 hf2 cg2 hc2 hlk hhe
            obtain ⟨-, e0, e1, e2, e3, e4⟩ := HUQ.out wr HBJ.out
            go_wp2_with fail
            refine HLK.out.mono ?_
            rintro e w5 ⟨rfl, b5⟩
            have B5 := Lib.hid (HBJ.out.trans (b5.mono HBJ.out.size))
            have hba := below_one w5 (.cells #[.string ⟨y1.toArray⟩, .string ⟨y2.toArray⟩, .int .i64 y3, .int .i64 y4] 47)
            have hbx := heap_alloc_new w5 (.cells #[.string ⟨y1.toArray⟩, .string ⟨y2.toArray⟩, .int .i64 y3, .int .i64 y4] 47)
            have B6 := Lib.hid (B5.out.trans (hba.mono B5.out.size))
            clear b5 HLK cq e0 e1 e2 e3 e4
            go_upto_region 26 with fail
            generalize w5.alloc (.cells #[.string ⟨y1.toArray⟩, .string ⟨y2.toArray⟩, .int .i64 y3, .int .i64 y4] 47) = w6 at hbx B6 hba ⊢
            have HUR : Hid (∀ W, Below w6.heap.size w6 W → (W.cell? ⟨q, 1, none⟩ = some (.slice (some ⟨g2, o2, none⟩) NL cL) ∧ W.cell? ⟨g2, o2 + j * 5, none⟩ = some (.string ⟨y1.toArray⟩) ∧ W.cell? ⟨g2, o2 + j * 5 + 1, none⟩ = some (.string ⟨y2.toArray⟩) ∧ W.cell? ⟨g2, o2 + j * 5 + 2, none⟩ = some (.int .i64 y3) ∧ W.cell? ⟨g2, o2 + j * 5 + 3, none⟩ = some (.int .i64 y4) ∧ W.cell? ⟨g2, o2 + j * 5 + 4, none⟩ = some (.int .i64 (yh : Nat))) ∧ W.cell? ⟨w5.heap.size, 0, none⟩ = some (.string ⟨y1.toArray⟩) ∧ W.cell? ⟨w5.heap.size, 1, none⟩ = some (.string ⟨y2.toArray⟩) ∧ W.cell? ⟨w5.heap.size, 2, none⟩ = some (.int .i64 y3) ∧ W.cell? ⟨w5.heap.size, 3, none⟩ = some (.int .i64 y4)) := fun W hb => by
              have h := (hb.block _ (row_lt hbx)).trans hbx
              exact ⟨HUQ.out W (B6.out.trans (hb.mono B6.out.size)), cell_of_row _ _ 0 _ _ _ h, cell_of_row _ _ 1 _ _ _ h, cell_of_row _ _ 2 _ _ _ h, cell_of_row _ _ 3 _ _ _ h⟩
            have hd := (Below.refl w6.heap.size w6).drew
            have hdd := B6.out.drew
            go_wp2_with fail
            go_region_held3 (fun W => (W.cell? ⟨q, 1, none⟩ = some (.slice (some ⟨g2, o2, none⟩) NL cL) ∧ W.cell? ⟨g2, o2 + j * 5, none⟩ = some (.string ⟨y1.toArray⟩) ∧ W.cell? ⟨g2, o2 + j * 5 + 1, none⟩ = some (.string ⟨y2.toArray⟩) ∧ W.cell? ⟨g2, o2 + j * 5 + 2, none⟩ = some (.int .i64 y3) ∧ W.cell? ⟨g2, o2 + j * 5 + 3, none⟩ = some (.int .i64 y4) ∧ W.cell? ⟨g2, o2 + j * 5 + 4, none⟩ = some (.int .i64 (yh : Nat))) ∧ W.cell? ⟨w5.heap.size, 0, none⟩ = some (.string ⟨y1.toArray⟩) ∧ W.cell? ⟨w5.heap.size, 1, none⟩ = some (.string ⟨y2.toArray⟩) ∧ W.cell? ⟨w5.heap.size, 2, none⟩ = some (.int .i64 y3) ∧ W.cell? ⟨w5.heap.size, 3, none⟩ = some (.int .i64 y4))
              (first | exact HUR.out _ hd | go_keep)
              (first | (go_at_call 23; refine (HHE1.out _ hdd).mono ?_; rintro e v ⟨rfl, rfl⟩))
            all_goals
              clear HUR HHE1 hbx hba
              go_wp2_with fail
              go_roundw
              case rel => exact ⟨j + 1, by omega, by go_num, hdd⟩
              case measure => simp [intOf]; omega
          · obtain rfl : j = NL := by omega
            go_wp2_with fail
            go_ret
            exact ⟨rfl, HBJ.out⟩
end Go.Proofs.YtgllddebodfhkaaGreatDoor
