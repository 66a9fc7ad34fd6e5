/- Cost: the document's CostOf. Printed by gen/rcoof.py. -/
import Derived.Deep.CutBlock
import Derived.Test.YtphgakobfegpcaaGreatDoorM36
import Derived.Test.YtphgakobfegpcaaGreatDoorM38
import Derived.Test.YtphgakobfegpcaaGreatDoorLCostOf05
import Derived.Test.YtphgakobfegpcaaGreatDoorLCostOf07
namespace Go.Proofs.YtphgakobfegpcaaGreatDoor
open Go.RowKit Go.Sort Go.Proofs

/-- What CostOf leaves. -/
def RCoAt (n : Nat) (code : List UInt8) (r : (BkV × Ls × Int) ⊕ (Nat × Nat)) (e : Ending) (w' : World) : Prop :=
  match r with
  | .inr f => e = .returned (.tuple #[.pointer none, .int .i64 0, .agg #[.int .i64 (f.1 : Nat), .int .i64 (f.2 : Nat)]])
  | .inl (B, ls, a) => if (fG B code).isSome = true then ∃ p g, e = .returned (.tuple #[.pointer (some ⟨p, 0, none⟩), .int .i64 a, .agg #[.int .i64 0, .int .i64 (-1)]]) ∧ LayR w' p g ls ∧ n ≤ p ∧ n ≤ g
    else e = .returned (.tuple #[.pointer none, .int .i64 0, .agg #[.int .i64 6, .int .i64 (-1)]])
theorem coLot_at {B : BkV} {code : List UInt8} {x : EntV} {y : LoH} (h : fL B x.2.2.1.1 = some y) : (y.1.2.1 ≠ code → coLot B code x = none) ∧ (y.1.2.1 = code → coLot B code x = some y.1) := by
  unfold coLot
  rw [h]
  exact ⟨fun hc => by simp [Option.filter, hc], fun hc => by simp [Option.filter, hc]⟩

set_option maxHeartbeats 6400000 in
set_option maxRecDepth 100000 in
theorem rcostOf_any (A : Option Addr) (cap : Nat) (l : List EntV) (code : List UInt8) (w : World) (hrow : RowAt encEnt 14 w A l) (hl : l.length ≤ 1000) (hs : ∀ x ∈ l, ShortE x) :
    Calls Tryz.prog 12 #[.slice A l.length cap, .string ⟨code.toArray⟩] w fun e w' => RCoAt w.heap.size code (coGo code bk0 [] 0 0 l) e w' ∧ Below w.heap.size w w' := by
  have HR := Lib.hid (fun W (h : Below w.heap.size w W) => hrow.below h)
  have HSH := Lib.hid hs
  have HST := Lib.hid (coGo_step code)
  obtain ⟨r, hr⟩ : ∃ r, r = coGo code bk0 [] 0 0 l := ⟨_, rfl⟩
  have HR0 := Lib.hid hr
  rw [← hr]
  obtain ⟨N, hN⟩ : ∃ N, N = l.length := ⟨_, rfl⟩
  have HN := Lib.hid hN
  rw [← hN] at hl ⊢
  obtain ⟨h0, h1, h2⟩ := heap3 w (.cells #[.int .i64 0, .int .i64 0] 32) (.cells #[.slice none 0 0, .slice none 0 0, .slice none 0 0] 106) (.cells #[.slice none 0 0] 109)
  have b0 : Below w.heap.size w (((w.alloc (.cells #[.int .i64 0, .int .i64 0] 32)).alloc (.cells #[.slice none 0 0, .slice none 0 0, .slice none 0 0] 106)).alloc (.cells #[.slice none 0 0] 109)) := ((below_one w _).alloc (by simp) _).alloc (by simp; omega) _
  have B0 := Lib.hid b0
  have HO0 := Lib.hid h0
  have HM0 := Lib.hid (MBk.nil h1)
  have HL0 : Hid (LayR (((w.alloc (.cells #[.int .i64 0, .int .i64 0] 32)).alloc (.cells #[.slice none 0 0, .slice none 0 0, .slice none 0 0] 106)).alloc (.cells #[.slice none 0 0] 109)) (w.heap.size + 2) (w.heap.size + 2) []) := .inl ⟨rfl, rfl, h2⟩
  clear hrow hs hN hr h0 h1 h2 b0
  go_enter Tryz.func12, Tryz.ntmps12
  go_upto_region 3 with fail
  generalize (((w.alloc (.cells #[.int .i64 0, .int .i64 0] 32)).alloc (.cells #[.slice none 0 0, .slice none 0 0, .slice none 0 0] 106)).alloc (.cells #[.slice none 0 0] 109)) = W0 at B0 HO0 HM0 HL0 ⊢
  go_wp2_with fail
  go_loopw [9, 10] (fun al i wr => ∃ (k : Nat) (Bk : BkV) (ls : Ls) (a : Int), k ≤ N ∧ i = .int .i64 k ∧ al = .int .i64 a ∧ Hid (IsI a) ∧ Hid (r = coGo code Bk ls a k (l.drop k)) ∧ Hid (BkI Bk) ∧ Hid (OkL ls ∧ ls.length ≤ k) ∧
    Hid (∃ G R g, MBk wr (w.heap.size + 1) G R Bk ∧ LayR wr (w.heap.size + 2) g ls ∧ (∀ j ∈ G, w.heap.size + 1 ≤ j ∧ j ≠ w.heap.size + 2 ∧ j ≠ g) ∧ (∀ j ∈ R, w.heap.size + 1 ≤ j ∧ j ≠ w.heap.size + 2 ∧ j ≠ g) ∧ w.heap.size + 1 ≤ g) ∧
    Hid (wr.heap[w.heap.size]? = some (.cells #[.int .i64 0, .int .i64 0] 32 (0, 0))) ∧ Hid (Below w.heap.size w wr)) (fun _ i _ => N - (intOf i).toNat)
  case atStart => exact ⟨0, bk0, [], 0, by omega, rfl, rfl, (by show IsI 0; unfold IsI; omega), HR0.out, BkI.nil, ⟨⟨by simp [hasL], by simp, by simp⟩, by simp⟩, ⟨_, _, _, HM0.out, HL0.out, fun j hj => by simp only [List.mem_singleton] at hj; omega, fun j hj => by simp at hj, by omega⟩, HO0.out, B0.out⟩
  case round =>
    obtain ⟨k, Bk, ls, a, hk, rfl, rfl, HIA, HRK, HBI, HOL, HBL, HOR, HB⟩ := hrel
    by_cases hkN : k < N
    · have hkx : k < l.length := by rw [← HN.out]; exact hkN
      obtain ⟨G, R, gl, hbk, hlay, hG, hR, hgl⟩ := HBL.out
      obtain ⟨g, o, rfl, lg, cg⟩ := HR.out wr HB.out |>.resolve_left (fun h => by rw [h] at hkx; simp at hkx)
      obtain ⟨x, hx⟩ : ∃ x, x = l[k] := ⟨_, rfl⟩
      have hlies : Lies wr g (o + k * 14) (encEnt x) := fun j v hv => cg k hkx j v (by rw [← hx]; exact hv)
      have hsx := HSH.out x (by rw [hx]; exact List.getElem_mem hkx)
      have hst := HST.out Bk ls a l k hkx
      rw [← hx] at hst
      have HRK1 := Lib.hid (HRK.out.trans hst)
      have hba := below_one wr (.cells #[.string ⟨#[]⟩, .string ⟨#[]⟩, .int .i64 0, .string ⟨#[]⟩, .string ⟨#[]⟩, .int .i64 0, .int .i64 0, .string ⟨#[]⟩, .int .i64 0, .int .i64 0, .string ⟨#[]⟩, .int .i64 0, .int .i64 0, .int .i64 0] 69)
      have HD := Lib.hid (fun W (hb : Below wr.heap.size wr W) => refDo_any x (hbk.below hb) HBI.out hsx)
      have HC0' := Lib.hid (fun h => coLot_none (B := doB Bk x) (code := code) (x := x) h ls)
      have HC1 := Lib.hid (fun y h => coLot_some (B := doB Bk x) (code := code) (x := x) (y := y) h ls)
      have HCA := Lib.hid (fun y (h : fL (doB Bk x) x.2.2.1.1 = some y) => coLot_at (code := code) h)
      have HCN : Hid (fL (doB Bk x) x.2.2.1.1 = none → coLot (doB Bk x) code x = none) := fun h => by unfold coLot; rw [h]; rfl
      have HSO := Lib.hid (coS_ok (B := doB Bk x) (code := code) (x := x) HOL.out.1)
      have HBN := Lib.hid (HBI.out.do_ x)
      have HIX := Lib.hid (idxL (doB Bk x) x.2.2.1.1)
      have hlen6 : ls.length ≤ 1000000 := by have := HOL.out.2; omega
      have HIN := Lib.hid (fun n c W h => rin_gen (w.heap.size + 2) gl ls n c W h HOL.out.1 hlen6)
      have HOUT := Lib.hid (fun n W h => rout_gen (w.heap.size + 2) gl ls n W h HOL.out.1 hlen6)
      have HLT := Lib.hid hbk.lt
      have hplt := hlay.lt
      have HLL := Lib.hid hlay
      have HL := Lib.hid hlies
      have HGG := Lib.hid (And.intro hG (And.intro hR hgl))
      have h14 : (encEnt x).length = 14 := rfl
      have HE1 := Lib.hid (encEnt_one x)
      have hc0 : (encEnt x)[0]? = some (.string ⟨x.1.toArray⟩) := rfl
      have hc3 : (encEnt x)[3]? = some (.string ⟨x.2.2.1.1.toArray⟩) := rfl
      have hc13 : (encEnt x)[13]? = some (.int .i64 x.2.2.2.2.2) := rfl
      obtain ⟨kd, hkd0⟩ : ∃ kd, kd = x.1 := ⟨_, rfl⟩
      obtain ⟨n, hn0⟩ : ∃ n, n = x.2.2.2.2.2 := ⟨_, rfl⟩
      have HKD : Hid (x.1 = kd) := hkd0.symm
      have HNN : Hid (x.2.2.2.2.2 = n) := hn0.symm
      rw [← hkd0] at hc0
      rw [← hn0] at hc13
      have HC0 := Lib.hid hc0
      have HC13 := Lib.hid hc13
      have hk0 : (0 : Int) ≤ (k : Nat) := by omega
      have hk1 : ((k : Nat) : Int) < (N : Nat) := by omega
      clear hx cg hlies hbk hlay hG hR hgl hst HBL HRK hsx hlen6 hkd0 hn0 hc0 hc13
      generalize doE Bk x = de at HRK1 HD
      generalize doB Bk x = Bn at HRK1 HD HC0' HC1 HCA HCN HSO HBN HIX
      generalize x.2.2.1.1 = id at HCA HCN HIX hc3
      generalize encEnt x = LX at HL HD h14 HE1 hc3 HC0 HC13
      go_upto_region 8 with (first | (refine wpList_load_at rfl 69 _ rfl g (o + k * 14) rfl LX HL.out _ Tryz.underlying69 rfl (by rw [h14]; kernel_rfl) ?_) | (refine wpList_store_box rfl 69 _ _ rfl wr.heap.size LX rfl rfl _ [.string ⟨#[]⟩, .string ⟨#[]⟩, .int .i64 0, .string ⟨#[]⟩, .string ⟨#[]⟩, .int .i64 0, .int .i64 0, .string ⟨#[]⟩, .int .i64 0, .int .i64 0, .string ⟨#[]⟩, .int .i64 0, .int .i64 0, .int .i64 0] (heap_alloc_new wr _) (by rw [h14]; kernel_rfl) (by rw [h14]; rfl) HE1.out ?_; intro w5 h5 tu5))
      have b5 := hba.trans (tu5.below (Nat.le_refl _))
      have B5 := Lib.hid (HB.out.trans (b5.mono HB.out.size))
      have H5 := Lib.hid h5
      have HD5 := Lib.hid (HD.out w5 b5)
      have HL5 := Lib.hid (HLL.out.below b5)
      have HO5 := Lib.hid ((b5.block _ (row_lt HOR.out)).trans HOR.out)
      have hz5 := row_lt h5
      have hzs := b5.size
      clear b5 tu5 hba HD HLL HL HOR h5
      go_upto_region 9 with (refine wpList_load_at rfl 69 _ rfl wr.heap.size 0 rfl LX (Lies.row _ H5.out) _ Tryz.underlying69 rfl (by rw [h14]; kernel_rfl) ?_)
      refine HD5.out.mono ?_
      rintro e w6 ⟨rfl, ⟨G6, R6, hm6, hg6, hr6⟩, bf6⟩
      have hnG : wr.heap.size ∉ G := fun h => by have := HLT.out.1 _ h; omega
      have h6 := (bf6.block _ hz5 hnG).trans H5.out
      have B6 := Lib.hid (B5.out.trans (bf6.below B5.out.size (fun i hi => by have := HGG.out.1 i hi; omega)))
      have HL6 := Lib.hid (HL5.out.butF bf6 (fun h => (HGG.out.1 _ h).2.1 rfl) (fun h => (HGG.out.1 _ h).2.2 rfl))
      have HO6 := Lib.hid ((bf6.block _ (row_lt HO5.out) (fun h => by have := (HGG.out.1 _ h).1; omega)).trans HO5.out)
      have H6 := Lib.hid h6
      have hz6 := bf6.size
      have HM6 := Lib.hid hm6
      have HFR6 : Hid ((∀ j ∈ G6, w.heap.size + 1 ≤ j ∧ j ≠ w.heap.size + 2 ∧ j ≠ gl) ∧ (∀ j ∈ R6, w.heap.size + 1 ≤ j ∧ j ≠ w.heap.size + 2 ∧ j ≠ gl) ∧ w.heap.size + 1 ≤ gl) := by
        have hl5 := HL5.out.lt
        refine ⟨fun j hj => ?_, fun j hj => ?_, HGG.out.2.2⟩
        · rcases hg6 j hj with h | h
          · exact HGG.out.1 j h
          · omega
        · rcases hr6 j hj with h | h
          · exact HGG.out.2.1 j h
          · omega
      have hid6 : w6.cell? ⟨wr.heap.size, 3, none⟩ = some (.string ⟨id.toArray⟩) := (cell_of_row _ _ _ _ _ _ h6).trans (by simpa using hc3)
      have HFI := Lib.hid (refFindL hm6 HBN.out id)
      clear hm6 hg6 hr6 bf6 h6 HD5 HL5 HGG HLT H5 hnG HO5 hc3 B5
      go_wp2_with fail
      refine HFI.out.mono ?_
      rintro e w7 ⟨rfl, b7⟩
      have B7 := Lib.hid (B6.out.trans (b7.mono B6.out.size))
      have H7 := Lib.hid ((b7.block _ (by omega)).trans H6.out)
      have HL7 := Lib.hid (HL6.out.below b7)
      have HM7 := Lib.hid (HM6.out.below b7)
      have HO7 := Lib.hid ((b7.block _ (row_lt HO6.out)).trans HO6.out)
      have hz7 := b7.size
      clear b7 hid6 HFI H6 HL6 HM6 HO6 B6
      by_cases h0 : de = 0
      · have hdi : ((de : Nat) : Int) = 0 := by omega
        have HRK2 := Lib.hid (HRK1.out.trans (if_neg (by simpa using h0)))
        rw [hdi]
        clear HRK1 h0 hdi
        have stay : ∀ W, Below w7.heap.size w7 W → coLot Bn code x = none → Hid (∃ (k' : Nat) (Bk : BkV) (ls : Ls) (a' : Int), k' ≤ N ∧ (Value.int .i64 ((k : Int) + 1)) = .int .i64 k' ∧ (Value.int .i64 a) = .int .i64 a' ∧ Hid (IsI a') ∧ Hid (r = coGo code Bk ls a' k' (l.drop k')) ∧ Hid (BkI Bk) ∧ Hid (OkL ls ∧ ls.length ≤ k') ∧
            Hid (∃ G R g, MBk W (w.heap.size + 1) G R Bk ∧ LayR W (w.heap.size + 2) g ls ∧ (∀ j ∈ G, w.heap.size + 1 ≤ j ∧ j ≠ w.heap.size + 2 ∧ j ≠ g) ∧ (∀ j ∈ R, w.heap.size + 1 ≤ j ∧ j ≠ w.heap.size + 2 ∧ j ≠ g) ∧ w.heap.size + 1 ≤ g) ∧
            Hid (W.heap[w.heap.size]? = some (.cells #[.int .i64 0, .int .i64 0] 32 (0, 0))) ∧ Hid (Below w.heap.size w W)) := fun W hb hc => by
          obtain ⟨c1, c2, c3⟩ := HC0'.out hc
          have h := HRK2.out
          rw [c1, c2, c3, if_neg (by simp), HIA.out.wrap] at h
          refine ⟨k + 1, Bn, ls, a, by omega, by congr 1, rfl, HIA.out, h, HBN.out, ⟨HOL.out.1, by have := HOL.out.2; omega⟩, ⟨G6, R6, gl, HM7.out.below hb, HL7.out.below hb, HFR6.out⟩, (hb.block _ (row_lt HO7.out)).trans HO7.out, B7.out.trans (hb.mono B7.out.size)⟩
        have HSTAY := Lib.hid stay
        clear stay
        rcases HIX.out with ⟨hf, hix⟩ | ⟨i, hi, hf, hix, -⟩
        · have HS := Lib.hid (HSTAY.out w7 (Below.refl _ _) (HCN.out hf))
          rw [hix]
          clear hf hix HSTAY HCN HCA HC0' HC1 HIX
          go_wp2_with fail
          go_roundw
          case rel => exact HS.out
          case measure => simp [intOf]; omega
        · rw [hix]
          obtain ⟨AL, cL, hcq, hrL⟩ := HM7.out.lotsAt
          obtain ⟨gL, oL, rfl, lgL, cgL⟩ := hrL.resolve_left (fun h => by rw [h] at hi; simp at hi)
          obtain ⟨NL, hNL⟩ : ∃ NL, NL = Bn.2.1.length := ⟨_, rfl⟩
          rw [← hNL] at hcq
          have hi0 : (0 : Int) ≤ (i : Nat) := by omega
          have hi1 : ((i : Nat) : Int) < (NL : Nat) := by omega
          obtain ⟨y, hy⟩ : ∃ y, y = Bn.2.1[i] := ⟨_, rfl⟩
          have hly : Lies w7 gL (oL + i * 5) (encLot y.1) := fun j v hv => cgL i hi j v (by
            rw [← hy]
            have hj : j < 4 := (List.getElem?_eq_some_iff.1 hv).1
            rcases (show j = 0 ∨ j = 1 ∨ j = 2 ∨ j = 3 by omega) with rfl | rfl | rfl | rfl
            all_goals exact hv)
          rw [← hy] at hf
          obtain ⟨ca, cb⟩ := HCA.out y hf
          obtain ⟨z, hz⟩ : ∃ z, z = y.1 := ⟨_, rfl⟩
          rw [← hz] at hly ca cb
          have HLY := Lib.hid hly
          have HCA1 := Lib.hid ca
          have HCB1 := Lib.hid cb
          have hz4 : (encLot z).length = 4 := rfl
          have HZ1 := Lib.hid (encLot_one z)
          have hba8 := below_one w7 (.cells #[.string ⟨#[]⟩, .string ⟨#[]⟩, .int .i64 0, .int .i64 0] 65)
          obtain ⟨LZ, hLZ⟩ : ∃ LZ, LZ = encLot z := ⟨_, rfl⟩
          have HLZ := Lib.hid hLZ
          rw [← hLZ] at hz4 HZ1 HLY
          clear hf hix hrL cgL hy hly ca cb hz hLZ HIX HCA HCN hNL hi
          go_upto_region 12 with (first | (refine wpList_load_at rfl 65 _ rfl gL (oL + i * 5) rfl LZ HLY.out _ Tryz.underlying65 rfl (by rw [hz4]; kernel_rfl) ?_) | (refine wpList_store_box rfl 65 _ _ rfl w7.heap.size LZ rfl rfl _ [.string ⟨#[]⟩, .string ⟨#[]⟩, .int .i64 0, .int .i64 0] (heap_alloc_new w7 _) (by rw [hz4]; kernel_rfl) (by rw [hz4]; rfl) HZ1.out ?_; intro w8 h8 tu8))
          have b8 := hba8.trans (tu8.below (Nat.le_refl _))
          have B8 := Lib.hid (B7.out.trans (b8.mono B7.out.size))
          have H8 := Lib.hid ((b8.block _ (by omega)).trans H7.out)
          have HL8 := Lib.hid (HL7.out.below b8)
          have HM8 := Lib.hid (HM7.out.below b8)
          have HO8 := Lib.hid ((b8.block _ (row_lt HO7.out)).trans HO7.out)
          have HY8 := Lib.hid h8
          have HB78 := Lib.hid b8
          have e0 : w8.cell? ⟨wr.heap.size, 0, none⟩ = some (.string ⟨kd.toArray⟩) := (cell_of_row _ _ _ _ _ _ H8.out).trans (by simpa using HC0.out)
          have e13 : w8.cell? ⟨wr.heap.size, 13, none⟩ = some (.int .i64 n) := (cell_of_row _ _ _ _ _ _ H8.out).trans (by simpa using HC13.out)
          have e1 : w8.cell? ⟨w7.heap.size, 1, none⟩ = some (.string ⟨z.2.1.toArray⟩) := (cell_of_row _ _ _ _ _ _ HY8.out).trans (by rw [HLZ.out]; rfl)
          have e3 : w8.cell? ⟨w7.heap.size, 3, none⟩ = some (.int .i64 z.2.2.2) := (cell_of_row _ _ _ _ _ _ HY8.out).trans (by rw [HLZ.out]; rfl)
          have hpg := HFR6.out.2.2
          have hl7 := HL7.out.lt
          clear b8 tu8 hba8 h8 H7 hcq
          by_cases hcm : z.2.1 = code
          · have hcb : (z.2.1 == code) = true := by simpa using hcm
            obtain ⟨c1, c2, c3⟩ := HC1.out z (HCB1.out hcm)
            have h := HRK2.out
            have hso := HSO.out
            rw [c1, c2, c3] at h
            rw [c2] at hso
            have HSO2 := Lib.hid hso
            have HRK3 := Lib.hid h
            clear h hso c1 c2 c3 hcm HCA1 HCB1 HC0' HC1 HSO HRK2 HSTAY HB78 HL7 HM7 HO7 B7 HLY
            by_cases hkd : kd = kIn
            · have b0 : (kd == [105, 110]) = true := by rw [hkd]; rfl
              have b1 : (kd == [109, 111, 114, 101]) = false := by rw [hkd]; rfl
              have b2 : (kd == [111, 117, 116]) = false := by rw [hkd]; rfl
              have b3 : (kd == [108, 101, 115, 115]) = false := by rw [hkd]; rfl
              have hfE : flowE ls x z.2.2.2 = inE ls n z.2.2.2 := by
                unfold flowE
                rw [HKD.out, hkd, HNN.out]
                rw [if_pos (by decide)]
              have hfS : flowS ls x z.2.2.2 = inS ls n z.2.2.2 := by
                unfold flowS
                rw [HKD.out, hkd, HNN.out]
                rw [if_pos (by decide)]
              have hfN : flowN ls x = 0 := by
                unfold flowN
                rw [HKD.out, hkd]
                rw [if_pos (by decide)]
              have h := HRK3.out
              have hso := HSO2.out
              rw [hfE, hfS, hfN] at h
              rw [hfS] at hso
              rw [HIA.out.wrap] at h
              have HRK4 := Lib.hid h
              have HSO3 := Lib.hid hso
              clear h hso hfE hfS hfN HRK3 HSO2 hkd HKD HNN
              have HF8 := Lib.hid (HIN.out n z.2.2.2 w8 HL8.out)
              clear HIN HOUT
              generalize inE ls n z.2.2.2 = fe at HF8 HRK4
              generalize inS ls n z.2.2.2 = fs at HF8 HRK4 HSO3
              go_wp2_with fail
              refine HF8.out.mono ?_
              rintro e w9 ⟨rfl, g9, hl9, ho9, hg9⟩
              have HB9 : Hid (Below w.heap.size w w9) := B8.out.trans ((onlyF ho9).below B8.out.size (by
                intro i hi
                simp only [List.mem_cons, List.not_mem_nil, or_false] at hi
                have := HFR6.out.2.2
                omega))
              have HL9 := Lib.hid hl9
              have HM9 := Lib.hid (HM8.out.butF (onlyF ho9) (fun j hj hm => by
                simp only [List.mem_cons, List.not_mem_nil, or_false] at hm
                have := HFR6.out.1 j hj
                omega) (fun j hj hm => by
                simp only [List.mem_cons, List.not_mem_nil, or_false] at hm
                have := HFR6.out.2.1 j hj
                omega))
              have HO9 := Lib.hid ((ho9.block w.heap.size (row_lt HO8.out) (by omega) (by have := HFR6.out.2.2; omega)).trans HO8.out)
              have HFR9 : Hid ((∀ j ∈ G6, w.heap.size + 1 ≤ j ∧ j ≠ w.heap.size + 2 ∧ j ≠ g9) ∧ (∀ j ∈ R6, w.heap.size + 1 ≤ j ∧ j ≠ w.heap.size + 2 ∧ j ≠ g9) ∧ w.heap.size + 1 ≤ g9) := by
                have hlt := HM8.out.lt
                have hz8 := row_lt HO8.out
                have hg := HFR6.out.2.2
                refine ⟨fun j hj => ?_, fun j hj => ?_, by omega⟩
                · have h1 := HFR6.out.1 j hj
                  have h2 := hlt.1 j hj
                  omega
                · have h1 := HFR6.out.2.1 j hj
                  have h2 := hlt.2 j hj
                  omega
              have e0' := (ho9.block wr.heap.size (row_lt H8.out) (by omega) (by omega)).trans H8.out
              have x1' := (ho9.block w7.heap.size (row_lt HY8.out) (by omega) (by omega)).trans HY8.out
              have e0 : w9.cell? ⟨wr.heap.size, 0, none⟩ = some (.string ⟨kd.toArray⟩) := (cell_of_row _ _ _ _ _ _ e0').trans (by simpa using HC0.out)
              have e1 : w9.cell? ⟨w7.heap.size, 1, none⟩ = some (.string ⟨z.2.1.toArray⟩) := (cell_of_row _ _ _ _ _ _ x1').trans (by rw [HLZ.out]; rfl)
              clear hl9 ho9 hg9 HF8 HL8 HM8 HO8 e0' x1' H8 HY8
              by_cases hfe : fe = 0
              · have hfi : ((fe : Nat) : Int) = 0 := by omega
                rw [hfi]
                have HRK5 := Lib.hid (HRK4.out.trans (if_neg (by simpa using hfe)))
                clear hfe hfi HRK4
                go_wp2_with fail
                go_roundw
                case rel => exact ⟨k + 1, Bn, fs, a, by omega, by go_num, rfl, HIA.out, HRK5.out, HBN.out, ⟨HSO3.out.1, by have := HSO3.out.2; have := HOL.out.2; omega⟩, ⟨G6, R6, g9, HM9.out, HL9.out, HFR9.out⟩, HO9.out, HB9.out⟩
                case measure => simp [intOf]; omega
              · have HRK5 := Lib.hid (HRK4.out.trans (if_pos hfe))
                clear HRK4
                have hpos : (0 : Int) < ((fe : Nat) : Int) := by omega
                have hdf : (((fe : Nat) : Int) == 0) = false := by simp; omega
                go_wp2_with (refine wpList_store_box rfl 32 _ _ rfl w.heap.size [.int .i64 (fe : Nat), .int .i64 (k : Nat)] rfl rfl 32 [.int .i64 0, .int .i64 0] HO9.out (by kernel_rfl) rfl (by simp [Value.oneCell']) ?_; intro wf hf tf)
                (try simp only [Exit.inBlock, Exit.then])
                refine bodyPost_ret (results_ttc rfl _ _ w.heap.size 32 #[.int .i64 (fe : Nat), .int .i64 (k : Nat)] (0, 0) _ rfl hf Tryz.underlying32 rfl (by kernel_rfl)) rfl ?_
                rw [HRK5.out]
                exact ⟨rfl, HB9.out.trans (tf.below (Nat.le_refl _))⟩
            by_cases hkd1 : kd = kMore
            · have b0 : (kd == [105, 110]) = false := by rw [hkd1]; rfl
              have b1 : (kd == [109, 111, 114, 101]) = true := by rw [hkd1]; rfl
              have b2 : (kd == [111, 117, 116]) = false := by rw [hkd1]; rfl
              have b3 : (kd == [108, 101, 115, 115]) = false := by rw [hkd1]; rfl
              have hfE : flowE ls x z.2.2.2 = inE ls n z.2.2.2 := by
                unfold flowE
                rw [HKD.out, hkd1, HNN.out]
                rw [if_pos (by decide)]
              have hfS : flowS ls x z.2.2.2 = inS ls n z.2.2.2 := by
                unfold flowS
                rw [HKD.out, hkd1, HNN.out]
                rw [if_pos (by decide)]
              have hfN : flowN ls x = 0 := by
                unfold flowN
                rw [HKD.out, hkd1]
                rw [if_pos (by decide)]
              have h := HRK3.out
              have hso := HSO2.out
              rw [hfE, hfS, hfN] at h
              rw [hfS] at hso
              rw [HIA.out.wrap] at h
              have HRK4 := Lib.hid h
              have HSO3 := Lib.hid hso
              clear h hso hfE hfS hfN HRK3 HSO2 hkd1 HKD HNN
              have HF8 := Lib.hid (HIN.out n z.2.2.2 w8 HL8.out)
              clear HIN HOUT
              generalize inE ls n z.2.2.2 = fe at HF8 HRK4
              generalize inS ls n z.2.2.2 = fs at HF8 HRK4 HSO3
              go_wp2_with fail
              refine HF8.out.mono ?_
              rintro e w9 ⟨rfl, g9, hl9, ho9, hg9⟩
              have HB9 : Hid (Below w.heap.size w w9) := B8.out.trans ((onlyF ho9).below B8.out.size (by
                intro i hi
                simp only [List.mem_cons, List.not_mem_nil, or_false] at hi
                have := HFR6.out.2.2
                omega))
              have HL9 := Lib.hid hl9
              have HM9 := Lib.hid (HM8.out.butF (onlyF ho9) (fun j hj hm => by
                simp only [List.mem_cons, List.not_mem_nil, or_false] at hm
                have := HFR6.out.1 j hj
                omega) (fun j hj hm => by
                simp only [List.mem_cons, List.not_mem_nil, or_false] at hm
                have := HFR6.out.2.1 j hj
                omega))
              have HO9 := Lib.hid ((ho9.block w.heap.size (row_lt HO8.out) (by omega) (by have := HFR6.out.2.2; omega)).trans HO8.out)
              have HFR9 : Hid ((∀ j ∈ G6, w.heap.size + 1 ≤ j ∧ j ≠ w.heap.size + 2 ∧ j ≠ g9) ∧ (∀ j ∈ R6, w.heap.size + 1 ≤ j ∧ j ≠ w.heap.size + 2 ∧ j ≠ g9) ∧ w.heap.size + 1 ≤ g9) := by
                have hlt := HM8.out.lt
                have hz8 := row_lt HO8.out
                have hg := HFR6.out.2.2
                refine ⟨fun j hj => ?_, fun j hj => ?_, by omega⟩
                · have h1 := HFR6.out.1 j hj
                  have h2 := hlt.1 j hj
                  omega
                · have h1 := HFR6.out.2.1 j hj
                  have h2 := hlt.2 j hj
                  omega
              have e0' := (ho9.block wr.heap.size (row_lt H8.out) (by omega) (by omega)).trans H8.out
              have x1' := (ho9.block w7.heap.size (row_lt HY8.out) (by omega) (by omega)).trans HY8.out
              have e0 : w9.cell? ⟨wr.heap.size, 0, none⟩ = some (.string ⟨kd.toArray⟩) := (cell_of_row _ _ _ _ _ _ e0').trans (by simpa using HC0.out)
              have e1 : w9.cell? ⟨w7.heap.size, 1, none⟩ = some (.string ⟨z.2.1.toArray⟩) := (cell_of_row _ _ _ _ _ _ x1').trans (by rw [HLZ.out]; rfl)
              clear hl9 ho9 hg9 HF8 HL8 HM8 HO8 e0' x1' H8 HY8
              by_cases hfe : fe = 0
              · have hfi : ((fe : Nat) : Int) = 0 := by omega
                rw [hfi]
                have HRK5 := Lib.hid (HRK4.out.trans (if_neg (by simpa using hfe)))
                clear hfe hfi HRK4
                go_wp2_with fail
                go_roundw
                case rel => exact ⟨k + 1, Bn, fs, a, by omega, by go_num, rfl, HIA.out, HRK5.out, HBN.out, ⟨HSO3.out.1, by have := HSO3.out.2; have := HOL.out.2; omega⟩, ⟨G6, R6, g9, HM9.out, HL9.out, HFR9.out⟩, HO9.out, HB9.out⟩
                case measure => simp [intOf]; omega
              · have HRK5 := Lib.hid (HRK4.out.trans (if_pos hfe))
                clear HRK4
                have hpos : (0 : Int) < ((fe : Nat) : Int) := by omega
                have hdf : (((fe : Nat) : Int) == 0) = false := by simp; omega
                go_wp2_with (refine wpList_store_box rfl 32 _ _ rfl w.heap.size [.int .i64 (fe : Nat), .int .i64 (k : Nat)] rfl rfl 32 [.int .i64 0, .int .i64 0] HO9.out (by kernel_rfl) rfl (by simp [Value.oneCell']) ?_; intro wf hf tf)
                (try simp only [Exit.inBlock, Exit.then])
                refine bodyPost_ret (results_ttc rfl _ _ w.heap.size 32 #[.int .i64 (fe : Nat), .int .i64 (k : Nat)] (0, 0) _ rfl hf Tryz.underlying32 rfl (by kernel_rfl)) rfl ?_
                rw [HRK5.out]
                exact ⟨rfl, HB9.out.trans (tf.below (Nat.le_refl _))⟩
            by_cases hkd2 : kd = kOut
            · have b0 : (kd == [105, 110]) = false := by rw [hkd2]; rfl
              have b1 : (kd == [109, 111, 114, 101]) = false := by rw [hkd2]; rfl
              have b2 : (kd == [111, 117, 116]) = true := by rw [hkd2]; rfl
              have b3 : (kd == [108, 101, 115, 115]) = false := by rw [hkd2]; rfl
              have hfE : flowE ls x z.2.2.2 = outE ls n := by
                unfold flowE
                rw [HKD.out, hkd2, HNN.out]
                rw [if_neg (by decide), if_pos (by decide)]
              have hfS : flowS ls x z.2.2.2 = outS ls n := by
                unfold flowS
                rw [HKD.out, hkd2, HNN.out]
                rw [if_neg (by decide), if_pos (by decide)]
              have hfN : flowN ls x = outN ls n := by
                unfold flowN
                rw [HKD.out, hkd2, HNN.out]
                rw [if_neg (by decide), if_pos (by decide)]
              have h := HRK3.out
              have hso := HSO2.out
              rw [hfE, hfS, hfN] at h
              rw [hfS] at hso
              have HRK4 := Lib.hid h
              have HSO3 := Lib.hid hso
              clear h hso hfE hfS hfN HRK3 HSO2 hkd2 HKD HNN
              have HF8 := Lib.hid (HOUT.out n w8 HL8.out)
              clear HIN HOUT
              generalize outE ls n = fe at HF8 HRK4
              generalize outS ls n = fs at HF8 HRK4 HSO3
              generalize outN ls n = fn at HF8 HRK4
              obtain ⟨a2, ha2⟩ : ∃ a2, a2 = IntKind.i64.wrap (a + (fn : Nat)) := ⟨_, rfl⟩
              have HIA2 : Hid (IsI a2) := by show IsI a2; rw [ha2]; exact wrap_isI _
              have hwr : IntKind.i64.wrap (a + (fn : Nat)) = a2 := ha2.symm
              rw [hwr] at HRK4
              clear ha2
              go_wp2_with fail
              refine HF8.out.mono ?_
              rintro e w9 ⟨rfl, ⟨g9, hl9, hg9⟩, ho9⟩
              have HB9 : Hid (Below w.heap.size w w9) := B8.out.trans ((onlyF ho9).below B8.out.size (by
                intro i hi
                simp only [List.mem_cons, List.not_mem_nil, or_false] at hi
                have := HFR6.out.2.2
                omega))
              have HL9 := Lib.hid hl9
              have HM9 := Lib.hid (HM8.out.butF (onlyF ho9) (fun j hj hm => by
                simp only [List.mem_cons, List.not_mem_nil, or_false] at hm
                have := HFR6.out.1 j hj
                omega) (fun j hj hm => by
                simp only [List.mem_cons, List.not_mem_nil, or_false] at hm
                have := HFR6.out.2.1 j hj
                omega))
              have HO9 := Lib.hid ((ho9.block w.heap.size (row_lt HO8.out) (by omega) (by have := HFR6.out.2.2; omega)).trans HO8.out)
              have HFR9 : Hid ((∀ j ∈ G6, w.heap.size + 1 ≤ j ∧ j ≠ w.heap.size + 2 ∧ j ≠ g9) ∧ (∀ j ∈ R6, w.heap.size + 1 ≤ j ∧ j ≠ w.heap.size + 2 ∧ j ≠ g9) ∧ w.heap.size + 1 ≤ g9) := by
                have hlt := HM8.out.lt
                have hz8 := row_lt HO8.out
                have hg := HFR6.out.2.2
                refine ⟨fun j hj => ?_, fun j hj => ?_, by omega⟩
                · have h1 := HFR6.out.1 j hj
                  have h2 := hlt.1 j hj
                  omega
                · have h1 := HFR6.out.2.1 j hj
                  have h2 := hlt.2 j hj
                  omega
              have e0' := (ho9.block wr.heap.size (row_lt H8.out) (by omega) (by omega)).trans H8.out
              have x1' := (ho9.block w7.heap.size (row_lt HY8.out) (by omega) (by omega)).trans HY8.out
              have e0 : w9.cell? ⟨wr.heap.size, 0, none⟩ = some (.string ⟨kd.toArray⟩) := (cell_of_row _ _ _ _ _ _ e0').trans (by simpa using HC0.out)
              have e1 : w9.cell? ⟨w7.heap.size, 1, none⟩ = some (.string ⟨z.2.1.toArray⟩) := (cell_of_row _ _ _ _ _ _ x1').trans (by rw [HLZ.out]; rfl)
              clear hl9 ho9 hg9 HF8 HL8 HM8 HO8 e0' x1' H8 HY8
              by_cases hfe : fe = 0
              · have hfi : ((fe : Nat) : Int) = 0 := by omega
                rw [hfi]
                have HRK5 := Lib.hid (HRK4.out.trans (if_neg (by simpa using hfe)))
                clear hfe hfi HRK4
                go_wp2_with fail
                go_roundw
                case rel => exact ⟨k + 1, Bn, fs, a2, by omega, by go_num, rfl, HIA2.out, HRK5.out, HBN.out, ⟨HSO3.out.1, by have := HSO3.out.2; have := HOL.out.2; omega⟩, ⟨G6, R6, g9, HM9.out, HL9.out, HFR9.out⟩, HO9.out, HB9.out⟩
                case measure => simp [intOf]; omega
              · have HRK5 := Lib.hid (HRK4.out.trans (if_pos hfe))
                clear HRK4
                have hpos : (0 : Int) < ((fe : Nat) : Int) := by omega
                have hdf : (((fe : Nat) : Int) == 0) = false := by simp; omega
                go_wp2_with (refine wpList_store_box rfl 32 _ _ rfl w.heap.size [.int .i64 (fe : Nat), .int .i64 (k : Nat)] rfl rfl 32 [.int .i64 0, .int .i64 0] HO9.out (by kernel_rfl) rfl (by simp [Value.oneCell']) ?_; intro wf hf tf)
                (try simp only [Exit.inBlock, Exit.then])
                refine bodyPost_ret (results_ttc rfl _ _ w.heap.size 32 #[.int .i64 (fe : Nat), .int .i64 (k : Nat)] (0, 0) _ rfl hf Tryz.underlying32 rfl (by kernel_rfl)) rfl ?_
                rw [HRK5.out]
                exact ⟨rfl, HB9.out.trans (tf.below (Nat.le_refl _))⟩
            by_cases hkd3 : kd = kLess
            · have b0 : (kd == [105, 110]) = false := by rw [hkd3]; rfl
              have b1 : (kd == [109, 111, 114, 101]) = false := by rw [hkd3]; rfl
              have b2 : (kd == [111, 117, 116]) = false := by rw [hkd3]; rfl
              have b3 : (kd == [108, 101, 115, 115]) = true := by rw [hkd3]; rfl
              have hfE : flowE ls x z.2.2.2 = outE ls n := by
                unfold flowE
                rw [HKD.out, hkd3, HNN.out]
                rw [if_neg (by decide), if_pos (by decide)]
              have hfS : flowS ls x z.2.2.2 = outS ls n := by
                unfold flowS
                rw [HKD.out, hkd3, HNN.out]
                rw [if_neg (by decide), if_pos (by decide)]
              have hfN : flowN ls x = outN ls n := by
                unfold flowN
                rw [HKD.out, hkd3, HNN.out]
                rw [if_neg (by decide), if_pos (by decide)]
              have h := HRK3.out
              have hso := HSO2.out
              rw [hfE, hfS, hfN] at h
              rw [hfS] at hso
              have HRK4 := Lib.hid h
              have HSO3 := Lib.hid hso
              clear h hso hfE hfS hfN HRK3 HSO2 hkd3 HKD HNN
              have HF8 := Lib.hid (HOUT.out n w8 HL8.out)
              clear HIN HOUT
              generalize outE ls n = fe at HF8 HRK4
              generalize outS ls n = fs at HF8 HRK4 HSO3
              generalize outN ls n = fn at HF8 HRK4
              obtain ⟨a2, ha2⟩ : ∃ a2, a2 = IntKind.i64.wrap (a + (fn : Nat)) := ⟨_, rfl⟩
              have HIA2 : Hid (IsI a2) := by show IsI a2; rw [ha2]; exact wrap_isI _
              have hwr : IntKind.i64.wrap (a + (fn : Nat)) = a2 := ha2.symm
              rw [hwr] at HRK4
              clear ha2
              go_wp2_with fail
              refine HF8.out.mono ?_
              rintro e w9 ⟨rfl, ⟨g9, hl9, hg9⟩, ho9⟩
              have HB9 : Hid (Below w.heap.size w w9) := B8.out.trans ((onlyF ho9).below B8.out.size (by
                intro i hi
                simp only [List.mem_cons, List.not_mem_nil, or_false] at hi
                have := HFR6.out.2.2
                omega))
              have HL9 := Lib.hid hl9
              have HM9 := Lib.hid (HM8.out.butF (onlyF ho9) (fun j hj hm => by
                simp only [List.mem_cons, List.not_mem_nil, or_false] at hm
                have := HFR6.out.1 j hj
                omega) (fun j hj hm => by
                simp only [List.mem_cons, List.not_mem_nil, or_false] at hm
                have := HFR6.out.2.1 j hj
                omega))
              have HO9 := Lib.hid ((ho9.block w.heap.size (row_lt HO8.out) (by omega) (by have := HFR6.out.2.2; omega)).trans HO8.out)
              have HFR9 : Hid ((∀ j ∈ G6, w.heap.size + 1 ≤ j ∧ j ≠ w.heap.size + 2 ∧ j ≠ g9) ∧ (∀ j ∈ R6, w.heap.size + 1 ≤ j ∧ j ≠ w.heap.size + 2 ∧ j ≠ g9) ∧ w.heap.size + 1 ≤ g9) := by
                have hlt := HM8.out.lt
                have hz8 := row_lt HO8.out
                have hg := HFR6.out.2.2
                refine ⟨fun j hj => ?_, fun j hj => ?_, by omega⟩
                · have h1 := HFR6.out.1 j hj
                  have h2 := hlt.1 j hj
                  omega
                · have h1 := HFR6.out.2.1 j hj
                  have h2 := hlt.2 j hj
                  omega
              have e0' := (ho9.block wr.heap.size (row_lt H8.out) (by omega) (by omega)).trans H8.out
              have x1' := (ho9.block w7.heap.size (row_lt HY8.out) (by omega) (by omega)).trans HY8.out
              have e0 : w9.cell? ⟨wr.heap.size, 0, none⟩ = some (.string ⟨kd.toArray⟩) := (cell_of_row _ _ _ _ _ _ e0').trans (by simpa using HC0.out)
              have e1 : w9.cell? ⟨w7.heap.size, 1, none⟩ = some (.string ⟨z.2.1.toArray⟩) := (cell_of_row _ _ _ _ _ _ x1').trans (by rw [HLZ.out]; rfl)
              clear hl9 ho9 hg9 HF8 HL8 HM8 HO8 e0' x1' H8 HY8
              by_cases hfe : fe = 0
              · have hfi : ((fe : Nat) : Int) = 0 := by omega
                rw [hfi]
                have HRK5 := Lib.hid (HRK4.out.trans (if_neg (by simpa using hfe)))
                clear hfe hfi HRK4
                go_wp2_with fail
                go_roundw
                case rel => exact ⟨k + 1, Bn, fs, a2, by omega, by go_num, rfl, HIA2.out, HRK5.out, HBN.out, ⟨HSO3.out.1, by have := HSO3.out.2; have := HOL.out.2; omega⟩, ⟨G6, R6, g9, HM9.out, HL9.out, HFR9.out⟩, HO9.out, HB9.out⟩
                case measure => simp [intOf]; omega
              · have HRK5 := Lib.hid (HRK4.out.trans (if_pos hfe))
                clear HRK4
                have hpos : (0 : Int) < ((fe : Nat) : Int) := by omega
                have hdf : (((fe : Nat) : Int) == 0) = false := by simp; omega
                go_wp2_with (refine wpList_store_box rfl 32 _ _ rfl w.heap.size [.int .i64 (fe : Nat), .int .i64 (k : Nat)] rfl rfl 32 [.int .i64 0, .int .i64 0] HO9.out (by kernel_rfl) rfl (by simp [Value.oneCell']) ?_; intro wf hf tf)
                (try simp only [Exit.inBlock, Exit.then])
                refine bodyPost_ret (results_ttc rfl _ _ w.heap.size 32 #[.int .i64 (fe : Nat), .int .i64 (k : Nat)] (0, 0) _ rfl hf Tryz.underlying32 rfl (by kernel_rfl)) rfl ?_
                rw [HRK5.out]
                exact ⟨rfl, HB9.out.trans (tf.below (Nat.le_refl _))⟩
            have b0 : (kd == [105, 110]) = false := by simpa [kIn] using hkd
            have b1 : (kd == [109, 111, 114, 101]) = false := by simpa [kMore] using hkd1
            have b2 : (kd == [111, 117, 116]) = false := by simpa [kOut] using hkd2
            have b3 : (kd == [108, 101, 115, 115]) = false := by simpa [kLess] using hkd3
            have hfE : flowE ls x z.2.2.2 = 0 := by
              unfold flowE
              rw [HKD.out]
              simp [hkd, hkd1, hkd2, hkd3]
            have hfS : flowS ls x z.2.2.2 = ls := by
              unfold flowS
              rw [HKD.out]
              simp [hkd, hkd1, hkd2, hkd3]
            have hfN : flowN ls x = 0 := by
              unfold flowN
              rw [HKD.out]
              simp [hkd, hkd1, hkd2, hkd3]
            have h := HRK3.out
            rw [hfE, hfS, hfN, if_neg (by simp), HIA.out.wrap] at h
            have HRK4 := Lib.hid h
            clear h hfE hfS hfN HRK3 HSO2 hkd hkd1 hkd2 hkd3 HKD HNN HIN HOUT
            go_wp2_with fail
            go_roundw
            case rel => exact ⟨k + 1, Bn, ls, a, by omega, by go_num, rfl, HIA.out, HRK4.out, HBN.out, ⟨HOL.out.1, by have := HOL.out.2; omega⟩, ⟨G6, R6, gl, HM8.out, HL8.out, HFR6.out⟩, HO8.out, B8.out⟩
            case measure => simp [intOf]; omega
          · have hcb : (z.2.1 == code) = false := by simpa using hcm
            have HS := Lib.hid (HSTAY.out w8 HB78.out (HCA1.out hcm))
            clear hcm HCA1 HCB1 HC0' HC1 HSO HRK2 HSTAY HB78 HL7 HM7 HO7 B7 HLY
            go_wp2_with fail
            go_roundw
            case rel => exact HS.out
            case measure => simp [intOf]; omega
      · have HRK2 := Lib.hid (HRK1.out.trans (if_pos h0))
        clear HRK1 HIX HCA HCN HC0' HC1 HSO HIN HOUT
        have hpos : (0 : Int) < ((de : Nat) : Int) := by omega
        have hdf : (((de : Nat) : Int) == 0) = false := by simp; omega
        go_wp2_with (refine wpList_store_box rfl 32 _ _ rfl w.heap.size [.int .i64 (de : Nat), .int .i64 (k : Nat)] rfl rfl 32 [.int .i64 0, .int .i64 0] HO7.out (by kernel_rfl) rfl (by simp [Value.oneCell']) ?_; intro wf hf tf)
        (try simp only [Exit.inBlock, Exit.then])
        refine bodyPost_ret (results_ttc rfl _ _ w.heap.size 32 #[.int .i64 (de : Nat), .int .i64 (k : Nat)] (0, 0) _ rfl hf Tryz.underlying32 rfl (by kernel_rfl)) rfl ?_
        rw [HRK2.out]
        exact ⟨rfl, B7.out.trans (tf.below (Nat.le_refl _))⟩
    · obtain rfl : k = N := by omega
      have HRK1 : Hid (r = .inl (Bk, ls, a)) := by
        show _ = _
        rw [HRK.out, HN.out, List.drop_length]
        rfl
      obtain ⟨G, R, gl, hbk, hlay, hG, hR, hgl⟩ := HBL.out
      have HF := Lib.hid (refFindG hbk HBI.out code)
      have HIX := Lib.hid (idxG Bk code)
      have HLL := Lib.hid hlay
      clear hbk hlay hG hR HRK HBL
      go_wp2_with fail
      refine HF.out.mono ?_
      rintro e w7 ⟨rfl, b7⟩
      have B7 := Lib.hid (HB.out.trans (b7.mono HB.out.size))
      have HL7 := Lib.hid (HLL.out.below b7)
      have HO7 := Lib.hid ((b7.block _ (row_lt HOR.out)).trans HOR.out)
      clear b7 HF HLL HOR HB
      rcases HIX.out with ⟨hf, hix⟩ | ⟨i, hi, hf, hix, -⟩
      · rw [hix]
        have HFN : Hid ((fG Bk code).isSome = false) := by show _ = _; rw [hf]; rfl
        clear hf hix HIX
        go_wp2_with fail
        refine (bare_any 6 _).mono ?_
        rintro e w8 ⟨rfl, b8⟩
        have B8 := Lib.hid (B7.out.trans (b8.mono B7.out.size))
        have HO8 := Lib.hid ((b8.block _ (row_lt HO7.out)).trans HO7.out)
        clear b8
        go_wp2_with (refine wpList_store_box rfl 32 _ _ rfl w.heap.size [.int .i64 6, .int .i64 (-1)] rfl rfl 32 [.int .i64 0, .int .i64 0] HO8.out (by kernel_rfl) rfl (by simp [Value.oneCell']) ?_; intro wf hf tf)
        (try simp only [Exit.inBlock, Exit.then])
        refine bodyPost_ret (results_ttc rfl _ _ w.heap.size 32 #[.int .i64 6, .int .i64 (-1)] (0, 0) _ rfl hf Tryz.underlying32 rfl (by kernel_rfl)) rfl ?_
        rw [HRK1.out]
        unfold RCoAt
        simp only
        rw [if_neg (by rw [HFN.out]; simp)]
        exact ⟨rfl, B8.out.trans (tf.below (Nat.le_refl _))⟩
      · rw [hix]
        have HFN : Hid ((fG Bk code).isSome = true) := by show _ = _; rw [hf]; rfl
        have hi0 : ¬ ((i : Nat) : Int) < 0 := by omega
        clear hf hix HIX
        go_wp2_with fail
        refine (fine_any _).mono ?_
        rintro e w8 ⟨rfl, b8⟩
        have B8 := Lib.hid (B7.out.trans (b8.mono B7.out.size))
        have HO8 := Lib.hid ((b8.block _ (row_lt HO7.out)).trans HO7.out)
        have HL8 := Lib.hid (HL7.out.below b8)
        clear b8
        go_wp2_with (refine wpList_store_box rfl 32 _ _ rfl w.heap.size [.int .i64 0, .int .i64 (-1)] rfl rfl 32 [.int .i64 0, .int .i64 0] HO8.out (by kernel_rfl) rfl (by simp [Value.oneCell']) ?_; intro wf hf tf)
        (try simp only [Exit.inBlock, Exit.then])
        refine bodyPost_ret (results_ttc rfl _ _ w.heap.size 32 #[.int .i64 0, .int .i64 (-1)] (0, 0) _ rfl hf Tryz.underlying32 rfl (by kernel_rfl)) rfl ?_
        rw [HRK1.out]
        unfold RCoAt
        simp only
        rw [if_pos HFN.out]
        have hl8 := HL8.out.lt
        exact ⟨⟨_, gl, rfl, HL8.out.keep (tf.block _ (by omega)) (tf.block _ (by omega)), by omega, by omega⟩, B8.out.trans (tf.below (Nat.le_refl _))⟩
end Go.Proofs.YtphgakobfegpcaaGreatDoor
