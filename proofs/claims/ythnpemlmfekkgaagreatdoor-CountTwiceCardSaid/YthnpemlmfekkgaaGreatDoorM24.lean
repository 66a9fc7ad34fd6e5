/- The program's book: New, Copy, Stock. The program's book: Stock, Lot. -/
import Derived.Deep.CutBlock
import Derived.Test.YthnpemlmfekkgaaGreatDoorM21
import Derived.Test.YthnpemlmfekkgaaGreatDoorM22
import Derived.Test.YthnpemlmfekkgaaGreatDoorM23
namespace Go.Proofs.YthnpemlmfekkgaaGreatDoor
open Go.RowKit Go.Sort Go.Proofs

theorem bk0_maps : (∀ k, goodsF bk0 k = none) ∧ (∀ k, lotsF bk0 k = none) ∧ (∀ k, heldF bk0 k = none) ∧ ∀ k, sumsF bk0 k = none := ⟨fun _ => rfl, fun _ => rfl, fun _ => rfl, fun _ => rfl⟩
/-- A book put together out of new blocks. -/
theorem BookIs.fresh {w : World} {n p g l h s q c : Nat} {B : BkV} (hm : BookM w p g l h s q c B) (hd : [p, g, l, h, s, q, c].Nodup) (hn : ∀ k ∈ [p, g, l, h, s, q, c], n ≤ k) : ∃ F, BookIs w p F B ∧ ∀ k ∈ F, n ≤ k :=
  ⟨_, ⟨g, l, h, s, q, c, rfl, hd, hm⟩, hn⟩

set_option maxHeartbeats 400000 in
set_option maxRecDepth 100000 in
theorem newBook_any (w : World) : Calls Tryz.prog 15 #[] w fun e w' => ∃ p F, e = .returned (.pointer (some ⟨p, 0, none⟩)) ∧ BookIs w' p F bk0 ∧ (∀ k ∈ F, w.heap.size ≤ k) ∧ Below w.heap.size w w' := by
  have hmm := @run_makeMap Tryz.prog
  have g0 : MapF eGoods ((((w.alloc (.map #[] 0)).alloc (.map #[] 0)).alloc (.map #[] 0)).alloc (.map #[] 0)) w.heap.size (goodsF bk0) := (((MapF.made eGoods w).below (below_one _ _)).below (below_one _ _)).below (below_one _ _)
  have l0 : MapF eLot ((((w.alloc (.map #[] 0)).alloc (.map #[] 0)).alloc (.map #[] 0)).alloc (.map #[] 0)) (w.heap.size + 1) (lotsF bk0) := by
    have := ((MapF.made eLot (w.alloc (.map #[] 0))).below (below_one _ (.map #[] 0))).below (below_one _ (.map #[] 0))
    rw [show (w.alloc (.map #[] 0)).heap.size = w.heap.size + 1 by simp] at this
    exact this
  have h0 : MapF eNat ((((w.alloc (.map #[] 0)).alloc (.map #[] 0)).alloc (.map #[] 0)).alloc (.map #[] 0)) (w.heap.size + 2) (heldF bk0) := by
    have := (MapF.made eNat ((w.alloc (.map #[] 0)).alloc (.map #[] 0))).below (below_one _ (.map #[] 0))
    rw [show ((w.alloc (.map #[] 0)).alloc (.map #[] 0)).heap.size = w.heap.size + 2 by simp] at this
    exact this
  have s0 : MapF eSums ((((w.alloc (.map #[] 0)).alloc (.map #[] 0)).alloc (.map #[] 0)).alloc (.map #[] 0)) (w.heap.size + 3) (sumsF bk0) := by
    have := MapF.made eSums (((w.alloc (.map #[] 0)).alloc (.map #[] 0)).alloc (.map #[] 0))
    rw [show (((w.alloc (.map #[] 0)).alloc (.map #[] 0)).alloc (.map #[] 0)).heap.size = w.heap.size + 3 by simp] at this
    exact this
  have b0 : Below w.heap.size w ((((w.alloc (.map #[] 0)).alloc (.map #[] 0)).alloc (.map #[] 0)).alloc (.map #[] 0)) := (((below_one w _).alloc (by simp) _).alloc (by simp; omega) _).alloc (by simp; omega) _
  have z0 : ((((w.alloc (.map #[] 0)).alloc (.map #[] 0)).alloc (.map #[] 0)).alloc (.map #[] 0)).heap.size = w.heap.size + 4 := by simp
  have Z0 := Lib.hid z0
  have G0 := Lib.hid g0
  have L0 := Lib.hid l0
  have H0 := Lib.hid h0
  have S0 := Lib.hid s0
  have B0 := Lib.hid b0
  clear g0 l0 h0 s0 b0 z0
  go_enter Tryz.func15, Tryz.ntmps15
  go_wp2_with fail
  generalize (((w.alloc (.map #[] 0)).alloc (.map #[] 0)).alloc (.map #[] 0)).alloc (.map #[] 0) = W0 at Z0 G0 L0 H0 S0 B0 ⊢
  refine (newStock_any W0).mono ?_
  rintro e w5 ⟨rfl, hS, b5⟩
  have hz := hS.lt
  have HS := Lib.hid hS
  have bp := below_one w5 (.cells #[.map (some w.heap.size), .map (some (w.heap.size + 1)), .map (some (w.heap.size + 2)), .map (some (w.heap.size + 3)), .pointer (some ⟨W0.heap.size + 1, 0, none⟩)] 85)
  have b6 := b5.trans (bp.mono b5.size)
  have G6 := Lib.hid (G0.out.below b6)
  have L6 := Lib.hid (L0.out.below b6)
  have H6 := Lib.hid (H0.out.below b6)
  have S6 := Lib.hid (S0.out.below b6)
  have Q6 := Lib.hid (hS.below bp)
  have P6 := Lib.hid (heap_alloc_new w5 (.cells #[.map (some w.heap.size), .map (some (w.heap.size + 1)), .map (some (w.heap.size + 2)), .map (some (w.heap.size + 3)), .pointer (some ⟨W0.heap.size + 1, 0, none⟩)] 85))
  have B6 := Lib.hid (B0.out.trans (b6.mono B0.out.size))
  clear hS b5 bp b6
  go_wp2_with fail
  go_ret
  have hz0 := Z0.out
  obtain ⟨F, h1, h2⟩ := BookIs.fresh (n := w.heap.size) ⟨P6.out, G6.out, L6.out, H6.out, S6.out, ⟨[], Q6.out, List.Perm.refl _⟩⟩ (by
    simp only [List.nodup_cons, List.mem_cons, List.not_mem_nil, or_false, not_or, List.nodup_nil, and_true, not_false_eq_true]
    omega) (fun k hk => by
    simp only [List.mem_cons, List.not_mem_nil, or_false] at hk
    omega)
  exact ⟨_, F, rfl, h1, h2, B6.out⟩

set_option maxHeartbeats 800000 in
set_option maxRecDepth 100000 in
theorem copyBook_m (p g l h s q c : Nat) (B : BkV) (w : World) (H : BookM w p g l h s q c B) :
    Calls Tryz.prog 16 #[.pointer (some ⟨p, 0, none⟩)] w fun e w' => ∃ p' F, e = .returned (.pointer (some ⟨p', 0, none⟩)) ∧ BookIs w' p' F B ∧ (∀ k ∈ F, w.heap.size ≤ k) ∧ Below w.heap.size w w' := by
  obtain ⟨⟨c0, c1, c2, c3, c4⟩, -⟩ := H.cells
  have HH := Lib.hid (fun W (hb : Below w.heap.size w W) => H.below hb)
  have HG := Lib.hid (fun W (h : MapF eGoods W g (goodsF B)) => cloneGoods_any g (goodsF B) W h)
  have HL := Lib.hid (fun W (h : MapF eLot W l (lotsF B)) => cloneLot_any l (lotsF B) W h)
  have HE := Lib.hid (fun W (k : MapF eNat W h (heldF B)) => cloneInt_any h (heldF B) W k)
  have HS := Lib.hid (fun W (h : MapF eSums W s (sumsF B)) => cloneSums_any s (sumsF B) W h)
  have HQ := Lib.hid (fun W (h : StkP W q c B.2.2) => copyStock_P (w := W) h)
  clear H
  go_enter Tryz.func16, Tryz.ntmps16
  go_wp2_with fail
  have hd := (Below.refl w.heap.size w).drew
  have up := Lib.hid (fun (W : World) (hW : Below w.heap.size w W) (a : Addr) (v : Value) (h : w.cell? a = some v) => (hW.cell (lt_of_cell h)).trans h)
  go_region_held3 (fun W => W.cell? ⟨p, 0, none⟩ = some (.map (some g)) ∧ W.cell? ⟨p, 1, none⟩ = some (.map (some l)) ∧ W.cell? ⟨p, 2, none⟩ = some (.map (some h)) ∧ W.cell? ⟨p, 3, none⟩ = some (.map (some s)) ∧ W.cell? ⟨p, 4, none⟩ = some (.pointer (some ⟨q, 0, none⟩)))
    (first
      | exact ⟨c0, c1, c2, c3, c4⟩
      | exact ⟨up.out _ k5 _ _ c0, up.out _ k5 _ _ c1, up.out _ k5 _ _ c2, up.out _ k5 _ _ c3, up.out _ k5 _ _ c4⟩
      | exact ⟨up.out _ k4 _ _ c0, up.out _ k4 _ _ c1, up.out _ k4 _ _ c2, up.out _ k4 _ _ c3, up.out _ k4 _ _ c4⟩
      | exact ⟨up.out _ k3 _ _ c0, up.out _ k3 _ _ c1, up.out _ k3 _ _ c2, up.out _ k3 _ _ c3, up.out _ k3 _ _ c4⟩
      | exact ⟨up.out _ k2 _ _ c0, up.out _ k2 _ _ c1, up.out _ k2 _ _ c2, up.out _ k2 _ _ c3, up.out _ k2 _ _ c4⟩
      | exact ⟨up.out _ k1 _ _ c0, up.out _ k1 _ _ c1, up.out _ k1 _ _ c2, up.out _ k1 _ _ c3, up.out _ k1 _ _ c4⟩
      | go_keep)
    (first
      | (go_at_call 37; refine (HG.out _ (HH.out _ hd).goods).mono ?_; rintro e v1 ⟨g1, rfl, n1, m1, bb1⟩; have k1 := hd.trans (bb1.mono hd.size))
      | (go_at_call 38; refine (HL.out _ (HH.out _ k1).lots).mono ?_; rintro e v2 ⟨l1, rfl, n2, m2, bb2⟩; have k2 := k1.trans (bb2.mono k1.size))
      | (go_at_call 39; refine (HE.out _ (HH.out _ k2).held).mono ?_; rintro e v3 ⟨h1, rfl, n3, m3, bb3⟩; have k3 := k2.trans (bb3.mono k2.size))
      | (go_at_call 40; refine (HS.out _ (HH.out _ k3).sums).mono ?_; rintro e v4 ⟨s1, rfl, n4, m4, bb4⟩; have k4 := k3.trans (bb4.mono k3.size))
      | (go_at_call 35; refine (HQ.out _ (HH.out _ k4).stk).mono ?_; rintro e v5 ⟨q1, d1, rfl, n5, n6, m5, bb5⟩; have k5 := k4.trans (bb5.mono k4.size)))
  all_goals
    have t1 := m1.lt
    have t2 := m2.lt
    have t3 := m3.lt
    have t4 := m4.lt
    have t5 := m5.lt
    have t6 := m5.ne
    have n1' : w.heap.size ≤ g1 := n1
    have z2 := bb2.size
    have z3 := bb3.size
    have z4 := bb4.size
    have z5 := bb5.size
    have bp := below_one v5 (.cells #[.map (some g1), .map (some l1), .map (some h1), .map (some s1), .pointer (some ⟨q1, 0, none⟩)] 85)
    have G6 := Lib.hid (((((m1.below bb2).below bb3).below bb4).below bb5).below bp)
    have L6 := Lib.hid ((((m2.below bb3).below bb4).below bb5).below bp)
    have H6 := Lib.hid (((m3.below bb4).below bb5).below bp)
    have S6 := Lib.hid ((m4.below bb5).below bp)
    have Q6 := Lib.hid (m5.below bp)
    have P6 := Lib.hid (heap_alloc_new v5 (.cells #[.map (some g1), .map (some l1), .map (some h1), .map (some s1), .pointer (some ⟨q1, 0, none⟩)] 85))
    have B6 := Lib.hid (k5.trans (bp.mono k5.size))
    have Z := Lib.hid (show [v5.heap.size, g1, l1, h1, s1, q1, d1].Nodup ∧ ∀ k ∈ [v5.heap.size, g1, l1, h1, s1, q1, d1], w.heap.size ≤ k by
      refine ⟨?_, fun k hk => ?_⟩
      · simp only [List.nodup_cons, List.mem_cons, List.not_mem_nil, or_false, not_or, List.nodup_nil, and_true, not_false_eq_true]
        omega
      · simp only [List.mem_cons, List.not_mem_nil, or_false] at hk
        omega)
    clear m1 m2 m3 m4 m5 bb1 bb2 bb3 bb4 bb5 k1 k2 k3 k4 k5 hd c0 c1 c2 c3 c4 bp n1 n2 n3 n4 n5 n6 t1 t2 t3 t4 t5 t6 n1' z2 z3 z4 z5 up HH HG HL HE HS HQ
    go_wp2_with fail
    go_ret
    obtain ⟨F, x1, x2⟩ := BookIs.fresh (n := w.heap.size) ⟨P6.out, G6.out, L6.out, H6.out, S6.out, Q6.out⟩ Z.out.1 Z.out.2
    exact ⟨_, F, rfl, x1, x2, B6.out⟩
theorem copyBook_any {p : Nat} {F : List Nat} {B : BkV} {w : World} (H : BookIs w p F B) :
    Calls Tryz.prog 16 #[.pointer (some ⟨p, 0, none⟩)] w fun e w' => ∃ p' F', e = .returned (.pointer (some ⟨p', 0, none⟩)) ∧ BookIs w' p' F' B ∧ (∀ k ∈ F', w.heap.size ≤ k) ∧ Below w.heap.size w w' := by
  obtain ⟨g, l, h, s, q, c, -, -, hm⟩ := H
  exact copyBook_m p g l h s q c B w hm
end Go.Proofs.YthnpemlmfekkgaaGreatDoor
namespace Go.Proofs.YthnpemlmfekkgaaGreatDoor
open Go.RowKit Go.Sort Go.Proofs

set_option maxHeartbeats 400000 in
theorem stockBk_any {p : Nat} {F : List Nat} {B : BkV} {w : World} (H : BookIs w p F B) :
    Calls Tryz.prog 12 #[.pointer (some ⟨p, 0, none⟩)] w fun e w' => ∃ q c, e = .returned (.pointer (some ⟨q, 0, none⟩)) ∧ w.heap.size ≤ q ∧ w.heap.size ≤ c ∧ StkP w' q c B.2.2 ∧ Below w.heap.size w w' := by
  obtain ⟨g, l, h, s, q, c, -, -, hm⟩ := H
  obtain ⟨⟨-, -, -, -, c4⟩, -⟩ := hm.cells
  have HQ := Lib.hid (copyStock_P (w := w) hm.stk)
  clear hm
  go_enter Tryz.func12, Tryz.ntmps12
  go_wp2_with fail
  refine HQ.out.mono ?_
  rintro e w1 ⟨q', c', rfl, h1, h2, h3, h4⟩
  have H3 := Lib.hid h3
  have H4 := Lib.hid h4
  clear h3 h4 HQ
  go_wp2_with fail
  go_ret
  exact ⟨q', c', rfl, h1, h2, H3.out, H4.out⟩

set_option maxHeartbeats 800000 in
set_option maxRecDepth 100000 in
theorem lotBk_any {p : Nat} {F : List Nat} {B : BkV} {w : World} (H : BookIs w p F B) (id : List UInt8) :
    Calls Tryz.prog 30 #[.pointer (some ⟨p, 0, none⟩), .string ⟨id.toArray⟩] w fun e w' => e = .returned (.tuple #[.agg (encLot ((lotsF B id).getD zeroLot)).toArray, .bool (lotsF B id).isSome]) ∧ Below w.heap.size w w' := by
  obtain ⟨g, l, h, s, q, c, -, -, hm⟩ := H
  obtain ⟨⟨-, c1, -, -, -⟩, -⟩ := hm.cells
  have b0 := below_one w (.cells #[.string ⟨#[]⟩, .string ⟨#[]⟩, .int .i64 0, .int .i64 0] 39)
  have c1' := (b0.cell (p := ⟨p, 1, none⟩) (lt_of_cell c1)).trans c1
  have hr := heap_alloc_new w (.cells #[.string ⟨#[]⟩, .string ⟨#[]⟩, .int .i64 0, .int .i64 0] 39)
  have hl := (hm.lots.below b0).look (P := Tryz.prog) (t := 81) (kt := 9) (by kernel_rfl) Tryz.underlying81 (zeroLotE _) id true
  have B0 := Lib.hid b0
  clear hm b0 c1
  generalize (lotsF B id).getD zeroLot = z at hl ⊢
  generalize (lotsF B id).isSome = is at hl ⊢
  simp only [eLot, if_true] at hl
  have hz4 : (encLot z).length = 4 := rfl
  have HZ1 := Lib.hid (encLot_one z)
  generalize encLot z = LZ at *
  go_enter Tryz.func30, Tryz.ntmps30
  go_upto_region 1 with fail
  generalize w.alloc (.cells #[.string ⟨#[]⟩, .string ⟨#[]⟩, .int .i64 0, .int .i64 0] 39) = W0 at c1' hr hl B0 ⊢
  have hz := row_lt hr
  have b1 := below_one W0 (.cells #[.string ⟨#[]⟩, .string ⟨#[]⟩, .int .i64 0, .int .i64 0] 39)
  have hr1 := (b1.block _ hz).trans hr
  have B1 := Lib.hid (B0.out.trans (b1.mono B0.out.size))
  clear b1 hr
  go_wp2_with (first | (refine wpList_store_box rfl 39 (.tmp 6) _ rfl W0.heap.size LZ rfl rfl _ [.string ⟨#[]⟩, .string ⟨#[]⟩, .int .i64 0, .int .i64 0] (heap_alloc_new W0 _) (by rw [hz4]; kernel_rfl) (by rw [hz4]; rfl) HZ1.out ?_; intro w1 h1 tu1; have hr2 := (tu1.block w.heap.size (by omega)).trans hr1) | (refine wpList_load_at rfl 39 (.tmp 6) rfl W0.heap.size 0 rfl LZ (Lies.row _ h1) _ Tryz.underlying39 rfl (by rw [hz4]; kernel_rfl) ?_) | (refine wpList_store_box rfl 39 (.tmp 4) _ rfl w.heap.size LZ rfl rfl _ [.string ⟨#[]⟩, .string ⟨#[]⟩, .int .i64 0, .int .i64 0] hr2 (by rw [hz4]; kernel_rfl) (by rw [hz4]; rfl) HZ1.out ?_; intro w2 h2 tu2))
  refine bodyPost_ret (results_cell_row2 rfl _ _ w.heap.size 39 LZ.toArray (0, 0) _ rfl h2 Tryz.underlying39 rfl (by rw [List.size_toArray, hz4]; kernel_rfl)) rfl ?_
  exact ⟨rfl, (B1.out.trans (tu1.below (by omega))).trans (tu2.below (Nat.le_refl _))⟩
end Go.Proofs.YthnpemlmfekkgaaGreatDoor
