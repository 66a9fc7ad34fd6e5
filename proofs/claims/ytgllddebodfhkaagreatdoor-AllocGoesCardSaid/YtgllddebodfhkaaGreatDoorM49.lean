/- Which pieces: the plan of an order; what goes. Equal picks. The closed fact planned: the sooner lot goes. -/
import Derived.BigQuiet
import Derived.Test.YtgllddebodfhkaaGreatDoorM04
import Derived.Test.YtgllddebodfhkaaGreatDoorM22
import Derived.Test.YtgllddebodfhkaaGreatDoorM23
import Derived.Test.YtgllddebodfhkaaGreatDoorM30
import Derived.Test.YtgllddebodfhkaaGreatDoorM44
import Derived.Test.YtgllddebodfhkaaGreatDoorM48
namespace Go.Proofs.YtgllddebodfhkaaGreatDoor
open Go.RowKit Go.Sort Go.Proofs

/-- What Plan leaves. -/
def PlanEnds (E : Nat → Addr) (l : List PickV) (k : Nat) (w : World) (e : Ending) (w' : World) : Prop :=
  ∃ A cap, e = .returned (.tuple #[.slice A l.length cap, errOf E k]) ∧ RowAt encPick 5 w' A l ∧ (∀ a, A = some a → w.heap.size ≤ a.block) ∧ Below w.heap.size w w'

set_option maxHeartbeats 400000 in
theorem packBk_any {p : Nat} {F : List Nat} {B : BkV} {w : World} (H : BookIs w p F B) (c : List UInt8) :
    Calls Tryz.prog 47 #[.pointer (some ⟨p, 0, none⟩), .string ⟨c.toArray⟩] w fun e w' => e = .returned (.tuple #[.int .i64 ((goodsF B c).getD zeroGoods).2, .bool (goodsF B c).isSome]) ∧ Below w.heap.size w w' := by
  obtain ⟨g, l, h, s, q, k, -, -, hm⟩ := H
  obtain ⟨⟨c0, -, -, -, -⟩, -⟩ := hm.cells
  have hl := hm.goods.look (P := Tryz.prog) (t := 108) (kt := 9) (by kernel_rfl) Tryz.underlying108 (zeroGoodsE _) c true
  have hg := hm.goods.lt
  clear hm
  generalize (goodsF B c).getD zeroGoods = z at hl ⊢
  generalize (goodsF B c).isSome = is at hl ⊢
  obtain ⟨z1, z2⟩ := z
  simp only [eGoods, encGoods, if_true] at hl
  go_enter Tryz.func47, Tryz.ntmps47
  go_wp2_with fail
  go_ret2
  exact ⟨rfl, below_one _ _⟩

set_option maxHeartbeats 400000 in
theorem plan_nil (E : Nat → Addr) (a : ByteArray) (n day : Int) (w : World) (hE : ErrAt 0 (E 3) w) :
    Calls Tryz.prog 11 #[.pointer none, .string a, .int .i64 n, .int .i64 day] w fun e w' => e = .returned (.tuple #[.slice none 0 0, errOf E 3]) ∧ Below w.heap.size w w' := by
  unfold ErrAt at hE
  go_enter Tryz.func11, Tryz.ntmps11
  go_wp2_with fail
  go_quiet (fail)
  go_wp2_with fail
  go_ret2
  exact ⟨rfl, below_drewN (Below.refl _ _) _⟩

set_option maxHeartbeats 800000 in
theorem plan_bound (E : Nat → Addr) (p : Nat) (a : ByteArray) (n day : Int) (w : World) (hE : ErrAt 1 (E 2) w) (h : wiB n 1 1099511627776 = false ∨ wiB day 0 100000 = false) :
    Calls Tryz.prog 11 #[.pointer (some ⟨p, 0, none⟩), .string a, .int .i64 n, .int .i64 day] w fun e w' => PlanEnds E [] 2 w e w' := by
  unfold ErrAt at hE
  have H1 := Lib.hid (within_any n 1 1099511627776)
  have H2 := Lib.hid (within_any day 0 100000)
  generalize wiB n 1 1099511627776 = b1 at *
  generalize wiB day 0 100000 = b2 at *
  cases b1 with
  | false =>
    clear h
    go_enter Tryz.func11, Tryz.ntmps11
    go_wp2_with fail
    refine (H1.out _).mono ?_
    rintro e w1 ⟨rfl, rfl⟩
    go_wp2_with fail
    go_quiet (fail)
    go_wp2_with fail
    go_ret2
    exact ⟨none, 0, rfl, .inl rfl, (fun a ha => by cases ha), below_drewN (Below.refl _ _) _⟩
  | true =>
    have hb : b2 = false := h.resolve_left (by simp)
    subst hb
    clear h
    go_enter Tryz.func11, Tryz.ntmps11
    go_wp2_with fail
    refine (H1.out _).mono ?_
    rintro e w1 ⟨rfl, rfl⟩
    go_wp2_with fail
    refine (H2.out _).mono ?_
    rintro e w1 ⟨rfl, rfl⟩
    go_wp2_with fail
    go_quiet (fail)
    go_wp2_with fail
    go_ret2
    exact ⟨none, 0, rfl, .inl rfl, (fun a ha => by cases ha), below_drewN (Below.refl _ _) _⟩

set_option maxHeartbeats 3200000 in
set_option maxRecDepth 100000 in
theorem plan_in (E : Nat → Addr) {p : Nat} {F : List Nat} {B : BkV} {w : World} (H : BookIs w p F B) (hI : BkI B) (code : List UInt8) (n day : Int) (hn0 : 1 ≤ n) (hn1 : n ≤ 1099511627776) (h1 : wiB n 1 1099511627776 = true) (h2 : wiB day 0 100000 = true) (hG : BkG E w) :
    Calls Tryz.prog 11 #[.pointer (some ⟨p, 0, none⟩), .string ⟨code.toArray⟩, .int .i64 n, .int .i64 day] w (PlanEnds E (planL B code n day) (planE B code n day) w) := by
  obtain ⟨i0, hi, hz0, hz1, hz2⟩ := info_parts pickInfo1
  have H1 := Lib.hid (within_any n 1 1099511627776)
  have H2 := Lib.hid (within_any day 0 100000)
  rw [h1] at H1
  rw [h2] at H2
  have HPK := Lib.hid (packBk_any H code)
  have HPE : Hid (planE B code n day = if (fG B code).isSome = false then 6 else if freeB B code day < n then 9 else 0) := by
    show _ = _
    unfold planE
    rw [h1, h2]
    simp
  have HGS : Hid ((goodsF B code).isSome = (fG B code).isSome) := by
    show _ = _
    unfold goodsF
    rw [Option.isSome_map]
  have HPL : Hid (planL B code n day = if planE B code n day = 0 then (planTo B day n (lotsB B code)).1 else []) := rfl
  have HLEFT : Hid ((planTo B day n (lotsB B code)).2 = n - min n (freeB B code day)) := planTo_left hI day (lotsB B code) n (by omega)
  have HER := Lib.hid (fun W (hb : Below w.heap.size w W) => And.intro (hG.below hb).none (hG.below hb).stk.short)
  have HS := Lib.hid (fun W (hb : Below w.heap.size w W) => stockBk_any (H.below hb))
  have HLO := Lib.hid (fun W (hb : Below w.heap.size w W) => lotsBk_any (H.below hb) hI code)
  have HLB := Lib.hid (fun q c W (hb : Below w.heap.size w W) (hs : StkP W q c B.2.2) id => loose_any (q := q) (c := c) rfl hI id W (H.below hb) hs)
  have HPI := Lib.hid (fun q c W (hs : StkP W q c B.2.2) id k (h0 : 0 ≤ k) (h1 : k ≤ 1099511627776) => picksAl_any hI.stk id k h0 h1 W hs)
  have HPIN := Lib.hid (fun id k (h : 0 ≤ k) => picks_in id (linesM B.2.2) k (lines_pos _) h)
  have HPLN : Hid (∀ id k, (picksF (linesM B.2.2) id k).1.length ≤ 200) := fun id k => by
    have h := picks_len id (linesM B.2.2) k
    have h3 := hI.stk.well.few
    rw [linesM_len] at h
    omega
  have HLL := Lib.hid hI.loose
  have hN60 : (lotsB B code).length ≤ 60 := by
    have h := List.length_filter_le (fun x : LoH => decide (x.1.2.1 = code)) B.2.1
    have h2 := hI.lfew
    unfold lotsB
    rw [(Stab.srt_perm _ _).length_eq, List.length_map]
    omega
  generalize planE B code n day = pe at *
  generalize planL B code n day = pl at *
  generalize freeB B code day = fr at *
  generalize lotsB B code = LL at *
  have HTK := Lib.hid (planTo_take B day n LL)
  have HTI := Lib.hid (fun k => planTo_in hI day (LL.take k) n (by omega))
  have HTL := Lib.hid (fun k => planTo_len hI day (LL.take k) n (by omega))
  obtain ⟨N, hN⟩ : ∃ N, N = LL.length := ⟨_, rfl⟩
  have HN := Lib.hid hN
  rw [← hN] at hN60 HLO
  generalize (fG B code).isSome = is at *
  rw [HGS.out] at HPK
  generalize ((goodsF B code).getD zeroGoods).2 = pk at *
  clear hN H hI hG HGS h1 h2
  go_enter Tryz.func11, Tryz.ntmps11
  go_wp2_with fail
  refine (H1.out _).mono ?_
  rintro e w1 ⟨rfl, rfl⟩
  go_wp2_with fail
  refine (H2.out _).mono ?_
  rintro e w1 ⟨rfl, rfl⟩
  go_wp2_with fail
  refine HPK.out.mono ?_
  rintro e w1 ⟨rfl, b1⟩
  have B1 := Lib.hid b1
  obtain ⟨e6, e9⟩ := HER.out w1 b1
  unfold ErrAt at e6
  clear b1 HPK e9
  cases is with
  | false =>
    have HPE6 : Hid (pe = 6) := by show _ = _; rw [HPE.out, if_pos rfl]
    have HPL6 : Hid (pl = []) := by show _ = _; rw [HPL.out, HPE6.out]; rfl
    clear HPE HPL HLEFT HTK HTI HTL HER HS HLO HLB HPI HPIN HPLN HLL
    go_wp2_with fail
    go_quiet (fail)
    go_wp2_with fail
    go_ret2
    rw [HPE6.out, HPL6.out]
    exact ⟨none, 0, rfl, .inl rfl, (fun a ha => by cases ha), B1.out.trans (below_drewN (Below.refl _ _) _)⟩
  | true =>
    have HS1 := Lib.hid (HS.out w1 B1.out)
    clear e6 HS
    go_wp2_with fail
    refine HS1.out.mono ?_
    rintro e w2 ⟨q, c, rfl, -, -, hs, b2⟩
    have B2 := Lib.hid (B1.out.trans (b2.mono B1.out.size))
    have HST := Lib.hid hs
    have HLO1 := Lib.hid (HLO.out w2 B2.out)
    clear b2 hs HS1 HLO
    go_wp2_with fail
    refine HLO1.out.mono ?_
    rintro e w3 ⟨A, cap, rfl, hr, -, b3⟩
    have B3 := Lib.hid (B2.out.trans (b3.mono B2.out.size))
    have HR := Lib.hid (fun W (h : Below w3.heap.size w3 W) => hr.below h)
    have HS3 := Lib.hid (fun W (h : Below w3.heap.size w3 W) => HST.out.below (b3.trans (h.mono b3.size)))
    clear b3 hr HLO1 HST
    go_wp2_with fail
    go_loopw [2, 13, 46] (fun n' v i wr => ∃ k : Nat, k ≤ N ∧ i = .int .i64 k ∧ n' = .int .i64 (planTo B day n (LL.take k)).2 ∧ Hid (wr.ownsRow w3.heap.size 42 5 v (planTo B day n (LL.take k)).1.length (flatL encPick (planTo B day n (LL.take k)).1)) ∧ Hid (Below w3.heap.size w3 wr)) (fun _ _ i _ => N - (intOf i).toNat)
    case atStart => exact ⟨0, by omega, rfl, rfl, World.ownsRow_nil _ _ _ _, Below.refl _ _⟩
    case round =>
      obtain ⟨k, hk, rfl, rfl, HOW, HB⟩ := hrel
      obtain ⟨wo, rfl⟩ : ∃ wo : World, wo = wr := ⟨_, rfl⟩
      by_cases hkN : k < N
      · have hkx : k < LL.length := by rw [← HN.out]; exact hkN
        obtain ⟨g, o, rfl, lg, cg⟩ := HR.out wo HB.out |>.resolve_left (fun h => by rw [h] at hkx; simp at hkx)
        obtain ⟨x, hx⟩ : ∃ x, x = LL[k] := ⟨_, rfl⟩
        have htk := HTK.out k hkx
        rw [← hx] at htk
        have hlo := HLL.out x.1
        have hly : Lies wo g (o + k * 4) (encLot x) := fun c v hv => cg k hkx c v (by rw [← hx]; exact hv)
        obtain ⟨hp0, hp1⟩ := HTI.out k
        have hpl := HTL.out k
        have hln : (LL.take k).length ≤ 60 := by rw [List.length_take]; omega
        have hpl2 : (planTo B day n (LL.take k)).1.length ≤ 12000 := by omega
        have HTK1 := Lib.hid htk
        have HLBX := Lib.hid (fun W (hb : Below w.heap.size w W) (hs : StkP W q c B.2.2) => HLB.out q c W hb hs x.1)
        have HGD := Lib.hid (fun W => good_any x day W)
        obtain ⟨P, hP⟩ : ∃ P, P = planTo B day n (LL.take k) := ⟨_, rfl⟩
        rw [← hP] at HTK1 HOW hp0 hp1 hpl2 ⊢
        obtain ⟨out, s2⟩ := P
        simp only at hp0 hp1 hpl2
        obtain ⟨lo, hlo2⟩ : ∃ lo, lo = looseB B x.1 := ⟨_, rfl⟩
        have HLOX := Lib.hid hlo2
        rw [← hlo2] at hlo HLBX
        obtain ⟨l0, l1, l2, -⟩ := hlo
        have l3 : lo ≤ 1099511627776 := by omega
        have h4 : (encLot x).length = 4 := rfl
        have HLZ := Lib.hid hly
        have HZ1 := Lib.hid (encLot_one x)
        have HX0 : Hid ((encLot x)[0]? = some (.string ⟨x.1.toArray⟩)) := rfl
        obtain ⟨LZ, hLZ⟩ : ∃ LZ, LZ = encLot x := ⟨_, rfl⟩
        rw [← hLZ] at h4 HLZ HZ1 HX0 HGD
        have hk0 : (0 : Int) ≤ (k : Nat) := by omega
        have hk1 : ((k : Nat) : Int) < (N : Nat) := by omega
        have hba := below_one wo (.cells #[.string ⟨#[]⟩, .string ⟨#[]⟩, .int .i64 0, .int .i64 0] 47)
        clear hx hP cg hly hLZ htk l1 l2 hlo2 hpl hln
        go_upto_region 13 with (first | (refine wpList_load_at rfl 47 _ rfl g (o + k * 4) rfl LZ HLZ.out _ Tryz.underlying47 rfl (by rw [h4]; kernel_rfl) ?_) | (refine wpList_store_box rfl 47 _ _ rfl wo.heap.size LZ rfl rfl _ [.string ⟨#[]⟩, .string ⟨#[]⟩, .int .i64 0, .int .i64 0] (heap_alloc_new wo _) (by rw [h4]; kernel_rfl) (by rw [h4]; rfl) HZ1.out ?_; intro w4 h4' tu4))
        have b4 := hba.trans (tu4.below (Nat.le_refl _))
        have HB4 := Lib.hid (HB.out.trans (b4.mono HB.out.size))
        have HO4 := Lib.hid (own_bl HOW.out b4)
        have HX4 := Lib.hid h4'
        have d0 : w4.cell? ⟨wo.heap.size, 0, none⟩ = some (.string ⟨x.1.toArray⟩) := (cell_of_row _ _ _ _ _ _ h4').trans (by simpa using HX0.out)
        have hz4 := row_lt h4'
        clear tu4 hba b4 h4' HLZ HB HOW
        go_wp2_with (refine wpList_load_at rfl 47 _ rfl wo.heap.size 0 rfl LZ (Lies.row _ HX4.out) _ Tryz.underlying47 rfl (by rw [h4]; kernel_rfl) ?_)
        refine (HGD.out _).mono ?_
        rintro e w5 ⟨rfl, b5⟩
        have HB5 := Lib.hid (HB4.out.trans (b5.mono HB4.out.size))
        have HO5 := Lib.hid (own_bl HO4.out b5)
        have d05 := (b5.cell (p := ⟨wo.heap.size, 0, none⟩) hz4).trans d0
        have hz5 : wo.heap.size < w5.heap.size := Nat.lt_of_lt_of_le hz4 b5.size
        clear b5 HGD d0 HX4 hz4 HO4
        by_cases hd : day ≤ x.2.2.1
        · have hdb : decide (day ≤ x.2.2.1) = true := decide_eq_true hd
          rw [hdb]
          obtain ⟨kk, hkk⟩ : ∃ kk, kk = min s2 lo := ⟨_, rfl⟩
          have hmin : min s2 lo = kk := hkk.symm
          have hk2 : 0 ≤ kk := by omega
          have hk3 : kk ≤ s2 := by omega
          have hk4 : kk ≤ 1099511627776 := by omega
          have HPN : Hid (planTo B day n (LL.take (k + 1)) = (out ++ (picksF (linesM B.2.2) x.1 kk).1, s2 - (kk - (picksF (linesM B.2.2) x.1 kk).2))) := by
            show _ = _
            rw [HTK1.out, planStep, if_pos hd, ← HLOX.out, hmin]
          obtain ⟨hq0, hq1⟩ := HPIN.out x.1 kk hk2
          have hql := HPLN.out x.1 kk
          have HPI1 := Lib.hid (fun W hs => HPI.out q c W hs x.1 kk hk2 hk4)
          obtain ⟨Q, hQ⟩ : ∃ Q, Q = picksF (linesM B.2.2) x.1 kk := ⟨_, rfl⟩
          rw [← hQ] at HPN hq0 hq1 hql HPI1
          obtain ⟨po, pn⟩ := Q
          simp only at hq0 hq1 hql HPI1 HPN
          have HLB1 := Lib.hid (HLBX.out w5 (B3.out.trans (HB5.out.mono B3.out.size)) (HS3.out w5 HB5.out))
          clear hd hdb HTK1 HLBX hkk hQ HLOX
          go_wp2_with fail
          refine HLB1.out.mono ?_
          rintro e w6 ⟨rfl, b6⟩
          have HB6 := Lib.hid (HB5.out.trans (b6.mono HB5.out.size))
          have HO6 := Lib.hid (own_bl HO5.out b6)
          have d06 := (b6.cell (p := ⟨wo.heap.size, 0, none⟩) hz5).trans d05
          have HPI2 := Lib.hid (HPI1.out w6 (HS3.out w6 HB6.out))
          clear b6 HLB1 d05 HO5 HPI1
          go_wp2_with fail
          refine HPI2.out.mono ?_
          rintro e w7 ⟨A7, c7, rfl, hr7, -, b7⟩
          have HB7 := Lib.hid (HB6.out.trans (b7.mono HB6.out.size))
          have HO7 := Lib.hid (own_bl HO6.out b7)
          have HR7 := Lib.hid hr7
          clear b7 hr7 HPI2 d06 HO6
          go_wp2_with (at_builtin; refine wpList_append_rows _ rfl (.tmp 69) (.tmp 70) 29 rfl w3.heap.size 42 i0 _ 56 Tryz.underlying29 hi hz0 hz1 hz2 rfl encPick_len (by decide) encPick_one _ out.length (flatL encPick out) rfl HO7.out A7 c7 po rfl HR7.out (by omega) (by decide) HB7.out.size ?_; intro v8 w8 HO8 hb8; have HB8 := Lib.hid hb8; clear hb8)
          go_roundw
          case rel =>
            refine ⟨k + 1, by omega, by go_num, by rw [HPN.out], ?_, HB7.out.trans HB8.out⟩
            show World.ownsRow _ _ _ _ _ _ _
            rw [HPN.out, List.length_append, flatL_append]
            exact HO8.out
          case measure => simp [intOf]; omega
        · have hdb : decide (day ≤ x.2.2.1) = false := decide_eq_false hd
          rw [hdb]
          have HPN : Hid (planTo B day n (LL.take (k + 1)) = (out, s2)) := by
            show _ = _
            rw [HTK1.out, planStep, if_neg hd]
          clear hd hdb HTK1 HLBX HLOX
          go_wp2_with fail
          go_roundw
          case rel => exact ⟨k + 1, by omega, by go_num, by rw [HPN.out], by rw [HPN.out]; exact HO5.out, HB5.out⟩
          case measure => simp [intOf]; omega
      · obtain rfl : k = N := by omega
        have hT : LL.take k = LL := List.take_of_length_le (by rw [← HN.out]; exact Nat.le_refl _)
        have hti := HTI.out k
        rw [hT] at HOW hti ⊢
        clear hT HTK HTI HTL
        obtain ⟨P, hP⟩ : ∃ P, P = planTo B day n LL := ⟨_, rfl⟩
        rw [← hP] at HOW hti HLEFT HPL ⊢
        obtain ⟨out, s2⟩ := P
        obtain ⟨A', c', rfl, hra, hge⟩ := RowAt.of_own encPick_len HOW.out
        have HRA := Lib.hid hra
        have HGE := Lib.hid hge
        have hbw := B3.out.trans (HB.out.mono B3.out.size)
        have e9 := (HER.out wo hbw).2
        unfold ErrAt at e9
        have HBW := Lib.hid hbw
        have hl : s2 = n - min n fr := HLEFT.out
        simp only at hti
        clear hP hra hge HOW HER
        by_cases hs : 0 < s2
        · have HPE9 : Hid (pe = 9) := by show _ = _; rw [HPE.out, if_neg (by simp), if_pos (by omega)]
          have HPL9 : Hid (pl = []) := by show _ = _; rw [HPL.out, HPE9.out]; rfl
          clear HPE HPL HLEFT hl
          go_wp2_with fail
          go_quiet (fail)
          go_wp2_with fail
          go_ret2
          rw [HPE9.out, HPL9.out]
          exact ⟨none, 0, rfl, .inl rfl, (fun a ha => by cases ha), HBW.out.trans (below_drewN (Below.refl _ _) _)⟩
        · have HPE0 : Hid (pe = 0) := by show _ = _; rw [HPE.out, if_neg (by simp), if_neg (by omega)]
          have HPL0 : Hid (pl = out) := by show _ = _; rw [HPL.out, HPE0.out]; rfl
          clear HPE HPL HLEFT hl e9
          go_wp2_with fail
          go_ret2
          rw [HPE0.out, HPL0.out]
          exact ⟨A', c', rfl, HRA.out, fun a ha => by have := HGE.out a ha; have := B3.out.size; omega, HBW.out⟩
theorem planAl_any (E : Nat → Addr) {p : Nat} {F : List Nat} {B : BkV} {w : World} (H : BookIs w p F B) (hI : BkI B) (code : List UInt8) (n day : Int) (hG : BkG E w) :
    Calls Tryz.prog 11 #[.pointer (some ⟨p, 0, none⟩), .string ⟨code.toArray⟩, .int .i64 n, .int .i64 day] w (PlanEnds E (planL B code n day) (planE B code n day) w) := by
  by_cases h : wiB n 1 1099511627776 = false ∨ wiB day 0 100000 = false
  · have h0 : planE B code n day = 2 := by unfold planE; rw [if_pos h]
    have h1 : planL B code n day = [] := by unfold planL; rw [h0]; rfl
    rw [h0, h1]
    exact plan_bound E p _ n day w hG.stk.place.bound h
  · have h1 : wiB n 1 1099511627776 = true := by
      cases hv : wiB n 1 1099511627776 with
      | true => rfl
      | false => exact absurd (.inl hv) h
    have h2 : wiB day 0 100000 = true := by
      cases hv : wiB day 0 100000 with
      | true => rfl
      | false => exact absurd (.inr hv) h
    have h3 : 1 ≤ n ∧ n ≤ 1099511627776 := of_decide_eq_true h1
    exact plan_in E H hI code n day h3.1 h3.2 h1 h2 hG
end Go.Proofs.YtgllddebodfhkaaGreatDoor
namespace Go.Proofs.YtgllddebodfhkaaGreatDoor
open Go.RowKit Go.Sort Go.Proofs

theorem eqInPick (x y : PickV) (W : World) : (Op.equalIn 10000 42 (.agg (encPick x).toArray) (.agg (encPick y).toArray)).run Tryz.prog W = .ok (decide (x = y)) W := by
  have u3 := Tryz.underlying3
  have u9 := Tryz.underlying9
  have hS : Tryz.prog.underlying 42 = some (.struct (Tryz.prog.fieldsOf 42)) := by kernel_rfl
  have hp : Tryz.prog.stoodInHeld 42 = false := by kernel_rfl
  have pS : Tryz.prog.underlying 40 = some (.struct (Tryz.prog.fieldsOf 40)) := by kernel_rfl
  have pp : Tryz.prog.stoodInHeld 40 = false := by kernel_rfl
  have eP : ∀ (a1 b1 : List UInt8) (a2 a3 b2 b3 : Int) (W : World), (Op.equalIn 9999 40 (.agg #[.string ⟨a1.toArray⟩, .int .i64 a2, .int .i64 a3]) (.agg #[.string ⟨b1.toArray⟩, .int .i64 b2, .int .i64 b3])).run Tryz.prog W = .ok (decide (a1 = b1 ∧ a2 = b2 ∧ a3 = b3)) W := fun a1 b1 a2 a3 b2 b3 W => by
    rw [show (9999 : Nat) = 9998 + 1 from rfl, run_equalIn_agg W 9998 40 _ _ pS pp]
    simp only [Program.fieldsOf, Tryz.underlying40]
    go_simp
    by_cases h1 : a1 = b1 <;> by_cases h2 : a2 = b2 <;> by_cases h3 : a3 = b3 <;> simp [h1, h2, h3]
  simp only [encPick]
  rw [show (10000 : Nat) = 9999 + 1 from rfl, run_equalIn_agg W 9999 42 _ _ hS hp]
  clear hS hp pS pp
  simp only [Program.fieldsOf, Tryz.underlying42]
  go_simp
  obtain ⟨⟨a1, a2, a3⟩, a4, a5⟩ := x
  obtain ⟨⟨b1, b2, b3⟩, b4, b5⟩ := y
  by_cases h1 : a1 = b1 <;> by_cases h2 : a2 = b2 <;> by_cases h3 : a3 = b3 <;> by_cases h4 : a4 = b4 <;> by_cases h5 : a5 = b5 <;> simp [h1, h2, h3, h4, h5]
theorem neqPick (x y : PickV) (W : World) : (binOp .neq 42 (.agg (encPick x).toArray) (.agg (encPick y).toArray)).run Tryz.prog W = .ok (.bool (!decide (x = y))) W := by
  rw [run_neq_struct, eqInPick]
  rfl
theorem eqPick (x y : PickV) (W : World) : (binOp .eql 42 (.agg (encPick x).toArray) (.agg (encPick y).toArray)).run Tryz.prog W = .ok (.bool (decide (x = y))) W := by
  rw [run_eql_struct, eqInPick]
  rfl

set_option maxHeartbeats 800000 in
set_option maxRecDepth 100000 in
/-- Picks that are alike are the same. -/
theorem samePicks_is (A A' : Option Addr) (c c' : Nat) (l : List PickV) (w : World) (h : RowAt encPick 5 w A l) (h' : RowAt encPick 5 w A' l) (hl : l.length ≤ 100000) :
    Calls Tryz.prog 35 #[.slice A l.length c, .slice A' l.length c'] w fun e w' => e = .returned (.bool true) ∧ Below w.heap.size w w' := by
  have HR := Lib.hid (fun W (hb : Below w.heap.size w W) => And.intro (h.below hb) (h'.below hb))
  obtain ⟨N, hN⟩ : ∃ N, N = l.length := ⟨_, rfl⟩
  have HN := Lib.hid hN
  rw [← hN] at hl ⊢
  clear h h' hN
  go_enter Tryz.func35, Tryz.ntmps35
  go_wp2_with fail
  go_loopw [5] (fun i wr => ∃ k : Nat, k ≤ N ∧ i = .int .i64 k ∧ Hid (Below w.heap.size w wr)) (fun i _ => N - (intOf i).toNat)
  case atStart => exact ⟨0, by omega, rfl, Below.refl _ _⟩
  case round =>
    obtain ⟨k, hk, rfl, HB⟩ := hrel
    obtain ⟨wo, rfl⟩ : ∃ wo : World, wo = wr := ⟨_, rfl⟩
    by_cases hkN : k < N
    · have hkx : k < l.length := by rw [← HN.out]; exact hkN
      obtain ⟨hr1, hr2⟩ := HR.out wo HB.out
      obtain ⟨g1, o1, rfl, lg1, cg1⟩ := hr1.resolve_left (fun h => by rw [h] at hkx; simp at hkx)
      obtain ⟨g2, o2, rfl, lg2, cg2⟩ := hr2.resolve_left (fun h => by rw [h] at hkx; simp at hkx)
      obtain ⟨x, hx⟩ : ∃ x, x = l[k] := ⟨_, rfl⟩
      have p1 := cg1 k hkx
      have p2 := cg2 k hkx
      rw [← hx] at p1 p2
      have hq : ∀ W, (binOp .neq 42 (.agg (encPick x).toArray) (.agg (encPick x).toArray)).run Tryz.prog W = .ok (.bool false) W := fun W => (neqPick x x W).trans (by simp)
      obtain ⟨⟨x1, x2, x3⟩, x4, x5⟩ := x
      have a0 := p1 0 _ rfl
      have a1 := p1 1 _ rfl
      have a2 := p1 2 _ rfl
      have a3 := p1 3 _ rfl
      have a4 := p1 4 _ rfl
      have b0 := p2 0 _ rfl
      have b1 := p2 1 _ rfl
      have b2 := p2 2 _ rfl
      have b3 := p2 3 _ rfl
      have b4 := p2 4 _ rfl
      simp only [Nat.add_zero] at a0 b0
      simp only [encPick] at hq
      have hk0 : (0 : Int) ≤ (k : Nat) := by omega
      have hk1 : ((k : Nat) : Int) < (N : Nat) := by omega
      clear p1 p2 hx cg1 cg2 hr1 hr2 lg1 lg2
      go_wp2_with fail
      go_quiet (fail)
      go_wp2_with fail
      go_roundw
      case rel => exact ⟨k + 1, by omega, by go_num, below_drewN HB.out _⟩
      case measure => simp [intOf]; omega
    · obtain rfl : k = N := by omega
      go_wp2_with fail
      go_ret
      exact ⟨rfl, HB.out⟩
end Go.Proofs.YtgllddebodfhkaaGreatDoor
namespace Go.Proofs.YtgllddebodfhkaaGreatDoor
open Go.RowKit Go.Sort Go.Proofs

def pl2 : EntV := (kLot, zeroGoods, ([108, 49], [114, 121, 101], 9, 0), zeroPlace, zeroPlace, 0)
def pl3 : EntV := (kLot, zeroGoods, ([108, 50], [114, 121, 101], 8, 0), zeroPlace, zeroPlace, 0)
def pl4 : EntV := (kIn, zeroGoods, ([108, 49], [], 0, 0), zeroPlace, ([97], 1, 1), 7)
def pl5 : EntV := (kIn, zeroGoods, ([108, 50], [], 0, 0), zeroPlace, ([97], 1, 1), 4)
def pB2 : BkV := doB sB1 pl2
def pB3 : BkV := doB pB2 pl3
def pB4 : BkV := doB pB3 pl4
def pB5 : BkV := doB pB4 pl5
theorem pl_e2 : doE sB1 pl2 = 0 := by decide
theorem pl_e3 : doE pB2 pl3 = 0 := by decide
theorem pl_e4 : doE pB3 pl4 = 0 := by decide
theorem pl_e5 : doE pB4 pl5 = 0 := by decide
theorem pl_inv : BkI pB5 := ((((BkI.nil.do_ _).do_ _).do_ _).do_ _).do_ _
theorem pl_lots : lotsB pB5 [114, 121, 101] = [([108, 50], [114, 121, 101], 8, 0), ([108, 49], [114, 121, 101], 9, 0)] := (pl_inv.lots_ins _).symm.trans (by decide)
theorem pl_stk : pB5.2.2 = [((([97], 1, 1), [108, 49]), 7), ((([97], 1, 1), [108, 50]), 4)] := by decide
theorem pl_lines : linesM pB5.2.2 = [(([97], 1, 1), [108, 49], 7), (([97], 1, 1), [108, 50], 4)] := by
  refine (lines_of (m := pB5.2.2) pl_inv.stk.nodup (d := [(([97], 1, 1), [108, 49], 7), (([97], 1, 1), [108, 50], 4)]) ?_ ?_).symm
  · rw [pl_stk]
    exact List.Perm.refl _
  · unfold Stab.Srt
    rw [List.pairwise_cons, List.pairwise_cons]
    refine ⟨fun y hy => ?_, fun y hy => by simp at hy, List.Pairwise.nil⟩
    simp only [List.mem_singleton] at hy
    subst hy
    decide
theorem pl_free : freeB pB5 [114, 121, 101] 0 = 11 := by
  unfold freeB
  rw [pl_lots]
  decide
theorem pl_err : planE pB5 [114, 121, 101] 5 0 = 0 := by
  unfold planE
  rw [pl_free]
  decide
theorem pl_is : planL pB5 [114, 121, 101] 5 0 = [(([97], 1, 1), [108, 50], 4), (([97], 1, 1), [108, 49], 1)] := by
  unfold planL planF planTo
  rw [pl_err, pl_lots]
  simp only [List.foldl, planStep, pl_lines]
  decide
/-- An entry done, a block beside the book kept. -/
theorem do_keep (E : Nat → Addr) {n p bx : Nat} {o : Obj} {B : BkV} (x : EntV) {w : World} (H : ∃ F, BookIs w p F B ∧ ∀ k ∈ F, n ≤ k ∧ k ≠ bx) (hx : w.heap[bx]? = some o) (hn : n ≤ w.heap.size) (hI : BkI B) (h1 : x.2.2.1.1.length ≤ 1000000000) (h2 : x.2.2.1.2.1.length ≤ 1000000000) (hG : BkG E w) :
    Calls Tryz.prog 16 #[.pointer (some ⟨p, 0, none⟩), .agg (encEnt x).toArray] w fun e w' => e = .returned (errOf E (doE B x)) ∧ (∃ F, BookIs w' p F (doB B x) ∧ ∀ k ∈ F, n ≤ k ∧ k ≠ bx) ∧ w'.heap[bx]? = some o ∧ Below n w w' := by
  obtain ⟨F, h, hF⟩ := H
  have hbl : bx < w.heap.size := (Array.getElem?_eq_some_iff.1 hx).1
  refine (do_any E x h hI h1 h2 hG).mono ?_
  rintro e w' ⟨he, ⟨F', h6, h7⟩, h8⟩
  refine ⟨he, ⟨F', h6, fun k hk => ?_⟩, (h8.block bx hbl fun hm => (hF bx hm).2 rfl).trans hx, h8.below hn fun k hk => (hF k hk).1⟩
  rcases h7 k hk with h | h
  · exact hF k h
  · exact ⟨Nat.le_trans hn h, fun e => by omega⟩

set_option maxHeartbeats 3200000 in
set_option maxRecDepth 100000 in
theorem planned_any (E : Nat → Addr) (w : World) (hG : BkG E w) :
    Calls Tryz.prog 8 #[] w fun e w' => e = .returned (.bool true) ∧ Below w.heap.size w w' := by
  have HG := Lib.hid (fun W (h : Below w.heap.size w W) => hG.below h)
  have H1 : Hid (∀ p bx o W, Below w.heap.size w W → (∃ F, BookIs W p F bk0 ∧ ∀ k ∈ F, w.heap.size ≤ k ∧ k ≠ bx) → W.heap[bx]? = some o → Calls Tryz.prog 16 #[.pointer (some ⟨p, 0, none⟩), .agg #[.string ⟨#[103, 111, 111, 100, 115]⟩, .string ⟨#[114, 121, 101]⟩, .int .i64 6, .string ⟨#[]⟩, .string ⟨#[]⟩, .int .i64 0, .int .i64 0, .string ⟨#[]⟩, .int .i64 0, .int .i64 0, .string ⟨#[]⟩, .int .i64 0, .int .i64 0, .int .i64 0]] W
      fun e w' => e = .returned (errOf E (doE bk0 st1)) ∧ (∃ F, BookIs w' p F sB1 ∧ ∀ k ∈ F, w.heap.size ≤ k ∧ k ≠ bx) ∧ w'.heap[bx]? = some o ∧ Below w.heap.size W w') :=
    fun p bx o W hb H hx => do_keep E st1 H hx hb.size BkI.nil (by decide) (by decide) (HG.out _ hb)
  have H2 : Hid (∀ p bx o W, Below w.heap.size w W → (∃ F, BookIs W p F sB1 ∧ ∀ k ∈ F, w.heap.size ≤ k ∧ k ≠ bx) → W.heap[bx]? = some o → Calls Tryz.prog 16 #[.pointer (some ⟨p, 0, none⟩), .agg #[.string ⟨#[108, 111, 116]⟩, .string ⟨#[]⟩, .int .i64 0, .string ⟨#[108, 49]⟩, .string ⟨#[114, 121, 101]⟩, .int .i64 9, .int .i64 0, .string ⟨#[]⟩, .int .i64 0, .int .i64 0, .string ⟨#[]⟩, .int .i64 0, .int .i64 0, .int .i64 0]] W
      fun e w' => e = .returned (errOf E (doE sB1 pl2)) ∧ (∃ F, BookIs w' p F pB2 ∧ ∀ k ∈ F, w.heap.size ≤ k ∧ k ≠ bx) ∧ w'.heap[bx]? = some o ∧ Below w.heap.size W w') :=
    fun p bx o W hb H hx => do_keep E pl2 H hx hb.size (BkI.nil.do_ _) (by decide) (by decide) (HG.out _ hb)
  have H3 : Hid (∀ p bx o W, Below w.heap.size w W → (∃ F, BookIs W p F pB2 ∧ ∀ k ∈ F, w.heap.size ≤ k ∧ k ≠ bx) → W.heap[bx]? = some o → Calls Tryz.prog 16 #[.pointer (some ⟨p, 0, none⟩), .agg #[.string ⟨#[108, 111, 116]⟩, .string ⟨#[]⟩, .int .i64 0, .string ⟨#[108, 50]⟩, .string ⟨#[114, 121, 101]⟩, .int .i64 8, .int .i64 0, .string ⟨#[]⟩, .int .i64 0, .int .i64 0, .string ⟨#[]⟩, .int .i64 0, .int .i64 0, .int .i64 0]] W
      fun e w' => e = .returned (errOf E (doE pB2 pl3)) ∧ (∃ F, BookIs w' p F pB3 ∧ ∀ k ∈ F, w.heap.size ≤ k ∧ k ≠ bx) ∧ w'.heap[bx]? = some o ∧ Below w.heap.size W w') :=
    fun p bx o W hb H hx => do_keep E pl3 H hx hb.size ((BkI.nil.do_ _).do_ _) (by decide) (by decide) (HG.out _ hb)
  have H4 : Hid (∀ p bx o W, Below w.heap.size w W → (∃ F, BookIs W p F pB3 ∧ ∀ k ∈ F, w.heap.size ≤ k ∧ k ≠ bx) → W.heap[bx]? = some o → Calls Tryz.prog 16 #[.pointer (some ⟨p, 0, none⟩), .agg #[.string ⟨#[105, 110]⟩, .string ⟨#[]⟩, .int .i64 0, .string ⟨#[108, 49]⟩, .string ⟨#[]⟩, .int .i64 0, .int .i64 0, .string ⟨#[]⟩, .int .i64 0, .int .i64 0, .string ⟨#[97]⟩, .int .i64 1, .int .i64 1, .int .i64 7]] W
      fun e w' => e = .returned (errOf E (doE pB3 pl4)) ∧ (∃ F, BookIs w' p F pB4 ∧ ∀ k ∈ F, w.heap.size ≤ k ∧ k ≠ bx) ∧ w'.heap[bx]? = some o ∧ Below w.heap.size W w') :=
    fun p bx o W hb H hx => do_keep E pl4 H hx hb.size (((BkI.nil.do_ _).do_ _).do_ _) (by decide) (by decide) (HG.out _ hb)
  have H5 : Hid (∀ p bx o W, Below w.heap.size w W → (∃ F, BookIs W p F pB4 ∧ ∀ k ∈ F, w.heap.size ≤ k ∧ k ≠ bx) → W.heap[bx]? = some o → Calls Tryz.prog 16 #[.pointer (some ⟨p, 0, none⟩), .agg #[.string ⟨#[105, 110]⟩, .string ⟨#[]⟩, .int .i64 0, .string ⟨#[108, 50]⟩, .string ⟨#[]⟩, .int .i64 0, .int .i64 0, .string ⟨#[]⟩, .int .i64 0, .int .i64 0, .string ⟨#[97]⟩, .int .i64 1, .int .i64 1, .int .i64 4]] W
      fun e w' => e = .returned (errOf E (doE pB4 pl5)) ∧ (∃ F, BookIs w' p F pB5 ∧ ∀ k ∈ F, w.heap.size ≤ k ∧ k ≠ bx) ∧ w'.heap[bx]? = some o ∧ Below w.heap.size W w') :=
    fun p bx o W hb H hx => do_keep E pl5 H hx hb.size ((((BkI.nil.do_ _).do_ _).do_ _).do_ _) (by decide) (by decide) (HG.out _ hb)
  have HI := Lib.hid (show BkI pB5 from (((((BkI.nil.do_ _).do_ _).do_ _).do_ _).do_ _))
  have H6 : Hid (∀ p F W, Below w.heap.size w W → BookIs W p F pB5 → Calls Tryz.prog 11 #[.pointer (some ⟨p, 0, none⟩), .string ⟨#[114, 121, 101]⟩, .int .i64 5, .int .i64 0] W fun e w' => ∃ A cap, e = .returned (.tuple #[.slice A 2 cap, .nilIface]) ∧ RowAt encPick 5 w' A [(([97], 1, 1), [108, 50], 4), (([97], 1, 1), [108, 49], 1)] ∧ (∀ a, A = some a → W.heap.size ≤ a.block) ∧ Below W.heap.size W w') := fun p F W hb H => by
    have h := planAl_any E H HI.out [114, 121, 101] 5 0 (HG.out _ hb)
    rw [pl_err, pl_is] at h
    exact h
  have hq1 : ∀ W, (binOp .eql 42 (.agg #[.string ⟨#[97]⟩, .int .i64 1, .int .i64 1, .string ⟨#[108, 50]⟩, .int .i64 4]) (.agg #[.string ⟨#[97]⟩, .int .i64 1, .int .i64 1, .string ⟨#[108, 50]⟩, .int .i64 4])).run Tryz.prog W = .ok (.bool true) W := fun W => eqPick (([97], 1, 1), [108, 50], 4) (([97], 1, 1), [108, 50], 4) W
  have hq2 : ∀ W, (binOp .eql 42 (.agg #[.string ⟨#[97]⟩, .int .i64 1, .int .i64 1, .string ⟨#[108, 49]⟩, .int .i64 1]) (.agg #[.string ⟨#[97]⟩, .int .i64 1, .int .i64 1, .string ⟨#[108, 49]⟩, .int .i64 1])).run Tryz.prog W = .ok (.bool true) W := fun W => eqPick (([97], 1, 1), [108, 49], 1) (([97], 1, 1), [108, 49], 1) W
  rw [st_e1] at H1
  rw [pl_e2] at H2
  rw [pl_e3] at H3
  rw [pl_e4] at H4
  rw [pl_e5] at H5
  simp only [errOf_zero] at H1 H2 H3 H4 H5
  clear hG
  go_enter Tryz.func8, Tryz.ntmps8
  go_wp2_with fail
  refine (newBook_any w).mono ?_
  rintro e w1 ⟨p, F, rfl, hb, hF, b1⟩
  have ba := below_one w1 (.cells #[.string ⟨#[97]⟩, .int .i64 1, .int .i64 1] 40)
  have HBK : Hid (∃ F, BookIs (w1.alloc (.cells #[.string ⟨#[97]⟩, .int .i64 1, .int .i64 1] 40)) p F bk0 ∧ ∀ k ∈ F, w.heap.size ≤ k ∧ k ≠ w1.heap.size) := ⟨F, hb.below ba, fun k hk => ⟨hF k hk, by have := hb.lt k hk; omega⟩⟩
  have HX : Hid ((w1.alloc (.cells #[.string ⟨#[97]⟩, .int .i64 1, .int .i64 1] 40)).heap[w1.heap.size]? = some (.cells #[.string ⟨#[97]⟩, .int .i64 1, .int .i64 1] 40 (0, 0))) := heap_alloc_new _ _
  have B1 := Lib.hid (b1.trans (ba.mono b1.size))
  clear hb hF b1 ba
  go_upto_region 5 with fail
  generalize w1.alloc (.cells #[.string ⟨#[97]⟩, .int .i64 1, .int .i64 1] 40) = W1 at HBK HX B1 ⊢
  generalize w1.heap.size = bx at HBK HX ⊢
  go_wp2_with fail
  refine (H1.out p bx _ _ B1.out HBK.out HX.out).mono ?_
  rintro e w2 ⟨rfl, hb2, hx2, b2⟩
  have HBK2 := Lib.hid hb2
  have HX2 := Lib.hid hx2
  have B2 := Lib.hid (B1.out.trans b2)
  clear hb2 hx2 b2
  go_wp2_with fail
  refine (H2.out p bx _ _ B2.out HBK2.out HX2.out).mono ?_
  rintro e w3 ⟨rfl, hb3, hx3, b3⟩
  have HBK3 := Lib.hid hb3
  have HX3 := Lib.hid hx3
  have B3 := Lib.hid (B2.out.trans b3)
  clear hb3 hx3 b3
  go_wp2_with fail
  refine (H3.out p bx _ _ B3.out HBK3.out HX3.out).mono ?_
  rintro e w4 ⟨rfl, hb4, hx4, b4⟩
  have HBK4 := Lib.hid hb4
  have HX4 := Lib.hid hx4
  have B4 := Lib.hid (B3.out.trans b4)
  clear hb4 hx4 b4
  go_wp2_with (refine wpList_load_at rfl 40 _ rfl bx 0 rfl [.string ⟨#[97]⟩, .int .i64 1, .int .i64 1] (Lies.row _ HX4.out) _ Tryz.underlying40 rfl (by kernel_rfl) ?_)
  refine (H4.out p bx _ _ B4.out HBK4.out HX4.out).mono ?_
  rintro e w5 ⟨rfl, hb5, hx5, b5⟩
  have HBK5 := Lib.hid hb5
  have HX5 := Lib.hid hx5
  have B5 := Lib.hid (B4.out.trans b5)
  clear hb5 hx5 b5
  go_wp2_with (refine wpList_load_at rfl 40 _ rfl bx 0 rfl [.string ⟨#[97]⟩, .int .i64 1, .int .i64 1] (Lies.row _ HX5.out) _ Tryz.underlying40 rfl (by kernel_rfl) ?_)
  refine (H5.out p bx _ _ B5.out HBK5.out HX5.out).mono ?_
  rintro e w6 ⟨rfl, hb6, hx6, b6⟩
  have HBK6 := Lib.hid hb6
  have HX6 := Lib.hid hx6
  have B6 := Lib.hid (B5.out.trans b6)
  clear hb6 hx6 b6
  obtain ⟨F6, hf6, -⟩ := HBK6.out
  have HP6 := Lib.hid (H6.out p F6 w6 B6.out hf6)
  clear hf6
  go_wp2_with fail
  refine HP6.out.mono ?_
  rintro e w7 ⟨A, cap, rfl, hr, -, b7⟩
  have B7 := Lib.hid (B6.out.trans (b7.mono B6.out.size))
  have hx7 := (b7.block bx (row_lt HX6.out)).trans HX6.out
  obtain ⟨d0, d1, d2⟩ : w7.cell? ⟨bx, 0, none⟩ = some (.string ⟨#[97]⟩) ∧ w7.cell? ⟨bx, 1, none⟩ = some (.int .i64 1) ∧ w7.cell? ⟨bx, 2, none⟩ = some (.int .i64 1) := ⟨cell_of_row _ _ _ _ _ _ hx7, cell_of_row _ _ _ _ _ _ hx7, cell_of_row _ _ _ _ _ _ hx7⟩
  obtain ⟨g, o, rfl, lg, cg⟩ := hr.resolve_left (fun h => by cases h)
  have p1 := cg 0 (by simp)
  have p2 := cg 1 (by simp)
  have a0 := p1 0 _ rfl
  have a1 := p1 1 _ rfl
  have a2 := p1 2 _ rfl
  have a3 := p1 3 _ rfl
  have a4 := p1 4 _ rfl
  have b0 := p2 0 _ rfl
  have b1 := p2 1 _ rfl
  have b2 := p2 2 _ rfl
  have b3 := p2 3 _ rfl
  have b4 := p2 4 _ rfl
  simp only [Nat.zero_mul, Nat.add_zero, Nat.one_mul] at a0 a1 a2 a3 a4 b0 b1 b2 b3 b4
  clear hr p1 p2 cg HP6 b7 hx7
  go_wp2_with fail
  go_quiet (fail)
  go_wp2_with fail
  go_ret
  exact ⟨rfl, below_drewN B7.out _⟩
end Go.Proofs.YtgllddebodfhkaaGreatDoor
