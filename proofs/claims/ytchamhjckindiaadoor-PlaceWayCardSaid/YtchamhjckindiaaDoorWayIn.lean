/- The law PlaceWay at three well places, walked. -/
import Derived.Test.YtchamhjckindiaaDoorWay
import Derived.Deep.RegionHeld3
import Derived.Deep.MidRow
namespace Go.Proofs.YtchamhjckindiaaDoor
open Go.RowKit Go.Sort Go.Proofs

theorem lt_irr (x : PlaceV) : ltOf cfPlace x x = false := by
  have := likePlace.refl x
  unfold ltOf
  rw [this]; rfl
theorem lt_anti {x y : PlaceV} (h : ltOf cfPlace x y = true) : ltOf cfPlace y x = false := by
  unfold ltOf at *
  rw [decide_eq_true_iff] at h
  rw [decide_eq_false_iff_not]
  have := likePlace.swap y x
  omega
theorem lt_total {x y : PlaceV} (hne : x ≠ y) : ltOf cfPlace x y = true ∨ ltOf cfPlace y x = true := by
  have h0 : cfPlace x y ≠ 0 := fun h => hne ((cfPlace_zero x y).1 h)
  have := likePlace.swap x y
  unfold ltOf
  rw [decide_eq_true_iff, decide_eq_true_iff]
  omega

set_option maxHeartbeats 4000000 in
set_option maxRecDepth 100000 in
theorem way_in (E : Nat → Addr) (a b c : PlaceV) (w : World) (hG : PlaceG E w) (ha : placeE a = 0) (hb : placeE b = 0) (hc : placeE c = 0) :
    Calls Tryd.prog 4 #[.agg (encPlace a).toArray, .agg (encPlace b).toArray, .agg (encPlace c).toArray] w fun e w' => e = .returned (.bool true) ∧ Below w.heap.size w w' := by
  have pa := InP.of ha
  have pb := InP.of hb
  have pc := InP.of hc
  have HCA := Lib.hid (show ∀ W, PlaceG E W → Calls Tryd.prog 13 #[.agg (encPlace a).toArray] W fun e w' => e = .returned .nilIface ∧ Below W.heap.size W w' from fun W h => by have := checkPlace_any E a W h; rw [ha] at this; exact this)
  have HCB := Lib.hid (show ∀ W, PlaceG E W → Calls Tryd.prog 13 #[.agg (encPlace b).toArray] W fun e w' => e = .returned .nilIface ∧ Below W.heap.size W w' from fun W h => by have := checkPlace_any E b W h; rw [hb] at this; exact this)
  have HCC := Lib.hid (show ∀ W, PlaceG E W → Calls Tryd.prog 13 #[.agg (encPlace c).toArray] W fun e w' => e = .returned .nilIface ∧ Below W.heap.size W w' from fun W h => by have := checkPlace_any E c W h; rw [hc] at this; exact this)
  have HAB := Lib.hid (fun W => ahead_any a b pa pb W)
  have HBA := Lib.hid (fun W => ahead_any b a pb pa W)
  have HBC := Lib.hid (fun W => ahead_any b c pb pc W)
  have HAC := Lib.hid (fun W => ahead_any a c pa pc W)
  have HS1 := Lib.hid (fun W h => steps_any E a b ha hb W h)
  have HS2 := Lib.hid (show ∀ W, PlaceG E W → Calls Tryd.prog 14 #[.agg (encPlace b).toArray, .agg (encPlace a).toArray] W fun e w' => e = .returned (.int .i64 (stepsP a b)) ∧ Below W.heap.size W w' from fun W h => by have := steps_any E b a hb ha W h; rwa [steps_swap b a] at this)
  have HS3 := Lib.hid (fun W h => steps_any E a c ha hc W h)
  have HS4 := Lib.hid (fun W h => steps_any E c b hc hb W h)
  have n1 := steps_le pa pb
  have p1 := steps_le pa pc
  have q1 := steps_le pc pb
  have t1 := steps_three pa pb pc
  have hcase : (ltOf cfPlace a b = false ∧ ltOf cfPlace b a = false ∧ decide (a = b) = true ∧ stepsP a b = 0) ∨ (ltOf cfPlace a b = true ∧ ltOf cfPlace b a = false ∧ decide (a = b) = false ∧ ltOf cfPlace b c = true ∧ ltOf cfPlace a c = true ∧ stepsP a b ≠ 0) ∨
      (ltOf cfPlace a b = true ∧ ltOf cfPlace b a = false ∧ decide (a = b) = false ∧ ltOf cfPlace b c = false ∧ stepsP a b ≠ 0) ∨ (ltOf cfPlace a b = false ∧ ltOf cfPlace b a = true ∧ decide (a = b) = false ∧ stepsP a b ≠ 0) := by
    by_cases he : a = b
    · subst he
      exact .inl ⟨lt_irr a, lt_irr a, by simp, (steps_zero pa pa).2 rfl⟩
    · have hs : stepsP a b ≠ 0 := fun h => he ((steps_zero pa pb).1 h)
      have hd : decide (a = b) = false := by simpa using he
      rcases lt_total he with h | h
      · cases hbc : ltOf cfPlace b c
        · exact .inr (.inr (.inl ⟨h, lt_anti h, hd, rfl, hs⟩))
        · exact .inr (.inl ⟨h, lt_anti h, hd, rfl, likePlace.swo.trans a b c h hbc, hs⟩)
      · exact .inr (.inr (.inr ⟨lt_anti h, h, hd, hs⟩))
  have e1 := fun W => eqPlace a b W
  have e2 := fun W => eqInPlace a b W
  have e3 := fun W => neqPlace a b W
  have hsl : ∃ u v t : WP, (Stab.srt (ltOf cfWP) [⟨a, ha⟩, ⟨b, hb⟩, ⟨c, hc⟩]) = [u, v, t] ∧ ltOf cfPlace v.1 u.1 = false ∧ ltOf cfPlace t.1 v.1 = false := by
    have hl : (Stab.srt (ltOf cfWP) [(⟨a, ha⟩ : WP), ⟨b, hb⟩, ⟨c, hc⟩]).length = 3 := by rw [Stab.srt_length]; rfl
    have hs := Stab.srt_sorted swoWP [(⟨a, ha⟩ : WP), ⟨b, hb⟩, ⟨c, hc⟩]
    revert hl hs
    generalize Stab.srt (ltOf cfWP) [(⟨a, ha⟩ : WP), ⟨b, hb⟩, ⟨c, hc⟩] = l
    intro hl hs
    match l, hl with
    | [u, v, t], _ =>
      have h1 := Stab.srt_le swoWP hs (i := 0) (j := 1) (by omega) (by simp)
      have h2 := Stab.srt_le swoWP hs (i := 1) (j := 2) (by omega) (by simp)
      exact ⟨u, v, t, rfl, h1, h2⟩
  obtain ⟨u, v, t, hsrt, hvu, htv⟩ := hsl
  have HVU := Lib.hid (show ∀ W, Calls Tryd.prog 11 #[.agg (encPlace v.1).toArray, .agg (encPlace u.1).toArray] W fun e w' => e = .returned (.bool false) ∧ Below W.heap.size W w' from fun W => by have := ahead_any v.1 u.1 (InP.of v.2) (InP.of u.2) W; rwa [hvu] at this)
  have HTV := Lib.hid (show ∀ W, Calls Tryd.prog 11 #[.agg (encPlace t.1).toArray, .agg (encPlace v.1).toArray] W fun e w' => e = .returned (.bool false) ∧ Below W.heap.size W w' from fun W => by have := ahead_any t.1 v.1 (InP.of t.2) (InP.of v.2) W; rwa [htv] at this)
  obtain ⟨lw, hlw⟩ : ∃ lw : List WP, lw = [⟨a, ha⟩, ⟨b, hb⟩, ⟨c, hc⟩] := ⟨_, rfl⟩
  have hl3 : lw.length = 3 := by rw [hlw]; rfl
  have hne : lw ≠ [] := by rw [hlw]; exact fun h => by cases h
  rw [← hlw] at hsrt
  have HWK : Hid (∀ (A : Option Addr) (W : World), RowAt encWP 3 W A lw → Calls Tryd.prog 15 #[.slice A 3 3] W fun e w' => ∃ bb oo cc, e = .returned (.slice (some ⟨bb, oo, none⟩) 3 cc) ∧ bb < w'.heap.size ∧ (∀ k v', (encPlace u.1)[k]? = some v' → w'.cell? ⟨bb, oo + k, none⟩ = some v') ∧ (∀ k v', (encPlace v.1)[k]? = some v' → w'.cell? ⟨bb, oo + 3 + k, none⟩ = some v') ∧ (∀ k v', (encPlace t.1)[k]? = some v' → w'.cell? ⟨bb, oo + 6 + k, none⟩ = some v') ∧ Below W.heap.size W w') := fun A W hX => by
    have h := walkP_any A 3 lw W (by omega) hX hne
    rw [hl3] at h
    refine h.mono fun e w' h => ?_
    obtain ⟨A', cap, he, _, hR, _, hB⟩ := h
    rw [hsrt] at hR
    obtain ⟨bb, oo, rfl, h1, h2⟩ := hR.resolve_left (fun h => by cases h)
    rw [hl3] at he
    exact ⟨bb, oo, cap, he, h1, fun k v' hv => by simpa using h2 0 (by simp) k v' hv, fun k v' hv => by simpa using h2 1 (by simp) k v' hv, fun k v' hv => by simpa using h2 2 (by simp) k v' hv, hB⟩
  have HRW : Hid (∀ W : World, RowAt encWP 3 (W.alloc (.cells #[.string ⟨a.1.toArray⟩, .int .i64 a.2.1, .int .i64 a.2.2, .string ⟨b.1.toArray⟩, .int .i64 b.2.1, .int .i64 b.2.2, .string ⟨c.1.toArray⟩, .int .i64 c.2.1, .int .i64 c.2.2] 31)) (some ⟨W.heap.size, 0, none⟩) lw) := fun W => by
    rw [hlw]
    refine .inr ⟨W.heap.size, 0, rfl, by simp, fun i hi k v' hv => ?_⟩
    rw [cell_of_row _ _ _ _ _ _ (heap_alloc_new _ _)]
    have hk : k < 3 := by rw [← encWP_len]; exact (List.getElem?_eq_some_iff.1 hv).1
    have hi : i < 3 := hi
    rcases (show i = 0 ∨ i = 1 ∨ i = 2 by omega) with rfl | rfl | rfl <;> rcases (show k = 0 ∨ k = 1 ∨ k = 2 by omega) with rfl | rfl | rfl <;> exact hv
  clear hlw hl3 hne
  clear hsrt hvu htv
  obtain ⟨u, hu⟩ := u
  obtain ⟨v, hv⟩ := v
  obtain ⟨t, ht⟩ := t
  simp only at HVU HTV HWK
  clear hu hv ht
  generalize hab : ltOf cfPlace a b = ab at HAB hcase
  generalize hba : ltOf cfPlace b a = ba at HBA hcase
  generalize hbc : ltOf cfPlace b c = bc at HBC hcase
  generalize hac : ltOf cfPlace a c = ac at HAC hcase
  generalize hn : stepsP a b = n at HS1 HS2 n1 t1 hcase
  generalize hp : stepsP a c = p at HS3 p1 t1
  generalize hq : stepsP c b = q at HS4 q1 t1
  generalize hee : decide (a = b) = ee at e1 e2 e3 hcase
  clear hab hba hbc hac hn hp hq hee
  clear ha hb hc pa pb pc
  obtain ⟨a1, a2, a3⟩ := a
  obtain ⟨b1, b2, b3⟩ := b
  obtain ⟨c1, c2, c3⟩ := c
  obtain ⟨u1, u2, u3⟩ := u
  obtain ⟨v1, v2, v3⟩ := v
  obtain ⟨t1', t2, t3⟩ := t
  simp only [encPlace] at HCA HCB HCC HAB HBA HBC HAC HS1 HS2 HS3 HS4 e1 e2 e3 HVU HTV HWK HRW ⊢
  have HG := Lib.hid hG
  have HW := Lib.hid (fun W h => walked_any E W h)
  have E1 := Lib.hid (And.intro e1 (And.intro e2 e3))
  have N1 := Lib.hid (And.intro n1 (And.intro p1 (And.intro q1 t1)))
  have HCASE := Lib.hid hcase
  clear hG e1 e2 e3 n1 p1 q1 t1 hcase
  go_enter Tryd.func4, Tryd.ntmps4
  go_wp2_with fail
  have hx := box3_new a1 a2 a3 b1 b2 b3 c1 c2 c3 w
  have b0 := box3_below w (.cells #[.string ⟨a1.toArray⟩, .int .i64 a2, .int .i64 a3] 31) (.cells #[.string ⟨b1.toArray⟩, .int .i64 b2, .int .i64 b3] 31) (.cells #[.string ⟨c1.toArray⟩, .int .i64 c2, .int .i64 c3] 31)
  generalize ((w.alloc (.cells #[.string ⟨a1.toArray⟩, .int .i64 a2, .int .i64 a3] 31)).alloc (.cells #[.string ⟨b1.toArray⟩, .int .i64 b2, .int .i64 b3] 31)).alloc (.cells #[.string ⟨c1.toArray⟩, .int .i64 c2, .int .i64 c3] 31) = W0 at hx b0 ⊢
  have X0 := Lib.hid hx
  have HGW := Lib.hid (fun W (h : Below W0.heap.size W0 W) => HG.out.below (b0.trans (h.mono b0.size)))
  have B0 := Lib.hid b0
  clear hx b0 HG
  refine (HW.out W0 (HGW.out _ (Below.refl _ _))).mono ?_
  rintro e w1 ⟨rfl, bb⟩
  have B1 := Lib.hid bb
  obtain ⟨y0, y1, y2, y3, y4, y5, y6, y7, y8, l1, l2, l3⟩ := X0.out.below B1.out
  clear bb HW
  go_wp2_with fail
  refine (HCA.out w1 (HGW.out w1 B1.out)).mono ?_
  rintro e w2 ⟨rfl, bb⟩
  have B2 := Lib.hid (B1.out.trans (bb.mono B1.out.size))
  clear bb y0 y1 y2 y3 y4 y5 y6 y7 y8 l1 l2 l3 B1
  obtain ⟨y0, y1, y2, y3, y4, y5, y6, y7, y8, l1, l2, l3⟩ := X0.out.below B2.out
  go_wp2_with fail
  refine (HCB.out w2 (HGW.out w2 B2.out)).mono ?_
  rintro e w3 ⟨rfl, bb⟩
  have B3 := Lib.hid (B2.out.trans (bb.mono B2.out.size))
  clear bb y0 y1 y2 y3 y4 y5 y6 y7 y8 l1 l2 l3 B2
  obtain ⟨y0, y1, y2, y3, y4, y5, y6, y7, y8, l1, l2, l3⟩ := X0.out.below B3.out
  go_wp2_with fail
  refine (HCC.out w3 (HGW.out w3 B3.out)).mono ?_
  rintro e w4 ⟨rfl, bb⟩
  have B4 := Lib.hid (B3.out.trans (bb.mono B3.out.size))
  clear bb y0 y1 y2 y3 y4 y5 y6 y7 y8 l1 l2 l3 B3
  obtain ⟨y0, y1, y2, y3, y4, y5, y6, y7, y8, l1, l2, l3⟩ := X0.out.below B4.out
  go_wp2_with fail
  refine (HAB.out w4).mono ?_
  rintro e w5 ⟨rfl, bb⟩
  have B5 := Lib.hid (B4.out.trans (bb.mono B4.out.size))
  clear bb y0 y1 y2 y3 y4 y5 y6 y7 y8 l1 l2 l3 B4
  obtain ⟨y0, y1, y2, y3, y4, y5, y6, y7, y8, l1, l2, l3⟩ := X0.out.below B5.out
  go_wp2_with fail
  refine (HBA.out w5).mono ?_
  rintro e w6 ⟨rfl, bb⟩
  have B6 := Lib.hid (B5.out.trans (bb.mono B5.out.size))
  clear bb y0 y1 y2 y3 y4 y5 y6 y7 y8 l1 l2 l3 B5 HCA HCB HCC HAB HBA
  obtain ⟨y0, y1, y2, y3, y4, y5, y6, y7, y8, l1, l2, l3⟩ := X0.out.below B6.out
  have HK9 : Hid (∀ W, Below W0.heap.size W0 W → W.cell? ⟨w.heap.size, 0, none⟩ = some (.string ⟨a1.toArray⟩) ∧ W.cell? ⟨w.heap.size, 1, none⟩ = some (.int .i64 a2) ∧ W.cell? ⟨w.heap.size, 2, none⟩ = some (.int .i64 a3) ∧ W.cell? ⟨w.heap.size + 1, 0, none⟩ = some (.string ⟨b1.toArray⟩) ∧ W.cell? ⟨w.heap.size + 1, 1, none⟩ = some (.int .i64 b2) ∧ W.cell? ⟨w.heap.size + 1, 2, none⟩ = some (.int .i64 b3) ∧ W.cell? ⟨w.heap.size + 2, 0, none⟩ = some (.string ⟨c1.toArray⟩) ∧ W.cell? ⟨w.heap.size + 2, 1, none⟩ = some (.int .i64 c2) ∧ W.cell? ⟨w.heap.size + 2, 2, none⟩ = some (.int .i64 c3)) := fun W h => by
    have x := X0.out.below h
    exact ⟨x.a0, x.a1, x.a2, x.b0, x.b1, x.b2, x.c0, x.c1, x.c2⟩
  obtain ⟨e1, e2, e3⟩ := E1.out
  rcases HCASE.out with ⟨rfl, rfl, rfl, rfl⟩ | ⟨rfl, rfl, rfl, rfl, rfl, hn0⟩ | ⟨rfl, rfl, rfl, rfl, hn0⟩ | ⟨rfl, rfl, rfl, hn0⟩
  case' inl =>
    have hz := E1.out
    have BK := Lib.hid B6.out
    go_wp2_with fail
  case' inr.inl =>
    have hnb : (n == 0) = false := by simpa using hn0
    go_wp2_with fail
    refine (HBC.out w6).mono ?_
    rintro e w7 ⟨rfl, bb⟩
    have B7 := Lib.hid (B6.out.trans (bb.mono B6.out.size))
    clear bb y0 y1 y2 y3 y4 y5 y6 y7 y8 l1 l2 l3
    obtain ⟨y0, y1, y2, y3, y4, y5, y6, y7, y8, l1, l2, l3⟩ := X0.out.below B7.out
    go_wp2_with fail
    refine (HAC.out w7).mono ?_
    rintro e w8 ⟨rfl, bb⟩
    have BK := Lib.hid (B7.out.trans (bb.mono B7.out.size))
    clear bb y0 y1 y2 y3 y4 y5 y6 y7 y8 l1 l2 l3
    obtain ⟨y0, y1, y2, y3, y4, y5, y6, y7, y8, l1, l2, l3⟩ := X0.out.below BK.out
    go_wp2_with fail
  case' inr.inr.inl =>
    have hnb : (n == 0) = false := by simpa using hn0
    go_wp2_with fail
    refine (HBC.out w6).mono ?_
    rintro e w7 ⟨rfl, bb⟩
    have BK := Lib.hid (B6.out.trans (bb.mono B6.out.size))
    clear bb y0 y1 y2 y3 y4 y5 y6 y7 y8 l1 l2 l3
    obtain ⟨y0, y1, y2, y3, y4, y5, y6, y7, y8, l1, l2, l3⟩ := X0.out.below BK.out
    go_wp2_with fail
  case' inr.inr.inr =>
    have hnb : (n == 0) = false := by simpa using hn0
    have BK := Lib.hid B6.out
    go_wp2_with fail
  all_goals
    clear HAC HBC B6
    refine (HS1.out _ (HGW.out _ BK.out)).mono ?_
    rintro e w9 ⟨rfl, bb⟩
    have B9 := Lib.hid (BK.out.trans (bb.mono BK.out.size))
    clear bb y0 y1 y2 y3 y4 y5 y6 y7 y8 l1 l2 l3
    have m1 := N1.out.1.1
    have m2 := N1.out.1.2
    have m3 := N1.out.2.1.1
    have m4 := N1.out.2.1.2
    have m5 := N1.out.2.2.1.1
    have m6 := N1.out.2.2.1.2
    have m7 := N1.out.2.2.2
    have m8 : IntKind.i64.wrap (p + q) = p + q := IntWalk.i64_in _ (by omega)
    have m9 : ¬ p + q < 0 := by omega
    have d9 : Below W0.heap.size W0 w9.drew := B9.out.drew
    have K9 := HK9.out _ d9
    go_wp2_with fail
    go_region_held3 (fun W => W.cell? ⟨w.heap.size, 0, none⟩ = some (.string ⟨a1.toArray⟩) ∧ W.cell? ⟨w.heap.size, 1, none⟩ = some (.int .i64 a2) ∧ W.cell? ⟨w.heap.size, 2, none⟩ = some (.int .i64 a3) ∧ W.cell? ⟨w.heap.size + 1, 0, none⟩ = some (.string ⟨b1.toArray⟩) ∧ W.cell? ⟨w.heap.size + 1, 1, none⟩ = some (.int .i64 b2) ∧ W.cell? ⟨w.heap.size + 1, 2, none⟩ = some (.int .i64 b3) ∧ W.cell? ⟨w.heap.size + 2, 0, none⟩ = some (.string ⟨c1.toArray⟩) ∧ W.cell? ⟨w.heap.size + 2, 1, none⟩ = some (.int .i64 c2) ∧ W.cell? ⟨w.heap.size + 2, 2, none⟩ = some (.int .i64 c3))
      (first | exact K9 | exact K10 | exact K11 | exact K12 | go_keep)
      (first
        | (go_at_call 14; have tok := d11; clear tok; refine (HS4.out _ (HGW.out _ d11)).mono ?_; rintro e w12 ⟨rfl, bb12⟩; have d12 := d11.trans (bb12.mono d11.size); have K12 := HK9.out _ d12)
        | (go_at_call 14; have tok := d10; clear tok; refine (HS3.out _ (HGW.out _ d10)).mono ?_; rintro e w11 ⟨rfl, bb11⟩; have d11 := d10.trans (bb11.mono d10.size); have K11 := HK9.out _ d11)
        | (go_at_call 14; refine (HS2.out _ (HGW.out _ d9)).mono ?_; rintro e w10 ⟨rfl, bb10⟩; have d10 := d9.trans (bb10.mono d9.size); have K10 := HK9.out _ d10))
    all_goals
      have B12 := Lib.hid d12
      clear K9 K10 K11 K12 d9 d10 d11 bb10 bb11 bb12 e1 e2 e3 m8
      obtain ⟨y0, y1, y2, y3, y4, y5, y6, y7, y8⟩ := HK9.out _ d12
      clear d12
      go_wp2_with fail
      have hb13 := B12.out.trans ((below_one w12 (.cells #[.string ⟨a1.toArray⟩, .int .i64 a2, .int .i64 a3, .string ⟨b1.toArray⟩, .int .i64 b2, .int .i64 b3, .string ⟨c1.toArray⟩, .int .i64 c2, .int .i64 c3] 31)).mono B12.out.size)
      refine (HWK.out _ _ (HRW.out w12)).mono ?_
      rintro e w13 ⟨bb, oo, cc, rfl, hbl, r1, r2, r3, bb13⟩
      have B13 := Lib.hid (hb13.trans (bb13.mono hb13.size))
      have HK13 : Hid (∀ W, Below w13.heap.size w13 W → W.cell? ⟨bb, oo, none⟩ = some (.string ⟨u1.toArray⟩) ∧ W.cell? ⟨bb, oo + 1, none⟩ = some (.int .i64 u2) ∧ W.cell? ⟨bb, oo + 2, none⟩ = some (.int .i64 u3) ∧ W.cell? ⟨bb, oo + 3, none⟩ = some (.string ⟨v1.toArray⟩) ∧ W.cell? ⟨bb, oo + 3 + 1, none⟩ = some (.int .i64 v2) ∧ W.cell? ⟨bb, oo + 3 + 2, none⟩ = some (.int .i64 v3) ∧ W.cell? ⟨bb, oo + 6, none⟩ = some (.string ⟨t1'.toArray⟩) ∧ W.cell? ⟨bb, oo + 6 + 1, none⟩ = some (.int .i64 t2) ∧ W.cell? ⟨bb, oo + 6 + 2, none⟩ = some (.int .i64 t3)) := fun W h => by
        have g := fun (o : Nat) (x : Value) (hc : w13.cell? ⟨bb, o, none⟩ = some x) => (h.cell (p := ⟨bb, o, none⟩) hbl).trans hc
        exact ⟨g _ _ (r1 0 _ rfl), g _ _ (r1 1 _ rfl), g _ _ (r1 2 _ rfl), g _ _ (r2 0 _ rfl), g _ _ (r2 1 _ rfl), g _ _ (r2 2 _ rfl), g _ _ (r3 0 _ rfl), g _ _ (r3 1 _ rfl), g _ _ (r3 2 _ rfl)⟩
      clear hb13 r1 r2 r3 bb13 y0 y1 y2 y3 y4 y5 y6 y7 y8 HWK HRW
      have d13 : Below w13.heap.size w13 w13.drew := (Below.refl _ _).drew
      have K13 := HK13.out _ d13
      go_wp2_with fail
      go_region_held3 (fun W => W.cell? ⟨bb, oo, none⟩ = some (.string ⟨u1.toArray⟩) ∧ W.cell? ⟨bb, oo + 1, none⟩ = some (.int .i64 u2) ∧ W.cell? ⟨bb, oo + 2, none⟩ = some (.int .i64 u3) ∧ W.cell? ⟨bb, oo + 3, none⟩ = some (.string ⟨v1.toArray⟩) ∧ W.cell? ⟨bb, oo + 3 + 1, none⟩ = some (.int .i64 v2) ∧ W.cell? ⟨bb, oo + 3 + 2, none⟩ = some (.int .i64 v3) ∧ W.cell? ⟨bb, oo + 6, none⟩ = some (.string ⟨t1'.toArray⟩) ∧ W.cell? ⟨bb, oo + 6 + 1, none⟩ = some (.int .i64 t2) ∧ W.cell? ⟨bb, oo + 6 + 2, none⟩ = some (.int .i64 t3))
        (first | exact K13 | exact K14 | exact K15 | go_keep)
        (first
          | (go_at_call 11; have tok := d14; clear tok; refine (HTV.out _).mono ?_; rintro e w15 ⟨rfl, bb15⟩; have d15 := d14.trans (bb15.mono d14.size); have K15 := HK13.out _ d15)
          | (go_at_call 11; refine (HVU.out _).mono ?_; rintro e w14 ⟨rfl, bb14⟩; have d14 := d13.trans (bb14.mono d13.size); have K14 := HK13.out _ d14))
      all_goals
        have B15 := Lib.hid (B0.out.trans ((B13.out.trans (d15.mono B13.out.size)).mono B0.out.size))
        clear K13 K14 K15 d13 d14 d15 bb14 bb15
        go_wp2_with fail
        go_ret
        exact ⟨rfl, B15.out⟩

theorem placeWay_walk (E : Nat → Addr) (a b c : PlaceV) (w : World) (hG : PlaceG E w) :
    Calls Tryd.prog 4 #[.agg (encPlace a).toArray, .agg (encPlace b).toArray, .agg (encPlace c).toArray] w fun e w' => e = .returned (.bool true) ∧ Below w.heap.size w w' := by
  by_cases h : placeE a ≠ 0 ∨ placeE b ≠ 0 ∨ placeE c ≠ 0
  · exact way_out E a b c w hG h
  · exact way_in E a b c w hG (by omega) (by omega) (by omega)
end Go.Proofs.YtchamhjckindiaaDoor
