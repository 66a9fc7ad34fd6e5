/- Picks: their compare; Check; Sort. -/
import Derived.Test.YtcmjdaalhokmdaaDoorPlaceC
import Derived.Test.YtcmjdaalhokmdaaDoorStfPick
namespace Go.Proofs.YtcmjdaalhokmdaaDoor
open Go.RowKit Go.Sort Go.Proofs

/-- A world with more blocks. -/
def GrW (W w' : World) : Prop := ∃ q os, w' = grow (W.drewN q) os
theorem GrW.refl (W : World) : GrW W W := ⟨0, #[], by rw [grow_empty]; rfl⟩
theorem GrW.alloc {W w' : World} (h : GrW W w') (o : Obj) : GrW W (w'.alloc o) := by
  obtain ⟨q, os, rfl⟩ := h
  exact ⟨q, os ++ #[o], by rw [alloc_eq_grow, grow_grow]⟩
theorem GrW.trans {W w' w'' : World} (h : GrW W w') (h2 : GrW w' w'') : GrW W w'' := by
  obtain ⟨q, os, rfl⟩ := h
  obtain ⟨q2, os2, rfl⟩ := h2
  refine ⟨q + q2, os ++ os2, ?_⟩
  rw [← grow_grow]
  simp [grow, World.drewN, Nat.add_assoc]
theorem GrW.drew {W w' : World} (h : GrW W w') : GrW W w'.drew := h.trans ⟨1, #[], by rw [grow_empty]; rfl⟩
theorem GrW.below {W w' : World} (h : GrW W w') : Below W.heap.size W w' := by
  obtain ⟨q, os, rfl⟩ := h
  exact below_grown W q os

/-- A pick: its place, its lot, how many pieces. -/
abbrev PickV := PlaceV × List UInt8 × Int
def encPick (x : PickV) : List Value := [.string ⟨x.1.1.toArray⟩, .int .i64 x.1.2.1, .int .i64 x.1.2.2, .string ⟨x.2.1.toArray⟩, .int .i64 x.2.2]
theorem encPick_len (x : PickV) : (encPick x).length = 5 := rfl
theorem encPick_one (x : PickV) : ∀ v ∈ encPick x, v.oneCell' = true := fun v hv => by
  simp [encPick] at hv
  rcases hv with rfl | rfl | rfl | rfl | rfl <;> rfl

/-- The compare of two picks. -/
def cfPick (x y : PickV) : Int := orL [cfPlace x.1 y.1, Lib.compareBytes x.2.1 y.2.1]
theorem likePick : CmpLike cfPick :=
  ((likePlace.on (fun x : PickV => x.1)).then_ (CmpLike.bytes (α := PickV) fun x => x.2.1)).congr fun x y => by
    unfold cfPick orL orL orL
    by_cases h1 : cfPlace x.1 y.1 = 0
    · rw [if_pos h1, if_pos h1]
      split
      · rename_i h; exact h.symm
      · rfl
    · rw [if_neg h1, if_neg h1]
/-- Of sorted picks places do not go back. -/
theorem cfPick_place {x y : PickV} (h : ltOf cfPick x y = false) : ltOf cfPlace x.1 y.1 = false := by
  unfold ltOf at *
  rw [decide_eq_false_iff_not] at *
  intro hl
  apply h
  unfold cfPick orL
  rw [if_neg (by omega)]
  exact hl

/-- The number of a pick's error. -/
def pickE (x : PickV) : Nat := if placeE x.1 ≠ 0 then placeE x.1 else if nameB x.2.1 = false then 5 else if wiB x.2.2 1 1099511627776 = false then 2 else 0
theorem pickE_zero {x : PickV} : pickE x = 0 ↔ placeE x.1 = 0 ∧ nameB x.2.1 = true ∧ 1 ≤ x.2.2 ∧ x.2.2 ≤ 1099511627776 := by
  unfold pickE wiB
  by_cases h : placeE x.1 = 0
  · rw [if_neg (by simpa using h)]
    cases hn : nameB x.2.1
    · simp
    · simp only [Bool.true_eq_false, if_false, decide_eq_false_iff_not]
      split
      · simp; omega
      · simp [h]; omega
  · rw [if_pos h]
    simp [h]

set_option maxHeartbeats 1000000 in
theorem cmpPick_any (x y : PickV) (hx : InP x.1) (hy : InP y.1) (W : World) : Calls Tryd.prog 56 #[.agg (encPick x).toArray, .agg (encPick y).toArray] W fun e w' => e = .returned (.int .i64 (cfPick x y)) ∧ ∃ q os', w' = grow (W.drewN q) os' := by
  have HP := Lib.hid (fun W' => cmpPlace_any x.1 y.1 hx hy W')
  obtain ⟨⟨a1, a2, a3⟩, a4, a5⟩ := x
  obtain ⟨⟨b1, b2, b3⟩, b4, b5⟩ := y
  simp only [encPick, encPlace, cfPick] at HP ⊢
  obtain ⟨c, hc⟩ : ∃ c, c = cfPlace (a1, a2, a3) (b1, b2, b3) := ⟨_, rfl⟩
  rw [← hc] at HP ⊢
  clear hc hx hy
  have hor := fun (B : Nat) (W' : World) (h0 : W'.cell? ⟨B, 0, none⟩ = some (.int .i64 c)) (h1 : W'.cell? ⟨B, 1, none⟩ = some (.int .i64 (Lib.compareBytes a4 b4))) => or_any B [c, Lib.compareBytes a4 b4] W' (by simp) (fun k hk => by
    have hk' : k < 2 := hk
    rcases (show k = 0 ∨ k = 1 by omega) with rfl | rfl
    · exact h0
    · exact h1)
  have HOR := Lib.hid hor
  clear hor
  go_enter Tryd.func56, Tryd.ntmps56
  go_wp2_with fail
  obtain ⟨W0, hW0⟩ : ∃ W0, W0 = (W.alloc (.cells #[.string ⟨a1.toArray⟩, .int .i64 a2, .int .i64 a3, .string ⟨a4.toArray⟩, .int .i64 a5] 33)).alloc (.cells #[.string ⟨b1.toArray⟩, .int .i64 b2, .int .i64 b3, .string ⟨b4.toArray⟩, .int .i64 b5] 33) := ⟨_, rfl⟩
  have g0 : GrW W W0 := by rw [hW0]; exact ((GrW.refl W).alloc _).alloc _
  have c0 : W0.cell? ⟨W.heap.size, 0, none⟩ = some (.string ⟨a1.toArray⟩) := by rw [hW0]; go_simp
  have c1 : W0.cell? ⟨W.heap.size, 1, none⟩ = some (.int .i64 a2) := by rw [hW0]; go_simp
  have c2 : W0.cell? ⟨W.heap.size, 2, none⟩ = some (.int .i64 a3) := by rw [hW0]; go_simp
  have c3 : W0.cell? ⟨W.heap.size, 3, none⟩ = some (.string ⟨a4.toArray⟩) := by rw [hW0]; go_simp
  have d0 : W0.cell? ⟨W.heap.size + 1, 0, none⟩ = some (.string ⟨b1.toArray⟩) := by rw [hW0]; go_simp
  have d1 : W0.cell? ⟨W.heap.size + 1, 1, none⟩ = some (.int .i64 b2) := by rw [hW0]; go_simp
  have d2 : W0.cell? ⟨W.heap.size + 1, 2, none⟩ = some (.int .i64 b3) := by rw [hW0]; go_simp
  have d3 : W0.cell? ⟨W.heap.size + 1, 3, none⟩ = some (.string ⟨b4.toArray⟩) := by rw [hW0]; go_simp
  have l0 : W.heap.size + 2 ≤ W0.heap.size := by rw [hW0]; simp
  rw [← hW0]
  clear hW0
  have HK : Hid (∀ w5, Below W0.heap.size W0 w5 → w5.cell? ⟨W.heap.size, 0, none⟩ = some (.string ⟨a1.toArray⟩) ∧ w5.cell? ⟨W.heap.size, 1, none⟩ = some (.int .i64 a2) ∧ w5.cell? ⟨W.heap.size, 2, none⟩ = some (.int .i64 a3) ∧ w5.cell? ⟨W.heap.size, 3, none⟩ = some (.string ⟨a4.toArray⟩) ∧ w5.cell? ⟨W.heap.size + 1, 0, none⟩ = some (.string ⟨b1.toArray⟩) ∧ w5.cell? ⟨W.heap.size + 1, 1, none⟩ = some (.int .i64 b2) ∧ w5.cell? ⟨W.heap.size + 1, 2, none⟩ = some (.int .i64 b3) ∧ w5.cell? ⟨W.heap.size + 1, 3, none⟩ = some (.string ⟨b4.toArray⟩)) := fun w5 h5 => by
    have g := fun (b o : Nat) (v : Value) (hc : W0.cell? ⟨b, o, none⟩ = some v) => (h5.cell (p := ⟨b, o, none⟩) (lt_of_cell hc)).trans hc
    exact ⟨g _ _ _ c0, g _ _ _ c1, g _ _ _ c2, g _ _ _ c3, g _ _ _ d0, g _ _ _ d1, g _ _ _ d2, g _ _ _ d3⟩
  have K0 := HK.out _ ((Below.refl W0.heap.size W0).drew)
  clear c0 c1 c2 c3 d0 d1 d2 d3
  have hd : GrW W0 W0.drew := (GrW.refl W0).drew
  have G0 := Lib.hid g0
  clear g0
  go_region_held3 (fun w5 => w5.cell? ⟨W.heap.size, 0, none⟩ = some (.string ⟨a1.toArray⟩) ∧ w5.cell? ⟨W.heap.size, 1, none⟩ = some (.int .i64 a2) ∧ w5.cell? ⟨W.heap.size, 2, none⟩ = some (.int .i64 a3) ∧ w5.cell? ⟨W.heap.size, 3, none⟩ = some (.string ⟨a4.toArray⟩) ∧ w5.cell? ⟨W.heap.size + 1, 0, none⟩ = some (.string ⟨b1.toArray⟩) ∧ w5.cell? ⟨W.heap.size + 1, 1, none⟩ = some (.int .i64 b2) ∧ w5.cell? ⟨W.heap.size + 1, 2, none⟩ = some (.int .i64 b3) ∧ w5.cell? ⟨W.heap.size + 1, 3, none⟩ = some (.string ⟨b4.toArray⟩))
    (first | exact K0 | exact K1 | go_keep)
    (first
      | (go_at_call 33; refine (HP.out _).mono ?_; rintro e w3 ⟨rfl, hg⟩; have g3 : GrW W0 w3 := hd.trans hg; have K1 := HK.out _ g3.below)
      | (go_at_call 58; refine (Tryd.strings_Compare _ _ _).mono ?_; rintro e w' ⟨rfl, rfl⟩)
      | (go_at_call 57; refine (HOR.out _ _ (by show (World.alloc _ _).cell? _ = _; rw [World.cell?_alloc_at _ _ _ _ (by simp)]; rfl) (by show (World.alloc _ _).cell? _ = _; rw [World.cell?_alloc_at _ _ _ _ (by simp)]; rfl)).mono ?_; rintro e w' ⟨rfl, rfl⟩))
  all_goals
    have G3 := Lib.hid (G0.out.trans g3)
    clear HOR HP HK K0 K1 g3 hd
    go_wp2_with fail
    go_ret
    exact ⟨rfl, G3.out.alloc _⟩

/-- What the walks over picks lean on. -/
structure RouteG (E : Nat → Addr) (w : World) : Prop where
  name : ErrAt 5 (E 5) w
  bound : ErrAt 0 (E 2) w
  full : ErrAt 1 (E 8) w
theorem RouteG.below {E : Nat → Addr} {w w' : World} (h : RouteG E w) (hb : Below w.heap.size w w') : RouteG E w' := ⟨h.name.below hb, h.bound.below hb, h.full.below hb⟩
theorem RouteG.place {E : Nat → Addr} {w : World} (h : RouteG E w) : PlaceCG E w := ⟨h.name, h.bound⟩

set_option maxHeartbeats 400000 in
theorem checkPick_any (E : Nat → Addr) (x : PickV) (w : World) (hG : RouteG E w) :
    Calls Tryd.prog 31 #[.agg (encPick x).toArray] w fun e w' => e = .returned (errOf E (pickE x)) ∧ Below w.heap.size w w' := by
  have HE := Lib.hid (show pickE x = if placeE x.1 ≠ 0 then placeE x.1 else if nameB x.2.1 = false then 5 else if wiB x.2.2 1 1099511627776 = false then 2 else 0 from rfl)
  have HC := Lib.hid (fun W (h : PlaceCG E W) => checkPlace_c E x.1 W h)
  obtain ⟨⟨a1, a2, a3⟩, a4, a5⟩ := x
  have HN := Lib.hid (fun W => name_wide a4 W)
  have H2 := Lib.hid (within_any a5 1 1099511627776)
  have g1 := hG.name
  have g2 := hG.bound
  have l1 := lt_of_cell g1
  have l2 := lt_of_cell g2
  simp only at l1 l2
  unfold ErrAt at g1 g2
  simp only [encPick, encPlace] at HE HC ⊢
  generalize nameB a4 = nm at HN HE
  generalize wiB a5 1 1099511627776 = p2 at H2 HE
  generalize placeE (a1, a2, a3) = pe at HC HE
  go_enter Tryd.func31, Tryd.ntmps31
  go_wp2_with fail
  have b0 := below_one w (.cells #[.string ⟨a1.toArray⟩, .int .i64 a2, .int .i64 a3, .string ⟨a4.toArray⟩, .int .i64 a5] 33)
  have HG := Lib.hid (hG.below b0).place
  have B0 := Lib.hid b0
  clear hG b0
  refine (HC.out _ HG.out).mono ?_
  rintro e w1 ⟨rfl, b1⟩
  have lw := heap_two b1
  obtain ⟨hc, -⟩ := bcell b1
  have c3 : w1.cell? ⟨w.heap.size, 3, none⟩ = some (.string ⟨a4.toArray⟩) := by rw [hc _ _ (by simp)]; go_simp
  have c4 : w1.cell? ⟨w.heap.size, 4, none⟩ = some (.int .i64 a5) := by rw [hc _ _ (by simp)]; go_simp
  have b01 : Below w.heap.size w w1 := B0.out.trans (b1.mono (by simp))
  have e1 := (b01.cell (p := ⟨_, 0, none⟩) l1).trans g1
  have e2 := (b01.cell (p := ⟨_, 0, none⟩) l2).trans g2
  have B1 := Lib.hid b01
  clear b1 b01 HC HG B0 hc g1 g2 l1 l2
  by_cases h0 : pe = 0
  · subst h0
    rw [errOf_zero]
    go_wp2_with fail
    refine (HN.out _).mono ?_
    rintro e w2 ⟨rfl, b2⟩
    have d4 := (b2.cell (p := ⟨_, 4, none⟩) (lt_of_cell c4)).trans c4
    have f1 := (b2.cell (p := ⟨_, 0, none⟩) (lt_of_cell e1)).trans e1
    have f2 := (b2.cell (p := ⟨_, 0, none⟩) (lt_of_cell e2)).trans e2
    have B2 : Hid (Below w.heap.size w w2) := B1.out.trans (b2.mono B1.out.size)
    clear b2 HN B1 c3 c4 e1 e2
    cases nm with
    | false =>
      go_wp2_with fail
      go_ret
      rw [HE.out]
      exact ⟨rfl, B2.out⟩
    | true =>
      go_wp2_with fail
      refine (H2.out _).mono ?_
      rintro e w3 ⟨rfl, rfl⟩
      cases p2 with
      | false =>
        go_wp2_with fail
        go_ret
        rw [HE.out]
        exact ⟨rfl, B2.out⟩
      | true =>
        go_wp2_with fail
        go_ret
        rw [HE.out]
        exact ⟨rfl, B2.out⟩
  · rw [errOf_pos _ _ h0]
    go_wp2_with fail
    go_ret
    rw [HE.out, if_pos h0, errOf_pos _ _ h0]
    exact ⟨rfl, B1.out⟩

/-! Well picks sorted. -/
def WPk : Type := {x : PickV // pickE x = 0}
instance : Inhabited WPk := ⟨⟨(([97], 1, 1), [97], 1), by decide⟩⟩
def encWPk (x : WPk) : List Value := encPick x.1
theorem encWPk_len (x : WPk) : (encWPk x).length = 5 := rfl
theorem encWPk_one (x : WPk) : ∀ v ∈ encWPk x, v.oneCell' = true := encPick_one x.1
def cfWPk (x y : WPk) : Int := cfPick x.1 y.1
theorem likeWPk : CmpLike cfWPk := likePick.on Subtype.val
theorem swoWPk : SWO (ltOf cfWPk) := likeWPk.swo
theorem WPk.inP (x : WPk) : InP x.1.1 := InP.of (pickE_zero.1 x.2).1

theorem pickInfo : (Tryd.prog.info? 33).map (fun i => (i.zero, i.size, i.bytes)) = some (some (.agg #[.string ⟨#[]⟩, .int .i64 0, .int .i64 0, .string ⟨#[]⟩, .int .i64 0]), 5, 56) := by kernel_rfl
theorem egPick : ∀ args w, (callFunc 56 args).run Tryd.prog w = .ok (.enter 56 args) w := enters_of Tryd.func56 (by kernel_rfl) rfl
theorem cmpLaysWPk (blk off size : Nat) (w : World) : CmpLays Tryd.prog 56 #[] encWPk 5 cfWPk blk off size w := fun _ _ _ _ x y => cmpPick_any x.1 y.1 x.inP y.inP _

set_option maxHeartbeats 400000 in
theorem sortWPk_any (g cap : Nat) (xs : List WPk) (w : World) (hn : xs.length ≤ 1000000) (hg : g < w.heap.size) (hH : HoldsK encWPk 5 w g 0 xs.toArray) :
    Calls Tryd.prog 55 #[.slice (some ⟨g, 0, none⟩) xs.length cap, .func (.func 56) #[] #[]] w fun e w' =>
      e = .returned (.tuple #[]) ∧ SWK encWPk 5 w g 0 (Stab.srt (ltOf cfWPk) xs).toArray w' := by
  have R : RowK encWPk 5 w g 0 xs.toArray := ⟨encWPk_len, encWPk_one, hH, hg⟩
  have hc := StabPick.stable_any encWPk cfWPk swoWPk 56 #[] egPick g 0 cap xs.length xs.toArray w w R (cmpLaysWPk g 0 _ w) (by simp) (by omega) xs rfl (SWK.start hH)
  have HC := Lib.hid hc
  generalize xs.length = n at HC
  clear hc R hH
  go_enter Tryd.func55, Tryd.ntmps55
  go_wp2_with fail
  refine HC.out.mono ?_
  rintro e w1 ⟨rfl, S1⟩
  have H1 := Lib.hid S1
  clear S1 HC
  go_wp2
  go_end0
  exact ⟨rfl, H1.out⟩

/-- What Sort tells. -/
def SortPEnds (xs : List WPk) (w : World) (e : Ending) (w' : World) : Prop :=
  ∃ A cap, e = .returned (.slice A xs.length cap) ∧ RowAt encWPk 5 w' A (Stab.srt (ltOf cfWPk) xs) ∧ (∀ a, A = some a → w.heap.size ≤ a.block) ∧ Below w.heap.size w w'

set_option maxHeartbeats 400000 in
theorem sortP_some (A : Option Addr) (cap : Nat) (xs : List WPk) (w : World) (hn : xs.length ≤ 1000000) (hX : RowAt encWPk 5 w A xs) (h0 : xs ≠ []) :
    Calls Tryd.prog 32 #[.slice A xs.length cap] w (SortPEnds xs w) := by
  obtain ⟨i0, hi, hz0, hz1, hz2⟩ := info_parts pickInfo
  obtain ⟨b, o, rfl, hb, _⟩ := hX.resolve_left h0
  have hcl : Calls Tryd.prog 54 #[.slice (some ⟨b, o, none⟩) xs.length cap] w fun e w' => ∃ v', e = .returned v' ∧ w'.ownsRow w.heap.size 33 5 v' xs.length (flatL encWPk xs) ∧ v' ≠ .slice none 0 0 ∧ Below w.heap.size w w' :=
    AnyE.slices_Clone Tryd.clonePick i0 _ 5 56 hi hz0 hz1 hz2 rfl (by decide) Tryd.sizeOf33 b o xs.length cap (flatL encWPk xs) w (flatL_length encWPk_len xs) (by unfold maxLen; omega) (by omega) (hX.news encWPk_len (by decide) rfl) (fun u hu => by
      obtain ⟨x, _, hx⟩ := List.mem_flatMap.1 hu
      exact encWPk_one x u hx)
  have HCL := Lib.hid hcl
  clear hcl hX
  obtain ⟨n, hnn⟩ : ∃ n, n = xs.length := ⟨_, rfl⟩
  have HN := Lib.hid hnn
  rw [← hnn] at HCL hn ⊢
  clear hnn
  go_enter Tryd.func32, Tryd.ntmps32
  go_wp2_with fail
  refine HCL.out.mono ?_
  rintro e w1 ⟨v, rfl, hown, hne, b1⟩
  obtain ⟨g, cp, cur, rfl, hB, hg⟩ : ∃ g cp cur, v = .slice (some ⟨g, 0, none⟩) n cp ∧ w.heap.size ≤ g ∧ w1.heap[g]? = some (.cells cur 33 (0, 0)) := by
    rcases hown.2 with ⟨h, _⟩ | ⟨g, cp, cur, h, h1, h2, _⟩
    · exact absurd h hne
    · exact ⟨g, cp, cur, h, h1, h2⟩
  have hgl : g < w1.heap.size := by
    rcases Nat.lt_or_ge g w1.heap.size with hl | hl
    · exact hl
    · rw [Array.getElem?_eq_none hl] at hg; cases hg
  have hH : HoldsK encWPk 5 w1 g 0 xs.toArray := holds_of_own encWPk_len (by decide) (by rw [HN.out] at hown; exact hown)
  have hso := sortWPk_any g cp xs w1 (by rw [← HN.out]; exact hn) hgl hH
  rw [← HN.out] at hso
  have HSO := Lib.hid hso
  have HH := Lib.hid hH
  have B1 := Lib.hid b1
  clear hso hH hown hne hg b1 HCL
  go_wp2_with fail
  refine HSO.out.mono ?_
  rintro e w2 ⟨rfl, S2⟩
  have H2 := Lib.hid S2
  clear S2 HSO
  go_wp2
  go_ret
  refine ⟨_, _, by rw [← HN.out]; rfl, ?_, fun a ha => by cases ha; exact hB, sort_below B1.out H2.out hB B1.out.size⟩
  exact RowAt.of_sort encWPk_len ⟨encWPk_len, encWPk_one, HH.out, hgl⟩ H2.out (by rw [Stab.srt_length, List.size_toArray])

set_option maxHeartbeats 400000 in
theorem insPk_none (w : World) : Calls Tryd.prog 96 #[.slice none 0 0, .int .i64 0, .int .i64 0, .func (.func 56) #[] #[]] w fun e w' => e = .returned (.tuple #[]) ∧ w = w' := by
  go_enter Tryd.func96, Tryd.ntmps96
  go_wp2
  refine wp_loop_rounds 1 ?_
  rw [rounds_succ]
  go_wp2
  go_end0
  exact ⟨rfl, rfl⟩
set_option maxHeartbeats 400000 in
theorem stabPk_none (w : World) : Calls Tryd.prog 72 #[.slice none 0 0, .int .i64 0, .func (.func 56) #[] #[]] w fun e w' => e = .returned (.tuple #[]) ∧ w = w' := by
  go_enter Tryd.func72, Tryd.ntmps72
  go_wp2
  refine wp_loop_rounds 1 ?_
  rw [rounds_succ]
  go_wp2_with fail
  refine (insPk_none w).mono ?_
  rintro e w1 ⟨rfl, rfl⟩
  go_wp2
  refine wp_loop_rounds 1 ?_
  rw [rounds_succ]
  go_wp2
  go_end0
  exact ⟨rfl, rfl⟩

set_option maxHeartbeats 400000 in
theorem sortP_none (w : World) : Calls Tryd.prog 32 #[.slice none 0 0] w fun e w' => e = .returned (.slice none 0 0) ∧ w = w' := by
  have hcl : Calls Tryd.prog 54 #[.slice none 0 0] w fun e w' => e = .returned (.slice none 0 0) ∧ w' = w := AnyE.slices_Clone_nil Tryd.clonePick 0 0 w
  have HCL := Lib.hid hcl
  have HSO : Hid (∀ W : World, Calls Tryd.prog 55 #[.slice none 0 0, .func (.func 56) #[] #[]] W fun e w' => e = .returned (.tuple #[]) ∧ W = w') := fun W => by
    go_enter Tryd.func55, Tryd.ntmps55
    go_wp2_with fail
    refine (stabPk_none W).mono ?_
    rintro e w1 ⟨rfl, rfl⟩
    go_wp2
    go_end0
    exact ⟨rfl, rfl⟩
  clear hcl
  go_enter Tryd.func32, Tryd.ntmps32
  go_wp2_with fail
  refine HCL.out.mono ?_
  rintro e w1 ⟨rfl, rfl⟩
  go_wp2_with fail
  refine (HSO.out _).mono ?_
  rintro e w1 ⟨rfl, rfl⟩
  go_wp2
  go_ret
  exact ⟨rfl, rfl⟩
end Go.Proofs.YtcmjdaalhokmdaaDoor
