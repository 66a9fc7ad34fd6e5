/- Well places: Walk. -/
import Derived.Test.YtchamhjckindiaaDoorPlaceC
import Derived.Test.YtchamhjckindiaaDoorStfPlace
namespace Go.Proofs.YtchamhjckindiaaDoor
open Go.RowKit Go.Sort Go.Proofs

/-- A well place. -/
def WP : Type := {x : PlaceV // placeE x = 0}
instance : Inhabited WP := ⟨⟨([97], 1, 1), by decide⟩⟩
def encWP (x : WP) : List Value := encPlace x.1
theorem encWP_len (x : WP) : (encWP x).length = 3 := rfl
theorem encWP_one (x : WP) : ∀ v ∈ encWP x, v.oneCell' = true := encPlace_one x.1
def cfWP (x y : WP) : Int := cfPlace x.1 y.1
theorem likeWP : CmpLike cfWP := likePlace.on Subtype.val
theorem swoWP : SWO (ltOf cfWP) := likeWP.swo

theorem placeInfo : (Tryd.prog.info? 31).map (fun i => (i.zero, i.size, i.bytes)) = some (some (.agg #[.string ⟨#[]⟩, .int .i64 0, .int .i64 0]), 3, 32) := by kernel_rfl
theorem egPlace : ∀ args w, (callFunc 42 args).run Tryd.prog w = .ok (.enter 42 args) w := enters_of Tryd.func42 (by kernel_rfl) rfl
theorem cmpLaysWP (blk off size : Nat) (w : World) : CmpLays Tryd.prog 42 #[] encWP 3 cfWP blk off size w := fun _ _ _ _ x y => cmpPlace_any x.1 y.1 (InP.of x.2) (InP.of y.2) _

set_option maxHeartbeats 400000 in
theorem sortWP_any (g cap : Nat) (xs : List WP) (w : World) (hn : xs.length ≤ 1000000) (hg : g < w.heap.size) (hH : HoldsK encWP 3 w g 0 xs.toArray) :
    Calls Tryd.prog 47 #[.slice (some ⟨g, 0, none⟩) xs.length cap, .func (.func 42) #[] #[]] w fun e w' =>
      e = .returned (.tuple #[]) ∧ SWK encWP 3 w g 0 (Stab.srt (ltOf cfWP) xs).toArray w' := by
  have R : RowK encWP 3 w g 0 xs.toArray := ⟨encWP_len, encWP_one, hH, hg⟩
  have hc := StabPlace.stable_any encWP cfWP swoWP 42 #[] egPlace g 0 cap xs.length xs.toArray w w R (cmpLaysWP g 0 _ w) (by simp) (by omega) xs rfl (SWK.start hH)
  have HC := Lib.hid hc
  generalize xs.length = n at HC
  clear hc R hH
  go_enter Tryd.func47, Tryd.ntmps47
  go_wp2_with fail
  refine HC.out.mono ?_
  rintro e w1 ⟨rfl, S1⟩
  have H1 := Lib.hid S1
  clear S1 HC
  go_wp2
  go_end0
  exact ⟨rfl, H1.out⟩

/-- What Sorted tells. -/
def WalkEnds (xs : List WP) (w : World) (e : Ending) (w' : World) : Prop :=
  ∃ A cap, e = .returned (.slice A xs.length cap) ∧ (xs = [] → A = none ∧ cap = 0) ∧ RowAt encWP 3 w' A (Stab.srt (ltOf cfWP) xs) ∧ (∀ a, A = some a → w.heap.size ≤ a.block) ∧ Below w.heap.size w w'

set_option maxHeartbeats 400000 in
theorem walkP_any (A : Option Addr) (cap : Nat) (xs : List WP) (w : World) (hn : xs.length ≤ 1000000) (hX : RowAt encWP 3 w A xs) (h0 : xs ≠ []) :
    Calls Tryd.prog 15 #[.slice A xs.length cap] w (WalkEnds xs w) := by
  obtain ⟨i0, hi, hz0, hz1, hz2⟩ := info_parts placeInfo
  obtain ⟨b, o, rfl, hb, _⟩ := hX.resolve_left h0
  have hcl : Calls Tryd.prog 46 #[.slice (some ⟨b, o, none⟩) xs.length cap] w fun e w' => ∃ v', e = .returned v' ∧ w'.ownsRow w.heap.size 31 3 v' xs.length (flatL encWP xs) ∧ v' ≠ .slice none 0 0 ∧ Below w.heap.size w w' :=
    AnyE.slices_Clone Tryd.clonePlace i0 _ 3 32 hi hz0 hz1 hz2 rfl (by decide) Tryd.sizeOf31 b o xs.length cap (flatL encWP xs) w (flatL_length encWP_len xs) (by unfold maxLen; omega) (by omega) (hX.news encWP_len (by decide) rfl) (fun u hu => by
      obtain ⟨x, _, hx⟩ := List.mem_flatMap.1 hu
      exact encWP_one x u hx)
  have HCL := Lib.hid hcl
  clear hcl hX
  obtain ⟨n, hnn⟩ : ∃ n, n = xs.length := ⟨_, rfl⟩
  have HN := Lib.hid hnn
  rw [← hnn] at HCL hn ⊢
  clear hnn
  go_enter Tryd.func15, Tryd.ntmps15
  go_wp2_with fail
  refine HCL.out.mono ?_
  rintro e w1 ⟨v, rfl, hown, hne, b1⟩
  obtain ⟨g, cp, cur, rfl, hB, hg⟩ : ∃ g cp cur, v = .slice (some ⟨g, 0, none⟩) n cp ∧ w.heap.size ≤ g ∧ w1.heap[g]? = some (.cells cur 31 (0, 0)) := by
    rcases hown.2 with ⟨h, _⟩ | ⟨g, cp, cur, h, h1, h2, _⟩
    · exact absurd h hne
    · exact ⟨g, cp, cur, h, h1, h2⟩
  have hgl : g < w1.heap.size := by
    rcases Nat.lt_or_ge g w1.heap.size with hl | hl
    · exact hl
    · rw [Array.getElem?_eq_none hl] at hg; cases hg
  have hH : HoldsK encWP 3 w1 g 0 xs.toArray := holds_of_own encWP_len (by decide) (by rw [HN.out] at hown; exact hown)
  have hso := sortWP_any g cp xs w1 (by rw [← HN.out]; exact hn) hgl hH
  rw [← HN.out] at hso
  have HSO := Lib.hid hso
  have HH := Lib.hid hH
  have B1 := Lib.hid b1
  clear hso hH hown hne hg b1 HCL
  go_wp2_with fail
  refine HSO.out.mono ?_
  rintro e w2 ⟨rfl, S2⟩
  have H2 := Lib.hid S2
  clear S2 HSO
  go_wp2
  go_ret
  refine ⟨_, _, by rw [← HN.out]; rfl, fun h => absurd h h0, ?_, fun a ha => by cases ha; exact hB, sort_below B1.out H2.out hB B1.out.size⟩
  exact RowAt.of_sort encWP_len ⟨encWP_len, encWP_one, HH.out, hgl⟩ H2.out (by rw [Stab.srt_length, List.size_toArray])

set_option maxHeartbeats 400000 in
theorem insPl_none (w : World) : Calls Tryd.prog 98 #[.slice none 0 0, .int .i64 0, .int .i64 0, .func (.func 42) #[] #[]] w fun e w' => e = .returned (.tuple #[]) ∧ w = w' := by
  go_enter Tryd.func98, Tryd.ntmps98
  go_wp2
  refine wp_loop_rounds 1 ?_
  rw [rounds_succ]
  go_wp2
  go_end0
  exact ⟨rfl, rfl⟩
set_option maxHeartbeats 400000 in
theorem stabPl_none (w : World) : Calls Tryd.prog 74 #[.slice none 0 0, .int .i64 0, .func (.func 42) #[] #[]] w fun e w' => e = .returned (.tuple #[]) ∧ w = w' := by
  go_enter Tryd.func74, Tryd.ntmps74
  go_wp2
  refine wp_loop_rounds 1 ?_
  rw [rounds_succ]
  go_wp2_with fail
  refine (insPl_none w).mono ?_
  rintro e w1 ⟨rfl, rfl⟩
  go_wp2
  refine wp_loop_rounds 1 ?_
  rw [rounds_succ]
  go_wp2
  go_end0
  exact ⟨rfl, rfl⟩
set_option maxHeartbeats 400000 in
theorem walkP_none (w : World) : Calls Tryd.prog 15 #[.slice none 0 0] w fun e w' => e = .returned (.slice none 0 0) ∧ w = w' := by
  have hcl : Calls Tryd.prog 46 #[.slice none 0 0] w fun e w' => e = .returned (.slice none 0 0) ∧ w' = w := AnyE.slices_Clone_nil Tryd.clonePlace 0 0 w
  have HCL := Lib.hid hcl
  have HSO : Hid (∀ W : World, Calls Tryd.prog 47 #[.slice none 0 0, .func (.func 42) #[] #[]] W fun e w' => e = .returned (.tuple #[]) ∧ W = w') := fun W => by
    go_enter Tryd.func47, Tryd.ntmps47
    go_wp2_with fail
    refine (stabPl_none W).mono ?_
    rintro e w1 ⟨rfl, rfl⟩
    go_wp2
    go_end0
    exact ⟨rfl, rfl⟩
  clear hcl
  go_enter Tryd.func15, Tryd.ntmps15
  go_wp2_with fail
  refine HCL.out.mono ?_
  rintro e w1 ⟨rfl, rfl⟩
  go_wp2_with fail
  refine (HSO.out _).mono ?_
  rintro e w1 ⟨rfl, rfl⟩
  go_wp2
  go_ret
  exact ⟨rfl, rfl⟩

set_option maxHeartbeats 400000 in
theorem ahead_any (x y : PlaceV) (hx : InP x) (hy : InP y) (W : World) : Calls Tryd.prog 11 #[.agg (encPlace x).toArray, .agg (encPlace y).toArray] W fun e w' => e = .returned (.bool (ltOf cfPlace x y)) ∧ Below W.heap.size W w' := by
  have hc := fun W' => cmpPlace_any x y hx hy W'
  have HL := Lib.hid (show ltOf cfPlace x y = decide (cfPlace x y < 0) from rfl)
  obtain ⟨a1, a2, a3⟩ := x
  obtain ⟨b1, b2, b3⟩ := y
  simp only [encPlace] at hc ⊢
  have HC := Lib.hid hc
  clear hc hx hy
  generalize cfPlace (a1, a2, a3) (b1, b2, b3) = c at HC HL
  go_enter Tryd.func11, Tryd.ntmps11
  go_wp2_with fail
  refine (HC.out _).mono ?_
  rintro e w1 ⟨rfl, q, os, hw⟩
  have hb := below_grown ((W.alloc (.cells #[.string ⟨a1.toArray⟩, .int .i64 a2, .int .i64 a3] 31)).alloc (.cells #[.string ⟨b1.toArray⟩, .int .i64 b2, .int .i64 b3] 31)) q os
  have B1 : Hid (Below W.heap.size W w1) := by
    rw [hw]
    exact (((Below.refl W.heap.size W).alloc (Nat.le_refl _) _).alloc (by simp) _).trans (hb.mono (by simp; omega))
  clear hw HC hb
  go_wp2
  go_ret
  exact ⟨by rw [HL.out]; rfl, B1.out⟩
end Go.Proofs.YtchamhjckindiaaDoor
