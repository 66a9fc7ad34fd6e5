/- Lots: Sorted, Sooner. -/
import Derived.Test.YtchamhjckindiaaDoorLot
import Derived.Test.YtchamhjckindiaaDoorStfLot
namespace Go.Proofs.YtchamhjckindiaaDoor
open Go.RowKit Go.Sort Go.Proofs

theorem lotInfo : (Tryd.prog.info? 44).map (fun i => (i.zero, i.size, i.bytes)) = some (some (.agg #[.string ⟨#[]⟩, .string ⟨#[]⟩, .int .i64 0, .int .i64 0]), 4, 48) := by kernel_rfl
theorem egLot : ∀ args w, (callFunc 51 args).run Tryd.prog w = .ok (.enter 51 args) w := enters_of Tryd.func51 (by kernel_rfl) rfl
theorem cmpLaysLot (blk off size : Nat) (w : World) : CmpLays Tryd.prog 51 #[] encLot 4 cfLot blk off size w := fun _ _ _ _ x y => cmpLot_any x y _

set_option maxHeartbeats 400000 in
theorem sortLots_any (g cap : Nat) (xs : List LotV) (w : World) (hn : xs.length ≤ 1000000) (hg : g < w.heap.size) (hH : HoldsK encLot 4 w g 0 xs.toArray) :
    Calls Tryd.prog 50 #[.slice (some ⟨g, 0, none⟩) xs.length cap, .func (.func 51) #[] #[]] w fun e w' =>
      e = .returned (.tuple #[]) ∧ SWK encLot 4 w g 0 (Stab.srt (ltOf cfLot) xs).toArray w' := by
  have R : RowK encLot 4 w g 0 xs.toArray := ⟨encLot_len, encLot_one, hH, hg⟩
  have hc := StabLot.stable_any encLot cfLot swoLot 51 #[] egLot g 0 cap xs.length xs.toArray w w R (cmpLaysLot g 0 _ w) (by simp) (by omega) xs rfl (SWK.start hH)
  have HC := Lib.hid hc
  generalize xs.length = n at HC
  clear hc R hH
  go_enter Tryd.func50, Tryd.ntmps50
  go_wp2_with fail
  refine HC.out.mono ?_
  rintro e w1 ⟨rfl, S1⟩
  have H1 := Lib.hid S1
  clear S1 HC
  go_wp2
  go_end0
  exact ⟨rfl, H1.out⟩

/-- What Sorted tells. -/
def SortedEnds (xs : List LotV) (w : World) (e : Ending) (w' : World) : Prop :=
  ∃ A cap, e = .returned (.slice A xs.length cap) ∧ (xs = [] → A = none ∧ cap = 0) ∧ RowAt encLot 4 w' A (Stab.srt (ltOf cfLot) xs) ∧ (∀ a, A = some a → w.heap.size ≤ a.block) ∧ Below w.heap.size w w'

set_option maxHeartbeats 400000 in
theorem sorted_any (A : Option Addr) (cap : Nat) (xs : List LotV) (w : World) (hn : xs.length ≤ 1000000) (hX : RowAt encLot 4 w A xs) (h0 : xs ≠ []) :
    Calls Tryd.prog 17 #[.slice A xs.length cap] w (SortedEnds xs w) := by
  obtain ⟨i0, hi, hz0, hz1, hz2⟩ := info_parts lotInfo
  obtain ⟨b, o, rfl, hb, _⟩ := hX.resolve_left h0
  have hcl : Calls Tryd.prog 49 #[.slice (some ⟨b, o, none⟩) xs.length cap] w fun e w' => ∃ v', e = .returned v' ∧ w'.ownsRow w.heap.size 44 4 v' xs.length (flatL encLot xs) ∧ v' ≠ .slice none 0 0 ∧ Below w.heap.size w w' :=
    AnyE.slices_Clone Tryd.cloneLot i0 _ 4 48 hi hz0 hz1 hz2 rfl (by decide) Tryd.sizeOf44 b o xs.length cap (flatL encLot xs) w (flatL_length encLot_len xs) (by unfold maxLen; omega) (by omega) (hX.news encLot_len (by decide) rfl) (fun u hu => by
      obtain ⟨x, _, hx⟩ := List.mem_flatMap.1 hu
      exact encLot_one x u hx)
  have HCL := Lib.hid hcl
  clear hcl hX
  obtain ⟨n, hnn⟩ : ∃ n, n = xs.length := ⟨_, rfl⟩
  have HN := Lib.hid hnn
  rw [← hnn] at HCL hn ⊢
  clear hnn
  go_enter Tryd.func17, Tryd.ntmps17
  go_wp2_with fail
  refine HCL.out.mono ?_
  rintro e w1 ⟨v, rfl, hown, hne, b1⟩
  obtain ⟨g, cp, cur, rfl, hB, hg⟩ : ∃ g cp cur, v = .slice (some ⟨g, 0, none⟩) n cp ∧ w.heap.size ≤ g ∧ w1.heap[g]? = some (.cells cur 44 (0, 0)) := by
    rcases hown.2 with ⟨h, _⟩ | ⟨g, cp, cur, h, h1, h2, _⟩
    · exact absurd h hne
    · exact ⟨g, cp, cur, h, h1, h2⟩
  have hgl : g < w1.heap.size := by
    rcases Nat.lt_or_ge g w1.heap.size with hl | hl
    · exact hl
    · rw [Array.getElem?_eq_none hl] at hg; cases hg
  have hH : HoldsK encLot 4 w1 g 0 xs.toArray := holds_of_own encLot_len (by decide) (by rw [HN.out] at hown; exact hown)
  have hso := sortLots_any g cp xs w1 (by rw [← HN.out]; exact hn) hgl hH
  rw [← HN.out] at hso
  have HSO := Lib.hid hso
  have HH := Lib.hid hH
  have B1 := Lib.hid b1
  clear hso hH hown hne hg b1 HCL
  go_wp2_with fail
  refine HSO.out.mono ?_
  rintro e w2 ⟨rfl, S2⟩
  have H2 := Lib.hid S2
  clear S2 HSO
  go_wp2
  go_ret
  refine ⟨_, _, by rw [← HN.out]; rfl, fun h => absurd h h0, ?_, fun a ha => by cases ha; exact hB, sort_below B1.out H2.out hB B1.out.size⟩
  exact RowAt.of_sort encLot_len ⟨encLot_len, encLot_one, HH.out, hgl⟩ H2.out (by rw [Stab.srt_length, List.size_toArray])

set_option maxHeartbeats 400000 in
theorem insLots_none (w : World) : Calls Tryd.prog 100 #[.slice none 0 0, .int .i64 0, .int .i64 0, .func (.func 51) #[] #[]] w fun e w' => e = .returned (.tuple #[]) ∧ w = w' := by
  go_enter Tryd.func100, Tryd.ntmps100
  go_wp2
  refine wp_loop_rounds 1 ?_
  rw [rounds_succ]
  go_wp2
  go_end0
  exact ⟨rfl, rfl⟩
set_option maxHeartbeats 400000 in
theorem stabLots_none (w : World) : Calls Tryd.prog 75 #[.slice none 0 0, .int .i64 0, .func (.func 51) #[] #[]] w fun e w' => e = .returned (.tuple #[]) ∧ w = w' := by
  go_enter Tryd.func75, Tryd.ntmps75
  go_wp2
  refine wp_loop_rounds 1 ?_
  rw [rounds_succ]
  go_wp2_with fail
  refine (insLots_none w).mono ?_
  rintro e w1 ⟨rfl, rfl⟩
  go_wp2
  refine wp_loop_rounds 1 ?_
  rw [rounds_succ]
  go_wp2
  go_end0
  exact ⟨rfl, rfl⟩
set_option maxHeartbeats 400000 in
theorem sorted_none (w : World) : Calls Tryd.prog 17 #[.slice none 0 0] w fun e w' => e = .returned (.slice none 0 0) ∧ w = w' := by
  have hcl : Calls Tryd.prog 49 #[.slice none 0 0] w fun e w' => e = .returned (.slice none 0 0) ∧ w' = w := AnyE.slices_Clone_nil Tryd.cloneLot 0 0 w
  have HCL := Lib.hid hcl
  have HSO : Hid (∀ W : World, Calls Tryd.prog 50 #[.slice none 0 0, .func (.func 51) #[] #[]] W fun e w' => e = .returned (.tuple #[]) ∧ W = w') := fun W => by
    go_enter Tryd.func50, Tryd.ntmps50
    go_wp2_with fail
    refine (stabLots_none W).mono ?_
    rintro e w1 ⟨rfl, rfl⟩
    go_wp2
    go_end0
    exact ⟨rfl, rfl⟩
  clear hcl
  go_enter Tryd.func17, Tryd.ntmps17
  go_wp2_with fail
  refine HCL.out.mono ?_
  rintro e w1 ⟨rfl, rfl⟩
  go_wp2_with fail
  refine (HSO.out _).mono ?_
  rintro e w1 ⟨rfl, rfl⟩
  go_wp2
  go_ret
  exact ⟨rfl, rfl⟩

set_option maxHeartbeats 400000 in
theorem sooner_any (x y : LotV) (W : World) : Calls Tryd.prog 18 #[.agg (encLot x).toArray, .agg (encLot y).toArray] W fun e w' => e = .returned (.bool (ltOf cfLot x y)) ∧ Below W.heap.size W w' := by
  have hc := fun W' => cmpLot_any x y W'
  have HL := Lib.hid (show ltOf cfLot x y = decide (cfLot x y < 0) from rfl)
  obtain ⟨a1, a2, a3, a4⟩ := x
  obtain ⟨b1, b2, b3, b4⟩ := y
  simp only [encLot] at hc ⊢
  have HC := Lib.hid hc
  clear hc
  generalize cfLot (a1, a2, a3, a4) (b1, b2, b3, b4) = c at HC HL
  go_enter Tryd.func18, Tryd.ntmps18
  go_wp2_with fail
  refine (HC.out _).mono ?_
  rintro e w1 ⟨rfl, q, os, hw⟩
  have hb := below_grown ((W.alloc (.cells #[.string ⟨a1.toArray⟩, .string ⟨a2.toArray⟩, .int .i64 a3, .int .i64 a4] 44)).alloc (.cells #[.string ⟨b1.toArray⟩, .string ⟨b2.toArray⟩, .int .i64 b3, .int .i64 b4] 44)) q os
  have B1 : Hid (Below W.heap.size W w1) := by
    rw [hw]
    exact (((Below.refl W.heap.size W).alloc (Nat.le_refl _) _).alloc (by simp) _).trans (hb.mono (by simp; omega))
  clear hw HC hb
  go_wp2
  go_ret
  exact ⟨by rw [HL.out]; rfl, B1.out⟩
end Go.Proofs.YtchamhjckindiaaDoor
