/- Places: their compare; Ahead. -/
import Derived.Test.YtcmjdaalhokmdaaDoorPlace
import Derived.Test.YtcmjdaalhokmdaaDoorCmp
import Derived.IntWalk
namespace Go.Proofs.YtcmjdaalhokmdaaDoor
open Go.RowKit Go.Sort Go.Proofs

/-- The compare of two places, on the way. -/
def cfPlace (x y : PlaceV) : Int := orL [Lib.compareBytes x.1 y.1, x.2.1 - y.2.1, if x.2.1 % 2 = 0 then -(x.2.2 - y.2.2) else x.2.2 - y.2.2]
def sbP (x : PlaceV) : Int := if x.2.1 % 2 = 0 then -x.2.2 else x.2.2
theorem likePlace : CmpLike cfPlace :=
  ((CmpLike.bytes (α := PlaceV) Prod.fst).then_ ((CmpLike.sub (α := PlaceV) (fun x => x.2.1)).then_ (CmpLike.sub sbP))).congr fun x y => by
    unfold cfPlace orL orL orL orL sbP
    by_cases h1 : Lib.compareBytes x.1 y.1 = 0
    · rw [if_pos h1, if_pos h1]
      by_cases h2 : x.2.1 - y.2.1 = 0
      · rw [if_pos h2, if_pos h2]
        have h3 : y.2.1 = x.2.1 := by omega
        rw [h3]
        by_cases h4 : x.2.1 % 2 = 0
        · simp only [if_pos h4]
          split <;> omega
        · simp only [if_neg h4]
          split <;> omega
      · rw [if_neg h2, if_neg h2]
    · rw [if_neg h1, if_neg h1]
theorem cfPlace_zero (x y : PlaceV) : cfPlace x y = 0 ↔ x = y := by
  constructor
  · intro h
    unfold cfPlace orL orL orL orL at h
    by_cases h1 : Lib.compareBytes x.1 y.1 = 0
    · rw [if_pos h1] at h
      by_cases h2 : x.2.1 - y.2.1 = 0
      · rw [if_pos h2] at h
        have e1 := (cmpB_eq _ _).1 h1
        have e2 : x.2.1 = y.2.1 := by omega
        have e3 : x.2.2 = y.2.2 := by
          by_cases h4 : x.2.1 % 2 = 0
          · simp only [if_pos h4] at h
            split at h <;> omega
          · simp only [if_neg h4] at h
            split at h <;> omega
        exact Prod.ext e1 (Prod.ext e2 e3)
      · rw [if_neg h2] at h; exact absurd h h2
    · rw [if_neg h1] at h; exact absurd h h1
  · rintro rfl
    exact likePlace.refl x

/-- Rows and bays of a well place. -/
def InP (x : PlaceV) : Prop := 1 ≤ x.2.1 ∧ x.2.1 ≤ 20 ∧ 1 ≤ x.2.2 ∧ x.2.2 ≤ 40
theorem InP.of {x : PlaceV} (h : placeE x = 0) : InP x := (placeE_zero.1 h).2

set_option maxHeartbeats 1000000 in
theorem cmpPlace_any (x y : PlaceV) (hx : InP x) (hy : InP y) (W : World) : Calls Tryd.prog 33 #[.agg (encPlace x).toArray, .agg (encPlace y).toArray] W fun e w' => e = .returned (.int .i64 (cfPlace x y)) ∧ ∃ q os', w' = grow (W.drewN q) os' := by
  obtain ⟨a1, a2, a3⟩ := x
  obtain ⟨b1, b2, b3⟩ := y
  obtain ⟨ha1, ha2, ha3, ha4⟩ : 1 ≤ a2 ∧ a2 ≤ 20 ∧ 1 ≤ a3 ∧ a3 ≤ 40 := hx
  obtain ⟨hb1, hb2, hb3, hb4⟩ : 1 ≤ b2 ∧ b2 ≤ 20 ∧ 1 ≤ b3 ∧ b3 ≤ 40 := hy
  simp only [encPlace, cfPlace]
  obtain ⟨s, hs⟩ : ∃ s : Int, s = if a2 % 2 = 0 then -(a3 - b3) else a3 - b3 := ⟨_, rfl⟩
  have HSV := Lib.hid hs
  rw [← hs]
  have hor := fun (B : Nat) (W' : World) (h0 : W'.cell? ⟨B, 0, none⟩ = some (.int .i64 (Lib.compareBytes a1 b1))) (h1 : W'.cell? ⟨B, 1, none⟩ = some (.int .i64 (a2 - b2))) (h2 : W'.cell? ⟨B, 2, none⟩ = some (.int .i64 s)) => or_any B [Lib.compareBytes a1 b1, a2 - b2, s] W' (by simp) (fun k hk => by
    have hk' : k < 3 := hk
    rcases (show k = 0 ∨ k = 1 ∨ k = 2 by omega) with rfl | rfl | rfl
    · exact h0
    · exact h1
    · exact h2)
  have HOR := Lib.hid hor
  have hw2 : IntKind.i64.wrap (a2 - b2) = a2 - b2 := IntWalk.i64_in _ (by omega)
  have HW2 := Lib.hid hw2
  clear hor hw2
  by_cases he : a2 % 2 = 0
  all_goals
    first
      | (have heq : (a2 % 2 == 0) = true := by simpa using he
         rw [if_pos he] at hs
         clear he)
      | (have heq : (a2 % 2 == 0) = false := by simpa using he
         rw [if_neg he] at hs
         clear he)
    have HS := Lib.hid hs
    clear hs HSV
    go_enter Tryd.func33, Tryd.ntmps33
    go_wp2_with fail
    rw [← HS.out]
    have hw2 := HW2.out
    go_region_held3 (fun w' => w'.cell? ⟨W.heap.size, 0, none⟩ = some (.string ⟨a1.toArray⟩) ∧ w'.cell? ⟨W.heap.size, 1, none⟩ = some (.int .i64 a2) ∧ w'.cell? ⟨W.heap.size + 1, 0, none⟩ = some (.string ⟨b1.toArray⟩) ∧ w'.cell? ⟨W.heap.size + 1, 1, none⟩ = some (.int .i64 b2))
      (go_keep)
      (first
        | (go_at_call 58; refine (Tryd.strings_Compare _ _ _).mono ?_; rintro e w' ⟨rfl, rfl⟩)
        | (go_at_call 57; refine (HOR.out _ _ (by show (World.alloc _ _).cell? _ = _; rw [World.cell?_alloc_at _ _ _ _ (by simp)]; rfl) (by show (World.alloc _ _).cell? _ = _; rw [World.cell?_alloc_at _ _ _ _ (by simp)]; rfl) (by show (World.alloc _ _).cell? _ = _; rw [World.cell?_alloc_at _ _ _ _ (by simp)]; rfl)).mono ?_; rintro e w' ⟨rfl, rfl⟩))
    all_goals
      clear HOR hw2
      go_wp2_with fail
      go_ret
      refine ⟨rfl, 1, #[.cells #[.string ⟨a1.toArray⟩, .int .i64 a2, .int .i64 a3] 31, .cells #[.string ⟨b1.toArray⟩, .int .i64 b2, .int .i64 b3] 31, .cells #[.int .i64 (Lib.compareBytes a1 b1), .int .i64 (a2 - b2), .int .i64 s] 3], ?_⟩
      rw [alloc_eq_grow, alloc_eq_grow, alloc_eq_grow, grow_grow, grow_grow]; rfl
end Go.Proofs.YtcmjdaalhokmdaaDoor
