/- Places: their compare; Ahead. A world with more blocks than one. Lines of a stock: their compare. A stable sort, plainly: lists merged; what the parts of slices.SortStableFunc make of a list. No program in sight. -/
import Derived.IntWalk
import Derived.Sort.Statements
import Derived.Sort.Lot0
import Derived.Test.YthnpemlmfekkgaaGreatDoorM03
import Derived.Test.YthnpemlmfekkgaaGreatDoorM04
import Derived.Test.YthnpemlmfekkgaaGreatDoorM06
namespace Go.Proofs.YthnpemlmfekkgaaGreatDoor
open Go.RowKit Go.Sort Go.Proofs

/-- The compare of two places, on the way. -/
def cfPlace (x y : PlaceV) : Int := orL [Lib.compareBytes x.1 y.1, x.2.1 - y.2.1, if x.2.1 % 2 = 0 then -(x.2.2 - y.2.2) else x.2.2 - y.2.2]
def sbP (x : PlaceV) : Int := if x.2.1 % 2 = 0 then -x.2.2 else x.2.2
theorem likePlace : CmpLike cfPlace :=
  ((CmpLike.bytes (α := PlaceV) Prod.fst).then_ ((CmpLike.sub (α := PlaceV) (fun x => x.2.1)).then_ (CmpLike.sub sbP))).congr fun x y => by
    unfold cfPlace orL orL orL orL sbP
    by_cases h1 : Lib.compareBytes x.1 y.1 = 0
    · rw [if_pos h1, if_pos h1]
      by_cases h2 : x.2.1 - y.2.1 = 0
      · rw [if_pos h2, if_pos h2]
        have h3 : y.2.1 = x.2.1 := by omega
        rw [h3]
        by_cases h4 : x.2.1 % 2 = 0
        · simp only [if_pos h4]
          split <;> omega
        · simp only [if_neg h4]
          split <;> omega
      · rw [if_neg h2, if_neg h2]
    · rw [if_neg h1, if_neg h1]
theorem cfPlace_zero (x y : PlaceV) : cfPlace x y = 0 ↔ x = y := by
  constructor
  · intro h
    unfold cfPlace orL orL orL orL at h
    by_cases h1 : Lib.compareBytes x.1 y.1 = 0
    · rw [if_pos h1] at h
      by_cases h2 : x.2.1 - y.2.1 = 0
      · rw [if_pos h2] at h
        have e1 := (cmpB_eq _ _).1 h1
        have e2 : x.2.1 = y.2.1 := by omega
        have e3 : x.2.2 = y.2.2 := by
          by_cases h4 : x.2.1 % 2 = 0
          · simp only [if_pos h4] at h
            split at h <;> omega
          · simp only [if_neg h4] at h
            split at h <;> omega
        exact Prod.ext e1 (Prod.ext e2 e3)
      · rw [if_neg h2] at h; exact absurd h h2
    · rw [if_neg h1] at h; exact absurd h h1
  · rintro rfl
    exact likePlace.refl x

/-- Rows and bays of a well place. -/
def InP (x : PlaceV) : Prop := 1 ≤ x.2.1 ∧ x.2.1 ≤ 20 ∧ 1 ≤ x.2.2 ∧ x.2.2 ≤ 40
theorem InP.of {x : PlaceV} (h : placeE x = 0) : InP x := (placeE_zero.1 h).2

set_option maxHeartbeats 1000000 in
theorem cmpPlace_any (x y : PlaceV) (hx : InP x) (hy : InP y) (W : World) : Calls Tryz.prog 130 #[.agg (encPlace x).toArray, .agg (encPlace y).toArray] W fun e w' => e = .returned (.int .i64 (cfPlace x y)) ∧ ∃ q os', w' = grow (W.drewN q) os' := by
  obtain ⟨a1, a2, a3⟩ := x
  obtain ⟨b1, b2, b3⟩ := y
  obtain ⟨ha1, ha2, ha3, ha4⟩ : 1 ≤ a2 ∧ a2 ≤ 20 ∧ 1 ≤ a3 ∧ a3 ≤ 40 := hx
  obtain ⟨hb1, hb2, hb3, hb4⟩ : 1 ≤ b2 ∧ b2 ≤ 20 ∧ 1 ≤ b3 ∧ b3 ≤ 40 := hy
  simp only [encPlace, cfPlace]
  obtain ⟨s, hs⟩ : ∃ s : Int, s = if a2 % 2 = 0 then -(a3 - b3) else a3 - b3 := ⟨_, rfl⟩
  have HSV := Lib.hid hs
  rw [← hs]
  have hor := fun (B : Nat) (W' : World) (h0 : W'.cell? ⟨B, 0, none⟩ = some (.int .i64 (Lib.compareBytes a1 b1))) (h1 : W'.cell? ⟨B, 1, none⟩ = some (.int .i64 (a2 - b2))) (h2 : W'.cell? ⟨B, 2, none⟩ = some (.int .i64 s)) => or_any B [Lib.compareBytes a1 b1, a2 - b2, s] W' (by simp) (fun k hk => by
    have hk' : k < 3 := hk
    rcases (show k = 0 ∨ k = 1 ∨ k = 2 by omega) with rfl | rfl | rfl
    · exact h0
    · exact h1
    · exact h2)
  have HOR := Lib.hid hor
  have hw2 : IntKind.i64.wrap (a2 - b2) = a2 - b2 := IntWalk.i64_in _ (by omega)
  have HW2 := Lib.hid hw2
  clear hor hw2
  by_cases he : a2 % 2 = 0
  all_goals
    first
      | (have heq : (a2 % 2 == 0) = true := by simpa using he
         rw [if_pos he] at hs
         clear he)
      | (have heq : (a2 % 2 == 0) = false := by simpa using he
         rw [if_neg he] at hs
         clear he)
    have HS := Lib.hid hs
    clear hs HSV
    go_enter Tryz.func130, Tryz.ntmps130
    go_wp2_with fail
    rw [← HS.out]
    have hw2 := HW2.out
    go_region_held3 (fun w' => w'.cell? ⟨W.heap.size, 0, none⟩ = some (.string ⟨a1.toArray⟩) ∧ w'.cell? ⟨W.heap.size, 1, none⟩ = some (.int .i64 a2) ∧ w'.cell? ⟨W.heap.size + 1, 0, none⟩ = some (.string ⟨b1.toArray⟩) ∧ w'.cell? ⟨W.heap.size + 1, 1, none⟩ = some (.int .i64 b2))
      (go_keep)
      (first
        | (go_at_call 84; refine (Tryz.strings_Compare _ _ _).mono ?_; rintro e w' ⟨rfl, rfl⟩)
        | (go_at_call 82; refine (HOR.out _ _ (by show (World.alloc _ _).cell? _ = _; rw [World.cell?_alloc_at _ _ _ _ (by simp)]; rfl) (by show (World.alloc _ _).cell? _ = _; rw [World.cell?_alloc_at _ _ _ _ (by simp)]; rfl) (by show (World.alloc _ _).cell? _ = _; rw [World.cell?_alloc_at _ _ _ _ (by simp)]; rfl)).mono ?_; rintro e w' ⟨rfl, rfl⟩))
    all_goals
      clear HOR hw2
      go_wp2_with fail
      go_ret
      refine ⟨rfl, 1, #[.cells #[.string ⟨a1.toArray⟩, .int .i64 a2, .int .i64 a3] 41, .cells #[.string ⟨b1.toArray⟩, .int .i64 b2, .int .i64 b3] 41, .cells #[.int .i64 (Lib.compareBytes a1 b1), .int .i64 (a2 - b2), .int .i64 s] 3], ?_⟩
      rw [alloc_eq_grow, alloc_eq_grow, alloc_eq_grow, grow_grow, grow_grow]; rfl
end Go.Proofs.YthnpemlmfekkgaaGreatDoor
namespace Go.Proofs.YthnpemlmfekkgaaGreatDoor
open Go.RowKit Go.Sort Go.Proofs

/-- A world with more blocks. -/
def GrW (W w' : World) : Prop := ∃ q os, w' = grow (W.drewN q) os
theorem GrW.refl (W : World) : GrW W W := ⟨0, #[], by rw [grow_empty]; rfl⟩
theorem GrW.alloc {W w' : World} (h : GrW W w') (o : Obj) : GrW W (w'.alloc o) := by
  obtain ⟨q, os, rfl⟩ := h
  exact ⟨q, os ++ #[o], by rw [alloc_eq_grow, grow_grow]⟩
theorem GrW.trans {W w' w'' : World} (h : GrW W w') (h2 : GrW w' w'') : GrW W w'' := by
  obtain ⟨q, os, rfl⟩ := h
  obtain ⟨q2, os2, rfl⟩ := h2
  refine ⟨q + q2, os ++ os2, ?_⟩
  rw [← grow_grow]
  simp [grow, World.drewN, Nat.add_assoc]
theorem GrW.drew {W w' : World} (h : GrW W w') : GrW W w'.drew := h.trans ⟨1, #[], by rw [grow_empty]; rfl⟩
theorem GrW.below {W w' : World} (h : GrW W w') : Below W.heap.size W w' := by
  obtain ⟨q, os, rfl⟩ := h
  exact below_grown W q os

end Go.Proofs.YthnpemlmfekkgaaGreatDoor
namespace Go.Proofs.YthnpemlmfekkgaaGreatDoor
open Go.RowKit Go.Sort Go.Proofs

/-- A line: its place, its lot, how many pieces. -/
abbrev LineV := PlaceV × List UInt8 × Int
def encLine (x : LineV) : List Value := [.string ⟨x.1.1.toArray⟩, .int .i64 x.1.2.1, .int .i64 x.1.2.2, .string ⟨x.2.1.toArray⟩, .int .i64 x.2.2]
theorem encLine_len (x : LineV) : (encLine x).length = 5 := rfl
theorem encLine_one (x : LineV) : ∀ v ∈ encLine x, v.oneCell' = true := fun v hv => by
  simp [encLine] at hv
  rcases hv with rfl | rfl | rfl | rfl | rfl <;> rfl

/-- The compare of two lines. -/
def cfLine (x y : LineV) : Int := orL [cfPlace x.1 y.1, Lib.compareBytes x.2.1 y.2.1]
theorem likeLine : CmpLike cfLine :=
  ((likePlace.on (fun x : LineV => x.1)).then_ (CmpLike.bytes (α := LineV) fun x => x.2.1)).congr fun x y => by
    unfold cfLine orL orL orL
    by_cases h1 : cfPlace x.1 y.1 = 0
    · rw [if_pos h1, if_pos h1]
      split
      · rename_i h; exact h.symm
      · rfl
    · rw [if_neg h1, if_neg h1]
set_option maxHeartbeats 1000000 in
theorem cmpLine_any (x y : LineV) (hx : InP x.1) (hy : InP y.1) (W : World) : Calls Tryz.prog 106 #[.agg (encLine x).toArray, .agg (encLine y).toArray] W fun e w' => e = .returned (.int .i64 (cfLine x y)) ∧ ∃ q os', w' = grow (W.drewN q) os' := by
  have HP := Lib.hid (fun W' => cmpPlace_any x.1 y.1 hx hy W')
  obtain ⟨⟨a1, a2, a3⟩, a4, a5⟩ := x
  obtain ⟨⟨b1, b2, b3⟩, b4, b5⟩ := y
  simp only [encLine, encPlace, cfLine] at HP ⊢
  obtain ⟨c, hc⟩ : ∃ c, c = cfPlace (a1, a2, a3) (b1, b2, b3) := ⟨_, rfl⟩
  rw [← hc] at HP ⊢
  clear hc hx hy
  have hor := fun (B : Nat) (W' : World) (h0 : W'.cell? ⟨B, 0, none⟩ = some (.int .i64 c)) (h1 : W'.cell? ⟨B, 1, none⟩ = some (.int .i64 (Lib.compareBytes a4 b4))) => or_any B [c, Lib.compareBytes a4 b4] W' (by simp) (fun k hk => by
    have hk' : k < 2 := hk
    rcases (show k = 0 ∨ k = 1 by omega) with rfl | rfl
    · exact h0
    · exact h1)
  have HOR := Lib.hid hor
  clear hor
  go_enter Tryz.func106, Tryz.ntmps106
  go_wp2_with fail
  obtain ⟨W0, hW0⟩ : ∃ W0, W0 = (W.alloc (.cells #[.string ⟨a1.toArray⟩, .int .i64 a2, .int .i64 a3, .string ⟨a4.toArray⟩, .int .i64 a5] 48)).alloc (.cells #[.string ⟨b1.toArray⟩, .int .i64 b2, .int .i64 b3, .string ⟨b4.toArray⟩, .int .i64 b5] 48) := ⟨_, rfl⟩
  have g0 : GrW W W0 := by rw [hW0]; exact ((GrW.refl W).alloc _).alloc _
  have c0 : W0.cell? ⟨W.heap.size, 0, none⟩ = some (.string ⟨a1.toArray⟩) := by rw [hW0]; go_simp
  have c1 : W0.cell? ⟨W.heap.size, 1, none⟩ = some (.int .i64 a2) := by rw [hW0]; go_simp
  have c2 : W0.cell? ⟨W.heap.size, 2, none⟩ = some (.int .i64 a3) := by rw [hW0]; go_simp
  have c3 : W0.cell? ⟨W.heap.size, 3, none⟩ = some (.string ⟨a4.toArray⟩) := by rw [hW0]; go_simp
  have d0 : W0.cell? ⟨W.heap.size + 1, 0, none⟩ = some (.string ⟨b1.toArray⟩) := by rw [hW0]; go_simp
  have d1 : W0.cell? ⟨W.heap.size + 1, 1, none⟩ = some (.int .i64 b2) := by rw [hW0]; go_simp
  have d2 : W0.cell? ⟨W.heap.size + 1, 2, none⟩ = some (.int .i64 b3) := by rw [hW0]; go_simp
  have d3 : W0.cell? ⟨W.heap.size + 1, 3, none⟩ = some (.string ⟨b4.toArray⟩) := by rw [hW0]; go_simp
  have l0 : W.heap.size + 2 ≤ W0.heap.size := by rw [hW0]; simp
  rw [← hW0]
  clear hW0
  have HK : Hid (∀ w5, Below W0.heap.size W0 w5 → w5.cell? ⟨W.heap.size, 0, none⟩ = some (.string ⟨a1.toArray⟩) ∧ w5.cell? ⟨W.heap.size, 1, none⟩ = some (.int .i64 a2) ∧ w5.cell? ⟨W.heap.size, 2, none⟩ = some (.int .i64 a3) ∧ w5.cell? ⟨W.heap.size, 3, none⟩ = some (.string ⟨a4.toArray⟩) ∧ w5.cell? ⟨W.heap.size + 1, 0, none⟩ = some (.string ⟨b1.toArray⟩) ∧ w5.cell? ⟨W.heap.size + 1, 1, none⟩ = some (.int .i64 b2) ∧ w5.cell? ⟨W.heap.size + 1, 2, none⟩ = some (.int .i64 b3) ∧ w5.cell? ⟨W.heap.size + 1, 3, none⟩ = some (.string ⟨b4.toArray⟩)) := fun w5 h5 => by
    have g := fun (b o : Nat) (v : Value) (hc : W0.cell? ⟨b, o, none⟩ = some v) => (h5.cell (p := ⟨b, o, none⟩) (lt_of_cell hc)).trans hc
    exact ⟨g _ _ _ c0, g _ _ _ c1, g _ _ _ c2, g _ _ _ c3, g _ _ _ d0, g _ _ _ d1, g _ _ _ d2, g _ _ _ d3⟩
  have K0 := HK.out _ ((Below.refl W0.heap.size W0).drew)
  clear c0 c1 c2 c3 d0 d1 d2 d3
  have hd : GrW W0 W0.drew := (GrW.refl W0).drew
  have G0 := Lib.hid g0
  clear g0
  go_region_held3 (fun w5 => w5.cell? ⟨W.heap.size, 0, none⟩ = some (.string ⟨a1.toArray⟩) ∧ w5.cell? ⟨W.heap.size, 1, none⟩ = some (.int .i64 a2) ∧ w5.cell? ⟨W.heap.size, 2, none⟩ = some (.int .i64 a3) ∧ w5.cell? ⟨W.heap.size, 3, none⟩ = some (.string ⟨a4.toArray⟩) ∧ w5.cell? ⟨W.heap.size + 1, 0, none⟩ = some (.string ⟨b1.toArray⟩) ∧ w5.cell? ⟨W.heap.size + 1, 1, none⟩ = some (.int .i64 b2) ∧ w5.cell? ⟨W.heap.size + 1, 2, none⟩ = some (.int .i64 b3) ∧ w5.cell? ⟨W.heap.size + 1, 3, none⟩ = some (.string ⟨b4.toArray⟩))
    (first | exact K0 | exact K1 | go_keep)
    (first
      | (go_at_call 130; refine (HP.out _).mono ?_; rintro e w3 ⟨rfl, hg⟩; have g3 : GrW W0 w3 := hd.trans hg; have K1 := HK.out _ g3.below)
      | (go_at_call 84; refine (Tryz.strings_Compare _ _ _).mono ?_; rintro e w' ⟨rfl, rfl⟩)
      | (go_at_call 82; refine (HOR.out _ _ (by show (World.alloc _ _).cell? _ = _; rw [World.cell?_alloc_at _ _ _ _ (by simp)]; rfl) (by show (World.alloc _ _).cell? _ = _; rw [World.cell?_alloc_at _ _ _ _ (by simp)]; rfl)).mono ?_; rintro e w' ⟨rfl, rfl⟩))
  all_goals
    have G3 := Lib.hid (G0.out.trans g3)
    clear HOR HP HK K0 K1 g3 hd
    go_wp2_with fail
    go_ret
    exact ⟨rfl, G3.out.alloc _⟩


end Go.Proofs.YthnpemlmfekkgaaGreatDoor
namespace Go.Proofs.YthnpemlmfekkgaaGreatDoor.Stab
open Go.Sort

section
variable {α : Type} (lt : α → α → Bool)

/-- Two lists merged; of equals that of the first one is ahead. -/
def mrg : List α → List α → List α
  | [], ys => ys
  | x :: xs, [] => x :: xs
  | x :: xs, y :: ys => if lt y x then y :: mrg (x :: xs) ys else x :: mrg xs (y :: ys)
termination_by xs ys => xs.length + ys.length

theorem mrg_nil (ys : List α) : mrg lt [] ys = ys := by simp [mrg]
theorem mrg_none (xs : List α) : mrg lt xs [] = xs := by cases xs <;> simp [mrg]
theorem mrg_lt {x y : α} (xs ys : List α) (h : lt y x = true) : mrg lt (x :: xs) (y :: ys) = y :: mrg lt (x :: xs) ys := by rw [mrg, if_pos h]
theorem mrg_ge {x y : α} (xs ys : List α) (h : lt y x = false) : mrg lt (x :: xs) (y :: ys) = x :: mrg lt xs (y :: ys) := by rw [mrg, if_neg (by simp [h])]

/-- A merge parts where the first parts come ahead of the last ones. -/
theorem mrg_split : ∀ (n : Nat) (u1 v1 u2 v2 : List α), u1.length + v1.length = n → (∀ x ∈ u1, ∀ y ∈ v2, lt y x = false) → (∀ y ∈ v1, ∀ x ∈ u2, lt y x = true) →
    mrg lt (u1 ++ u2) (v1 ++ v2) = mrg lt u1 v1 ++ mrg lt u2 v2
  | 0, u1, v1, u2, v2, hn, _, _ => by
    obtain rfl := List.eq_nil_of_length_eq_zero (show u1.length = 0 by omega)
    obtain rfl := List.eq_nil_of_length_eq_zero (show v1.length = 0 by omega)
    simp [mrg_nil]
  | n + 1, [], [], u2, v2, hn, _, _ => by simp at hn
  | n + 1, [], y :: v1, u2, v2, hn, h1, h2 => by
    cases u2 with
    | nil => simp [mrg_nil]
    | cons x u2 =>
      have ih := mrg_split n [] v1 (x :: u2) v2 (by simpa using hn) h1 (fun y' hy x' hx => h2 y' (List.mem_cons_of_mem _ hy) x' hx)
      rw [List.nil_append, List.cons_append, mrg_lt lt _ _ (h2 y List.mem_cons_self x List.mem_cons_self), mrg_nil]
      rw [List.nil_append, mrg_nil] at ih
      rw [ih, List.cons_append]
  | n + 1, x :: u1, [], u2, v2, hn, h1, h2 => by
    cases v2 with
    | nil => simp [mrg_none]
    | cons y v2 =>
      have ih := mrg_split n u1 [] u2 (y :: v2) (by simpa using hn) (fun x' hx y' hy => h1 x' (List.mem_cons_of_mem _ hx) y' hy) h2
      rw [List.nil_append, List.cons_append, mrg_ge lt _ _ (h1 x List.mem_cons_self y List.mem_cons_self), mrg_none]
      rw [List.nil_append, mrg_none] at ih
      rw [ih, List.cons_append]
  | n + 1, x :: u1, y :: v1, u2, v2, hn, h1, h2 => by
    rcases h : lt y x with _ | _
    · have ih := mrg_split n u1 (y :: v1) u2 v2 (by simp at hn ⊢; omega) (fun x' hx y' hy => h1 x' (List.mem_cons_of_mem _ hx) y' hy) h2
      rw [List.cons_append, List.cons_append, mrg_ge lt _ _ h, mrg_ge lt _ _ h, List.cons_append, ← ih, List.cons_append]
    · have ih := mrg_split n (x :: u1) v1 u2 v2 (by simp at hn ⊢; omega) h1 (fun y' hy x' hx => h2 y' (List.mem_cons_of_mem _ hy) x' hx)
      rw [List.cons_append, List.cons_append, mrg_lt lt _ _ h, mrg_lt lt _ _ h, List.cons_append, ← ih, List.cons_append]

theorem mrg_perm : ∀ (n : Nat) (xs ys : List α), xs.length + ys.length = n → (mrg lt xs ys).Perm (xs ++ ys)
  | _, [], ys, _ => by rw [mrg_nil]; exact List.Perm.refl _
  | _, x :: xs, [], _ => by rw [mrg_none, List.append_nil]
  | 0, x :: xs, y :: ys, hn => by simp at hn
  | n + 1, x :: xs, y :: ys, hn => by
    rcases h : lt y x with _ | _
    · rw [mrg_ge lt _ _ h]
      exact (mrg_perm n xs (y :: ys) (by simp at hn ⊢; omega)).cons x
    · rw [mrg_lt lt _ _ h]
      exact ((mrg_perm n (x :: xs) ys (by simp at hn ⊢; omega)).cons y).trans List.perm_middle.symm
theorem mrg_length (xs ys : List α) : (mrg lt xs ys).length = xs.length + ys.length := by
  rw [(mrg_perm lt _ xs ys rfl).length_eq, List.length_append]

/-- None is less than one ahead of it. -/
def Srt (l : List α) : Prop := l.Pairwise fun x y => lt y x = false

variable {lt}
theorem mrg_sorted (hO : SWO lt) : ∀ (n : Nat) (xs ys : List α), xs.length + ys.length = n → Srt lt xs → Srt lt ys → Srt lt (mrg lt xs ys)
  | _, [], ys, _, _, h => by rw [mrg_nil]; exact h
  | _, x :: xs, [], _, h, _ => by rw [mrg_none]; exact h
  | 0, x :: xs, y :: ys, hn, _, _ => by simp at hn
  | n + 1, x :: xs, y :: ys, hn, hx, hy => by
    have hx' := List.pairwise_cons.1 hx
    have hy' := List.pairwise_cons.1 hy
    rcases h : lt y x with _ | _
    · rw [mrg_ge lt _ _ h]
      refine List.pairwise_cons.2 ⟨fun z hz => ?_, mrg_sorted hO n xs (y :: ys) (by simp at hn ⊢; omega) hx'.2 hy⟩
      rcases List.mem_append.1 ((mrg_perm lt _ _ _ rfl).mem_iff.1 hz) with hz | hz
      · exact hx'.1 z hz
      · rcases List.mem_cons.1 hz with rfl | hz
        · exact h
        · exact hO.ntrans z y x (hy'.1 z hz) h
    · have hxy : lt x y = false := by
        rcases h' : lt x y with _ | _
        · rfl
        · have := hO.trans x y x h' h; rw [hO.irrefl] at this; cases this
      rw [mrg_lt lt _ _ h]
      refine List.pairwise_cons.2 ⟨fun z hz => ?_, mrg_sorted hO n (x :: xs) ys (by simp at hn ⊢; omega) hx hy'.2⟩
      rcases List.mem_append.1 ((mrg_perm lt _ _ _ rfl).mem_iff.1 hz) with hz | hz
      · rcases List.mem_cons.1 hz with rfl | hz
        · exact hxy
        · exact hO.ntrans z x y (hx'.1 z hz) hxy
      · exact hy'.1 z hz

theorem mrg_assoc (hO : SWO lt) : ∀ (n : Nat) (A B C : List α), A.length + B.length + C.length = n → mrg lt (mrg lt A B) C = mrg lt A (mrg lt B C)
  | _, [], B, C, _ => by rw [mrg_nil, mrg_nil]
  | _, a :: A, [], C, _ => by rw [mrg_none, mrg_nil]
  | _, a :: A, b :: B, [], _ => by rw [mrg_none, mrg_none]
  | 0, a :: A, b :: B, c :: C, hn => by simp at hn
  | n + 1, a :: A, b :: B, c :: C, hn => by
    rcases hba : lt b a with _ | _
    · rcases hca : lt c a with _ | _
      · have ih := mrg_assoc hO n A (b :: B) (c :: C) (by simp at hn ⊢; omega)
        rw [mrg_ge lt _ _ hba, mrg_ge lt _ _ hca, ih]
        rcases hcb : lt c b with _ | _
        · rw [mrg_ge lt _ _ hcb, mrg_ge lt _ _ hba]
        · rw [mrg_lt lt _ _ hcb, mrg_ge lt _ _ hca]
      · have hcb : lt c b = true := by
          rcases h : lt c b with _ | _
          · have := hO.ntrans c b a h hba; rw [hca] at this; cases this
          · rfl
        have ih := mrg_assoc hO n (a :: A) (b :: B) C (by simp at hn ⊢; omega)
        rw [mrg_ge lt _ _ hba] at ih
        rw [mrg_ge lt _ _ hba, mrg_lt lt _ _ hca, ih, mrg_lt lt _ _ hcb, mrg_lt lt _ _ hca]
    · rcases hcb : lt c b with _ | _
      · have ih := mrg_assoc hO n (a :: A) B (c :: C) (by simp at hn ⊢; omega)
        rw [mrg_lt lt _ _ hba, mrg_ge lt _ _ hcb, mrg_ge lt _ _ hcb, mrg_lt lt _ _ hba, ih]
      · have hca := hO.trans c b a hcb hba
        have ih := mrg_assoc hO n (a :: A) (b :: B) C (by simp at hn ⊢; omega)
        rw [mrg_lt lt _ _ hba] at ih
        rw [mrg_lt lt _ _ hba, mrg_lt lt _ _ hcb, mrg_lt lt _ _ hcb, mrg_lt lt _ _ hca, ih]

variable (lt)
/-- A list sorted, stably. -/
def srt (l : List α) : List α := l.foldl (fun s a => mrg lt s [a]) []
theorem srt_nil : srt lt [] = [] := rfl
theorem srt_snoc (l : List α) (a : α) : srt lt (l ++ [a]) = mrg lt (srt lt l) [a] := by simp [srt]
theorem srt_one (a : α) : srt lt [a] = [a] := by simp [srt, mrg_nil]
theorem rev_ind {P : List α → Prop} (h0 : P []) (h1 : ∀ l a, P l → P (l ++ [a])) (l : List α) : P l := by
  have h : ∀ r : List α, P r.reverse := fun r => by
    induction r with
    | nil => exact h0
    | cons a r ih => rw [List.reverse_cons]; exact h1 _ _ ih
  have := h l.reverse
  rwa [List.reverse_reverse] at this
theorem srt_perm (l : List α) : (srt lt l).Perm l := by
  induction l using rev_ind with
  | h0 => exact List.Perm.refl _
  | h1 l a ih => rw [srt_snoc]; exact (mrg_perm lt _ _ _ rfl).trans (ih.append_right [a])
theorem srt_length (l : List α) : (srt lt l).length = l.length := (srt_perm lt l).length_eq
variable {lt}
theorem srt_sorted (hO : SWO lt) (l : List α) : Srt lt (srt lt l) := by
  induction l using rev_ind with
  | h0 => exact List.Pairwise.nil
  | h1 l a ih => rw [srt_snoc]; exact mrg_sorted hO _ _ _ rfl ih (List.pairwise_singleton _ _)
theorem srt_append (hO : SWO lt) (xs ys : List α) : srt lt (xs ++ ys) = mrg lt (srt lt xs) (srt lt ys) := by
  induction ys using rev_ind with
  | h0 => rw [List.append_nil, srt_nil, mrg_none]
  | h1 l a ih => rw [← List.append_assoc, srt_snoc, srt_snoc, ih, mrg_assoc hO _ _ _ _ rfl]

/-- One put in: behind all that it is not less than. -/
theorem mrg_put {X Q : List α} (a : α) (h1 : ∀ x ∈ X, lt a x = false) (h2 : ∀ x ∈ Q, lt a x = true) : mrg lt (X ++ Q) [a] = X ++ a :: Q := by
  have e1 := mrg_split lt _ X [] Q [a] rfl (fun x hx y hy => by simp at hy; subst hy; exact h1 x hx) (fun y hy => by simp at hy)
  have e2 := mrg_split lt _ [] [a] Q [] rfl (fun x hx => by simp at hx) (fun y hy x hx => by simp at hy; subst hy; exact h2 x hx)
  rw [List.nil_append] at e1
  rw [List.nil_append, List.append_nil, mrg_nil, mrg_none] at e2
  rw [e1, mrg_none, e2]; rfl
theorem put_mrg {P Q : List α} (x : α) (h1 : ∀ y ∈ P, lt y x = true) (h2 : ∀ y ∈ Q, lt y x = false) : mrg lt [x] (P ++ Q) = P ++ x :: Q := by
  have e1 := mrg_split lt _ [] P [x] Q rfl (fun x hx => by simp at hx) (fun y hy x' hx => by simp at hx; subst hx; exact h1 y hy)
  have e2 := mrg_split lt _ [x] [] [] Q rfl (fun x' hx y hy => by simp at hx; subst hx; exact h2 y hy) (fun y hy => by simp at hy)
  rw [List.nil_append] at e1
  rw [List.append_nil, List.nil_append, mrg_none, mrg_nil] at e2
  rw [e1, mrg_nil, e2]; rfl
theorem srt_of_sorted (l : List α) (h : Srt lt l) : srt lt l = l := by
  induction l using rev_ind with
  | h0 => rfl
  | h1 l a ih =>
    have h' := List.pairwise_append.1 h
    rw [srt_snoc, ih h'.1]
    have := mrg_put (lt := lt) (X := l) (Q := []) a (fun x hx => h'.2.2 x hx a (by simp)) (fun x hx => by simp at hx)
    simpa using this
end

section
variable {α : Type} [Inhabited α]

/-! Arrays as lists. -/
theorem get_mid (A : List α) (x : α) (B : List α) : (A ++ x :: B).toArray[A.length]! = x := by
  simp
theorem get_at (A : List α) (x : α) (B : List α) (i : Nat) (h : i = A.length) : (A ++ x :: B).toArray[i]! = x := by subst h; exact get_mid A x B
theorem swp_list (A B C : List α) (x y : α) : swp (A ++ x :: (B ++ y :: C)).toArray A.length (A.length + 1 + B.length) = (A ++ y :: (B ++ x :: C)).toArray := by
  have h1 := get_mid A x (B ++ y :: C)
  have h2 : (A ++ x :: (B ++ y :: C)).toArray[A.length + 1 + B.length]! = y := by
    rw [show A ++ x :: (B ++ y :: C) = (A ++ x :: B) ++ y :: C by simp]
    exact get_at _ _ _ _ (by simp; omega)
  unfold swp
  rw [h1, h2]
  apply Array.ext'
  simp only [Array.toList_setIfInBounds]
  rw [List.set_append_right _ _ (by omega), Nat.sub_self, List.set_cons_zero, List.set_append_right _ _ (by omega)]
  rw [show A.length + 1 + B.length - A.length = B.length + 1 by omega, List.set_cons_succ, List.set_append_right _ _ (by omega), Nat.sub_self, List.set_cons_zero]
theorem swp_at (A B C : List α) (x y : α) (i j : Nat) (hi : i = A.length) (hj : j = A.length + 1 + B.length) : swp (A ++ x :: (B ++ y :: C)).toArray i j = (A ++ y :: (B ++ x :: C)).toArray := by
  subst hi hj; exact swp_list A B C x y
theorem swp_comm (d : Array α) (i j : Nat) : swp d i j = swp d j i := by
  unfold swp
  by_cases h : i = j
  · subst h; rfl
  · exact Array.setIfInBounds_comm _ _ h

/-- The insertion sort of a part. -/
theorem insInner_list {lt : α → α → Bool} (hO : SWO lt) (A X : List α) (z : α) (B : List α) (hX : Srt lt X) :
    insInner lt A.length (A.length + X.length) (A ++ (X ++ z :: B)).toArray = (A ++ (mrg lt X [z] ++ B)).toArray := by
  induction X using rev_ind generalizing B with
  | h0 =>
    rw [mrg_nil]
    show insInner lt A.length (A.length + 0) _ = _
    cases hA : A.length with
    | zero => simp [insInner]
    | succ n =>
      rw [Nat.add_zero, insInner, if_neg (by simp)]
      rfl
  | h1 X w ih =>
    have hp := List.pairwise_append.1 hX
    have e : A ++ ((X ++ [w]) ++ z :: B) = (A ++ X) ++ w :: ([] ++ z :: B) := by simp
    have g1 : (A ++ ((X ++ [w]) ++ z :: B)).toArray[A.length + X.length + 1]! = z := by
      rw [show A ++ ((X ++ [w]) ++ z :: B) = (A ++ (X ++ [w])) ++ z :: B by simp]
      exact get_at _ _ _ _ (by simp; omega)
    have g2 : (A ++ ((X ++ [w]) ++ z :: B)).toArray[A.length + X.length]! = w := by
      rw [e]; exact get_at _ _ _ _ (by simp)
    rw [show A.length + (X ++ [w]).length = (A.length + X.length) + 1 by simp; omega, insInner, g1, g2]
    rcases h : lt z w with _ | _
    · rw [if_neg (by simp)]
      have := mrg_put (lt := lt) (X := X ++ [w]) (Q := []) z (fun x hx => by
        rcases List.mem_append.1 hx with hx | hx
        · exact hO.ntrans z w x h (hp.2.2 x hx w (by simp))
        · simp at hx; subst hx; exact h) (fun x hx => by simp at hx)
      rw [List.append_nil] at this
      rw [this]; simp
    · rw [if_pos (by simp; omega), e, swp_comm, swp_at (A ++ X) [] B w z _ _ (by simp) (by simp)]
      have h2 := ih (w :: B) hp.1
      rw [show (A ++ X) ++ z :: ([] ++ w :: B) = A ++ (X ++ z :: (w :: B)) by simp, h2]
      have e2 := mrg_split lt _ X [z] [w] [] rfl (fun x _ y hy => by simp at hy) (fun y hy x hx => by simp at hx hy; subst hx; subst hy; exact h)
      rw [List.append_nil, mrg_none] at e2
      rw [e2]; simp
theorem insOuter_list {lt : α → α → Bool} (hO : SWO lt) (A B : List α) : ∀ (R X : List α), Srt lt X →
    insOuter lt A.length (A.length + X.length + R.length) (A.length + X.length) (A ++ (X ++ (R ++ B))).toArray = (A ++ (R.foldl (fun s a => mrg lt s [a]) X ++ B)).toArray
  | [], X, _ => by rw [insOuter, if_neg (by simp)]; simp
  | z :: R, X, hX => by
    rw [insOuter, if_pos (by simp)]
    have h1 := insInner_list hO A X z (R ++ B) hX
    rw [List.cons_append, h1]
    have ih := insOuter_list hO A B R (mrg lt X [z]) (mrg_sorted hO _ _ _ rfl hX (List.pairwise_singleton _ _))
    rw [mrg_length] at ih
    rw [show A.length + X.length + (z :: R).length = A.length + (X.length + [z].length) + R.length by simp; omega, show A.length + X.length + 1 = A.length + (X.length + [z].length) by simp; omega, ih]
    rfl
theorem insertionSort_list {lt : α → α → Bool} (hO : SWO lt) (A L B : List α) : insertionSort lt (A ++ (L ++ B)).toArray A.length (A.length + L.length) = (A ++ (srt lt L ++ B)).toArray := by
  cases L with
  | nil => unfold insertionSort; rw [insOuter, if_neg (by simp)]; simp [srt_nil]
  | cons x R =>
    have h := insOuter_list hO A B R [x] (List.pairwise_singleton _ _)
    unfold insertionSort
    rw [show A.length + (x :: R).length = A.length + [x].length + R.length by simp; omega]
    have e : A ++ (x :: R ++ B) = A ++ ([x] ++ (R ++ B)) := by simp
    rw [e]
    show insOuter lt A.length _ (A.length + [x].length) _ = _
    rw [h]
    simp [srt, mrg_nil]
end
end Go.Proofs.YthnpemlmfekkgaaGreatDoor.Stab
