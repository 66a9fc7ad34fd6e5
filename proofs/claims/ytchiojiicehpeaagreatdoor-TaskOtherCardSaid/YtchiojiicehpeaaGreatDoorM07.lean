/- Lines of a stock: their compare. A stable sort, plainly: lists merged; what the parts of slices.SortStableFunc make of a list. No program in sight. Contracts of the library at this translation: laid by the kit's shelf (lay-shelf, lay-plain), those alone that the claim uses. Lines of a stock: sorted. -/
import Derived.Sort.Statements
import Derived.Sort.Lot0
import Derived.Shelf.SlicesE.Clone
import Derived.Shelf.SlSortCmp.WholeK
import Derived.Shelf.SlSortCmp.KitK
import Derived.Test.YtchiojiicehpeaaGreatDoorProg
import Derived.Shelf.SlSortCmp.NoneTotal
import Derived.Test.YtchiojiicehpeaaGreatDoorM04
import Derived.Test.YtchiojiicehpeaaGreatDoorM06
namespace Go.Proofs.YtchiojiicehpeaaGreatDoor
open Go.RowKit Go.Sort Go.Proofs
abbrev LineV := PlaceV × List UInt8 × Int
def encLine (x : LineV) : List Value := [.string ⟨x.1.1.toArray⟩, .int .i64 x.1.2.1, .int .i64 x.1.2.2, .string ⟨x.2.1.toArray⟩, .int .i64 x.2.2]
theorem encLine_len (x : LineV) : (encLine x).length = 5 := rfl
theorem encLine_one (x : LineV) : ∀ v ∈ encLine x, v.oneCell' = true := fun v hv => by
 simp [encLine] at hv
 rcases hv with rfl | rfl | rfl | rfl | rfl <;> rfl
def cfLine (x y : LineV) : Int := orL [cfPlace x.1 y.1, Lib.compareBytes x.2.1 y.2.1]
theorem likeLine : CmpLike cfLine :=
 ((likePlace.on (fun x : LineV => x.1)).then_ (CmpLike.bytes (α := LineV) fun x => x.2.1)).congr fun x y => by
  unfold cfLine orL orL orL
  by_cases h1 : cfPlace x.1 y.1 = 0
  ·rw [if_pos h1, if_pos h1]
   split
   ·rename_i h; exact h.symm
   ·rfl
  ·rw [if_neg h1, if_neg h1]
set_option maxHeartbeats 1000000 in
theorem cmpLine_any (x y : LineV) (hx : InP x.1) (hy : InP y.1) (W : World) : Calls Tryz.prog 147 #[.agg (encLine x).toArray, .agg (encLine y).toArray] W fun e w' => e = .returned (.int .i64 (cfLine x y)) ∧ ∃ q os', w' = grow (W.drewN q) os' := by
 have HP := Lib.hid (fun W' => cmpPlace_any x.1 y.1 hx hy W')
 obtain ⟨⟨a1, a2, a3⟩, a4, a5⟩ := x
 obtain ⟨⟨b1, b2, b3⟩, b4, b5⟩ := y
 simp only [encLine, encPlace, cfLine] at HP ⊢
 obtain ⟨c, hc⟩ : ∃ c, c = cfPlace (a1, a2, a3) (b1, b2, b3) := ⟨_, rfl⟩
 rw [← hc] at HP ⊢
 clear hc hx hy
 have hor := fun (B : Nat) (W' : World) (h0 : W'.cell? ⟨B, 0, none⟩ = some (.int .i64 c)) (h1 : W'.cell? ⟨B, 1, none⟩ = some (.int .i64 (Lib.compareBytes a4 b4))) => or_any B [c, Lib.compareBytes a4 b4] W' (by simp) (fun k hk => by
  have hk' : k < 2 := hk
  rcases (show k = 0 ∨ k = 1 by omega) with rfl | rfl
  ·exact h0
  ·exact h1)
 have HOR := Lib.hid hor
 clear hor
 go_enter Tryz.func147, Tryz.ntmps147
 go_wp2_with fail
 obtain ⟨W0, hW0⟩ : ∃ W0, W0 = (W.alloc (.cells #[.string ⟨a1.toArray⟩, .int .i64 a2, .int .i64 a3, .string ⟨a4.toArray⟩, .int .i64 a5] 60)).alloc (.cells #[.string ⟨b1.toArray⟩, .int .i64 b2, .int .i64 b3, .string ⟨b4.toArray⟩, .int .i64 b5] 60) := ⟨_, rfl⟩
 have g0 : GrW W W0 := by rw [hW0]; exact ((GrW.refl W).alloc _).alloc _
 have c0 : W0.cell? ⟨W.heap.size, 0, none⟩ = some (.string ⟨a1.toArray⟩) := by rw [hW0]; go_simp
 have c1 : W0.cell? ⟨W.heap.size, 1, none⟩ = some (.int .i64 a2) := by rw [hW0]; go_simp
 have c2 : W0.cell? ⟨W.heap.size, 2, none⟩ = some (.int .i64 a3) := by rw [hW0]; go_simp
 have c3 : W0.cell? ⟨W.heap.size, 3, none⟩ = some (.string ⟨a4.toArray⟩) := by rw [hW0]; go_simp
 have d0 : W0.cell? ⟨W.heap.size + 1, 0, none⟩ = some (.string ⟨b1.toArray⟩) := by rw [hW0]; go_simp
 have d1 : W0.cell? ⟨W.heap.size + 1, 1, none⟩ = some (.int .i64 b2) := by rw [hW0]; go_simp
 have d2 : W0.cell? ⟨W.heap.size + 1, 2, none⟩ = some (.int .i64 b3) := by rw [hW0]; go_simp
 have d3 : W0.cell? ⟨W.heap.size + 1, 3, none⟩ = some (.string ⟨b4.toArray⟩) := by rw [hW0]; go_simp
 have l0 : W.heap.size + 2 ≤ W0.heap.size := by rw [hW0]; simp
 rw [← hW0]
 clear hW0
 have HK : Hid (∀ w5, Below W0.heap.size W0 w5 → w5.cell? ⟨W.heap.size, 0, none⟩ = some (.string ⟨a1.toArray⟩) ∧ w5.cell? ⟨W.heap.size, 1, none⟩ = some (.int .i64 a2) ∧ w5.cell? ⟨W.heap.size, 2, none⟩ = some (.int .i64 a3) ∧ w5.cell? ⟨W.heap.size, 3, none⟩ = some (.string ⟨a4.toArray⟩) ∧ w5.cell? ⟨W.heap.size + 1, 0, none⟩ = some (.string ⟨b1.toArray⟩) ∧ w5.cell? ⟨W.heap.size + 1, 1, none⟩ = some (.int .i64 b2) ∧ w5.cell? ⟨W.heap.size + 1, 2, none⟩ = some (.int .i64 b3) ∧ w5.cell? ⟨W.heap.size + 1, 3, none⟩ = some (.string ⟨b4.toArray⟩)) := fun w5 h5 => by
  have g := fun (b o : Nat) (v : Value) (hc : W0.cell? ⟨b, o, none⟩ = some v) => (h5.cell (p := ⟨b, o, none⟩) (lt_of_cell hc)).trans hc
  exact ⟨g _ _ _ c0, g _ _ _ c1, g _ _ _ c2, g _ _ _ c3, g _ _ _ d0, g _ _ _ d1, g _ _ _ d2, g _ _ _ d3⟩
 have K0 := HK.out _ ((Below.refl W0.heap.size W0).drew)
 clear c0 c1 c2 c3 d0 d1 d2 d3
 have hd : GrW W0 W0.drew := (GrW.refl W0).drew
 have G0 := Lib.hid g0
 clear g0
 go_region_held3 (fun w5 => w5.cell? ⟨W.heap.size, 0, none⟩ = some (.string ⟨a1.toArray⟩) ∧ w5.cell? ⟨W.heap.size, 1, none⟩ = some (.int .i64 a2) ∧ w5.cell? ⟨W.heap.size, 2, none⟩ = some (.int .i64 a3) ∧ w5.cell? ⟨W.heap.size, 3, none⟩ = some (.string ⟨a4.toArray⟩) ∧ w5.cell? ⟨W.heap.size + 1, 0, none⟩ = some (.string ⟨b1.toArray⟩) ∧ w5.cell? ⟨W.heap.size + 1, 1, none⟩ = some (.int .i64 b2) ∧ w5.cell? ⟨W.heap.size + 1, 2, none⟩ = some (.int .i64 b3) ∧ w5.cell? ⟨W.heap.size + 1, 3, none⟩ = some (.string ⟨b4.toArray⟩))
  (first | exact K0 | exact K1 | go_keep)
  (first
   |(go_at_call 199; refine (HP.out _).mono ?_; rintro e w3 ⟨rfl, hg⟩; have g3 : GrW W0 w3 := hd.trans hg; have K1 := HK.out _ g3.below)
   |(go_at_call 200; refine (Tryz.strings_Compare _ _ _).mono ?_; rintro e w' ⟨rfl, rfl⟩)
   |(go_at_call 198; refine (HOR.out _ _ (by show (World.alloc _ _).cell? _ = _; rw [World.cell?_alloc_at _ _ _ _ (by simp)]; rfl) (by show (World.alloc _ _).cell? _ = _; rw [World.cell?_alloc_at _ _ _ _ (by simp)]; rfl)).mono ?_; rintro e w' ⟨rfl, rfl⟩))
 all_goals
  have G3 := Lib.hid (G0.out.trans g3)
  clear HOR HP HK K0 K1 g3 hd
  go_wp2_with fail
  go_ret
  exact ⟨rfl, G3.out.alloc _⟩
end Go.Proofs.YtchiojiicehpeaaGreatDoor
namespace Go.Proofs.YtchiojiicehpeaaGreatDoor.Stab
open Go.Sort
section
variable {α : Type} (lt : α → α → Bool)
def mrg : List α → List α → List α
 |[], ys => ys
 |x :: xs, [] => x :: xs
 |x :: xs, y :: ys => if lt y x then y :: mrg (x :: xs) ys else x :: mrg xs (y :: ys)
termination_by xs ys => xs.length + ys.length
theorem mrg_nil (ys : List α) : mrg lt [] ys = ys := by simp [mrg]
theorem mrg_none (xs : List α) : mrg lt xs [] = xs := by cases xs <;> simp [mrg]
theorem mrg_lt {x y : α} (xs ys : List α) (h : lt y x = true) : mrg lt (x :: xs) (y :: ys) = y :: mrg lt (x :: xs) ys := by rw [mrg, if_pos h]
theorem mrg_ge {x y : α} (xs ys : List α) (h : lt y x = false) : mrg lt (x :: xs) (y :: ys) = x :: mrg lt xs (y :: ys) := by rw [mrg, if_neg (by simp [h])]
theorem mrg_split : ∀ (n : Nat) (u1 v1 u2 v2 : List α), u1.length + v1.length = n → (∀ x ∈ u1, ∀ y ∈ v2, lt y x = false) → (∀ y ∈ v1, ∀ x ∈ u2, lt y x = true) →
  mrg lt (u1 ++ u2) (v1 ++ v2) = mrg lt u1 v1 ++ mrg lt u2 v2
 |0, u1, v1, u2, v2, hn, _, _ => by
  obtain rfl := List.eq_nil_of_length_eq_zero (show u1.length = 0 by omega)
  obtain rfl := List.eq_nil_of_length_eq_zero (show v1.length = 0 by omega)
  simp [mrg_nil]
 |n + 1, [], [], u2, v2, hn, _, _ => by simp at hn
 |n + 1, [], y :: v1, u2, v2, hn, h1, h2 => by
  cases u2 with
  |nil => simp [mrg_nil]
  |cons x u2 =>
   have ih := mrg_split n [] v1 (x :: u2) v2 (by simpa using hn) h1 (fun y' hy x' hx => h2 y' (List.mem_cons_of_mem _ hy) x' hx)
   rw [List.nil_append, List.cons_append, mrg_lt lt _ _ (h2 y List.mem_cons_self x List.mem_cons_self), mrg_nil]
   rw [List.nil_append, mrg_nil] at ih
   rw [ih, List.cons_append]
 |n + 1, x :: u1, [], u2, v2, hn, h1, h2 => by
  cases v2 with
  |nil => simp [mrg_none]
  |cons y v2 =>
   have ih := mrg_split n u1 [] u2 (y :: v2) (by simpa using hn) (fun x' hx y' hy => h1 x' (List.mem_cons_of_mem _ hx) y' hy) h2
   rw [List.nil_append, List.cons_append, mrg_ge lt _ _ (h1 x List.mem_cons_self y List.mem_cons_self), mrg_none]
   rw [List.nil_append, mrg_none] at ih
   rw [ih, List.cons_append]
 |n + 1, x :: u1, y :: v1, u2, v2, hn, h1, h2 => by
  rcases h : lt y x with _ | _
  ·have ih := mrg_split n u1 (y :: v1) u2 v2 (by simp at hn ⊢; omega) (fun x' hx y' hy => h1 x' (List.mem_cons_of_mem _ hx) y' hy) h2
   rw [List.cons_append, List.cons_append, mrg_ge lt _ _ h, mrg_ge lt _ _ h, List.cons_append, ← ih, List.cons_append]
  ·have ih := mrg_split n (x :: u1) v1 u2 v2 (by simp at hn ⊢; omega) h1 (fun y' hy x' hx => h2 y' (List.mem_cons_of_mem _ hy) x' hx)
   rw [List.cons_append, List.cons_append, mrg_lt lt _ _ h, mrg_lt lt _ _ h, List.cons_append, ← ih, List.cons_append]
theorem mrg_perm : ∀ (n : Nat) (xs ys : List α), xs.length + ys.length = n → (mrg lt xs ys).Perm (xs ++ ys)
 |_, [], ys, _ => by rw [mrg_nil]; exact List.Perm.refl _
 |_, x :: xs, [], _ => by rw [mrg_none, List.append_nil]
 |0, x :: xs, y :: ys, hn => by simp at hn
 |n + 1, x :: xs, y :: ys, hn => by
  rcases h : lt y x with _ | _
  ·rw [mrg_ge lt _ _ h]
   exact (mrg_perm n xs (y :: ys) (by simp at hn ⊢; omega)).cons x
  ·rw [mrg_lt lt _ _ h]
   exact ((mrg_perm n (x :: xs) ys (by simp at hn ⊢; omega)).cons y).trans List.perm_middle.symm
theorem mrg_length (xs ys : List α) : (mrg lt xs ys).length = xs.length + ys.length := by
 rw [(mrg_perm lt _ xs ys rfl).length_eq, List.length_append]
def Srt (l : List α) : Prop := l.Pairwise fun x y => lt y x = false
variable {lt}
theorem mrg_sorted (hO : SWO lt) : ∀ (n : Nat) (xs ys : List α), xs.length + ys.length = n → Srt lt xs → Srt lt ys → Srt lt (mrg lt xs ys)
 |_, [], ys, _, _, h => by rw [mrg_nil]; exact h
 |_, x :: xs, [], _, h, _ => by rw [mrg_none]; exact h
 |0, x :: xs, y :: ys, hn, _, _ => by simp at hn
 |n + 1, x :: xs, y :: ys, hn, hx, hy => by
  have hx' := List.pairwise_cons.1 hx
  have hy' := List.pairwise_cons.1 hy
  rcases h : lt y x with _ | _
  ·rw [mrg_ge lt _ _ h]
   refine List.pairwise_cons.2 ⟨fun z hz => ?_, mrg_sorted hO n xs (y :: ys) (by simp at hn ⊢; omega) hx'.2 hy⟩
   rcases List.mem_append.1 ((mrg_perm lt _ _ _ rfl).mem_iff.1 hz) with hz | hz
   ·exact hx'.1 z hz
   ·rcases List.mem_cons.1 hz with rfl | hz
    ·exact h
    ·exact hO.ntrans z y x (hy'.1 z hz) h
  ·have hxy : lt x y = false := by
    rcases h' : lt x y with _ | _
    ·rfl
    ·have := hO.trans x y x h' h; rw [hO.irrefl] at this; cases this
   rw [mrg_lt lt _ _ h]
   refine List.pairwise_cons.2 ⟨fun z hz => ?_, mrg_sorted hO n (x :: xs) ys (by simp at hn ⊢; omega) hx hy'.2⟩
   rcases List.mem_append.1 ((mrg_perm lt _ _ _ rfl).mem_iff.1 hz) with hz | hz
   ·rcases List.mem_cons.1 hz with rfl | hz
    ·exact hxy
    ·exact hO.ntrans z x y (hx'.1 z hz) hxy
   ·exact hy'.1 z hz
theorem mrg_assoc (hO : SWO lt) : ∀ (n : Nat) (A B C : List α), A.length + B.length + C.length = n → mrg lt (mrg lt A B) C = mrg lt A (mrg lt B C)
 |_, [], B, C, _ => by rw [mrg_nil, mrg_nil]
 |_, a :: A, [], C, _ => by rw [mrg_none, mrg_nil]
 |_, a :: A, b :: B, [], _ => by rw [mrg_none, mrg_none]
 |0, a :: A, b :: B, c :: C, hn => by simp at hn
 |n + 1, a :: A, b :: B, c :: C, hn => by
  rcases hba : lt b a with _ | _
  ·rcases hca : lt c a with _ | _
   ·have ih := mrg_assoc hO n A (b :: B) (c :: C) (by simp at hn ⊢; omega)
    rw [mrg_ge lt _ _ hba, mrg_ge lt _ _ hca, ih]
    rcases hcb : lt c b with _ | _
    ·rw [mrg_ge lt _ _ hcb, mrg_ge lt _ _ hba]
    ·rw [mrg_lt lt _ _ hcb, mrg_ge lt _ _ hca]
   ·have hcb : lt c b = true := by
     rcases h : lt c b with _ | _
     ·have := hO.ntrans c b a h hba; rw [hca] at this; cases this
     ·rfl
    have ih := mrg_assoc hO n (a :: A) (b :: B) C (by simp at hn ⊢; omega)
    rw [mrg_ge lt _ _ hba] at ih
    rw [mrg_ge lt _ _ hba, mrg_lt lt _ _ hca, ih, mrg_lt lt _ _ hcb, mrg_lt lt _ _ hca]
  ·rcases hcb : lt c b with _ | _
   ·have ih := mrg_assoc hO n (a :: A) B (c :: C) (by simp at hn ⊢; omega)
    rw [mrg_lt lt _ _ hba, mrg_ge lt _ _ hcb, mrg_ge lt _ _ hcb, mrg_lt lt _ _ hba, ih]
   ·have hca := hO.trans c b a hcb hba
    have ih := mrg_assoc hO n (a :: A) (b :: B) C (by simp at hn ⊢; omega)
    rw [mrg_lt lt _ _ hba] at ih
    rw [mrg_lt lt _ _ hba, mrg_lt lt _ _ hcb, mrg_lt lt _ _ hcb, mrg_lt lt _ _ hca, ih]
variable (lt)
def srt (l : List α) : List α := l.foldl (fun s a => mrg lt s [a]) []
theorem srt_nil : srt lt [] = [] := rfl
theorem srt_snoc (l : List α) (a : α) : srt lt (l ++ [a]) = mrg lt (srt lt l) [a] := by simp [srt]
theorem rev_ind {P : List α → Prop} (h0 : P []) (h1 : ∀ l a, P l → P (l ++ [a])) (l : List α) : P l := by
 have h : ∀ r : List α, P r.reverse := fun r => by
  induction r with
  |nil => exact h0
  |cons a r ih => rw [List.reverse_cons]; exact h1 _ _ ih
 have := h l.reverse
 rwa [List.reverse_reverse] at this
theorem srt_perm (l : List α) : (srt lt l).Perm l := by
 induction l using rev_ind with
 |h0 => exact List.Perm.refl _
 |h1 l a ih => rw [srt_snoc]; exact (mrg_perm lt _ _ _ rfl).trans (ih.append_right [a])
theorem srt_length (l : List α) : (srt lt l).length = l.length := (srt_perm lt l).length_eq
variable {lt}
theorem srt_sorted (hO : SWO lt) (l : List α) : Srt lt (srt lt l) := by
 induction l using rev_ind with
 |h0 => exact List.Pairwise.nil
 |h1 l a ih => rw [srt_snoc]; exact mrg_sorted hO _ _ _ rfl ih (List.pairwise_singleton _ _)
theorem srt_append (hO : SWO lt) (xs ys : List α) : srt lt (xs ++ ys) = mrg lt (srt lt xs) (srt lt ys) := by
 induction ys using rev_ind with
 |h0 => rw [List.append_nil, srt_nil, mrg_none]
 |h1 l a ih => rw [← List.append_assoc, srt_snoc, srt_snoc, ih, mrg_assoc hO _ _ _ _ rfl]
theorem mrg_put {X Q : List α} (a : α) (h1 : ∀ x ∈ X, lt a x = false) (h2 : ∀ x ∈ Q, lt a x = true) : mrg lt (X ++ Q) [a] = X ++ a :: Q := by
 have e1 := mrg_split lt _ X [] Q [a] rfl (fun x hx y hy => by simp at hy; subst hy; exact h1 x hx) (fun y hy => by simp at hy)
 have e2 := mrg_split lt _ [] [a] Q [] rfl (fun x hx => by simp at hx) (fun y hy x hx => by simp at hy; subst hy; exact h2 x hx)
 rw [List.nil_append] at e1
 rw [List.nil_append, List.append_nil, mrg_nil, mrg_none] at e2
 rw [e1, mrg_none, e2]; rfl
theorem put_mrg {P Q : List α} (x : α) (h1 : ∀ y ∈ P, lt y x = true) (h2 : ∀ y ∈ Q, lt y x = false) : mrg lt [x] (P ++ Q) = P ++ x :: Q := by
 have e1 := mrg_split lt _ [] P [x] Q rfl (fun x hx => by simp at hx) (fun y hy x' hx => by simp at hx; subst hx; exact h1 y hy)
 have e2 := mrg_split lt _ [x] [] [] Q rfl (fun x' hx y hy => by simp at hx; subst hx; exact h2 y hy) (fun y hy => by simp at hy)
 rw [List.nil_append] at e1
 rw [List.append_nil, List.nil_append, mrg_none, mrg_nil] at e2
 rw [e1, mrg_nil, e2]; rfl
end
section
variable {α : Type} [Inhabited α]
/-! Arrays as lists. -/
theorem get_mid (A : List α) (x : α) (B : List α) : (A ++ x :: B).toArray[A.length]! = x := by
 simp
theorem get_at (A : List α) (x : α) (B : List α) (i : Nat) (h : i = A.length) : (A ++ x :: B).toArray[i]! = x := by subst h; exact get_mid A x B
theorem swp_list (A B C : List α) (x y : α) : swp (A ++ x :: (B ++ y :: C)).toArray A.length (A.length + 1 + B.length) = (A ++ y :: (B ++ x :: C)).toArray := by
 have h1 := get_mid A x (B ++ y :: C)
 have h2 : (A ++ x :: (B ++ y :: C)).toArray[A.length + 1 + B.length]! = y := by
  rw [show A ++ x :: (B ++ y :: C) = (A ++ x :: B) ++ y :: C by simp]
  exact get_at _ _ _ _ (by simp; omega)
 unfold swp
 rw [h1, h2]
 apply Array.ext'
 simp only [Array.toList_setIfInBounds]
 rw [List.set_append_right _ _ (by omega), Nat.sub_self, List.set_cons_zero, List.set_append_right _ _ (by omega)]
 rw [show A.length + 1 + B.length - A.length = B.length + 1 by omega, List.set_cons_succ, List.set_append_right _ _ (by omega), Nat.sub_self, List.set_cons_zero]
theorem swp_at (A B C : List α) (x y : α) (i j : Nat) (hi : i = A.length) (hj : j = A.length + 1 + B.length) : swp (A ++ x :: (B ++ y :: C)).toArray i j = (A ++ y :: (B ++ x :: C)).toArray := by
 subst hi hj; exact swp_list A B C x y
theorem swp_comm (d : Array α) (i j : Nat) : swp d i j = swp d j i := by
 unfold swp
 by_cases h : i = j
 ·subst h; rfl
 ·exact Array.setIfInBounds_comm _ _ h
theorem insInner_list {lt : α → α → Bool} (hO : SWO lt) (A X : List α) (z : α) (B : List α) (hX : Srt lt X) :
  insInner lt A.length (A.length + X.length) (A ++ (X ++ z :: B)).toArray = (A ++ (mrg lt X [z] ++ B)).toArray := by
 induction X using rev_ind generalizing B with
 |h0 =>
  rw [mrg_nil]
  show insInner lt A.length (A.length + 0) _ = _
  cases hA : A.length with
  |zero => simp [insInner]
  |succ n =>
   rw [Nat.add_zero, insInner, if_neg (by simp)]
   rfl
 |h1 X w ih =>
  have hp := List.pairwise_append.1 hX
  have e : A ++ ((X ++ [w]) ++ z :: B) = (A ++ X) ++ w :: ([] ++ z :: B) := by simp
  have g1 : (A ++ ((X ++ [w]) ++ z :: B)).toArray[A.length + X.length + 1]! = z := by
   rw [show A ++ ((X ++ [w]) ++ z :: B) = (A ++ (X ++ [w])) ++ z :: B by simp]
   exact get_at _ _ _ _ (by simp; omega)
  have g2 : (A ++ ((X ++ [w]) ++ z :: B)).toArray[A.length + X.length]! = w := by
   rw [e]; exact get_at _ _ _ _ (by simp)
  rw [show A.length + (X ++ [w]).length = (A.length + X.length) + 1 by simp; omega, insInner, g1, g2]
  rcases h : lt z w with _ | _
  ·rw [if_neg (by simp)]
   have := mrg_put (lt := lt) (X := X ++ [w]) (Q := []) z (fun x hx => by
    rcases List.mem_append.1 hx with hx | hx
    ·exact hO.ntrans z w x h (hp.2.2 x hx w (by simp))
    ·simp at hx; subst hx; exact h) (fun x hx => by simp at hx)
   rw [List.append_nil] at this
   rw [this]; simp
  ·rw [if_pos (by simp; omega), e, swp_comm, swp_at (A ++ X) [] B w z _ _ (by simp) (by simp)]
   have h2 := ih (w :: B) hp.1
   rw [show (A ++ X) ++ z :: ([] ++ w :: B) = A ++ (X ++ z :: (w :: B)) by simp, h2]
   have e2 := mrg_split lt _ X [z] [w] [] rfl (fun x _ y hy => by simp at hy) (fun y hy x hx => by simp at hx hy; subst hx; subst hy; exact h)
   rw [List.append_nil, mrg_none] at e2
   rw [e2]; simp
theorem insOuter_list {lt : α → α → Bool} (hO : SWO lt) (A B : List α) : ∀ (R X : List α), Srt lt X →
  insOuter lt A.length (A.length + X.length + R.length) (A.length + X.length) (A ++ (X ++ (R ++ B))).toArray = (A ++ (R.foldl (fun s a => mrg lt s [a]) X ++ B)).toArray
 |[], X, _ => by rw [insOuter, if_neg (by simp)]; simp
 |z :: R, X, hX => by
  rw [insOuter, if_pos (by simp)]
  have h1 := insInner_list hO A X z (R ++ B) hX
  rw [List.cons_append, h1]
  have ih := insOuter_list hO A B R (mrg lt X [z]) (mrg_sorted hO _ _ _ rfl hX (List.pairwise_singleton _ _))
  rw [mrg_length] at ih
  rw [show A.length + X.length + (z :: R).length = A.length + (X.length + [z].length) + R.length by simp; omega, show A.length + X.length + 1 = A.length + (X.length + [z].length) by simp; omega, ih]
  rfl
theorem insertionSort_list {lt : α → α → Bool} (hO : SWO lt) (A L B : List α) : insertionSort lt (A ++ (L ++ B)).toArray A.length (A.length + L.length) = (A ++ (srt lt L ++ B)).toArray := by
 cases L with
 |nil => unfold insertionSort; rw [insOuter, if_neg (by simp)]; simp [srt_nil]
 |cons x R =>
  have h := insOuter_list hO A B R [x] (List.pairwise_singleton _ _)
  unfold insertionSort
  rw [show A.length + (x :: R).length = A.length + [x].length + R.length by simp; omega]
  have e : A ++ (x :: R ++ B) = A ++ ([x] ++ (R ++ B)) := by simp
  rw [e]
  show insOuter lt A.length _ (A.length + [x].length) _ = _
  rw [h]
  simp [srt, mrg_nil]
end
end Go.Proofs.YtchiojiicehpeaaGreatDoor.Stab
namespace Go.Proofs
open Go.Shelf
def Tryz.insLot_ren : Go.Shelf.Ren := ⟨fun | 20 => 252 | n => n, fun | 24 => 65 | 22 => 155 | 3 => 3 | 25 => 265 | 4 => 4 | 0 => 0 | n => n, fun | n => n⟩
theorem Tryz.insLot : Go.Proofs.SlLaysF0.n20 Tryz.prog Tryz.insLot_ren := {
 mixed := by kernel_rfl
 f20 := ⟨Tryz.f252.name, by decide, Tryz.func252.trans (congrArg some (by kernel_rfl))⟩
 t0 := Tryz.underlying0
 a0 := Tryz.isAgg0
 z0 := Tryz.sizeOf0
 v0 := Tryz.zeroValue0
 t3 := Tryz.underlying3
 a3 := Tryz.isAgg3
 z3 := Tryz.sizeOf3
 v3 := Tryz.zeroValue3
 t4 := Tryz.underlying4
 a4 := Tryz.isAgg4
 z4 := Tryz.sizeOf4
 v4 := Tryz.zeroValue4
 t22 := Tryz.underlying155
 a22 := Tryz.isAgg155
 z22 := Tryz.sizeOf155
 v22 := Tryz.zeroValue155
 t25 := Tryz.underlying265
 a25 := Tryz.isAgg265
 z25 := Tryz.sizeOf265
 v25 := Tryz.zeroValue265 }
def Tryz.cloneLot_ren : Go.Shelf.Ren := ⟨fun | 41 => 191 | n => n, fun | 22 => 155 | 23 => 65 | 4 => 4 | n => n, fun | n => n⟩
theorem Tryz.cloneLot : Go.Proofs.SlLaysE0.n41 Tryz.prog Tryz.cloneLot_ren := {
 mixed := by kernel_rfl
 f41 := ⟨Tryz.f191.name, by decide, Tryz.func191.trans (congrArg some (by kernel_rfl))⟩
 t4 := Tryz.underlying4
 a4 := Tryz.isAgg4
 z4 := Tryz.sizeOf4
 v4 := Tryz.zeroValue4
 t22 := Tryz.underlying155
 a22 := Tryz.isAgg155
 z22 := Tryz.sizeOf155
 v22 := Tryz.zeroValue155 }
def Tryz.sortfLine_ren : Go.Shelf.Ren := ⟨fun | 6 => 146 | 15 => 197 | 14 => 196 | 28 => 231 | 29 => 232 | 20 => 223 | 21 => 224 | 22 => 225 | 23 => 226 | 24 => 227 | 25 => 228 | 26 => 229 | 27 => 230 | 46 => 259 | 47 => 260 | 48 => 261 | 49 => 262 | 50 => 263 | 57 => 285 | n => n, fun | 22 => 33 | 24 => 60 | 25 => 223 | 3 => 3 | 39 => 269 | 0 => 0 | 53 => 316 | 55 => 318 | 4 => 4 | 46 => 310 | 45 => 309 | 50 => 204 | 5 => 5 | 9 => 9 | 66 => 334 | 70 => 338 | 76 => 353 | 77 => 73 | n => n, fun | n => n⟩
theorem Tryz.sortfLine : Go.Proofs.SlLaysF0.n6 Tryz.prog Tryz.sortfLine_ren := {
 mixed := by kernel_rfl
 f6 := ⟨Tryz.f146.name, by decide, Tryz.func146.trans (congrArg some (by kernel_rfl))⟩
 f14 := ⟨Tryz.f196.name, by decide, Tryz.func196.trans (congrArg some (by kernel_rfl))⟩
 f15 := Tryz.func197.trans (congrArg some (by kernel_rfl))
 f20 := ⟨Tryz.f223.name, by decide, Tryz.func223.trans (congrArg some (by kernel_rfl))⟩
 f21 := ⟨Tryz.f224.name, by decide, Tryz.func224.trans (congrArg some (by kernel_rfl))⟩
 f22 := ⟨Tryz.f225.name, by decide, Tryz.func225.trans (congrArg some (by kernel_rfl))⟩
 f23 := ⟨Tryz.f226.name, by decide, Tryz.func226.trans (congrArg some (by kernel_rfl))⟩
 f24 := ⟨Tryz.f227.name, by decide, Tryz.func227.trans (congrArg some (by kernel_rfl))⟩
 f25 := ⟨Tryz.f228.name, by decide, Tryz.func228.trans (congrArg some (by kernel_rfl))⟩
 f26 := ⟨Tryz.f229.name, by decide, Tryz.func229.trans (congrArg some (by kernel_rfl))⟩
 f27 := ⟨Tryz.f230.name, by decide, Tryz.func230.trans (congrArg some (by kernel_rfl))⟩
 f28 := Tryz.func231.trans (congrArg some (by kernel_rfl))
 f29 := Tryz.func232.trans (congrArg some (by kernel_rfl))
 f46 := ⟨Tryz.f259.name, by decide, Tryz.func259.trans (congrArg some (by kernel_rfl))⟩
 f47 := Tryz.func260.trans (congrArg some (by kernel_rfl))
 f48 := Tryz.func261.trans (congrArg some (by kernel_rfl))
 f49 := ⟨Tryz.f262.name, by decide, Tryz.func262.trans (congrArg some (by kernel_rfl))⟩
 f50 := ⟨Tryz.f263.name, by decide, Tryz.func263.trans (congrArg some (by kernel_rfl))⟩
 f57 := ⟨Tryz.f285.name, by decide, Tryz.func285.trans (congrArg some (by kernel_rfl))⟩
 t0 := Tryz.underlying0
 a0 := Tryz.isAgg0
 z0 := Tryz.sizeOf0
 v0 := Tryz.zeroValue0
 t3 := Tryz.underlying3
 a3 := Tryz.isAgg3
 z3 := Tryz.sizeOf3
 v3 := Tryz.zeroValue3
 t4 := Tryz.underlying4
 a4 := Tryz.isAgg4
 z4 := Tryz.sizeOf4
 v4 := Tryz.zeroValue4
 t5 := Tryz.underlying5
 a5 := Tryz.isAgg5
 z5 := Tryz.sizeOf5
 v5 := Tryz.zeroValue5
 t9 := Tryz.underlying9
 a9 := Tryz.isAgg9
 z9 := Tryz.sizeOf9
 v9 := Tryz.zeroValue9
 t22 := Tryz.underlying33
 a22 := Tryz.isAgg33
 z22 := Tryz.sizeOf33
 v22 := Tryz.zeroValue33
 t25 := Tryz.underlying223
 a25 := Tryz.isAgg223
 z25 := Tryz.sizeOf223
 v25 := Tryz.zeroValue223
 t39 := Tryz.underlying269
 a39 := Tryz.isAgg269
 z39 := Tryz.sizeOf269
 v39 := Tryz.zeroValue269
 t45 := Tryz.underlying309
 a45 := Tryz.isAgg309
 z45 := Tryz.sizeOf309
 v45 := Tryz.zeroValue309
 t46 := Tryz.underlying310
 a46 := Tryz.isAgg310
 z46 := Tryz.sizeOf310
 v46 := Tryz.zeroValue310
 t50 := Tryz.underlying204
 a50 := Tryz.isAgg204
 z50 := Tryz.sizeOf204
 v50 := Tryz.zeroValue204
 t53 := Tryz.underlying316
 a53 := Tryz.isAgg316
 z53 := Tryz.sizeOf316
 v53 := Tryz.zeroValue316
 t55 := Tryz.underlying318
 a55 := Tryz.isAgg318
 z55 := Tryz.sizeOf318
 v55 := Tryz.zeroValue318
 t66 := Tryz.underlying334
 a66 := Tryz.isAgg334
 z66 := Tryz.sizeOf334
 v66 := Tryz.zeroValue334
 t70 := Tryz.underlying338
 a70 := Tryz.isAgg338
 z70 := Tryz.sizeOf338
 v70 := Tryz.zeroValue338
 t76 := Tryz.underlying353
 a76 := Tryz.isAgg353
 z76 := Tryz.sizeOf353
 v76 := Tryz.zeroValue353
 t77 := Tryz.underlying73
 a77 := Tryz.isAgg73
 z77 := Tryz.sizeOf73
 v77 := Tryz.zeroValue73 }
end Go.Proofs
namespace Go.Proofs.YtchiojiicehpeaaGreatDoor
open Go.RowKit Go.Sort Go.Proofs
theorem srt_unique {α : Type} {lt : α → α → Bool} {a b : List α} (hp : a.Perm b) (ha : Stab.Srt lt a) (hb : Stab.Srt lt b) (hu : ∀ x ∈ a, ∀ y ∈ a, lt x y = false → lt y x = false → x = y) : a = b :=
 List.Perm.eq_of_pairwise (le := fun x y => lt y x = false) (fun x y hx hy h1 h2 => hu x hx y (hp.mem_iff.2 hy) h2 h1) ha hb hp
/-! Lines with places that are well. -/
def WLine : Type := {x : LineV // InP x.1}
instance WLine.inh : Inhabited WLine := ⟨⟨(([97], 1, 1), [97], 1), by simp [InP]⟩⟩
def encWLine (x : WLine) : List Value := encLine x.1
theorem encWLine_len (x : WLine) : (encWLine x).length = 5 := rfl
theorem encWLine_one (x : WLine) : ∀ v ∈ encWLine x, v.oneCell' = true := encLine_one x.1
def cfWLine (x y : WLine) : Int := cfLine x.1 y.1
theorem likeWLine : CmpLike cfWLine := likeLine.on Subtype.val
theorem swoWLine : SWO (ltOf cfWLine) := likeWLine.swo
theorem cfLine_zero (x y : LineV) : cfLine x y = 0 ↔ x.1 = y.1 ∧ x.2.1 = y.2.1 := by
 unfold cfLine orL orL orL
 rw [← cfPlace_zero, ← cmpB_eq]
 by_cases h1 : cfPlace x.1 y.1 = 0
 ·rw [if_pos h1]
  simp only [h1, true_and]
  split
  ·rename_i h; simp [h]
  ·rfl
 ·rw [if_neg h1]
  simp [h1]
def Apart (l : List WLine) : Prop := ∀ x ∈ l, ∀ y ∈ l, cfWLine x y = 0 → x = y
theorem ltOf_both {α : Type} {c : α → α → Int} (h : CmpLike c) {x y : α} (h1 : ltOf c x y = false) (h2 : ltOf c y x = false) : c x y = 0 := by
 unfold ltOf at *
 rw [decide_eq_false_iff_not] at *
 have := h.swap x y
 omega
theorem sorted_is {l d : List WLine} (hA : Apart l) (hp : d.Perm l) (hs : Stab.Srt (ltOf cfWLine) d) : d = Stab.srt (ltOf cfWLine) l :=
 srt_unique (hp.trans (Stab.srt_perm _ l).symm) hs (Stab.srt_sorted swoWLine l) fun x hx y hy h1 h2 => hA x (hp.mem_iff.1 hx) y (hp.mem_iff.1 hy) (ltOf_both likeWLine h1 h2)
theorem lineInfo : (Tryz.prog.info? 60).map (fun i => (i.zero, i.size, i.bytes)) = some (some (.agg #[.string ⟨#[]⟩, .int .i64 0, .int .i64 0, .string ⟨#[]⟩, .int .i64 0]), 5, 56) := by kernel_rfl
theorem isAggLine (w : World) : (isAgg 60).run Tryz.prog w = .ok true w := by kernel_rfl
theorem egLine : ∀ args w, (callFunc 147 args).run Tryz.prog w = .ok (.enter 147 args) w := enters_of Tryz.func147 (by kernel_rfl) rfl
theorem cmpLaysWLine (blk off size : Nat) (w : World) : CmpLays Tryz.prog 147 #[] encWLine 5 cfWLine blk off size w := fun _ _ _ _ x y => cmpLine_any x.1 y.1 x.2 y.2 _
theorem list_of_perm {α : Type} [Inhabited α] {d d' : Array α} (h : PermIn 0 d.size d d') : d'.toList.Perm d.toList := by
 obtain ⟨h1, _, h2⟩ := h
 rw [Array.extract_eq_self_of_le (Nat.le_of_eq h1), Array.extract_eq_self_of_le (Nat.le_refl _)] at h2
 exact h2
theorem list_of_sorted {α : Type} [Inhabited α] {lt : α → α → Bool} {n : Nat} {d : Array α} (h : SortedIn lt 0 n d) (hn : d.size = n) : Stab.Srt lt d.toList := by
 refine List.pairwise_iff_getElem.2 fun i j hi hj hij => ?_
 have := h i j (Nat.zero_le _) hij (by rw [← hn]; simpa using hj)
 rw [Array.length_toList] at hi hj
 rw [getElem!_pos d j hj, getElem!_pos d i hi] at this
 simpa using this
theorem sortWLine_any (g cap : Nat) (xs : List WLine) (w : World) (hn : xs.length ≤ 1000000) (hg : g < w.heap.size) (hH : HoldsK encWLine 5 w g 0 xs.toArray) (hA : Apart xs) :
  Calls Tryz.prog 146 #[.slice (some ⟨g, 0, none⟩) xs.length cap, .func (.func 147) #[] #[]] w fun e w' =>
   e = .returned (.tuple #[]) ∧ SWK encWLine 5 w g 0 (Stab.srt (ltOf cfWLine) xs).toArray w' := by
 have h := AnyQ.slices_SortFunc Tryz.sortfLine 5 isAggLine Tryz.sizeOf60 encWLine encWLine_len encWLine_one cfWLine swoWLine 147 #[] g 0 cap xs.toArray w egLine (cmpLaysWLine g 0 _ w) hH hg (by rw [List.size_toArray]; omega)
 rw [List.size_toArray] at h
 refine h.mono ?_
 rintro e w' ⟨rfl, d', n, os, hp, hs, rfl⟩
 refine ⟨rfl, n, os, ?_⟩
 have hsz : d'.size = xs.length := by have := hp.1; rwa [List.size_toArray] at this
 have e1 : d'.toList = Stab.srt (ltOf cfWLine) xs := sorted_is hA (by
  have := list_of_perm (d := xs.toArray) (by rw [List.size_toArray]; exact hp)
  simpa using this) (list_of_sorted hs hsz)
 rw [← e1]
theorem sortWLine_none (w : World) : Calls Tryz.prog 146 #[.slice none 0 0, .func (.func 147) #[] #[]] w fun e w' => e = .returned (.tuple #[]) ∧ w' = w :=
 AnyF.slices_SortFunc_none (P := Tryz.prog) (ρ := Tryz.sortfLine_ren) { Tryz.sortfLine with } none 0 (.func (.func 147) #[] #[]) w
end Go.Proofs.YtchiojiicehpeaaGreatDoor
