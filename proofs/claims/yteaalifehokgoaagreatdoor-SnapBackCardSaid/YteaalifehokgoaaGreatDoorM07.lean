/- Lines of a stock: their compare. A stable sort, plainly: lists merged; what the parts of slices.SortStableFunc make of a list. No program in sight. Contracts of the library at this translation: laid by the kit's shelf (lay-shelf, lay-plain), those alone that the claim uses. Lines of a stock: sorted. Stock: Lines. -/
import Derived.Sort.Statements
import Derived.Sort.Lot0
import Derived.Shelf.SlicesE.Clone
import Derived.Shelf.SlSortCmp.WholeK
import Derived.Shelf.SlSortCmp.KitK
import Derived.Test.YteaalifehokgoaaGreatDoorProg
import Derived.Shelf.SlSortCmp.NoneTotal
import Derived.Test.YteaalifehokgoaaGreatDoorM04
import Derived.Test.YteaalifehokgoaaGreatDoorM05
import Derived.Test.YteaalifehokgoaaGreatDoorM06
namespace Go.Proofs.YteaalifehokgoaaGreatDoor
open Go.RowKit Go.Sort Go.Proofs
abbrev LineV := PlaceV × List UInt8 × Int
def encLine (x : LineV) : List Value := [.string ⟨x.1.1.toArray⟩, .int .i64 x.1.2.1, .int .i64 x.1.2.2, .string ⟨x.2.1.toArray⟩, .int .i64 x.2.2]
theorem encLine_len (x : LineV) : (encLine x).length = 5 := rfl
theorem encLine_one (x : LineV) : ∀ v ∈ encLine x, v.oneCell' = true := fun v hv => by
 simp [encLine] at hv
 rcases hv with rfl | rfl | rfl | rfl | rfl <;> rfl
def cfLine (x y : LineV) : Int := orL [cfPlace x.1 y.1, Lib.compareBytes x.2.1 y.2.1]
theorem likeLine : CmpLike cfLine :=
 ((likePlace.on (fun x : LineV => x.1)).then_ (CmpLike.bytes (α := LineV) fun x => x.2.1)).congr fun x y => by
  unfold cfLine orL orL orL
  by_cases h1 : cfPlace x.1 y.1 = 0
  ·rw [if_pos h1, if_pos h1]
   split
   ·rename_i h; exact h.symm
   ·rfl
  ·rw [if_neg h1, if_neg h1]
set_option maxHeartbeats 1000000 in
theorem cmpLine_any (x y : LineV) (hx : InP x.1) (hy : InP y.1) (W : World) : Calls Tryz.prog 82 #[.agg (encLine x).toArray, .agg (encLine y).toArray] W fun e w' => e = .returned (.int .i64 (cfLine x y)) ∧ ∃ q os', w' = grow (W.drewN q) os' := by
 have HP := Lib.hid (fun W' => cmpPlace_any x.1 y.1 hx hy W')
 obtain ⟨⟨a1, a2, a3⟩, a4, a5⟩ := x
 obtain ⟨⟨b1, b2, b3⟩, b4, b5⟩ := y
 simp only [encLine, encPlace, cfLine] at HP ⊢
 obtain ⟨c, hc⟩ : ∃ c, c = cfPlace (a1, a2, a3) (b1, b2, b3) := ⟨_, rfl⟩
 rw [← hc] at HP ⊢
 clear hc hx hy
 have hor := fun (B : Nat) (W' : World) (h0 : W'.cell? ⟨B, 0, none⟩ = some (.int .i64 c)) (h1 : W'.cell? ⟨B, 1, none⟩ = some (.int .i64 (Lib.compareBytes a4 b4))) => or_any B [c, Lib.compareBytes a4 b4] W' (by simp) (fun k hk => by
  have hk' : k < 2 := hk
  rcases (show k = 0 ∨ k = 1 by omega) with rfl | rfl
  ·exact h0
  ·exact h1)
 have HOR := Lib.hid hor
 clear hor
 go_enter Tryz.func82, Tryz.ntmps82
 go_wp2_with fail
 obtain ⟨W0, hW0⟩ : ∃ W0, W0 = (W.alloc (.cells #[.string ⟨a1.toArray⟩, .int .i64 a2, .int .i64 a3, .string ⟨a4.toArray⟩, .int .i64 a5] 90)).alloc (.cells #[.string ⟨b1.toArray⟩, .int .i64 b2, .int .i64 b3, .string ⟨b4.toArray⟩, .int .i64 b5] 90) := ⟨_, rfl⟩
 have g0 : GrW W W0 := by rw [hW0]; exact ((GrW.refl W).alloc _).alloc _
 have c0 : W0.cell? ⟨W.heap.size, 0, none⟩ = some (.string ⟨a1.toArray⟩) := by rw [hW0]; go_simp
 have c1 : W0.cell? ⟨W.heap.size, 1, none⟩ = some (.int .i64 a2) := by rw [hW0]; go_simp
 have c2 : W0.cell? ⟨W.heap.size, 2, none⟩ = some (.int .i64 a3) := by rw [hW0]; go_simp
 have c3 : W0.cell? ⟨W.heap.size, 3, none⟩ = some (.string ⟨a4.toArray⟩) := by rw [hW0]; go_simp
 have d0 : W0.cell? ⟨W.heap.size + 1, 0, none⟩ = some (.string ⟨b1.toArray⟩) := by rw [hW0]; go_simp
 have d1 : W0.cell? ⟨W.heap.size + 1, 1, none⟩ = some (.int .i64 b2) := by rw [hW0]; go_simp
 have d2 : W0.cell? ⟨W.heap.size + 1, 2, none⟩ = some (.int .i64 b3) := by rw [hW0]; go_simp
 have d3 : W0.cell? ⟨W.heap.size + 1, 3, none⟩ = some (.string ⟨b4.toArray⟩) := by rw [hW0]; go_simp
 have l0 : W.heap.size + 2 ≤ W0.heap.size := by rw [hW0]; simp
 rw [← hW0]
 clear hW0
 have HK : Hid (∀ w5, Below W0.heap.size W0 w5 → w5.cell? ⟨W.heap.size, 0, none⟩ = some (.string ⟨a1.toArray⟩) ∧ w5.cell? ⟨W.heap.size, 1, none⟩ = some (.int .i64 a2) ∧ w5.cell? ⟨W.heap.size, 2, none⟩ = some (.int .i64 a3) ∧ w5.cell? ⟨W.heap.size, 3, none⟩ = some (.string ⟨a4.toArray⟩) ∧ w5.cell? ⟨W.heap.size + 1, 0, none⟩ = some (.string ⟨b1.toArray⟩) ∧ w5.cell? ⟨W.heap.size + 1, 1, none⟩ = some (.int .i64 b2) ∧ w5.cell? ⟨W.heap.size + 1, 2, none⟩ = some (.int .i64 b3) ∧ w5.cell? ⟨W.heap.size + 1, 3, none⟩ = some (.string ⟨b4.toArray⟩)) := fun w5 h5 => by
  have g := fun (b o : Nat) (v : Value) (hc : W0.cell? ⟨b, o, none⟩ = some v) => (h5.cell (p := ⟨b, o, none⟩) (lt_of_cell hc)).trans hc
  exact ⟨g _ _ _ c0, g _ _ _ c1, g _ _ _ c2, g _ _ _ c3, g _ _ _ d0, g _ _ _ d1, g _ _ _ d2, g _ _ _ d3⟩
 have K0 := HK.out _ ((Below.refl W0.heap.size W0).drew)
 clear c0 c1 c2 c3 d0 d1 d2 d3
 have hd : GrW W0 W0.drew := (GrW.refl W0).drew
 have G0 := Lib.hid g0
 clear g0
 go_region_held3 (fun w5 => w5.cell? ⟨W.heap.size, 0, none⟩ = some (.string ⟨a1.toArray⟩) ∧ w5.cell? ⟨W.heap.size, 1, none⟩ = some (.int .i64 a2) ∧ w5.cell? ⟨W.heap.size, 2, none⟩ = some (.int .i64 a3) ∧ w5.cell? ⟨W.heap.size, 3, none⟩ = some (.string ⟨a4.toArray⟩) ∧ w5.cell? ⟨W.heap.size + 1, 0, none⟩ = some (.string ⟨b1.toArray⟩) ∧ w5.cell? ⟨W.heap.size + 1, 1, none⟩ = some (.int .i64 b2) ∧ w5.cell? ⟨W.heap.size + 1, 2, none⟩ = some (.int .i64 b3) ∧ w5.cell? ⟨W.heap.size + 1, 3, none⟩ = some (.string ⟨b4.toArray⟩))
  (first | exact K0 | exact K1 | go_keep)
  (first
   |(go_at_call 135; refine (HP.out _).mono ?_; rintro e w3 ⟨rfl, hg⟩; have g3 : GrW W0 w3 := hd.trans hg; have K1 := HK.out _ g3.below)
   |(go_at_call 136; refine (Tryz.strings_Compare _ _ _).mono ?_; rintro e w' ⟨rfl, rfl⟩)
   |(go_at_call 134; refine (HOR.out _ _ (by show (World.alloc _ _).cell? _ = _; rw [World.cell?_alloc_at _ _ _ _ (by simp)]; rfl) (by show (World.alloc _ _).cell? _ = _; rw [World.cell?_alloc_at _ _ _ _ (by simp)]; rfl)).mono ?_; rintro e w' ⟨rfl, rfl⟩))
 all_goals
  have G3 := Lib.hid (G0.out.trans g3)
  clear HOR HP HK K0 K1 g3 hd
  go_wp2_with fail
  go_ret
  exact ⟨rfl, G3.out.alloc _⟩
end Go.Proofs.YteaalifehokgoaaGreatDoor
namespace Go.Proofs.YteaalifehokgoaaGreatDoor.Stab
open Go.Sort
section
variable {α : Type} (lt : α → α → Bool)
def mrg : List α → List α → List α
 |[], ys => ys
 |x :: xs, [] => x :: xs
 |x :: xs, y :: ys => if lt y x then y :: mrg (x :: xs) ys else x :: mrg xs (y :: ys)
termination_by xs ys => xs.length + ys.length
theorem mrg_nil (ys : List α) : mrg lt [] ys = ys := by simp [mrg]
theorem mrg_none (xs : List α) : mrg lt xs [] = xs := by cases xs <;> simp [mrg]
theorem mrg_lt {x y : α} (xs ys : List α) (h : lt y x = true) : mrg lt (x :: xs) (y :: ys) = y :: mrg lt (x :: xs) ys := by rw [mrg, if_pos h]
theorem mrg_ge {x y : α} (xs ys : List α) (h : lt y x = false) : mrg lt (x :: xs) (y :: ys) = x :: mrg lt xs (y :: ys) := by rw [mrg, if_neg (by simp [h])]
theorem mrg_perm : ∀ (n : Nat) (xs ys : List α), xs.length + ys.length = n → (mrg lt xs ys).Perm (xs ++ ys)
 |_, [], ys, _ => by rw [mrg_nil]; exact List.Perm.refl _
 |_, x :: xs, [], _ => by rw [mrg_none, List.append_nil]
 |0, x :: xs, y :: ys, hn => by simp at hn
 |n + 1, x :: xs, y :: ys, hn => by
  rcases h : lt y x with _ | _
  ·rw [mrg_ge lt _ _ h]
   exact (mrg_perm n xs (y :: ys) (by simp at hn ⊢; omega)).cons x
  ·rw [mrg_lt lt _ _ h]
   exact ((mrg_perm n (x :: xs) ys (by simp at hn ⊢; omega)).cons y).trans List.perm_middle.symm
def Srt (l : List α) : Prop := l.Pairwise fun x y => lt y x = false
variable {lt}
theorem mrg_sorted (hO : SWO lt) : ∀ (n : Nat) (xs ys : List α), xs.length + ys.length = n → Srt lt xs → Srt lt ys → Srt lt (mrg lt xs ys)
 |_, [], ys, _, _, h => by rw [mrg_nil]; exact h
 |_, x :: xs, [], _, h, _ => by rw [mrg_none]; exact h
 |0, x :: xs, y :: ys, hn, _, _ => by simp at hn
 |n + 1, x :: xs, y :: ys, hn, hx, hy => by
  have hx' := List.pairwise_cons.1 hx
  have hy' := List.pairwise_cons.1 hy
  rcases h : lt y x with _ | _
  ·rw [mrg_ge lt _ _ h]
   refine List.pairwise_cons.2 ⟨fun z hz => ?_, mrg_sorted hO n xs (y :: ys) (by simp at hn ⊢; omega) hx'.2 hy⟩
   rcases List.mem_append.1 ((mrg_perm lt _ _ _ rfl).mem_iff.1 hz) with hz | hz
   ·exact hx'.1 z hz
   ·rcases List.mem_cons.1 hz with rfl | hz
    ·exact h
    ·exact hO.ntrans z y x (hy'.1 z hz) h
  ·have hxy : lt x y = false := by
    rcases h' : lt x y with _ | _
    ·rfl
    ·have := hO.trans x y x h' h; rw [hO.irrefl] at this; cases this
   rw [mrg_lt lt _ _ h]
   refine List.pairwise_cons.2 ⟨fun z hz => ?_, mrg_sorted hO n (x :: xs) ys (by simp at hn ⊢; omega) hx hy'.2⟩
   rcases List.mem_append.1 ((mrg_perm lt _ _ _ rfl).mem_iff.1 hz) with hz | hz
   ·rcases List.mem_cons.1 hz with rfl | hz
    ·exact hxy
    ·exact hO.ntrans z x y (hx'.1 z hz) hxy
   ·exact hy'.1 z hz
variable (lt)
def srt (l : List α) : List α := l.foldl (fun s a => mrg lt s [a]) []
theorem srt_snoc (l : List α) (a : α) : srt lt (l ++ [a]) = mrg lt (srt lt l) [a] := by simp [srt]
theorem rev_ind {P : List α → Prop} (h0 : P []) (h1 : ∀ l a, P l → P (l ++ [a])) (l : List α) : P l := by
 have h : ∀ r : List α, P r.reverse := fun r => by
  induction r with
  |nil => exact h0
  |cons a r ih => rw [List.reverse_cons]; exact h1 _ _ ih
 have := h l.reverse
 rwa [List.reverse_reverse] at this
theorem srt_perm (l : List α) : (srt lt l).Perm l := by
 induction l using rev_ind with
 |h0 => exact List.Perm.refl _
 |h1 l a ih => rw [srt_snoc]; exact (mrg_perm lt _ _ _ rfl).trans (ih.append_right [a])
theorem srt_length (l : List α) : (srt lt l).length = l.length := (srt_perm lt l).length_eq
variable {lt}
theorem srt_sorted (hO : SWO lt) (l : List α) : Srt lt (srt lt l) := by
 induction l using rev_ind with
 |h0 => exact List.Pairwise.nil
 |h1 l a ih => rw [srt_snoc]; exact mrg_sorted hO _ _ _ rfl ih (List.pairwise_singleton _ _)
end
section
variable {α : Type} [Inhabited α]
/-! Arrays as lists. -/
end
end Go.Proofs.YteaalifehokgoaaGreatDoor.Stab
namespace Go.Proofs
open Go.Shelf
def Tryz.sortfLine_ren : Go.Shelf.Ren := ⟨fun | 6 => 81 | 15 => 133 | 14 => 132 | 28 => 170 | 29 => 171 | 20 => 162 | 21 => 163 | 22 => 164 | 23 => 165 | 24 => 166 | 25 => 167 | 26 => 168 | 27 => 169 | 46 => 202 | 47 => 203 | 48 => 204 | 49 => 205 | 50 => 206 | 57 => 231 | n => n, fun | 22 => 67 | 24 => 90 | 25 => 151 | 3 => 3 | 39 => 202 | 0 => 0 | 53 => 249 | 55 => 251 | 4 => 4 | 46 => 243 | 45 => 242 | 50 => 162 | 5 => 5 | 9 => 9 | 66 => 272 | 70 => 276 | 76 => 296 | 77 => 44 | n => n, fun | n => n⟩
theorem Tryz.sortfLine : Go.Proofs.SlLaysF0.n6 Tryz.prog Tryz.sortfLine_ren := {
 mixed := by kernel_rfl
 f6 := ⟨Tryz.f81.name, by decide, Tryz.func81.trans (congrArg some (by kernel_rfl))⟩
 f14 := ⟨Tryz.f132.name, by decide, Tryz.func132.trans (congrArg some (by kernel_rfl))⟩
 f15 := Tryz.func133.trans (congrArg some (by kernel_rfl))
 f20 := ⟨Tryz.f162.name, by decide, Tryz.func162.trans (congrArg some (by kernel_rfl))⟩
 f21 := ⟨Tryz.f163.name, by decide, Tryz.func163.trans (congrArg some (by kernel_rfl))⟩
 f22 := ⟨Tryz.f164.name, by decide, Tryz.func164.trans (congrArg some (by kernel_rfl))⟩
 f23 := ⟨Tryz.f165.name, by decide, Tryz.func165.trans (congrArg some (by kernel_rfl))⟩
 f24 := ⟨Tryz.f166.name, by decide, Tryz.func166.trans (congrArg some (by kernel_rfl))⟩
 f25 := ⟨Tryz.f167.name, by decide, Tryz.func167.trans (congrArg some (by kernel_rfl))⟩
 f26 := ⟨Tryz.f168.name, by decide, Tryz.func168.trans (congrArg some (by kernel_rfl))⟩
 f27 := ⟨Tryz.f169.name, by decide, Tryz.func169.trans (congrArg some (by kernel_rfl))⟩
 f28 := Tryz.func170.trans (congrArg some (by kernel_rfl))
 f29 := Tryz.func171.trans (congrArg some (by kernel_rfl))
 f46 := ⟨Tryz.f202.name, by decide, Tryz.func202.trans (congrArg some (by kernel_rfl))⟩
 f47 := Tryz.func203.trans (congrArg some (by kernel_rfl))
 f48 := Tryz.func204.trans (congrArg some (by kernel_rfl))
 f49 := ⟨Tryz.f205.name, by decide, Tryz.func205.trans (congrArg some (by kernel_rfl))⟩
 f50 := ⟨Tryz.f206.name, by decide, Tryz.func206.trans (congrArg some (by kernel_rfl))⟩
 f57 := ⟨Tryz.f231.name, by decide, Tryz.func231.trans (congrArg some (by kernel_rfl))⟩
 t0 := Tryz.underlying0
 a0 := Tryz.isAgg0
 z0 := Tryz.sizeOf0
 v0 := Tryz.zeroValue0
 t3 := Tryz.underlying3
 a3 := Tryz.isAgg3
 z3 := Tryz.sizeOf3
 v3 := Tryz.zeroValue3
 t4 := Tryz.underlying4
 a4 := Tryz.isAgg4
 z4 := Tryz.sizeOf4
 v4 := Tryz.zeroValue4
 t5 := Tryz.underlying5
 a5 := Tryz.isAgg5
 z5 := Tryz.sizeOf5
 v5 := Tryz.zeroValue5
 t9 := Tryz.underlying9
 a9 := Tryz.isAgg9
 z9 := Tryz.sizeOf9
 v9 := Tryz.zeroValue9
 t22 := Tryz.underlying67
 a22 := Tryz.isAgg67
 z22 := Tryz.sizeOf67
 v22 := Tryz.zeroValue67
 t25 := Tryz.underlying151
 a25 := Tryz.isAgg151
 z25 := Tryz.sizeOf151
 v25 := Tryz.zeroValue151
 t39 := Tryz.underlying202
 a39 := Tryz.isAgg202
 z39 := Tryz.sizeOf202
 v39 := Tryz.zeroValue202
 t45 := Tryz.underlying242
 a45 := Tryz.isAgg242
 z45 := Tryz.sizeOf242
 v45 := Tryz.zeroValue242
 t46 := Tryz.underlying243
 a46 := Tryz.isAgg243
 z46 := Tryz.sizeOf243
 v46 := Tryz.zeroValue243
 t50 := Tryz.underlying162
 a50 := Tryz.isAgg162
 z50 := Tryz.sizeOf162
 v50 := Tryz.zeroValue162
 t53 := Tryz.underlying249
 a53 := Tryz.isAgg249
 z53 := Tryz.sizeOf249
 v53 := Tryz.zeroValue249
 t55 := Tryz.underlying251
 a55 := Tryz.isAgg251
 z55 := Tryz.sizeOf251
 v55 := Tryz.zeroValue251
 t66 := Tryz.underlying272
 a66 := Tryz.isAgg272
 z66 := Tryz.sizeOf272
 v66 := Tryz.zeroValue272
 t70 := Tryz.underlying276
 a70 := Tryz.isAgg276
 z70 := Tryz.sizeOf276
 v70 := Tryz.zeroValue276
 t76 := Tryz.underlying296
 a76 := Tryz.isAgg296
 z76 := Tryz.sizeOf296
 v76 := Tryz.zeroValue296
 t77 := Tryz.underlying44
 a77 := Tryz.isAgg44
 z77 := Tryz.sizeOf44
 v77 := Tryz.zeroValue44 }
end Go.Proofs
namespace Go.Proofs.YteaalifehokgoaaGreatDoor
open Go.RowKit Go.Sort Go.Proofs
theorem srt_unique {α : Type} {lt : α → α → Bool} {a b : List α} (hp : a.Perm b) (ha : Stab.Srt lt a) (hb : Stab.Srt lt b) (hu : ∀ x ∈ a, ∀ y ∈ a, lt x y = false → lt y x = false → x = y) : a = b :=
 List.Perm.eq_of_pairwise (le := fun x y => lt y x = false) (fun x y hx hy h1 h2 => hu x hx y (hp.mem_iff.2 hy) h2 h1) ha hb hp
/-! Lines with places that are well. -/
def WLine : Type := {x : LineV // InP x.1}
instance WLine.inh : Inhabited WLine := ⟨⟨(([97], 1, 1), [97], 1), by simp [InP]⟩⟩
def encWLine (x : WLine) : List Value := encLine x.1
theorem encWLine_len (x : WLine) : (encWLine x).length = 5 := rfl
theorem encWLine_one (x : WLine) : ∀ v ∈ encWLine x, v.oneCell' = true := encLine_one x.1
def cfWLine (x y : WLine) : Int := cfLine x.1 y.1
theorem likeWLine : CmpLike cfWLine := likeLine.on Subtype.val
theorem swoWLine : SWO (ltOf cfWLine) := likeWLine.swo
theorem cfLine_zero (x y : LineV) : cfLine x y = 0 ↔ x.1 = y.1 ∧ x.2.1 = y.2.1 := by
 unfold cfLine orL orL orL
 rw [← cfPlace_zero, ← cmpB_eq]
 by_cases h1 : cfPlace x.1 y.1 = 0
 ·rw [if_pos h1]
  simp only [h1, true_and]
  split
  ·rename_i h; simp [h]
  ·rfl
 ·rw [if_neg h1]
  simp [h1]
def Apart (l : List WLine) : Prop := ∀ x ∈ l, ∀ y ∈ l, cfWLine x y = 0 → x = y
theorem ltOf_both {α : Type} {c : α → α → Int} (h : CmpLike c) {x y : α} (h1 : ltOf c x y = false) (h2 : ltOf c y x = false) : c x y = 0 := by
 unfold ltOf at *
 rw [decide_eq_false_iff_not] at *
 have := h.swap x y
 omega
theorem sorted_is {l d : List WLine} (hA : Apart l) (hp : d.Perm l) (hs : Stab.Srt (ltOf cfWLine) d) : d = Stab.srt (ltOf cfWLine) l :=
 srt_unique (hp.trans (Stab.srt_perm _ l).symm) hs (Stab.srt_sorted swoWLine l) fun x hx y hy h1 h2 => hA x (hp.mem_iff.1 hx) y (hp.mem_iff.1 hy) (ltOf_both likeWLine h1 h2)
theorem lineInfo : (Tryz.prog.info? 90).map (fun i => (i.zero, i.size, i.bytes)) = some (some (.agg #[.string ⟨#[]⟩, .int .i64 0, .int .i64 0, .string ⟨#[]⟩, .int .i64 0]), 5, 56) := by kernel_rfl
theorem isAggLine (w : World) : (isAgg 90).run Tryz.prog w = .ok true w := by kernel_rfl
theorem egLine : ∀ args w, (callFunc 82 args).run Tryz.prog w = .ok (.enter 82 args) w := enters_of Tryz.func82 (by kernel_rfl) rfl
theorem cmpLaysWLine (blk off size : Nat) (w : World) : CmpLays Tryz.prog 82 #[] encWLine 5 cfWLine blk off size w := fun _ _ _ _ x y => cmpLine_any x.1 y.1 x.2 y.2 _
theorem list_of_perm {α : Type} [Inhabited α] {d d' : Array α} (h : PermIn 0 d.size d d') : d'.toList.Perm d.toList := by
 obtain ⟨h1, _, h2⟩ := h
 rw [Array.extract_eq_self_of_le (Nat.le_of_eq h1), Array.extract_eq_self_of_le (Nat.le_refl _)] at h2
 exact h2
theorem list_of_sorted {α : Type} [Inhabited α] {lt : α → α → Bool} {n : Nat} {d : Array α} (h : SortedIn lt 0 n d) (hn : d.size = n) : Stab.Srt lt d.toList := by
 refine List.pairwise_iff_getElem.2 fun i j hi hj hij => ?_
 have := h i j (Nat.zero_le _) hij (by rw [← hn]; simpa using hj)
 rw [Array.length_toList] at hi hj
 rw [getElem!_pos d j hj, getElem!_pos d i hi] at this
 simpa using this
theorem sortWLine_any (g cap : Nat) (xs : List WLine) (w : World) (hn : xs.length ≤ 1000000) (hg : g < w.heap.size) (hH : HoldsK encWLine 5 w g 0 xs.toArray) (hA : Apart xs) :
  Calls Tryz.prog 81 #[.slice (some ⟨g, 0, none⟩) xs.length cap, .func (.func 82) #[] #[]] w fun e w' =>
   e = .returned (.tuple #[]) ∧ SWK encWLine 5 w g 0 (Stab.srt (ltOf cfWLine) xs).toArray w' := by
 have h := AnyQ.slices_SortFunc Tryz.sortfLine 5 isAggLine Tryz.sizeOf90 encWLine encWLine_len encWLine_one cfWLine swoWLine 82 #[] g 0 cap xs.toArray w egLine (cmpLaysWLine g 0 _ w) hH hg (by rw [List.size_toArray]; omega)
 rw [List.size_toArray] at h
 refine h.mono ?_
 rintro e w' ⟨rfl, d', n, os, hp, hs, rfl⟩
 refine ⟨rfl, n, os, ?_⟩
 have hsz : d'.size = xs.length := by have := hp.1; rwa [List.size_toArray] at this
 have e1 : d'.toList = Stab.srt (ltOf cfWLine) xs := sorted_is hA (by
  have := list_of_perm (d := xs.toArray) (by rw [List.size_toArray]; exact hp)
  simpa using this) (list_of_sorted hs hsz)
 rw [← e1]
theorem sortWLine_none (w : World) : Calls Tryz.prog 81 #[.slice none 0 0, .func (.func 82) #[] #[]] w fun e w' => e = .returned (.tuple #[]) ∧ w' = w :=
 AnyF.slices_SortFunc_none (P := Tryz.prog) (ρ := Tryz.sortfLine_ren) { Tryz.sortfLine with } none 0 (.func (.func 82) #[] #[]) w
end Go.Proofs.YteaalifehokgoaaGreatDoor
namespace Go.Proofs.YteaalifehokgoaaGreatDoor
open Go.RowKit Go.Sort Go.Proofs
def lineOf (x : KeyV × Nat) : LineV := (x.1.1, x.1.2, (x.2 : Int))
def linesM (m : StkV) : List LineV := Stab.srt (ltOf cfLine) (m.map lineOf)
def InPs (m : StkV) : Prop := ∀ x ∈ m, InP x.1.1
theorem apart_m {m : StkV} (hn : (m.map (·.1)).Nodup) {x y : LineV} (hx : x ∈ m.map lineOf) (hy : y ∈ m.map lineOf) (h : cfLine x y = 0) : x = y := by
 obtain ⟨a, ha, rfl⟩ := List.mem_map.1 hx
 obtain ⟨b, hb, rfl⟩ := List.mem_map.1 hy
 obtain ⟨h1, h2⟩ := (cfLine_zero _ _).1 h
 obtain ⟨i, hi⟩ := List.mem_iff_getElem?.1 ha
 obtain ⟨j, hj⟩ := List.mem_iff_getElem?.1 hb
 have g1 := mget_at hn hi
 have g2 := mget_at hn hj
 obtain ⟨⟨p, l⟩, n⟩ := a
 obtain ⟨⟨q, k⟩, o⟩ := b
 simp only [lineOf] at h1 h2 ⊢
 subst h1 h2
 simp only at g1 g2
 rw [g1] at g2
 cases g2
 rfl
theorem lines_of {m : StkV} (hn : (m.map (·.1)).Nodup) {d : List LineV} (hp : d.Perm (m.map lineOf)) (hs : Stab.Srt (ltOf cfLine) d) : d = linesM m :=
 srt_unique (hp.trans (Stab.srt_perm _ _).symm) hs (Stab.srt_sorted likeLine.swo _) fun _ hx _ hy h1 h2 => apart_m hn (hp.mem_iff.1 hx) (hp.mem_iff.1 hy) (ltOf_both likeLine h1 h2)
theorem toW {l : List LineV} (h : ∀ x ∈ l, InP x.1) : ∃ xs : List WLine, xs.map (·.1) = l := by
 induction l with
 |nil => exact ⟨[], rfl⟩
 |cons x r ih =>
  obtain ⟨xs, hx⟩ := ih fun y hy => h y (List.mem_cons_of_mem _ hy)
  exact ⟨⟨x, h x List.mem_cons_self⟩ :: xs, congrArg (List.cons x) hx⟩
theorem flatW (xs : List WLine) : flatL encWLine xs = flatL encLine (xs.map (·.1)) := by
 unfold flatL
 rw [List.flatMap_map]
 rfl
theorem srtW {xs : List WLine} (h : Stab.Srt (ltOf cfWLine) xs) : Stab.Srt (ltOf cfLine) (xs.map (·.1)) := by
 unfold Stab.Srt at *
 rw [List.pairwise_map]
 exact h
theorem heap_new2 (w : World) (o1 o2 : Obj) : ((w.alloc o1).alloc o2).heap[w.heap.size + 1]? = some o2 := by
 have := heap_alloc_new (w.alloc o1) o2
 simpa using this
theorem rowW {w : World} {A : Option Addr} {xs : List WLine} (h : RowAt encWLine 5 w A xs) : RowAt encLine 5 w A (xs.map (·.1)) := by
 rcases h with rfl | ⟨b, o, h1, h2, h3⟩
 ·exact .inl rfl
 ·refine .inr ⟨b, o, h1, h2, fun i hi c v hv => ?_⟩
  rw [List.getElem_map] at hv
  exact h3 i (by simpa using hi) c v hv
theorem row_one {α : Type} {enc : α → List Value} {k : Nat} {w : World} {g : Nat} {t : TypeId} {x : α} (h : w.heap[g]? = some (.cells (enc x).toArray t (0, 0))) : RowAt enc k w (some ⟨g, 0, none⟩) [x] := by
 refine .inr ⟨g, 0, rfl, (Array.getElem?_eq_some_iff.1 h).1, fun i hi c v hv => ?_⟩
 obtain rfl : i = 0 := by simpa using hi
 simp only [List.getElem_cons_zero] at hv
 rw [cell_of_row w g _ _ _ _ h, Nat.zero_mul]
 simpa using hv
theorem own_turned {w w' : World} {r B e size n : Nat} {v : Value} {xs : List Value} (h : w.ownsRow B e size v n xs) (ht : Turned r w w') (hr : r < B) : w'.ownsRow B e size v n xs := by
 refine ⟨h.1, ?_⟩
 rcases h.2 with h0 | ⟨g, cap, cur, h1, h2, h3, h4⟩
 ·exact .inl h0
 ·exact .inr ⟨g, cap, cur, h1, h2, (ht.block g (by omega)).trans h3, h4⟩
def LinesEnds (m : StkV) (w : World) (e : Ending) (w' : World) : Prop :=
 ∃ A cap, e = .returned (.slice A m.length cap) ∧ RowAt encLine 5 w' A (linesM m) ∧ (∀ a, A = some a → w.heap.size ≤ a.block) ∧ Below w.heap.size w w'
set_option maxHeartbeats 800000 in
set_option maxRecDepth 100000 in
theorem linesStock_any (p b : Nat) (m : StkV) (w : World) (h : StkAt w p b m) (hP : InPs m) (hlen : m.length ≤ 100000) :
  Calls Tryz.prog 33 #[.pointer (some ⟨p, 0, none⟩)] w (LinesEnds m w) := by
 obtain ⟨i0, hi, hz0, hz1, hz2⟩ := info_parts lineInfo
 have c0 := h.cell
 have hM := h.2
 have HND := Lib.hid h.2.nodup
 have HP := Lib.hid hP
 clear h hP
 go_enter Tryz.func33, Tryz.ntmps33
 go_wp2_with (first | (at_range; refine wpList_range_map _ rfl _ 145 rfl _ _ Tryz.underlying145 b m rfl hM ?_; intro w0 hrg0 hb0 hs0) | go_in)
 go_frame
 go_loopw [3] (fun v wr => ∃ (left done : StkV), Ranging eKey eNat wr b w.heap.size m left ∧ Hid ((done ++ left).Perm m) ∧ Hid (wr.ownsRow (w.heap.size + 1) 90 5 v done.length (flatL encLine (done.map lineOf))) ∧ Below w.heap.size w wr) (fun _ wr => wr.rangeLeft b w.heap.size)
 case atStart => exact ⟨m, [], hrg0, List.Perm.refl _, World.ownsRow_nil _ _ _ _, hb0⟩
 case round =>
  obtain ⟨left, done, hrg, HPM, HO, hb⟩ := hrel
  have HB := Lib.hid hb
  have HRG := Lib.hid hrg
  clear hb
  go_wp2_with (first | (at_next; refine wpList_next_map _ rfl _ rfl b w.heap.size m left rfl hrg ?_ ?_) | go_in)
  ·intro hl0
   subst hl0
   have hp : done.Perm m := by simpa using HPM.out
   obtain ⟨xs, hxs⟩ := toW (l := done.map lineOf) (by intro x hx; obtain ⟨a, ha, rfl⟩ := List.mem_map.1 hx; exact HP.out a (hp.mem_iff.1 ha))
   have hl1 : xs.length = done.length := by have := congrArg List.length hxs; simpa using this
   have hl2 : xs.length = m.length := hl1.trans hp.length_eq
   have hnd : (done.map (·.1)).Nodup := (hp.map _).nodup_iff.2 HND.out
   have hA : Apart xs := fun x hx y hy h => Subtype.ext (apart_m hnd (hxs ▸ List.mem_map_of_mem hx) (hxs ▸ List.mem_map_of_mem hy) h)
   have own := HO.out
   rw [← hxs, ← flatW, ← hl1] at own
   have HR : ∀ A w', RowAt encWLine 5 w' A (Stab.srt (ltOf cfWLine) xs) → RowAt encLine 5 w' A (linesM m) := fun A w' h => by
    have := rowW h
    rwa [lines_of HND.out (d := (Stab.srt (ltOf cfWLine) xs).map (·.1)) (by
     refine (((Stab.srt_perm (ltOf cfWLine) xs).map (·.1)).trans ?_)
     rw [hxs]
     exact hp.map _) (srtW (Stab.srt_sorted swoWLine xs))] at this
   rcases own.2 with ⟨rfl, h0⟩ | ⟨g, cp, cur, rfl, hB, hg, _⟩
   ·have hm0 : m.length = 0 := by omega
    have HM0 := Lib.hid hm0
    have hx0 : xs = [] := List.eq_nil_of_length_eq_zero h0
    have HR0 : Hid (∀ w', RowAt encLine 5 w' none (linesM m)) := fun w' => HR none w' (by rw [hx0]; exact RowAt.nil)
    clear HR own hxs hl1 hl2 hA hnd hp HO hm0 h0 hx0
    go_wp2_with fail
    refine (sortWLine_none _).mono ?_
    rintro e w2 ⟨rfl, rfl⟩
    go_wp2_with fail
    go_ret
    exact ⟨none, 0, by rw [HM0.out]; rfl, HR0.out _, (fun a ha => by cases ha), HB.out⟩
   ·have hgl : g < wr.heap.size := (Array.getElem?_eq_some_iff.1 hg).1
    have hH : HoldsK encWLine 5 wr g 0 xs.toArray := holds_of_own encWLine_len (by decide) own
    have hso := sortWLine_any g cp xs wr (by omega) hgl hH hA
    rw [hl1] at hso
    have HSO := Lib.hid hso
    have HH := Lib.hid hH
    have HR1 := Lib.hid HR
    have HL2 := Lib.hid hl2
    have HL1 := Lib.hid hl1
    rw [hl1]
    clear hso hH HR own hxs hl1 hl2 hA hnd hp HO hg
    go_wp2_with fail
    refine HSO.out.mono ?_
    rintro e w2 ⟨rfl, S2⟩
    have H2 := Lib.hid S2
    clear S2 HSO
    go_wp2_with fail
    go_ret
    refine ⟨some ⟨g, 0, none⟩, cp, by rw [← HL2.out, HL1.out]; rfl, ?_, fun a ha => by cases ha; show _ ≤ g; omega, sort_below HB.out H2.out (by omega) HB.out.size⟩
    exact HR1.out _ _ (RowAt.of_sort encWLine_len ⟨encWLine_len, encWLine_one, HH.out, hgl⟩ H2.out (by rw [Stab.srt_length, List.size_toArray]))
  ·intro l1 a1 a2 a3 a4 n l2 w1 hl hrg1 ht1 hen
   have HO1 := Lib.hid (own_turned HO.out ht1 (Nat.lt_succ_self _))
   have B1 := Lib.hid (HB.out.trans (ht1.below (Nat.le_refl _)))
   have hln := Lib.hid (show (l1 ++ l2).length < left.length by rw [hl]; simp)
   have hd : done.length + 1 ≤ 1000000 := by
    have := HPM.out.length_eq
    rw [hl] at this
    simp at this
    omega
   have HPM1 : Hid (((done ++ [(((a1, a2, a3), a4), n)]) ++ (l1 ++ l2)).Perm m) := by
    refine List.Perm.trans ?_ HPM.out
    rw [hl]
    simp only [List.append_assoc]
    exact List.Perm.append_left _ (by rw [List.singleton_append]; exact List.perm_middle.symm)
   have hr1 := hrg1.lt
   have hr2 := hrg1.map.lt
   simp only [eKey, encKey, eNat] at hen
   clear hl ht1 hrg HPM HO
   go_wp2_with (at_builtin; refine wpList_append_rows _ rfl (.tmp 16) (.tmp 23) 67 rfl (w.heap.size + 1) 90 i0 _ 56 Tryz.underlying67 hi hz0 hz1 hz2 rfl encLine_len (by decide) encLine_one _ done.length (flatL encLine (done.map lineOf)) rfl ((HO1.out.alloc _).alloc _) (some ⟨w1.heap.size + 1, 0, none⟩) 1 [((a1, a2, a3), a4, (n : Int))] rfl (row_one (heap_new2 _ _ _)) hd (by decide) (by simp; omega) ?_; intro v3 w3 HO3 hb3)
   go_roundw
   case rel =>
    refine ⟨l1 ++ l2, done ++ [(((a1, a2, a3), a4), n)], ?_, HPM1, ?_, ?_⟩
    ·exact (hrg1.below (below_two _ _ _)).keep (hb3.block _ (by have := hM.lt; omega)) (hb3.block _ (by omega))
    ·rw [List.map_append, flatL_append, List.length_append]
     exact HO3
    ·exact (B1.out.trans ((below_two w1 _ _).mono B1.out.size)).trans (hb3.mono (by omega))
   case measure =>
    have h3 : Ranging eKey eNat w3 b w.heap.size m (l1 ++ l2) := (hrg1.below (below_two _ _ _)).keep (hb3.block _ (by have := hM.lt; omega)) (hb3.block _ (by omega))
    rw [h3.left_eq, HRG.out.left_eq]
    exact hln.out
end Go.Proofs.YteaalifehokgoaaGreatDoor
