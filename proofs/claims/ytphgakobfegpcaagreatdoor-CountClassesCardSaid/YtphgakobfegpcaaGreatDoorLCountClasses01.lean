/- Classes of goods, plainly: what went ahead, in the order of the sheet and in the order of what went. No program in sight. slices.SortStableFunc at tithebarn/count.gone: its parts, walked. slices.SortStableFunc at tithebarn/count.gone: the rotation, walked. -/
import Derived.Shelf.SlSortCmp.KitK
import Derived.Deep.LoopGhost
import Derived.Sort.WalkB2
import Derived.Sort.WalkB12
import Derived.Test.YtphgakobfegpcaaGreatDoorM01
import Derived.Test.YtphgakobfegpcaaGreatDoorM18
import Derived.Test.YtphgakobfegpcaaGreatDoorM29
import Derived.Test.YtphgakobfegpcaaGreatDoorM44
namespace Go.Proofs.YtphgakobfegpcaaGreatDoor
open Go.RowKit Go.Sort Go.Proofs

/-- Pieces that went of goods: the place of the goods, how many. -/
abbrev GoneV := Nat × Int
def encGone (x : GoneV) : List Value := [.int .i64 (x.1 : Nat), .int .i64 x.2]
def cfGone (x y : GoneV) : Int := Lib.compareInt y.2 x.2
def prs (l : List Int) : List GoneV := l.zipIdx.map fun y => (y.2, y.1)
/-- More went, or as many and it is ahead. -/
def gtG (y x : GoneV) : Bool := decide (x.2 < y.2 ∨ (y.2 = x.2 ∧ y.1 < x.1))
/-- What went ahead of goods, among the first. -/
def aheadN (l : List Int) (i : Nat) (n : Int) : Nat → Int
  | 0 => 0
  | k + 1 => aheadN l i n k + match l[k]? with | some x => if gtG (k, x) (i, n) = true then x else 0 | none => 0
def sumI (l : List Int) : Int := l.foldr (· + ·) 0
def sndS (l : List GoneV) : Int := sumI (l.map (·.2))
def classB (ahead all : Int) : List UInt8 := if all = 0 then [99] else if 100 * ahead < 80 * all then [97] else if 100 * ahead < 95 * all then [98] else [99]
def clsOf (l : List Int) (i : Nat) : List UInt8 := classB (aheadN l i (l[i]?.getD 0) l.length) (sumI l)
def classesL (l : List Int) : List (List UInt8) := (List.range l.length).map (clsOf l)
def outsB (B : BkV) : List Int := B.1.map fun x => x.2.2.1

theorem sumI_append (a b : List Int) : sumI (a ++ b) = sumI a + sumI b := by
  unfold sumI
  induction a with
  | nil => simp
  | cons x r ih => simp only [List.cons_append, List.foldr_cons, ih]; omega
theorem sumI_one (x : Int) : sumI [x] = x := by simp [sumI]
theorem sumI_cons (x : Int) (r : List Int) : sumI (x :: r) = x + sumI r := rfl
theorem sumI_take (l : List Int) (k : Nat) (h : k < l.length) : sumI (l.take (k + 1)) = sumI (l.take k) + l[k] := by
  rw [List.take_succ_eq_append_getElem h, sumI_append, sumI_one]
theorem sumI_nonneg {l : List Int} (h : ∀ x ∈ l, 0 ≤ x) : 0 ≤ sumI l := by
  induction l with
  | nil => exact Int.le_refl _
  | cons x r ih =>
    have h1 := h x List.mem_cons_self
    have h2 := ih fun y hy => h y (List.mem_cons_of_mem _ hy)
    rw [sumI_cons]; omega
theorem sumI_le {l : List Int} {m : Int} (h : ∀ x ∈ l, x ≤ m) : sumI l ≤ m * l.length := by
  induction l with
  | nil => simp [sumI]
  | cons x r ih =>
    have h1 := h x List.mem_cons_self
    have h2 := ih fun y hy => h y (List.mem_cons_of_mem _ hy)
    rw [sumI_cons, List.length_cons, Int.natCast_succ, Int.mul_add, Int.mul_one]
    omega
theorem sumI_take_le {l : List Int} (h : ∀ x ∈ l, 0 ≤ x) (k : Nat) : 0 ≤ sumI (l.take k) ∧ sumI (l.take k) ≤ sumI l := by
  have h1 := sumI_nonneg (l := l.take k) fun x hx => h x (List.mem_of_mem_take hx)
  have h2 := sumI_nonneg (l := l.drop k) fun x hx => h x (List.mem_of_mem_drop hx)
  have h3 := sumI_append (l.take k) (l.drop k)
  rw [List.take_append_drop] at h3
  omega
theorem sumI_mem {l : List Int} (h : ∀ x ∈ l, 0 ≤ x) {x : Int} (hx : x ∈ l) : x ≤ sumI l := by
  induction l with
  | nil => simp at hx
  | cons y r ih =>
    have h1 := h y List.mem_cons_self
    have h2 := sumI_nonneg (l := r) fun z hz => h z (List.mem_cons_of_mem _ hz)
    rw [sumI_cons]
    rcases List.mem_cons.1 hx with rfl | hx
    · omega
    · have := ih (fun z hz => h z (List.mem_cons_of_mem _ hz)) hx; omega
theorem sndS_perm {l l' : List GoneV} (h : l.Perm l') : sndS l = sndS l' := by
  unfold sndS sumI
  induction h with
  | nil => rfl
  | cons x _ ih => simp only [List.map_cons, List.foldr_cons, ih]
  | swap x y l => simp only [List.map_cons, List.foldr_cons]; omega
  | trans _ _ ih1 ih2 => exact ih1.trans ih2
theorem prs_snoc (l : List Int) (x : Int) : prs (l ++ [x]) = prs l ++ [(l.length, x)] := by
  unfold prs
  rw [List.zipIdx_append, List.map_append]
  simp
theorem prs_length (l : List Int) : (prs l).length = l.length := by simp [prs]
theorem prs_get (l : List Int) (k : Nat) (h : k < l.length) : (prs l)[k]'(by rw [prs_length]; exact h) = (k, l[k]) := by simp [prs]
theorem prs_mem {l : List Int} {y : GoneV} (h : y ∈ prs l) : ∃ h : y.1 < l.length, y.2 = l[y.1] := by
  obtain ⟨k, hk, rfl⟩ := List.getElem_of_mem h
  rw [prs_length] at hk
  rw [prs_get l k hk]
  exact ⟨hk, rfl⟩
theorem mem_prs (l : List Int) (k : Nat) (h : k < l.length) : (k, l[k]) ∈ prs l := by
  rw [← prs_get l k h]
  exact List.getElem_mem _
theorem ltGone (a b : GoneV) : ltOf cfGone a b = decide (b.2 < a.2) := by
  unfold ltOf cfGone
  rw [Bool.eq_iff_iff, decide_eq_true_iff, decide_eq_true_iff, cmpI_lt]
theorem swoGone : SWO (ltOf cfGone) where
  irrefl a := by rw [ltGone]; simp
  trans a b c h1 h2 := by rw [ltGone] at *; simp at *; omega
  ntrans a b c h1 h2 := by rw [ltGone] at *; simp at *; omega

theorem gt_tail {l : List Int} : (Stab.srt (ltOf cfGone) (prs l)).Pairwise fun x y => gtG x y = true := by
  refine Stab.rev_ind (P := fun l => (Stab.srt (ltOf cfGone) (prs l)).Pairwise fun x y => gtG x y = true) List.Pairwise.nil (fun l a ih => ?_) l
  rw [prs_snoc, Stab.srt_snoc]
  generalize hS : Stab.srt (ltOf cfGone) (prs l) = S at ih
  have hidx : ∀ y ∈ S, y.1 < l.length := fun y hy => by
    rw [← hS] at hy
    exact (prs_mem ((Stab.srt_perm _ _).mem_iff.1 hy)).1
  obtain ⟨p, hp⟩ : ∃ p : GoneV → Bool, p = fun x => decide (a ≤ x.2) := ⟨_, rfl⟩
  have e : S = S.takeWhile p ++ S.dropWhile p := List.takeWhile_append_dropWhile.symm
  have h1 : ∀ x ∈ S.takeWhile p, a ≤ x.2 := fun x hx => by
    have := List.all_eq_true.1 (List.all_takeWhile (p := p) (l := S)) x hx
    rw [hp] at this
    simpa using this
  have h2 : ∀ x ∈ S.dropWhile p, x.2 < a := by
    have hd : (S.dropWhile p).Pairwise fun x y => gtG x y = true := ih.sublist (List.dropWhile_sublist p)
    intro x hx
    cases hq : S.dropWhile p with
    | nil => rw [hq] at hx; simp at hx
    | cons z r =>
      have hz : p z = false := by
        have := List.head_dropWhile_not p (l := S) (by rw [hq]; simp)
        simpa [hq] using this
      rw [hp] at hz
      simp only [decide_eq_false_iff_not] at hz
      rw [hq] at hx hd
      rcases List.mem_cons.1 hx with rfl | hx
      · omega
      · have := (List.pairwise_cons.1 hd).1 x hx
        unfold gtG at this
        have := of_decide_eq_true this
        omega
  have e2 : Stab.mrg (ltOf cfGone) S [(l.length, a)] = S.takeWhile p ++ (l.length, a) :: S.dropWhile p := by
    conv => lhs; rw [e]
    exact Stab.mrg_put (lt := ltOf cfGone) (l.length, a) (fun x hx => by rw [ltGone]; simpa using h1 x hx) (fun x hx => by rw [ltGone]; simpa using h2 x hx)
  rw [e2]
  rw [e] at ih hidx
  have ih' := List.pairwise_append.1 ih
  refine List.pairwise_append.2 ⟨ih'.1, List.pairwise_cons.2 ⟨fun y hy => ?_, ih'.2.1⟩, fun x hx y hy => ?_⟩
  · unfold gtG
    exact decide_eq_true (.inl (h2 y hy))
  · rcases List.mem_cons.1 hy with rfl | hy
    · have := h1 x hx
      have := hidx x (List.mem_append_left _ hx)
      unfold gtG
      exact decide_eq_true (show a < x.2 ∨ (x.2 = a ∧ x.1 < l.length) by omega)
    · exact ih'.2.2 x hx y hy
theorem take_filter {S : List GoneV} (h : S.Pairwise fun x y => gtG x y = true) (j : Nat) (hj : j < S.length) : S.filter (fun y => gtG y S[j]) = S.take j := by
  have e : S = S.take j ++ S[j] :: S.drop (j + 1) := by rw [← List.drop_eq_getElem_cons hj, List.take_append_drop]
  have hp : (S.take j ++ S[j] :: S.drop (j + 1)).Pairwise fun x y => gtG x y = true := by rw [← e]; exact h
  generalize hx : S[j] = x at e hp
  obtain ⟨h1, h2, h3⟩ := List.pairwise_append.1 hp
  have h4 := List.pairwise_cons.1 h2
  conv => lhs; rw [e]
  rw [List.filter_append, List.filter_cons_of_neg (by unfold gtG; simp), List.filter_eq_self.2 fun y hy => h3 y hy x List.mem_cons_self, List.filter_eq_nil_iff.2 fun y hy => ?_, List.append_nil]
  have := h4.1 y hy
  unfold gtG at this ⊢
  have := of_decide_eq_true this
  simp only [decide_eq_true_eq]
  omega
theorem ahead_congr (l : List Int) (x : Int) (i : Nat) (n : Int) : ∀ k, k ≤ l.length → aheadN (l ++ [x]) i n k = aheadN l i n k
  | 0, _ => rfl
  | k + 1, h => by
    unfold aheadN
    rw [ahead_congr l x i n k (by omega), List.getElem?_append_left (by omega)]
theorem ahead_filter (i : Nat) (n : Int) (l : List Int) : aheadN l i n l.length = sndS ((prs l).filter fun y => gtG y (i, n)) := by
  refine Stab.rev_ind (P := fun l => aheadN l i n l.length = sndS ((prs l).filter fun y => gtG y (i, n))) rfl (fun l x ih => ?_) l
  rw [prs_snoc, List.filter_append, List.length_append, List.length_singleton]
  unfold sndS at ih ⊢
  rw [List.map_append, sumI_append, ← ih]
  conv => lhs; unfold aheadN
  rw [ahead_congr l x i n _ (Nat.le_refl _), List.getElem?_append_right (Nat.le_refl _), Nat.sub_self]
  by_cases h : gtG (l.length, x) (i, n) = true
  · simp [h, sumI]
  · simp [h, sumI]
/-- What went ahead in the order of what went, is what went ahead of goods. -/
theorem ahead_srt (l : List Int) (j : Nat) (hj : j < (Stab.srt (ltOf cfGone) (prs l)).length) : sndS ((Stab.srt (ltOf cfGone) (prs l)).take j) = aheadN l (Stab.srt (ltOf cfGone) (prs l))[j].1 (Stab.srt (ltOf cfGone) (prs l))[j].2 l.length := by
  rw [ahead_filter]
  have h := take_filter (gt_tail (l := l)) j hj
  rw [← h]
  exact sndS_perm ((Stab.srt_perm _ _).filter _)
theorem sndS_take (S : List GoneV) (j : Nat) (hj : j < S.length) : sndS (S.take (j + 1)) = sndS (S.take j) + S[j].2 := by
  unfold sndS
  rw [List.take_succ_eq_append_getElem hj, List.map_append, sumI_append]
  simp [sumI]
theorem srt_idx (l : List Int) (j : Nat) (hj : j < (Stab.srt (ltOf cfGone) (prs l)).length) : ∃ h : (Stab.srt (ltOf cfGone) (prs l))[j].1 < l.length, (Stab.srt (ltOf cfGone) (prs l))[j].2 = l[(Stab.srt (ltOf cfGone) (prs l))[j].1] :=
  prs_mem ((Stab.srt_perm _ _).mem_iff.1 (List.getElem_mem hj))
theorem srt_all (l : List Int) (i : Nat) (hi : i < l.length) : ∃ j, ∃ h : j < (Stab.srt (ltOf cfGone) (prs l)).length, (Stab.srt (ltOf cfGone) (prs l))[j].1 = i := by
  have hm := (Stab.srt_perm (ltOf cfGone) (prs l)).mem_iff.2 (mem_prs l i hi)
  obtain ⟨j, hj, e⟩ := List.getElem_of_mem hm
  exact ⟨j, hj, by rw [e]⟩
/-- The class of the j-th in the order of what went. -/
theorem cls_srt (l : List Int) (j : Nat) (hj : j < (Stab.srt (ltOf cfGone) (prs l)).length) : clsOf l (Stab.srt (ltOf cfGone) (prs l))[j].1 = classB (sndS ((Stab.srt (ltOf cfGone) (prs l)).take j)) (sumI l) := by
  obtain ⟨h1, h2⟩ := srt_idx l j hj
  unfold clsOf
  rw [ahead_srt, h2, List.getElem?_eq_getElem h1]
  rfl

/-! The law, plainly. -/
theorem class_abc (a n : Int) : classB a n = [97] ∨ classB a n = [98] ∨ classB a n = [99] := by
  unfold classB
  repeat' split
  all_goals simp
theorem class_mono {a b n : Int} (h : a ≤ b) : ltB (classB b n) (classB a n) = false := by
  unfold classB
  by_cases h0 : n = 0
  · rw [if_pos h0, if_pos h0]; decide
  rw [if_neg h0, if_neg h0]
  by_cases h1 : 100 * b < 80 * n
  · rw [if_pos h1, if_pos (by omega)]; decide
  rw [if_neg h1]
  by_cases h2 : 100 * b < 95 * n
  · rw [if_pos h2]
    split
    · decide
    · rw [if_pos (by omega)]; decide
  · rw [if_neg h2]
    repeat' split
    all_goals decide
theorem ahead_mono {l : List Int} (h0 : ∀ x ∈ l, 0 ≤ x) {i k : Nat} {n m : Int} (h : n < m) : ∀ q, aheadN l k m q ≤ aheadN l i n q
  | 0 => Int.le_refl _
  | q + 1 => by
    have ih := ahead_mono h0 (i := i) (k := k) h q
    unfold aheadN
    cases hq : l[q]? with
    | none => simp only; omega
    | some x =>
      have hx := h0 x (List.mem_of_getElem? hq)
      simp only
      by_cases h1 : gtG (q, x) (k, m) = true
      · have h2 : gtG (q, x) (i, n) = true := by
          unfold gtG at *
          have := of_decide_eq_true h1
          simp only at this
          exact decide_eq_true (by simp only; omega)
        rw [if_pos h1, if_pos h2]
        omega
      · rw [if_neg h1]
        split <;> omega
theorem cls_mono {l : List Int} (h0 : ∀ x ∈ l, 0 ≤ x) {i k : Nat} (hi : i < l.length) (hk : k < l.length) (h : l[i] < l[k]) : ltB (clsOf l i) (clsOf l k) = false := by
  unfold clsOf
  rw [List.getElem?_eq_getElem hi, List.getElem?_eq_getElem hk]
  exact class_mono (ahead_mono h0 h _)
theorem cls_any {l : List Int} (h0 : ∀ x ∈ l, 0 ≤ x) : (∃ i, ∃ h : i < l.length, 0 < l[i]) ↔ ∃ i, i < l.length ∧ clsOf l i = [97] := by
  constructor
  · rintro ⟨i, hi, hp⟩
    have hs : 0 < sumI l := Int.lt_of_lt_of_le hp (sumI_mem h0 (List.getElem_mem hi))
    have hl : 0 < (Stab.srt (ltOf cfGone) (prs l)).length := by rw [Stab.srt_length, prs_length]; omega
    refine ⟨_, (srt_idx l 0 hl).1, ?_⟩
    rw [cls_srt l 0 hl]
    unfold classB
    have e : sndS ((Stab.srt (ltOf cfGone) (prs l)).take 0) = 0 := rfl
    rw [e, if_neg (by omega), if_pos (by omega)]
  · rintro ⟨i, hi, hc⟩
    refine Classical.byContradiction fun hn => ?_
    have hz : ∀ x ∈ l, x ≤ 0 := fun x hx => by
      obtain ⟨k, hk, rfl⟩ := List.getElem_of_mem hx
      exact Int.not_lt.1 fun h => hn ⟨k, hk, h⟩
    have h1 := sumI_le hz
    have h2 := sumI_nonneg h0
    have hs : sumI l = 0 := by omega
    unfold clsOf classB at hc
    rw [hs, if_pos rfl] at hc
    cases hc
/-- What went of a book's goods. -/
theorem BkI.outs {B : BkV} (h : BkI B) : (∀ x ∈ outsB B, 0 ≤ x) ∧ (∀ x ∈ outsB B, x ≤ 65970697666560) ∧ (outsB B).length ≤ 30 := by
  refine ⟨fun x hx => ?_, fun x hx => ?_, by unfold outsB; rw [List.length_map]; exact h.gfew⟩
  · obtain ⟨y, hy, rfl⟩ := List.mem_map.1 hx
    exact (h.gok y hy).2.2.2.1
  · obtain ⟨y, hy, rfl⟩ := List.mem_map.1 hx
    exact (h.gok y hy).2.2.2.2.1
theorem BkI.sums_at {B : BkV} (h : BkI B) (k : Nat) (hk : k < B.1.length) : sumsOf B B.1[k].1.1 = B.1[k].2 := by
  unfold sumsOf
  rw [show fG B B.1[k].1.1 = some B.1[k] from find_is (fun y : GoS => y.1.1) h.gs (List.getElem_mem hk)]
end Go.Proofs.YtphgakobfegpcaaGreatDoor
namespace Go.Proofs.YtphgakobfegpcaaGreatDoor.StabGone
open Go.Sort Go.RowKit Go.Lib Go.Proofs Go.Proofs.YtphgakobfegpcaaGreatDoor.Stab
variable {α : Type} [Inhabited α]

/-- What the walks are told of a program: these functions' texts and types; an element takes k cells. -/
structure Fits (P : Program) (k : Nat) : Prop where
  mixed : P.follows .mixedOrders = true
  fSwap : P.funcs[229]? = some Tryz.f229
  fRot : P.funcs[202]? = some Tryz.f202
  fSym : P.funcs[167]? = some Tryz.f167
  fIns : P.funcs[166]? = some Tryz.f166
  fStab : P.funcs[118]? = some Tryz.f118
  t0 : P.underlying 0 = some (TypeDesc.tuple #[])
  a0 : ∀ w, (isAgg 0).run P w = .ok false w
  z0 : ∀ w, (Go.sizeOf 0).run P w = .ok 1 w
  v0 : ∀ w, (zeroValue 0).run P w = .ok (Value.tuple #[]) w
  t3 : P.underlying 3 = some (TypeDesc.int IntKind.i64)
  a3 : ∀ w, (isAgg 3).run P w = .ok false w
  z3 : ∀ w, (Go.sizeOf 3).run P w = .ok 1 w
  v3 : ∀ w, (zeroValue 3).run P w = .ok (Value.int IntKind.i64 0) w
  t4 : P.underlying 4 = some (TypeDesc.bool)
  a4 : ∀ w, (isAgg 4).run P w = .ok false w
  z4 : ∀ w, (Go.sizeOf 4).run P w = .ok 1 w
  v4 : ∀ w, (zeroValue 4).run P w = .ok (Value.bool false) w
  tU : P.underlying 236 = some (TypeDesc.int IntKind.u64)
  aU : ∀ w, (isAgg 236).run P w = .ok false w
  zU : ∀ w, (Go.sizeOf 236).run P w = .ok 1 w
  vU : ∀ w, (zeroValue 236).run P w = .ok (Value.int IntKind.u64 0) w
  tS : P.underlying 139 = some (TypeDesc.slice 141)
  aS : ∀ w, (isAgg 139).run P w = .ok false w
  zS : ∀ w, (Go.sizeOf 139).run P w = .ok 1 w
  vS : ∀ w, (zeroValue 139).run P w = .ok (Value.slice none 0 0) w
  tF : P.underlying 143 = some (TypeDesc.func #[141, 141] #[3] false)
  aF : ∀ w, (isAgg 143).run P w = .ok false w
  zF : ∀ w, (Go.sizeOf 143).run P w = .ok 1 w
  vF : ∀ w, (zeroValue 143).run P w = .ok (Value.nilFunc) w
  aE : ∀ w, (isAgg 141).run P w = .ok true w
  zE : ∀ w, (Go.sizeOf 141).run P w = .ok k w
theorem fits : Fits Tryz.prog 2 where
  mixed := by kernel_rfl
  fSwap := Tryz.func229
  fRot := Tryz.func202
  fSym := Tryz.func167
  fIns := Tryz.func166
  fStab := Tryz.func118
  t0 := Tryz.underlying0
  a0 := Tryz.isAgg0
  z0 := Tryz.sizeOf0
  v0 := Tryz.zeroValue0
  t3 := Tryz.underlying3
  a3 := Tryz.isAgg3
  z3 := Tryz.sizeOf3
  v3 := Tryz.zeroValue3
  t4 := Tryz.underlying4
  a4 := Tryz.isAgg4
  z4 := Tryz.sizeOf4
  v4 := Tryz.zeroValue4
  tU := Tryz.underlying236
  aU := Tryz.isAgg236
  zU := Tryz.sizeOf236
  vU := Tryz.zeroValue236
  tS := Tryz.underlying139
  aS := Tryz.isAgg139
  zS := Tryz.sizeOf139
  vS := Tryz.zeroValue139
  tF := Tryz.underlying143
  aF := Tryz.isAgg143
  zF := Tryz.sizeOf143
  vF := Tryz.zeroValue143
  aE := Tryz.isAgg141
  zE := Tryz.sizeOf141

set_option maxHeartbeats 600000 in
set_option maxRecDepth 1000000 in
theorem swapRange_any {P : Program} {K : Nat} (L : Fits P K) (enc : α → List Value) (g : Nat) (cb : Array Value) (blk off cap : Nat) (d0 : Array α) (w0 w : World) (R : RowK enc K w0 blk off d0) (A X M Y B : List α) (hXY : X.length = Y.length)
    (hlen : A.length + X.length + M.length + Y.length + B.length = d0.size) (hsz : d0.size < 4611686018427387904) (S : SWK enc K w0 blk off (A ++ (X ++ (M ++ (Y ++ B)))).toArray w)
    (ai bi ni : Int) (ha : ai = (A.length : Nat)) (hb : bi = (A.length + X.length + M.length : Nat)) (hn : ni = (X.length : Nat)) :
    Calls P 229 #[.slice (some ⟨blk, off, none⟩) d0.size cap, .int .i64 ai, .int .i64 bi, .int .i64 ni, .func (.func g) #[] cb] w fun e w' =>
      e = .returned (.tuple #[]) ∧ SWK enc K w0 blk off (A ++ (Y ++ (M ++ (X ++ B)))).toArray w' := by
  subst ha hb hn
  have HS := Lib.hid S
  have HXY := Lib.hid hXY
  have hle : A.length + X.length + M.length + X.length ≤ d0.size := by omega
  have HL := Lib.hid hlen
  clear S hXY hlen
  obtain ⟨a, hA⟩ : ∃ a, a = A.length := ⟨_, rfl⟩
  obtain ⟨n, hN⟩ : ∃ n, n = X.length := ⟨_, rfl⟩
  obtain ⟨b, hB⟩ : ∃ b, b = A.length + X.length + M.length := ⟨_, rfl⟩
  obtain ⟨sz, hSZ⟩ : ∃ s, s = d0.size := ⟨_, rfl⟩
  have HA := Lib.hid hA
  have HN := Lib.hid hN
  have HB := Lib.hid hB
  have HZ := Lib.hid hSZ
  have hab : a + n ≤ b := by omega
  rw [← hB, ← hN, ← hSZ] at hle
  rw [← hSZ] at hsz
  rw [← hB, ← hA, ← hN, ← hSZ]
  clear hA hN hB hSZ
  have mixed := L.mixed; have t0 := L.t0; have a0 := L.a0; have z0 := L.z0; have v0 := L.v0; have t3 := L.t3; have a3 := L.a3; have z3 := L.z3; have v3 := L.v3; have t4 := L.t4; have a4 := L.a4; have z4 := L.z4; have v4 := L.v4; have tU := L.tU; have aU := L.aU; have zU := L.zU; have vU := L.vU; have tS := L.tS; have aS := L.aS; have zS := L.zS; have vS := L.vS; have tF := L.tF; have aF := L.aF; have zF := L.zF; have vF := L.vF; have aE := L.aE; have zE := L.zE
  have FG := L.fSwap
  go_enter FG, Tryz.ntmps229
  go_wp2
  go_loopg [10] n (fun kx s10 wr => ∃ i : Nat, s10 = .int .i64 i ∧ i ≤ n ∧ n - i ≤ kx ∧ Hid (SWK enc K w0 blk off (swR A X M Y B i).toArray wr))
  case atStart => exact ⟨0, rfl, by omega, by omega, by rw [swR_zero]; exact HS⟩
  case round =>
    obtain ⟨i, rfl, hi, hk, S1⟩ := hrel
    by_cases hlt : i < n
    · have hds : (swR A X M Y B i).toArray.size = d0.size := by rw [List.size_toArray, swR_length _ _ _ _ _ _ HXY.out]; exact HL.out
      have S2 := S1.out.swapped R (a + i) (b + i) (by rw [hds, ← HZ.out]; omega) (by rw [hds, ← HZ.out]; omega)
      have l1 := S1.out.ld1 R hds P (a + i) (by rw [hds, ← HZ.out]; omega)
      have l2 := S1.out.ld1 R hds P (b + i) (by rw [hds, ← HZ.out]; omega)
      have s1 := S1.out.st1 R hds P (a + i) (by rw [hds, ← HZ.out]; omega) (swR A X M Y B i).toArray[b + i]!
      have s2 := S1.out.st2 R hds P (a + i) (b + i) (by rw [hds, ← HZ.out]; omega) (by rw [hds, ← HZ.out]; omega) (swR A X M Y B i).toArray[b + i]! (swR A X M Y B i).toArray[a + i]!
      have n1 : (enc (swR A X M Y B i).toArray[a + i]!).length = K := R.hk _
      have n2 : (enc (swR A X M Y B i).toArray[b + i]!).length = K := R.hk _
      have st := swR_step A X M Y B i HXY.out (by rw [← HN.out]; exact hlt)
      rw [← HB.out, ← HA.out] at st
      rw [st] at S2
      generalize enc (swR A X M Y B i).toArray[a + i]! = cI at S2 l1 s2 n1
      generalize enc (swR A X M Y B i).toArray[b + i]! = cJ at S2 l2 s1 s2 n2
      have H2 := Lib.hid S2
      clear S1 S2 st hds
      have b1 : (a : Int) + (i : Int) < (sz : Int) := by omega
      have b2 : (b : Int) + (i : Int) < (sz : Int) := by omega
      have b3 : (0 : Int) ≤ (a : Int) + (i : Int) := by omega
      have b4 : (0 : Int) ≤ (b : Int) + (i : Int) := by omega
      have b5 : ((a : Int) + (i : Int)).toNat = a + i := by omega
      have b6 : ((b : Int) + (i : Int)).toNat = b + i := by omega
      go_wp2_with fail
      have W1 : IntKind.i64.wrap ((a : Int) + (i : Int)) = (a : Int) + (i : Int) := by rw [IntKind.wrap_i64]; omega
      have W2 : IntKind.i64.wrap ((b : Int) + (i : Int)) = (b : Int) + (i : Int) := by rw [IntKind.wrap_i64]; omega
      go_big_region_o
      clear W1 W2 b5 b6 l1 l2 s1 s2
      go_wp2
      go_roundg (n - (i + 1))
      case measure => omega
      case rel => exact ⟨i + 1, by go_num, by omega, Nat.le_refl _, H2⟩
    · obtain rfl : i = n := by omega
      go_wp2
      go_end0
      refine ⟨rfl, ?_⟩
      have := S1.out
      rw [HN.out, swR_all _ _ _ _ _ HXY.out] at this
      exact this
end Go.Proofs.YtphgakobfegpcaaGreatDoor.StabGone
namespace Go.Proofs.YtphgakobfegpcaaGreatDoor.StabGone
open Go.Sort Go.RowKit Go.Lib Go.Proofs Go.Proofs.YtphgakobfegpcaaGreatDoor.Stab
variable {α : Type} [Inhabited α]

set_option maxHeartbeats 600000 in
set_option maxRecDepth 1000000 in
theorem rotate_any {P : Program} {K : Nat} (L : Fits P K) (enc : α → List Value) (g : Nat) (cb : Array Value) (blk off cap : Nat) (d0 : Array α) (w0 w : World) (R : RowK enc K w0 blk off d0) (A U V B : List α) (hU : 0 < U.length) (hV : 0 < V.length)
    (a m b sz : Nat) (hsz0 : sz = d0.size) (ha : a = A.length) (hm : m = A.length + U.length) (hb : b = A.length + U.length + V.length)
    (hlen : A.length + U.length + V.length + B.length = d0.size) (hsz : sz < 4611686018427387904) (S : SWK enc K w0 blk off (A ++ (U ++ (V ++ B))).toArray w) :
    Calls P 202 #[.slice (some ⟨blk, off, none⟩) sz cap, .int .i64 (a : Nat), .int .i64 (m : Nat), .int .i64 (b : Nat), .func (.func g) #[] cb] w fun e w' =>
      e = .returned (.tuple #[]) ∧ SWK enc K w0 blk off (A ++ (V ++ (U ++ B))).toArray w' := by
  have f1 : a < m := by omega
  have f2 : m < b := by omega
  have f3 : b ≤ sz := by omega
  have HS := Lib.hid S
  have HF := Lib.hid (And.intro hsz0 (And.intro ha (And.intro hm (And.intro hb hlen))))
  have HR := Lib.hid R
  clear S R hsz0 ha hm hb hlen
  have mixed := L.mixed; have t0 := L.t0; have a0 := L.a0; have z0 := L.z0; have v0 := L.v0; have t3 := L.t3; have a3 := L.a3; have z3 := L.z3; have v3 := L.v3; have t4 := L.t4; have a4 := L.a4; have z4 := L.z4; have v4 := L.v4; have tU := L.tU; have aU := L.aU; have zU := L.zU; have vU := L.vU; have tS := L.tS; have aS := L.aS; have zS := L.zS; have vS := L.vS; have tF := L.tF; have aF := L.aF; have zF := L.zF; have vF := L.vF; have aE := L.aE; have zE := L.zE
  have eSw : ∀ args w, (callFunc 229 args).run P w = .ok (.enter 229 args) w := enters_of L.fSwap (by kernel_rfl) rfl
  have FG := L.fRot
  go_enter FG, Tryz.ntmps202
  go_wp2
  go_loopg [10, 11] (b - a) (fun kx si sj wr => ∃ (i j : Nat) (A' U' V' B' : List α), si = .int .i64 i ∧ sj = .int .i64 j ∧ 0 < i ∧ 0 < j ∧ i + j ≤ kx ∧ i ≤ m ∧ m + j ≤ b ∧ Hid (i = U'.length ∧ j = V'.length ∧ A'.length + i = m ∧ A'.length + i + j + B'.length = d0.size ∧ A' ++ (V' ++ (U' ++ B')) = A ++ (V ++ (U ++ B)) ∧ SWK enc K w0 blk off (A' ++ (U' ++ (V' ++ B'))).toArray wr))
  case atStart =>
    obtain ⟨q1, q2, q3, q4, q5⟩ := HF.out
    exact ⟨m - a, b - m, A, U, V, B, by congr 1; omega, by congr 1; omega, by omega, by omega, by omega, by omega, by omega, ⟨by omega, by omega, by omega, by omega, rfl, HS.out⟩⟩
  case round =>
    obtain ⟨i, j, A', U', V', B', rfl, rfl, hi, hj, hk, hm, hb, H⟩ := hrel
    by_cases hij : i = j
    · subst hij
      go_wp2_with fail
      obtain ⟨q1, q2, q3, q4, q5⟩ := HF.out
      obtain ⟨h1, h2, h3, h4, h5, h6⟩ := H.out
      have hc := swapRange_any L enc g cb blk off cap d0 w0 wr HR.out A' U' [] V' B' (by omega) (by simp; omega) (by omega) (by simpa using h6) ((m : Int) - (i : Int)) (m : Int) (i : Int) (by omega) (by simp; omega) (by omega)
      rw [← q1] at hc
      refine hc.mono ?_
      rintro e w1 ⟨rfl, S1⟩
      rw [List.nil_append, h5] at S1
      have H1 := Lib.hid S1
      clear S1 hc q1 q2 q3 q4 q5 h1 h2 h3 h4 h5 h6
      go_wp2
      go_end0
      exact ⟨rfl, H1.out⟩
    · by_cases hgt : j < i
      · have hz1 : (j : Int) < (i : Int) := by omega
        have hz2 : ¬ (i : Int) = (j : Int) := by omega
        go_wp2_with fail
        obtain ⟨q1, q2, q3, q4, q5⟩ := HF.out
        obtain ⟨h1, h2, h3, h4, h5, h6⟩ := H.out
        have e1 : U' = U'.take j ++ U'.drop j := (List.take_append_drop _ _).symm
        have n1 : (U'.take j).length = j := by rw [List.length_take]; omega
        have n2 : (U'.drop j).length = i - j := by rw [List.length_drop]; omega
        have hc := swapRange_any L enc g cb blk off cap d0 w0 wr HR.out A' (U'.take j) (U'.drop j) V' B' (by omega) (by omega) (by omega) (by rw [← List.append_assoc (U'.take j), ← e1]; exact h6) ((m : Int) - (i : Int)) (m : Int) (j : Int) (by omega) (by omega) (by omega)
        rw [← q1] at hc
        refine hc.mono ?_
        rintro e w1 ⟨rfl, S1⟩
        have e5 : (A' ++ V') ++ (U'.take j ++ (U'.drop j ++ B')) = A ++ (V ++ (U ++ B)) := by
          rw [← h5, ← List.append_assoc (U'.take j), ← e1, List.append_assoc]
        have H1 : Hid (i - j = (U'.drop j).length ∧ j = (U'.take j).length ∧ (A' ++ V').length + (i - j) = m ∧ (A' ++ V').length + (i - j) + j + B'.length = d0.size ∧ (A' ++ V') ++ (U'.take j ++ (U'.drop j ++ B')) = A ++ (V ++ (U ++ B)) ∧ SWK enc K w0 blk off ((A' ++ V') ++ (U'.drop j ++ (U'.take j ++ B'))).toArray w1) :=
          ⟨n2.symm, n1.symm, by rw [List.length_append]; omega, by rw [List.length_append]; omega, e5, by rw [List.append_assoc]; exact S1⟩
        clear S1 hc q1 q2 q3 q4 q5 h1 h2 h3 h4 h5 h6 e1 n1 n2 e5
        go_wp2
        go_roundg (i - j + j)
        case measure => omega
        case rel => exact ⟨i - j, j, _, _, _, _, by congr 1; omega, rfl, by omega, by omega, Nat.le_refl _, by omega, by omega, H1⟩
      · have hz1 : ¬ (j : Int) < (i : Int) := by omega
        have hz2 : ¬ (i : Int) = (j : Int) := by omega
        go_wp2_with fail
        obtain ⟨q1, q2, q3, q4, q5⟩ := HF.out
        obtain ⟨h1, h2, h3, h4, h5, h6⟩ := H.out
        have e1 : V'.take (j - i) ++ V'.drop (j - i) = V' := List.take_append_drop _ _
        have n1 : (V'.take (j - i)).length = j - i := by rw [List.length_take]; omega
        have n2 : (V'.drop (j - i)).length = i := by rw [List.length_drop]; omega
        have hc := swapRange_any L enc g cb blk off cap d0 w0 wr HR.out A' U' (V'.take (j - i)) (V'.drop (j - i)) B' (by omega) (by omega) (by omega) (by rw [← List.append_assoc (V'.take (j - i)), e1]; exact h6) ((m : Int) - (i : Int)) ((m : Int) + (j : Int) - (i : Int)) (i : Int) (by omega) (by omega) (by omega)
        rw [← q1] at hc
        refine hc.mono ?_
        rintro e w1 ⟨rfl, S1⟩
        have e5 : A' ++ (V'.take (j - i) ++ (V'.drop (j - i) ++ (U' ++ B'))) = A ++ (V ++ (U ++ B)) := by
          rw [← h5, ← List.append_assoc (V'.take (j - i)), e1]
        have H1 : Hid (i = (V'.drop (j - i)).length ∧ j - i = (V'.take (j - i)).length ∧ A'.length + i = m ∧ A'.length + i + (j - i) + (U' ++ B').length = d0.size ∧ A' ++ (V'.take (j - i) ++ (V'.drop (j - i) ++ (U' ++ B'))) = A ++ (V ++ (U ++ B)) ∧ SWK enc K w0 blk off (A' ++ (V'.drop (j - i) ++ (V'.take (j - i) ++ (U' ++ B')))).toArray w1) :=
          ⟨n2.symm, n1.symm, h3, by rw [List.length_append]; omega, e5, S1⟩
        clear S1 hc q1 q2 q3 q4 q5 h1 h2 h3 h4 h5 h6 e1 n1 n2 e5
        go_wp2
        go_roundg (i + (j - i))
        case measure => omega
        case rel => exact ⟨i, j - i, _, _, _, _, rfl, by congr 1; omega, by omega, by omega, Nat.le_refl _, by omega, by omega, H1⟩
end Go.Proofs.YtphgakobfegpcaaGreatDoor.StabGone
