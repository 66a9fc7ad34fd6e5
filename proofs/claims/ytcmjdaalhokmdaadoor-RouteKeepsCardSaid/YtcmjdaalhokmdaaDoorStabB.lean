/- A stable sort, plainly: two runs merged by a symmetric search; blocks that double. No program in sight. -/
import Derived.Test.YtcmjdaalhokmdaaDoorStab
namespace Go.Proofs.YtcmjdaalhokmdaaDoor.Stab
open Go.Sort

section
variable {α : Type} {lt : α → α → Bool}

theorem srt_le (hO : SWO lt) {l : List α} (h : Srt lt l) {i j : Nat} (hij : i ≤ j) (hj : j < l.length) : lt l[j] (l[i]'(by omega)) = false := by
  rcases Nat.lt_or_ge i j with h1 | h1
  · exact List.pairwise_iff_getElem.1 h i j (by omega) hj h1
  · obtain rfl : i = j := by omega
    exact hO.irrefl _
theorem ntrans3 (hO : SWO lt) {a b c d : α} (h1 : lt a b = false) (h2 : lt b c = false) (h3 : lt c d = false) : lt a d = false := hO.ntrans a c d (hO.ntrans a b c h1 h2) h3

/-- Where the symmetric search stopped the merge parts. -/
theorem sym_split (hO : SWO lt) (U V : List α) (s e : Nat) (hU : Srt lt U) (hV : Srt lt V) (hs : s ≤ U.length) (he : e ≤ V.length)
    (hA : s = 0 ∨ e = V.length ∨ ∃ (h1 : e < V.length) (h2 : s - 1 < U.length), lt V[e] U[s - 1] = false)
    (hB : s = U.length ∨ e = 0 ∨ ∃ (h1 : e - 1 < V.length) (h2 : s < U.length), lt V[e - 1] U[s] = true) :
    mrg lt U V = mrg lt (U.take s) (V.take e) ++ mrg lt (U.drop s) (V.drop e) := by
  have h := mrg_split lt _ (U.take s) (V.take e) (U.drop s) (V.drop e) rfl ?_ ?_
  · rw [List.take_append_drop, List.take_append_drop] at h; exact h
  · intro x hx y hy
    obtain ⟨i, hi, rfl⟩ := List.getElem_of_mem hx
    obtain ⟨j, hj, rfl⟩ := List.getElem_of_mem hy
    simp only [List.length_take] at hi
    simp only [List.length_drop] at hj
    rw [List.getElem_take, List.getElem_drop]
    rcases hA with h0 | h0 | ⟨h1, h2, h0⟩
    · omega
    · omega
    · exact ntrans3 hO (srt_le hO hV (show e ≤ e + j by omega) (by omega)) h0 (srt_le hO hU (show i ≤ s - 1 by omega) h2)
  · intro y hy x hx
    obtain ⟨i, hi, rfl⟩ := List.getElem_of_mem hx
    obtain ⟨j, hj, rfl⟩ := List.getElem_of_mem hy
    simp only [List.length_take] at hj
    simp only [List.length_drop] at hi
    rw [List.getElem_take, List.getElem_drop]
    rcases hB with h0 | h0 | ⟨h1, h2, h0⟩
    · omega
    · omega
    · rcases h : lt V[j] U[s + i] with _ | _
      · have := ntrans3 hO (srt_le hO hV (show j ≤ e - 1 by omega) h1) h (srt_le hO hU (show s ≤ s + i by omega) (by omega))
        rw [h0] at this; cases this
      · rfl

/-- One element into a sorted run: where a search stopped. -/
theorem ins_left (hO : SWO lt) (x : α) (V : List α) (s : Nat) (hV : Srt lt V) (hs : s ≤ V.length)
    (hA : s = 0 ∨ ∃ h : s - 1 < V.length, lt V[s - 1] x = true) (hB : s = V.length ∨ ∃ h : s < V.length, lt V[s] x = false) : mrg lt [x] V = V.take s ++ x :: V.drop s := by
  have h := put_mrg (lt := lt) (P := V.take s) (Q := V.drop s) x ?_ ?_
  · rw [List.take_append_drop] at h; exact h
  · intro y hy
    obtain ⟨j, hj, rfl⟩ := List.getElem_of_mem hy
    simp only [List.length_take] at hj
    rw [List.getElem_take]
    rcases hA with h0 | ⟨h1, h0⟩
    · omega
    · rcases h : lt V[j] x with _ | _
      · have := hO.ntrans _ _ _ (srt_le hO hV (show j ≤ s - 1 by omega) h1) h
        rw [h0] at this; cases this
      · rfl
  · intro y hy
    obtain ⟨j, hj, rfl⟩ := List.getElem_of_mem hy
    simp only [List.length_drop] at hj
    rw [List.getElem_drop]
    rcases hB with h0 | ⟨h1, h0⟩
    · omega
    · exact hO.ntrans _ _ _ (srt_le hO hV (show s ≤ s + j by omega) (by omega)) h0
theorem ins_right (hO : SWO lt) (x : α) (U : List α) (s : Nat) (hU : Srt lt U) (hs : s ≤ U.length)
    (hA : s = 0 ∨ ∃ h : s - 1 < U.length, lt x U[s - 1] = false) (hB : s = U.length ∨ ∃ h : s < U.length, lt x U[s] = true) : mrg lt U [x] = U.take s ++ x :: U.drop s := by
  have h := mrg_put (lt := lt) (X := U.take s) (Q := U.drop s) x ?_ ?_
  · rw [List.take_append_drop] at h; exact h
  · intro y hy
    obtain ⟨j, hj, rfl⟩ := List.getElem_of_mem hy
    simp only [List.length_take] at hj
    rw [List.getElem_take]
    rcases hA with h0 | ⟨h1, h0⟩
    · omega
    · exact hO.ntrans _ _ _ h0 (srt_le hO hU (show j ≤ s - 1 by omega) h1)
  · intro y hy
    obtain ⟨j, hj, rfl⟩ := List.getElem_of_mem hy
    simp only [List.length_drop] at hj
    rw [List.getElem_drop]
    rcases hB with h0 | ⟨h1, h0⟩
    · omega
    · rcases h : lt x U[s + j] with _ | _
      · have := hO.ntrans _ _ _ h (srt_le hO hU (show s ≤ s + j by omega) (by omega))
        rw [h0] at this; cases this
      · rfl

/-- Sorted blocks of n, one behind the other. -/
def blk (lt : α → α → Bool) (n : Nat) : Nat → List α → List α
  | 0, l => srt lt l
  | f + 1, l => if l.length ≤ n then srt lt l else srt lt (l.take n) ++ blk lt n f (l.drop n)
def blks (lt : α → α → Bool) (n : Nat) (l : List α) : List α := blk lt n l.length l
theorem blk_fuel (n : Nat) (hn : 0 < n) : ∀ (f f' : Nat) (l : List α), l.length ≤ f → l.length ≤ f' → blk lt n f l = blk lt n f' l
  | 0, 0, _, _, _ => rfl
  | 0, f' + 1, l, h, _ => by
    obtain rfl := List.eq_nil_of_length_eq_zero (Nat.le_zero.1 h); simp [blk]
  | f + 1, 0, l, _, h => by
    obtain rfl := List.eq_nil_of_length_eq_zero (Nat.le_zero.1 h); simp [blk]
  | f + 1, f' + 1, l, h, h' => by
    unfold blk
    by_cases hl : l.length ≤ n
    · rw [if_pos hl, if_pos hl]
    · rw [if_neg hl, if_neg hl, blk_fuel n hn f f' (l.drop n) (by simp; omega) (by simp; omega)]
theorem blks_small (n : Nat) (l : List α) (h : l.length ≤ n) : blks lt n l = srt lt l := by
  unfold blks
  cases hl : l.length with
  | zero => rfl
  | succ k => rw [blk, if_pos h]
theorem blks_step (n : Nat) (hn : 0 < n) (l : List α) (h : n < l.length) : blks lt n l = srt lt (l.take n) ++ blks lt n (l.drop n) := by
  unfold blks
  obtain ⟨k, hk⟩ : ∃ k, l.length = k + 1 := ⟨l.length - 1, by omega⟩
  rw [hk, blk, if_neg (by omega)]
  congr 1
  exact blk_fuel n hn _ _ _ (by simp; omega) (Nat.le_refl _)
theorem blks_length (n : Nat) (hn : 0 < n) (l : List α) : (blks lt n l).length = l.length := by
  have h : ∀ (m : Nat) (l : List α), l.length ≤ m → (blks lt n l).length = l.length := by
    intro m
    induction m with
    | zero =>
      intro l hl
      rw [blks_small n l (by omega), srt_length]
    | succ m ih =>
      intro l hl
      by_cases h : l.length ≤ n
      · rw [blks_small n l h, srt_length]
      · rw [blks_step n hn l (by omega), List.length_append, srt_length, ih (l.drop n) (by simp; omega)]
        simp; omega
  exact h _ l (Nat.le_refl _)
theorem blks_full (n : Nat) (hn : 0 < n) (P R : List α) (h : P.length = n) : blks lt n (P ++ R) = srt lt P ++ blks lt n R := by
  cases R with
  | nil => rw [List.append_nil, blks_small n P (by omega), blks_small n [] (by simp), srt_nil, List.append_nil]
  | cons x R =>
    rw [blks_step n hn _ (by simp; omega), List.take_append_of_le_length (by omega), List.take_of_length_le (by omega), List.drop_append_of_le_length (by omega), List.drop_of_length_le (by omega)]
    rfl
end

section
variable {α : Type}

/-- Two parts of one length exchanged, i rounds done. -/
def swR (A X M Y B : List α) (i : Nat) : List α := A ++ ((Y.take i ++ X.drop i) ++ (M ++ ((X.take i ++ Y.drop i) ++ B)))
theorem swR_zero (A X M Y B : List α) : swR A X M Y B 0 = A ++ (X ++ (M ++ (Y ++ B))) := by simp [swR]
theorem swR_all (A X M Y B : List α) (h : X.length = Y.length) : swR A X M Y B X.length = A ++ (Y ++ (M ++ (X ++ B))) := by
  unfold swR
  rw [List.take_of_length_le (by omega), List.drop_of_length_le (Nat.le_refl _), List.take_of_length_le (Nat.le_refl _), List.drop_of_length_le (by omega), List.append_nil, List.append_nil]
theorem swR_length (A X M Y B : List α) (i : Nat) (h : X.length = Y.length) : (swR A X M Y B i).length = A.length + X.length + M.length + Y.length + B.length := by
  simp only [swR, List.length_append, List.length_take, List.length_drop]; omega
theorem swR_step [Inhabited α] (A X M Y B : List α) (i : Nat) (h : X.length = Y.length) (hi : i < X.length) :
    swp (swR A X M Y B i).toArray (A.length + i) (A.length + X.length + M.length + i) = (swR A X M Y B (i + 1)).toArray := by
  have hy : i < Y.length := by omega
  have e1 : swR A X M Y B i = (A ++ Y.take i) ++ X[i] :: ((X.drop (i + 1) ++ (M ++ X.take i)) ++ Y[i] :: (Y.drop (i + 1) ++ B)) := by
    unfold swR
    rw [List.drop_eq_getElem_cons hi, List.drop_eq_getElem_cons hy]
    simp only [List.append_assoc, List.cons_append]
  have e2 : swR A X M Y B (i + 1) = (A ++ Y.take i) ++ Y[i] :: ((X.drop (i + 1) ++ (M ++ X.take i)) ++ X[i] :: (Y.drop (i + 1) ++ B)) := by
    unfold swR
    rw [List.take_succ_eq_append_getElem hi, List.take_succ_eq_append_getElem hy]
    simp only [List.append_assoc, List.cons_append, List.nil_append]
  rw [e1, e2]
  exact swp_at _ _ _ _ _ _ _ (by simp; omega) (by simp; omega)

/-- One carried to the right, t rounds done. -/
def shR (A : List α) (x : α) (P B : List α) (t : Nat) : List α := A ++ (P.take t ++ x :: (P.drop t ++ B))
theorem shR_zero (A : List α) (x : α) (P B : List α) : shR A x P B 0 = A ++ (x :: (P ++ B)) := by simp [shR]
theorem shR_all (A : List α) (x : α) (P B : List α) : shR A x P B P.length = A ++ (P ++ x :: B) := by simp [shR]
theorem shR_length (A : List α) (x : α) (P B : List α) (t : Nat) : (shR A x P B t).length = A.length + P.length + B.length + 1 := by
  simp only [shR, List.length_append, List.length_take, List.length_drop, List.length_cons]; omega
theorem shR_step [Inhabited α] (A : List α) (x : α) (P B : List α) (t : Nat) (h : t < P.length) : swp (shR A x P B t).toArray (A.length + t) (A.length + t + 1) = (shR A x P B (t + 1)).toArray := by
  have e1 : shR A x P B t = (A ++ P.take t) ++ x :: ([] ++ P[t] :: (P.drop (t + 1) ++ B)) := by
    unfold shR
    rw [List.drop_eq_getElem_cons h]
    simp only [List.append_assoc, List.cons_append, List.nil_append]
  have e2 : shR A x P B (t + 1) = (A ++ P.take t) ++ P[t] :: ([] ++ x :: (P.drop (t + 1) ++ B)) := by
    unfold shR
    rw [List.take_succ_eq_append_getElem h]
    simp only [List.append_assoc, List.cons_append, List.nil_append]
  rw [e1, e2]
  exact swp_at _ _ _ _ _ _ _ (by simp; omega) (by simp; omega)
theorem shL_step [Inhabited α] (A : List α) (x : α) (P B : List α) (t : Nat) (h : t < P.length) : swp (shR A x P B (t + 1)).toArray (A.length + t + 1) (A.length + t) = (shR A x P B t).toArray := by
  have e1 : shR A x P B t = (A ++ P.take t) ++ x :: ([] ++ P[t] :: (P.drop (t + 1) ++ B)) := by
    unfold shR
    rw [List.drop_eq_getElem_cons h]
    simp only [List.append_assoc, List.cons_append, List.nil_append]
  have e2 : shR A x P B (t + 1) = (A ++ P.take t) ++ P[t] :: ([] ++ x :: (P.drop (t + 1) ++ B)) := by
    unfold shR
    rw [List.take_succ_eq_append_getElem h]
    simp only [List.append_assoc, List.cons_append, List.nil_append]
  rw [e1, e2, swp_comm]
  exact swp_at _ _ _ _ _ _ _ (by simp; omega) (by simp; omega)
theorem get_in [Inhabited α] (A U B : List α) (i j : Nat) (h : i < U.length) (hj : j = A.length + i) : (A ++ (U ++ B)).toArray[j]! = U[i] := by
  subst hj
  rw [show A ++ (U ++ B) = (A ++ U.take i) ++ U[i] :: (U.drop (i + 1) ++ B) by
    conv => lhs; rw [← List.take_append_drop i U, List.drop_eq_getElem_cons h]
    simp only [List.append_assoc, List.cons_append]]
  exact get_at _ _ _ _ (by simp; omega)
end
end Go.Proofs.YtcmjdaalhokmdaaDoor.Stab
