/- Layers, plainly: what comes, what goes. -/
import Derived.Test.YtnblbliehfgnkaaDoorLayers
namespace Go.Proofs.YtnblbliehfgnkaaDoor
--BEGIN
/-- Pieces come: upon the last layer, if it cost the same. -/
def inL (ls : Ls) (n c : Nat) : Ls :=
  match ls[ls.length - 1]? with
  | some x => if x.2 = c then ls.set (ls.length - 1) (x.1 + n, x.2) else ls ++ [(n, c)]
  | none => [(n, c)]
/-- The number of In's error. -/
def inE (ls : Ls) (n c : Int) : Nat := if n < 1 ∨ 1099511627776 < n ∨ c < 0 ∨ 1048576 < c ∨ 1099511627776 - (hasL ls : Int) < n then 2 else 0
/-- The eldest go: what they cost, what is left. -/
def outL : Ls → Nat → Nat × Ls
  | [], _ => (0, [])
  | x :: r, n => if n < x.1 then (n * x.2, (x.1 - n, x.2) :: r) else (x.1 * x.2 + (outL r (n - x.1)).1, (outL r (n - x.1)).2)
/-- The number of Out's error. -/
def outE (ls : Ls) (n : Int) : Nat := if n < 1 ∨ 1099511627776 < n then 2 else if (hasL ls : Int) < n then 9 else 0

theorem hasL_set (l : Ls) (k : Nat) (h : k < l.length) (y : Nat × Nat) : hasL (l.set k y) + l[k].1 = hasL l + y.1 := by
  induction l generalizing k with
  | nil => simp at h
  | cons x r ih =>
    cases k with
    | zero => simp [hasL]; omega
    | succ k =>
      have h1 := ih k (by simpa using h)
      simp only [List.set_cons_succ, hasL, List.getElem_cons_succ] at h1 ⊢
      omega
theorem worthL_set (l : Ls) (k : Nat) (h : k < l.length) (y : Nat × Nat) : worthL (l.set k y) + l[k].1 * l[k].2 = worthL l + y.1 * y.2 := by
  induction l generalizing k with
  | nil => simp at h
  | cons x r ih =>
    cases k with
    | zero => simp [worthL]; omega
    | succ k =>
      have h1 := ih k (by simpa using h)
      simp only [List.set_cons_succ, worthL, List.getElem_cons_succ] at h1 ⊢
      omega

/-- The three ways of what comes. -/
theorem inL_none (n c : Nat) : inL [] n c = [(n, c)] := rfl
theorem inL_same (ls : Ls) (n c : Nat) (h : ls.length - 1 < ls.length) (he : ls[ls.length - 1].2 = c) : inL ls n c = ls.set (ls.length - 1) (ls[ls.length - 1].1 + n, ls[ls.length - 1].2) := by
  unfold inL; rw [List.getElem?_eq_getElem h]; exact if_pos he
theorem inL_other (ls : Ls) (n c : Nat) (h : ls.length - 1 < ls.length) (he : ls[ls.length - 1].2 ≠ c) : inL ls n c = ls ++ [(n, c)] := by
  unfold inL; rw [List.getElem?_eq_getElem h]; exact if_neg he
theorem inL_has (ls : Ls) (n c : Nat) : hasL (inL ls n c) = hasL ls + n := by
  rcases Nat.eq_zero_or_pos ls.length with h0 | h0
  · obtain rfl := List.eq_nil_of_length_eq_zero h0; simp [inL_none, hasL]
  · have h : ls.length - 1 < ls.length := by omega
    by_cases he : ls[ls.length - 1].2 = c
    · rw [inL_same ls n c h he]
      have := hasL_set ls (ls.length - 1) h (ls[ls.length - 1].1 + n, ls[ls.length - 1].2)
      simp only at this; omega
    · rw [inL_other ls n c h he, hasL_append]; simp [hasL]
theorem inL_worth (ls : Ls) (n c : Nat) : worthL (inL ls n c) = worthL ls + n * c := by
  rcases Nat.eq_zero_or_pos ls.length with h0 | h0
  · obtain rfl := List.eq_nil_of_length_eq_zero h0; simp [inL_none, worthL]
  · have h : ls.length - 1 < ls.length := by omega
    by_cases he : ls[ls.length - 1].2 = c
    · rw [inL_same ls n c h he]
      have := worthL_set ls (ls.length - 1) h (ls[ls.length - 1].1 + n, ls[ls.length - 1].2)
      simp only [Nat.add_mul] at this; rw [he] at this ⊢; omega
    · rw [inL_other ls n c h he, worthL_append]; simp [worthL]
theorem inL_length (ls : Ls) (n c : Nat) : (inL ls n c).length ≤ ls.length + 1 := by
  rcases Nat.eq_zero_or_pos ls.length with h0 | h0
  · obtain rfl := List.eq_nil_of_length_eq_zero h0; simp [inL_none]
  · have h : ls.length - 1 < ls.length := by omega
    by_cases he : ls[ls.length - 1].2 = c
    · rw [inL_same ls n c h he]; simp
    · rw [inL_other ls n c h he]; simp
theorem inL_ok (ls : Ls) (n c : Nat) (hk : OkL ls) (h1 : 1 ≤ n) (h2 : hasL ls + n ≤ 1099511627776) (h3 : c ≤ 1048576) : OkL (inL ls n c) := by
  have hm : ∀ x ∈ inL ls n c, x.2 ≤ 1048576 ∧ 1 ≤ x.1 := by
    intro x hx
    rcases Nat.eq_zero_or_pos ls.length with h0 | h0
    · obtain rfl := List.eq_nil_of_length_eq_zero h0
      simp [inL_none] at hx; subst hx; exact ⟨h3, h1⟩
    · have h : ls.length - 1 < ls.length := by omega
      by_cases he : ls[ls.length - 1].2 = c
      · rw [inL_same ls n c h he] at hx
        rcases List.mem_or_eq_of_mem_set hx with hx | rfl
        · exact ⟨hk.cost _ hx, hk.pos _ hx⟩
        · exact ⟨by simp only; omega, by simp only; omega⟩
      · rw [inL_other ls n c h he] at hx
        rcases List.mem_append.1 hx with hx | hx
        · exact ⟨hk.cost _ hx, hk.pos _ hx⟩
        · simp at hx; subst hx; exact ⟨h3, h1⟩
  exact ⟨by rw [inL_has]; exact h2, fun x hx => (hm x hx).1, fun x hx => (hm x hx).2⟩

theorem outL_worth (ls : Ls) (n : Nat) : (outL ls n).1 + worthL (outL ls n).2 = worthL ls := by
  induction ls generalizing n with
  | nil => rfl
  | cons x r ih =>
    unfold outL
    split
    · next h =>
      have e : n * x.2 + (x.1 - n) * x.2 = x.1 * x.2 := by rw [← Nat.add_mul]; congr 1; omega
      simp only [worthL]; omega
    · have := ih (n - x.1)
      simp only [worthL]; omega
theorem outL_has (ls : Ls) (n : Nat) (h : n ≤ hasL ls) : hasL (outL ls n).2 + n = hasL ls := by
  induction ls generalizing n with
  | nil => simp [hasL] at h; subst h; rfl
  | cons x r ih =>
    unfold outL
    simp only [hasL] at h
    split
    · simp only [hasL]; omega
    · have := ih (n - x.1) (by omega)
      simp only [hasL]; omega
theorem outL_length (ls : Ls) (n : Nat) : (outL ls n).2.length ≤ ls.length := by
  induction ls generalizing n with
  | nil => simp [outL]
  | cons x r ih =>
    unfold outL
    split
    · simp
    · have := ih (n - x.1)
      simp only [List.length_cons]; omega
theorem outL_mem (ls : Ls) (n : Nat) (h : ∀ x ∈ ls, x.2 ≤ 1048576 ∧ 1 ≤ x.1) : ∀ x ∈ (outL ls n).2, x.2 ≤ 1048576 ∧ 1 ≤ x.1 := by
  induction ls generalizing n with
  | nil => simp [outL]
  | cons y r ih =>
    unfold outL
    split
    · intro x hx
      rcases List.mem_cons.1 hx with rfl | hx
      · exact ⟨(h y (by simp)).1, by simp only; omega⟩
      · exact h x (List.mem_cons_of_mem _ hx)
    · exact ih _ (fun x hx => h x (List.mem_cons_of_mem _ hx))
theorem outL_ok (ls : Ls) (n : Nat) (hk : OkL ls) (h : n ≤ hasL ls) : OkL (outL ls n).2 := by
  have h1 := outL_has ls n h
  have h2 := hk.has
  have h3 := outL_mem ls n (fun x hx => ⟨hk.cost x hx, hk.pos x hx⟩)
  exact ⟨by omega, fun x hx => (h3 x hx).1, fun x hx => (h3 x hx).2⟩
theorem outL_zero (ls : Ls) (hk : ∀ x ∈ ls, 1 ≤ x.1) : outL ls 0 = (0, ls) := by
  cases ls with
  | nil => rfl
  | cons x r =>
    have := hk x (by simp)
    unfold outL
    rw [if_pos (by omega)]; simp
theorem outL_add (ls : Ls) (a b : Nat) : outL ls (a + b) = ((outL ls a).1 + (outL (outL ls a).2 b).1, (outL (outL ls a).2 b).2) := by
  induction ls generalizing a with
  | nil => rfl
  | cons x r ih =>
    by_cases h1 : a < x.1
    · have ea : outL (x :: r) a = (a * x.2, (x.1 - a, x.2) :: r) := by rw [outL, if_pos h1]
      rw [ea]
      by_cases h2 : a + b < x.1
      · rw [outL, if_pos h2]
        simp only
        rw [outL, if_pos (by simp only; omega)]
        simp only [Nat.add_mul, Nat.sub_sub]
      · rw [outL, if_neg h2]
        simp only
        rw [outL, if_neg (by simp only; omega)]
        have e : a * x.2 + (x.1 - a) * x.2 = x.1 * x.2 := by rw [← Nat.add_mul]; congr 1; omega
        have e2 : a + b - x.1 = b - (x.1 - a) := by omega
        simp only [e2]
        ext1 <;> simp only
        omega
    · have ea : outL (x :: r) a = (x.1 * x.2 + (outL r (a - x.1)).1, (outL r (a - x.1)).2) := by rw [outL, if_neg h1]
      rw [ea, outL, if_neg (by omega), show a + b - x.1 = (a - x.1) + b by omega, ih (a - x.1)]
      simp only [Nat.add_assoc]
theorem outL_full (x : Nat × Nat) (r : Ls) (n : Nat) (h : x.1 ≤ n) : outL (x :: r) n = (x.1 * x.2 + (outL r (n - x.1)).1, (outL r (n - x.1)).2) := by rw [outL, if_neg (by omega)]
theorem outL_part (x : Nat × Nat) (r : Ls) (n : Nat) (h : n < x.1) : outL (x :: r) n = (n * x.2, (x.1 - n, x.2) :: r) := by rw [outL, if_pos h]
--END
end Go.Proofs.YtnblbliehfgnkaaDoor
