/- cmp.Or; strings compared: a strict order. -/
import Derived.Test.YtmhkcmoepopnoaaDoorBase
import Derived.Test.YtmhkcmoepopnoaaDoorShelf
import Derived.Sort.Statements
namespace Go.Proofs.YtmhkcmoepopnoaaDoor
open Go.RowKit

/-- The first that is not zero. -/
def orL : List Int → Int
  | [] => 0
  | x :: r => if x = 0 then orL r else x
theorem orL_zeros (xs : List Int) (k : Nat) (hk : k ≤ xs.length) (h : ∀ j (hj : j < xs.length), j < k → xs[j] = 0) : orL xs = orL (xs.drop k) := by
  induction xs generalizing k with
  | nil => simp
  | cons x r ih =>
    cases k with
    | zero => rfl
    | succ k =>
      have h0 := h 0 (by simp) (by omega)
      simp only [List.getElem_cons_zero] at h0
      subst h0
      rw [List.drop_succ_cons]
      show (if (0 : Int) = 0 then orL r else 0) = _
      rw [if_pos rfl]
      exact ih k (by simpa using hk) fun j hj hjk => by
        have := h (j + 1) (by simpa using hj) (by omega)
        simpa using this
theorem orL_at (xs : List Int) (k : Nat) (hk : k < xs.length) (h : ∀ j (hj : j < xs.length), j < k → xs[j] = 0) (hx : xs[k] ≠ 0) : orL xs = xs[k] := by
  rw [orL_zeros xs k (by omega) h, List.drop_eq_getElem_cons hk]
  exact if_neg hx

/-! Strings compared. -/
theorem cmpB_refl (a : List UInt8) : Lib.compareBytes a a = 0 := by
  induction a with
  | nil => rfl
  | cons x r ih => simp [Lib.compareBytes, ih]
theorem cmpB_vals (a b : List UInt8) : Lib.compareBytes a b = -1 ∨ Lib.compareBytes a b = 0 ∨ Lib.compareBytes a b = 1 := by
  induction a generalizing b with
  | nil => cases b <;> simp [Lib.compareBytes]
  | cons x r ih =>
    cases b with
    | nil => simp [Lib.compareBytes]
    | cons y s =>
      simp only [Lib.compareBytes]
      split
      · simp
      · split
        · simp
        · exact ih s
theorem cmpB_eq (a b : List UInt8) : Lib.compareBytes a b = 0 ↔ a = b := by
  refine ⟨fun h => ?_, fun h => by subst h; exact cmpB_refl a⟩
  induction a generalizing b with
  | nil => cases b with
    | nil => rfl
    | cons y s => simp [Lib.compareBytes] at h
  | cons x r ih =>
    cases b with
    | nil => simp [Lib.compareBytes] at h
    | cons y s =>
      simp only [Lib.compareBytes] at h
      split at h
      · simp at h
      · split at h
        · simp at h
        · rename_i h1 h2
          have : x = y := by
            have a1 : ¬ x.toNat < y.toNat := h1
            have a2 : ¬ y.toNat < x.toNat := h2
            exact UInt8.toNat_inj.1 (by omega)
          rw [this, ih s h]
theorem cmpB_swap (a b : List UInt8) : Lib.compareBytes b a = - Lib.compareBytes a b := by
  induction a generalizing b with
  | nil => cases b <;> simp [Lib.compareBytes]
  | cons x r ih =>
    cases b with
    | nil => simp [Lib.compareBytes]
    | cons y s =>
      simp only [Lib.compareBytes]
      by_cases h1 : x < y
      · have h2 : ¬ y < x := by
          have a1 : x.toNat < y.toNat := h1
          intro h
          have a2 : y.toNat < x.toNat := h
          omega
        rw [if_pos h1, if_neg h2, if_pos h1]; rfl
      · by_cases h2 : y < x
        · simp [h1, h2]
        · simp [h1, h2, ih s]
theorem cmpB_trans (a b c : List UInt8) (h1 : Lib.compareBytes a b < 0) (h2 : Lib.compareBytes b c < 0) : Lib.compareBytes a c < 0 := by
  induction a generalizing b c with
  | nil => cases c with
    | nil => cases b <;> simp [Lib.compareBytes] at h1 h2
    | cons z t => simp [Lib.compareBytes]
  | cons x r ih =>
    cases b with
    | nil => simp [Lib.compareBytes] at h1
    | cons y s =>
      cases c with
      | nil => simp [Lib.compareBytes] at h2
      | cons z t =>
        simp only [Lib.compareBytes] at h1 h2 ⊢
        by_cases a1 : x < y
        · by_cases b1 : y < z
          · rw [if_pos (show x < z from (show x.toNat < z.toNat from Nat.lt_trans (show x.toNat < y.toNat from a1) b1))]; omega
          · by_cases b2 : z < y
            · rw [if_neg b1, if_pos b2] at h2; omega
            · have e : y.toNat = z.toNat := by
                have q1 : ¬ y.toNat < z.toNat := b1
                have q2 : ¬ z.toNat < y.toNat := b2
                omega
              rw [if_pos (show x < z from (show x.toNat < z.toNat by rw [← e]; exact a1))]; omega
        · by_cases a2 : y < x
          · rw [if_neg a1, if_pos a2] at h1; omega
          · have e : x = y := by
              have q1 : ¬ x.toNat < y.toNat := a1
              have q2 : ¬ y.toNat < x.toNat := a2
              exact UInt8.toNat_inj.1 (by omega)
            subst e
            rw [if_neg a1, if_neg a1] at h1
            by_cases b1 : x < z
            · rw [if_pos b1]; omega
            · by_cases b2 : z < x
              · rw [if_neg b1, if_pos b2] at h2; omega
              · rw [if_neg b1, if_neg b2] at h2 ⊢
                exact ih s t h1 h2
end Go.Proofs.YtmhkcmoepopnoaaDoor
