/- Plain facts on decimal numerals: how strconv.Atoi ends at the digits of a number. No program in sight. -/
import Derived.Lib.AtoiAll
import Derived.Lib.AtoiAllCases
import Derived.Lib.ItoaNum
namespace Go.Proofs.YtmhkcmoepopnoaaDoor
open Go.Lib

theorem parse_app (l : List UInt8) (c : UInt8) : ∀ (acc a : Nat), parseUint10 acc l = .ok a → parseUint10 acc (l ++ [c]) = parseUint10 a [c] := by
  induction l with
  | nil => intro acc a h; simp [parseUint10] at h; subst h; rfl
  | cons x r ih =>
    intro acc a h
    rw [List.cons_append, parseUint10]
    rw [parseUint10] at h
    split at h
    · rename_i h1
      rw [if_pos h1]
      split at h
      · cases h
      · rename_i h2
        rw [if_neg h2]
        split at h
        · cases h
        · rename_i h3
          rw [if_neg h3]
          exact ih _ _ h
    · cases h

theorem digit_toNat (u : Nat) (h : u < 10) : (UInt8.ofNat (48 + u)).toNat = 48 + u := by
  simp; omega

theorem parse_dec (u : Nat) : u < 18446744073709551616 → parseUint10 0 (decDigits u) = .ok u := by
  induction u using Nat.strongRecOn with
  | _ u ih =>
    intro hu
    rw [decDigits]
    by_cases h : u < 10
    · rw [dif_pos h, parseUint10, digit_toNat u h, if_pos (by omega), if_neg (by omega), if_neg (by omega), parseUint10]
      simp
    · rw [dif_neg h, parse_app _ _ _ _ (ih (u / 10) (by omega) (by omega)), parseUint10, digit_toNat _ (Nat.mod_lt _ (by omega)), if_pos (by omega), if_neg (by omega), if_neg (by omega), parseUint10]
      congr 1; omega

theorem dec_ne_nil (u : Nat) : decDigits u ≠ [] := by
  rw [decDigits]; split <;> simp

theorem dec_digit (u : Nat) : ∀ c ∈ decDigits u, 48 ≤ c.toNat ∧ c.toNat ≤ 57 := by
  induction u using Nat.strongRecOn with
  | _ u ih =>
    intro c hc
    rw [decDigits] at hc
    by_cases h : u < 10
    · rw [dif_pos h] at hc
      simp only [List.mem_singleton] at hc
      subst hc
      rw [digit_toNat u h]; omega
    · rw [dif_neg h, List.mem_append, List.mem_singleton] at hc
      rcases hc with hc | rfl
      · exact ih (u / 10) (by omega) c hc
      · rw [digit_toNat _ (Nat.mod_lt _ (by omega))]; omega

theorem atoi_dec (u : Nat) (hu : u ≤ 9223372036854775807) : atoiAll (decDigits u) = .ok (u : Int) := by
  have hp := parse_dec u (by omega)
  have hd := dec_digit u
  have hn := dec_ne_nil u
  revert hp hd hn
  generalize decDigits u = l
  intro hp hd hn
  match l, hn with
  | c :: r, _ =>
    have hc := hd c (by simp)
    rw [atoiAll_plain c r (by omega) (by omega)]
    unfold parseMag
    rw [if_neg (by simp), hp]
    unfold signless
    simp
    omega

theorem dec_inj (u v : Nat) (hu : u ≤ 9223372036854775807) (hv : v ≤ 9223372036854775807) (h : decDigits u = decDigits v) : u = v := by
  have h1 := atoi_dec u hu
  have h2 := atoi_dec v hv
  rw [h, h2] at h1
  injection h1 with h1
  omega

theorem itoa_nat (v : Int) (h : 0 ≤ v) : itoa v = decDigits v.toNat := by
  unfold itoa; rw [if_neg (by omega)]

theorem dec_len_le (u k : Nat) (hk : 1 ≤ k) (h : u < 10 ^ k) : (decDigits u).length ≤ k := by
  rw [decDigits_length]
  induction k generalizing u with
  | zero => omega
  | succ k ih =>
    by_cases h9 : u < 10
    · rw [nDigits_small h9]; omega
    · rw [nDigits_big h9]
      by_cases hk0 : k = 0
      · subst hk0; simp at h; omega
      · have := ih (u / 10) (by omega) (by rw [Nat.pow_succ] at h; omega)
        omega

/-- Is a text the numeral of n, of at most d digits? -/
def NumIs (l : List UInt8) (d n : Nat) : Prop := l = decDigits n ∧ l.length ≤ d ∧ n ≤ 9223372036854775807

/-- The number of a text that is a numeral of at most d digits. -/
def numQ (l : List UInt8) (d : Nat) : Option Nat :=
  match atoiAll l with
  | .ok v => if l = decDigits v.toNat ∧ 0 ≤ v ∧ l.length ≤ d then some v.toNat else none
  | _ => none

theorem numQ_iff (l : List UInt8) (d n : Nat) : numQ l d = some n ↔ NumIs l d n := by
  constructor
  · intro h
    unfold numQ at h
    split at h
    · rename_i v hv
      obtain ⟨b0, b1⟩ := atoiAll_bounds hv
      split at h
      · rename_i hh
        injection h with h
        subst h
        exact ⟨hh.1, hh.2.2, by omega⟩
      · cases h
    · cases h
  · rintro ⟨h1, h2, h3⟩
    unfold numQ
    have ha := atoi_dec n h3
    rw [← h1] at ha
    rw [ha]
    simp [← h1, h2]

theorem numQ_none (l : List UInt8) (d : Nat) (h : numQ l d = none) (n : Nat) : ¬ NumIs l d n := by
  intro hn
  rw [(numQ_iff l d n).2 hn] at h
  cases h

theorem numQ_lt {l : List UInt8} {d n : Nat} (h : NumIs l d n) (_hd : 1 ≤ d) : n < 10 ^ d := by
  obtain ⟨h1, h2, _⟩ := h
  have h3 := lt_pow_nDigits n
  rw [← decDigits_length, ← h1] at h3
  exact Nat.lt_of_lt_of_le h3 (Nat.pow_le_pow_right (by omega) h2)
end Go.Proofs.YtmhkcmoepopnoaaDoor
