/- Plain facts: the document's reading of a numeral, held against strconv's. No program in sight. -/
import Derived.Test.YtmhkcmoepopnoaaDoorNum
namespace Go.Proofs.YtmhkcmoepopnoaaDoor
open Go.Lib

def isDig (c : UInt8) : Bool := decide (48 ≤ c.toNat) && decide (c.toNat ≤ 57)
def valN (l : List UInt8) : Nat := l.foldl (fun a c => 10 * a + (c.toNat - 48)) 0
theorem valN_snoc (r : List UInt8) (c : UInt8) : valN (r ++ [c]) = 10 * valN r + (c.toNat - 48) := by simp [valN]
theorem valN_one (c : UInt8) : valN [c] = c.toNat - 48 := by simp [valN]
theorem valN_nil : valN [] = 0 := rfl

theorem snoc_ind {P : List UInt8 → Prop} (h0 : P []) (h1 : ∀ l a, P l → P (l ++ [a])) (l : List UInt8) : P l := by
  have : ∀ r : List UInt8, P r.reverse := fun r => by
    induction r with
    | nil => exact h0
    | cons a r ih => rw [List.reverse_cons]; exact h1 _ _ ih
  have h := this l.reverse
  rwa [List.reverse_reverse] at h

theorem dec_small {u : Nat} (h : u < 10) : decDigits u = [UInt8.ofNat (48 + u)] := by rw [decDigits, dif_pos h]
theorem dec_big {u : Nat} (h : ¬ u < 10) : decDigits u = decDigits (u / 10) ++ [UInt8.ofNat (48 + u % 10)] := by rw [decDigits, dif_neg h]

theorem dec_val (n : Nat) : valN (decDigits n) = n := by
  induction n using Nat.strongRecOn with
  | _ n ih =>
    by_cases h : n < 10
    · rw [dec_small h, valN_one, digit_toNat n h]; omega
    · rw [dec_big h, valN_snoc, ih (n / 10) (by omega), digit_toNat _ (Nat.mod_lt _ (by omega))]; omega
theorem dec_head (n : Nat) (h0 : 0 < n) : (decDigits n).head? ≠ some 48 := by
  induction n using Nat.strongRecOn with
  | _ n ih =>
    by_cases h : n < 10
    · rw [dec_small h]
      simp only [List.head?_cons, ne_eq, Option.some.injEq]
      intro e
      have := congrArg UInt8.toNat e
      rw [digit_toNat n h] at this
      simp at this; omega
    · rw [dec_big h]
      have hne := dec_ne_nil (n / 10)
      have hi := ih (n / 10) (by omega) (by omega)
      cases hd : decDigits (n / 10) with
      | nil => exact absurd hd hne
      | cons x r => rw [hd] at hi; simpa using hi

theorem digits_all (l : List UInt8) : l.all isDig = true ↔ ∀ c ∈ l, 48 ≤ c.toNat ∧ c.toNat ≤ 57 := by
  simp [isDig, List.all_eq_true]
theorem dec_of_val (l : List UInt8) : l.all isDig = true → l ≠ [] → (l.length = 1 ∨ l.head? ≠ some 48) → decDigits (valN l) = l := by
  induction l using snoc_ind with
  | h0 => intro _ h; exact absurd rfl h
  | h1 r c ih =>
    intro ha _ hz
    have ha' := (digits_all _).1 ha
    have hc := ha' c (by simp)
    have hcn : UInt8.ofNat (48 + (c.toNat - 48)) = c := by
      apply UInt8.toNat_inj.1
      rw [digit_toNat _ (by omega)]; omega
    cases r with
    | nil =>
      rw [List.nil_append, valN_one, dec_small (by omega), hcn]
    | cons x q =>
      have hx : x ≠ 48 := by
        rcases hz with hz | hz
        · simp at hz
        · simpa using hz
      have h1 := ih ((digits_all _).2 fun d hd => ha' d (List.mem_append_left _ hd)) (by simp) (.inr (by simpa using hx))
      have hv : 0 < valN (x :: q) := by
        rcases Nat.eq_zero_or_pos (valN (x :: q)) with h | h
        · rw [h, dec_small (by omega)] at h1
          simp at h1
          exact absurd h1.1.symm hx
        · exact h
      rw [valN_snoc, dec_big (by omega), show (10 * valN (x :: q) + (c.toNat - 48)) / 10 = valN (x :: q) by omega, show (10 * valN (x :: q) + (c.toNat - 48)) % 10 = c.toNat - 48 by omega, h1, hcn]
theorem valN_lt (l : List UInt8) (h : l.all isDig = true) : valN l < 10 ^ l.length := by
  induction l using snoc_ind with
  | h0 => simp [valN]
  | h1 r c ih =>
    have ha' := (digits_all _).1 h
    have hc := ha' c (by simp)
    have := ih ((digits_all _).2 fun d hd => ha' d (List.mem_append_left _ hd))
    rw [valN_snoc, List.length_append, List.length_singleton, Nat.pow_succ]; omega

/-- The document's number of a text (-1: none). -/
def refNum (l : List UInt8) (d : Nat) : Int := if l.length < 1 ∨ d < l.length ∨ (1 < l.length ∧ l.head? = some 48) ∨ l.all isDig = false then -1 else (valN l : Int)
theorem refNum_eq (l : List UInt8) (d : Nat) (hd : d ≤ 18) : refNum l d = match numQ l d with | some n => (n : Int) | none => -1 := by
  unfold refNum
  split
  · rename_i h
    cases hq : numQ l d with
    | none => rfl
    | some n =>
      exfalso
      obtain ⟨h1, h2, h3⟩ := (numQ_iff l d n).1 hq
      rcases h with h | h | ⟨h, h'⟩ | h
      · have := dec_ne_nil n
        rw [← h1] at this
        cases l <;> simp_all
      · omega
      · rcases Nat.eq_zero_or_pos n with h0 | h0
        · subst h0
          rw [h1, dec_small (by omega)] at h
          simp at h
        · rw [h1] at h'; exact dec_head n h0 h'
      · have : l.all isDig = true := (digits_all l).2 (by rw [h1]; exact dec_digit n)
        rw [h] at this; cases this
  · rename_i h
    have hn : l ≠ [] := by rintro rfl; simp at h
    have ha : l.all isDig = true := by
      cases hh : l.all isDig
      · exact absurd (.inr (.inr (.inr hh))) h
      · rfl
    have hz : l.length = 1 ∨ l.head? ≠ some 48 := by
      by_cases h1 : l.length = 1
      · exact .inl h1
      · refine .inr fun h2 => h (.inr (.inr (.inl ⟨?_, h2⟩)))
        have := List.length_pos_iff.2 hn
        omega
    have hd1 := dec_of_val l ha hn hz
    have hl : l.length ≤ d := by omega
    have hv := valN_lt l ha
    have : 10 ^ l.length ≤ 10 ^ 18 := Nat.pow_le_pow_right (by omega) (by omega)
    rw [(numQ_iff l d (valN l)).2 ⟨hd1.symm, hl, by omega⟩]
end Go.Proofs.YtmhkcmoepopnoaaDoor
