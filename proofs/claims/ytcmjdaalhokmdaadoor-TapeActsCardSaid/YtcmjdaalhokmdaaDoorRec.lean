/- Records of a tape, plainly. -/
import Derived.Test.YtcmjdaalhokmdaaDoorCut
namespace Go.Proofs.YtcmjdaalhokmdaaDoor
open Go.RowKit

/-- A record's bytes. -/
def recL (s : List UInt8) : List UInt8 := Lib.decDigits s.length ++ 58 :: (s ++ [10, 46])
/-- b begins with the record of s, behind which is r. -/
def IsRec (b s r : List UInt8) : Prop := b = recL s ++ r ∧ s.length ≤ 20000
theorem recL_length (s : List UInt8) : 4 ≤ (recL s).length := by
  have := List.length_pos_iff.2 (dec_ne_nil s.length)
  simp only [recL, List.length_append, List.length_cons, List.length_nil]; omega
theorem recL_le (s : List UInt8) (h : s.length ≤ 20000) : (recL s).length ≤ 20030 := by
  have := dec_len_le s.length 5 (by omega) (by omega)
  simp only [recL, List.length_append, List.length_cons, List.length_nil]; omega
theorem dec_colon (u : Nat) : (58 : UInt8) ∉ Lib.decDigits u := by
  intro h
  have := dec_digit u 58 h
  simp at this
theorem IsRec.cut {b s r : List UInt8} (h : IsRec b s r) : Lib.cut b [58] = (Lib.decDigits s.length, s ++ [10, 46] ++ r, true) := by
  rw [h.1]
  have := cut_at (Lib.decDigits s.length) (s ++ [10, 46] ++ r) 58 (dec_colon _)
  simpa [recL, List.append_assoc] using this
theorem IsRec.unique {b s r s' r' : List UInt8} (h : IsRec b s r) (h' : IsRec b s' r') : s = s' ∧ r = r' := by
  have hc := h.cut
  rw [h'.cut] at hc
  simp only [Prod.mk.injEq, and_true] at hc
  have hl := dec_inj _ _ (by have := h'.2; omega) (by have := h.2; omega) hc.1
  have h2 := hc.2
  rw [List.append_assoc, List.append_assoc] at h2
  have h3 := List.append_inj h2 hl
  have h4 := List.append_inj h3.2 rfl
  exact ⟨h3.1.symm, h4.2.symm⟩

/-- What Read tells: the records ahead; how many bytes they take. -/
inductive ReadIs : List UInt8 → List (List UInt8) → Nat → Prop
  | stop {b : List UInt8} (h : ∀ s r, ¬ IsRec b s r) : ReadIs b [] 0
  | step {b s r : List UInt8} {l : List (List UInt8)} {n : Nat} (h : IsRec b s r) (k : ReadIs r l n) : ReadIs b (s :: l) ((recL s).length + n)
theorem ReadIs.unique {b : List UInt8} {l l' : List (List UInt8)} {n n' : Nat} (h : ReadIs b l n) (h' : ReadIs b l' n') : l = l' ∧ n = n' := by
  induction h generalizing l' n' with
  | stop h =>
    cases h' with
    | stop _ => exact ⟨rfl, rfl⟩
    | step k _ => exact absurd k (h _ _)
  | step h _ ih =>
    cases h' with
    | stop k => exact absurd h (k _ _)
    | step k k2 =>
      obtain ⟨rfl, rfl⟩ := h.unique k
      obtain ⟨rfl, rfl⟩ := ih k2
      exact ⟨rfl, rfl⟩
/-- The bytes of records. -/
def recsL : List (List UInt8) → List UInt8
  | [] => []
  | s :: r => recL s ++ recsL r
theorem recsL_snoc (l : List (List UInt8)) (s : List UInt8) : recsL (l ++ [s]) = recsL l ++ recL s := by
  induction l with
  | nil => simp [recsL]
  | cons x r ih => simp [recsL, ih]
/-- Records of two tapes, one behind the other. -/
theorem read_join {l : List (List UInt8)} {b : List UInt8} {y : List (List UInt8)} {m : Nat} (hl : ∀ s ∈ l, s.length ≤ 20000) (h : ReadIs b y m) : ReadIs (recsL l ++ b) (l ++ y) ((recsL l).length + m) := by
  induction l with
  | nil => simpa [recsL] using h
  | cons s r ih =>
    have h1 := ih (fun x hx => hl x (List.mem_cons_of_mem _ hx))
    have h2 : IsRec (recsL (s :: r) ++ b) s (recsL r ++ b) := ⟨by simp [recsL], hl s List.mem_cons_self⟩
    have h3 := ReadIs.step h2 h1
    have e : (recsL (s :: r)).length + m = (recL s).length + ((recsL r).length + m) := by simp [recsL]; omega
    rw [e]
    exact h3
theorem read_nil : ReadIs [] [] 0 := .stop fun s r h => by
  have := congrArg List.length h.1
  have := recL_length s
  simp at *
  omega
theorem read_recs {l : List (List UInt8)} (hl : ∀ s ∈ l, s.length ≤ 20000) : ReadIs (recsL l) l (recsL l).length := by
  have := read_join hl read_nil
  simpa using this
end Go.Proofs.YtcmjdaalhokmdaaDoor
