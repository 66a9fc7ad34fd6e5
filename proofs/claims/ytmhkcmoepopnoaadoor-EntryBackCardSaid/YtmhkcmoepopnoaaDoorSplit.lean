/- Texts cut by a byte, plainly: strings.Split's answer and the document's. -/
import Derived.Test.YtmhkcmoepopnoaaDoorCut
import Derived.Test.YtmhkcmoepopnoaaDoorRPieceX
import Derived.Lib.SplitLaws
namespace Go.Proofs.YtmhkcmoepopnoaaDoor
open Go.RowKit

/-- Pieces between a byte. -/
def splitL (c : UInt8) : List UInt8 → List (List UInt8)
  | [] => [[]]
  | x :: r => if x = c then [] :: splitL c r else match splitL c r with
    | [] => [[x]]
    | p :: q => (x :: p) :: q
theorem splitL_ne (c : UInt8) (l : List UInt8) : splitL c l ≠ [] := by
  cases l with
  | nil => simp [splitL]
  | cons x r =>
    rw [splitL]
    split
    · simp
    · split <;> simp
theorem splitL_none {c : UInt8} {l : List UInt8} (h : c ∉ l) : splitL c l = [l] := by
  induction l with
  | nil => rfl
  | cons x r ih =>
    rw [splitL, if_neg (fun e => h (by rw [e]; exact List.mem_cons_self)), ih (fun e => h (List.mem_cons_of_mem _ e))]
theorem splitL_at {c : UInt8} (a b : List UInt8) (h : c ∉ a) : splitL c (a ++ c :: b) = a :: splitL c b := by
  induction a with
  | nil => rw [List.nil_append, splitL, if_pos rfl]
  | cons x r ih =>
    rw [List.cons_append, splitL, if_neg (fun e => h (by rw [e]; exact List.mem_cons_self)), ih (fun e => h (List.mem_cons_of_mem _ e))]
theorem splitL_snoc_sep (c : UInt8) (l : List UInt8) : splitL c (l ++ [c]) = splitL c l ++ [[]] := by
  induction l with
  | nil => simp [splitL]
  | cons x r ih =>
    rw [List.cons_append, splitL, splitL, ih]
    by_cases h : x = c
    · rw [if_pos h, if_pos h]; rfl
    · rw [if_neg h, if_neg h]
      cases hs : splitL c r with
      | nil => exact absurd hs (splitL_ne c r)
      | cons p q => rfl
theorem splitL_snoc {c x : UInt8} (l : List UInt8) (hx : x ≠ c) (out : List (List UInt8)) (cur : List UInt8) (h : splitL c l = out ++ [cur]) : splitL c (l ++ [x]) = out ++ [cur ++ [x]] := by
  induction l generalizing out cur with
  | nil =>
    have : out = [] ∧ cur = [] := by
      cases out with
      | nil => simpa [splitL] using h
      | cons p q => simp [splitL] at h
    rw [this.1, this.2]
    simp [splitL, hx]
  | cons y r ih =>
    rw [List.cons_append, splitL]
    rw [splitL] at h
    by_cases hy : y = c
    · rw [if_pos hy] at h ⊢
      cases out with
      | nil =>
        exfalso
        have := congrArg List.length h
        have h2 := List.length_pos_iff.2 (splitL_ne c r)
        simp at this
        exact splitL_ne c r this
      | cons p q =>
        simp only [List.cons_append, List.cons.injEq] at h
        rw [ih q cur h.2, h.1]; rfl
    · rw [if_neg hy] at h ⊢
      cases hs : splitL c r with
      | nil => exact absurd hs (splitL_ne c r)
      | cons p q =>
        rw [hs] at h
        cases out with
        | nil =>
          simp only [List.nil_append, List.cons.injEq] at h
          obtain ⟨rfl, rfl⟩ := h
          rw [ih [] p (by rw [hs]; rfl)]; rfl
        | cons p' q' =>
          simp only [List.cons_append, List.cons.injEq] at h
          obtain ⟨rfl, h2⟩ := h
          rw [ih (p :: q') cur (by rw [hs, h2]; rfl)]; rfl

theorem index_miss {l : List UInt8} {c : UInt8} (h : c ∉ l) : Lib.index l [c] = -1 := Lib.index_none (fun j _ => by
  rw [← Bool.not_eq_true, occ_one]
  intro hj
  exact h (List.mem_of_getElem? hj))
theorem index_hit {a b : List UInt8} {c : UInt8} (h : c ∉ a) : Lib.index (a ++ c :: b) [c] = (a.length : Nat) := Lib.index_first (by simp) ((occ_one _ _ _).2 (by simp)) (fun j hj => by
  rw [← Bool.not_eq_true, occ_one]
  intro hh
  rw [List.getElem?_append_left hj] at hh
  exact h (List.mem_of_getElem? hh))
theorem splitK_is (c : UInt8) (n : Nat) : ∀ l : List UInt8, l.length ≤ n → Lib.splitK [c] 0 (l.count c) l = splitL c l := by
  induction n with
  | zero =>
    intro l hl
    obtain rfl := List.eq_nil_of_length_eq_zero (Nat.le_zero.1 hl)
    rfl
  | succ n ih =>
    intro l hl
    by_cases h : c ∈ l
    · obtain ⟨a, b, rfl, ha⟩ := List.eq_append_cons_of_mem h
      have hcount : (a ++ c :: b).count c = b.count c + 1 := by
        rw [List.count_append, List.count_cons_self, List.count_eq_zero.2 ha, Nat.zero_add]
      rw [hcount, Lib.splitK, index_hit ha, if_neg (by simp), splitL_at a b ha]
      have h1 : ((a.length : Nat) : Int).toNat = a.length := by omega
      rw [h1, Nat.add_zero, List.take_left]
      have h2 : (a ++ c :: b).drop (a.length + [c].length) = b := by
        rw [← List.drop_drop, List.drop_left]; rfl
      rw [h2, ih b (by simp at hl; omega)]
    · rw [List.count_eq_zero.2 h, splitL_none h]; rfl
theorem splitB_is (s : ByteArray) (c : UInt8) : (Lib.splitB ⟨#[c]⟩ 0 (Lib.countB s ⟨#[c]⟩) s).map (·.data.toList) = splitL c (bts s) := by
  rw [Lib.splitB_data]
  have : Lib.countB s ⟨#[c]⟩ = (bts s).count c := by
    show Lib.count s.data.toList [c] = _
    rw [Lib.count_one]; rfl
  rw [this]
  exact splitK_is c _ (bts s) (Nat.le_refl _)
end Go.Proofs.YtmhkcmoepopnoaaDoor
