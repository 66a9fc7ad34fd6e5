/- goods.Name: is a text one? -/
import Derived.Test.YtmhkcmoepopnoaaDoorBase
import Derived.Test.YtmhkcmoepopnoaaDoorShelf
import Derived.Lib.SlTrimSet
namespace Go.Proofs.YtmhkcmoepopnoaaDoor
open Go.RowKit

/-- A small letter or a digit. -/
def alnum (c : UInt8) : Bool := (decide (97 ≤ c.toNat) && decide (c.toNat ≤ 122)) || (decide (48 ≤ c.toNat) && decide (c.toNat ≤ 57))
def nameB (l : List UInt8) : Bool := !l.isEmpty && decide (l.length ≤ 8) && l.all alnum
def cutset : List UInt8 := [97, 98, 99, 100, 101, 102, 103, 104, 105, 106, 107, 108, 109, 110, 111, 112, 113, 114, 115, 116, 117, 118, 119, 120, 121, 122, 48, 49, 50, 51, 52, 53, 54, 55, 56, 57]
theorem cutset_alnum (c : UInt8) : cutset.contains c = alnum c := by
  have h : ∀ n : Fin 256, cutset.contains (UInt8.ofNat n.val) = alnum (UInt8.ofNat n.val) := by decide +kernel
  have := h ⟨c.toNat, c.toNat_lt⟩
  simpa using this
theorem dropWhile_all (l : List UInt8) (p : UInt8 → Bool) : l.dropWhile p = [] ↔ l.all p = true := by
  induction l with
  | nil => simp
  | cons x r ih =>
    by_cases h : p x = true
    · simp [h, ih]
    · simp [h]
theorem trimS_all (l cs : List UInt8) : Lib.trimS l cs = [] ↔ l.all (cs.contains ·) = true := by
  have hr : ∀ l : List UInt8, Lib.trimRightS l cs = [] ↔ l.all (cs.contains ·) = true := fun l => by
    unfold Lib.trimRightS
    rw [List.reverse_eq_nil_iff, dropWhile_all, List.all_reverse]
  unfold Lib.trimS Lib.trimLeftS
  rw [dropWhile_all]
  constructor
  · intro h
    -- what is left of the right trim is all in the set: so it is nothing
    have h1 : Lib.trimRightS l cs = [] := by
      unfold Lib.trimRightS at h ⊢
      rw [List.all_reverse] at h
      cases hd : l.reverse.dropWhile (cs.contains ·) with
      | nil => rfl
      | cons x r =>
        rw [hd] at h
        have hx := List.head_dropWhile_not (p := (cs.contains ·)) (l := l.reverse) (by rw [hd]; simp)
        simp only [hd, List.head_cons] at hx
        simp only [List.all_cons, Bool.and_eq_true] at h
        rw [h.1] at hx
        cases hx
    exact (hr l).1 h1
  · intro h
    rw [(hr l).2 h]
    rfl

set_option maxHeartbeats 400000 in
theorem name_any (l : List UInt8) (hs : l.length ≤ 1000000000) (w : World) :
    Calls Tryd.prog 21 #[.string ⟨l.toArray⟩] w fun e w' => e = .returned (.bool (nameB l)) ∧ Below w.heap.size w w' := by
  have hsz : (⟨l.toArray⟩ : ByteArray).size = l.length := by simp [ByteArray.size]
  by_cases h0 : l = []
  · subst h0
    go_enter Tryd.func21, Tryd.ntmps21
    go_wp2
    go_ret
    exact ⟨rfl, Below.refl _ _⟩
  · have hb1 : l.isEmpty = false := by cases l <;> simp_all
    have hb2 : (l == []) = false := by simpa using h0
    have hb3 : (!l == []) = true := by simpa using h0
    by_cases h8 : l.length ≤ 8
    · have HT := Lib.hid (Tryd.strings_Trim_laid ⟨l.toArray⟩ ⟨#[97, 98, 99, 100, 101, 102, 103, 104, 105, 106, 107, 108, 109, 110, 111, 112, 113, 114, 115, 116, 117, 118, 119, 120, 121, 122, 48, 49, 50, 51, 52, 53, 54, 55, 56, 57]⟩ w (by rw [hsz]; omega) (by decide) (ascii_of_all (by decide)))
      obtain ⟨t, ht⟩ : ∃ t, t = Lib.trimS l cutset := ⟨_, rfl⟩
      have hT := HT.out
      rw [show (⟨l.toArray⟩ : ByteArray).data.toList = l from rfl, show (⟨#[97, 98, 99, 100, 101, 102, 103, 104, 105, 106, 107, 108, 109, 110, 111, 112, 113, 114, 115, 116, 117, 118, 119, 120, 121, 122, 48, 49, 50, 51, 52, 53, 54, 55, 56, 57]⟩ : ByteArray).data.toList = cutset from rfl, ← ht] at hT
      have HTT := Lib.hid hT
      have hall := trimS_all l cutset
      rw [← ht] at hall
      have hal : l.all (cutset.contains ·) = l.all alnum := by congr 1; funext c; exact cutset_alnum c
      rw [hal] at hall
      have HN := Lib.hid (show nameB l = decide (t = []) by
        unfold nameB
        rw [hb1, decide_eq_true h8]
        simp only [Bool.not_false, Bool.true_and]
        rw [Bool.eq_iff_iff, ← hall]
        simp)
      clear HT hT ht hall hal hb1
      by_cases h9 : t = []
      · subst h9
        go_enter Tryd.func21, Tryd.ntmps21
        go_wp2_with fail
        refine HTT.out.mono ?_
        rintro e w1 ⟨rfl, b1⟩
        go_wp2
        go_ret
        exact ⟨by rw [HN.out]; rfl, b1⟩
      · have hb4 : (t == []) = false := by simpa using h9
        have hb5 : t.isEmpty = false := by cases t <;> simp_all
        go_enter Tryd.func21, Tryd.ntmps21
        go_wp2_with fail
        refine HTT.out.mono ?_
        rintro e w1 ⟨rfl, b1⟩
        go_wp2
        go_ret
        exact ⟨by rw [HN.out, decide_eq_false h9]; rfl, b1⟩
    · have HN := Lib.hid (show nameB l = false by unfold nameB; rw [decide_eq_false h8]; simp)
      clear hb1
      go_enter Tryd.func21, Tryd.ntmps21
      go_wp2
      go_ret
      exact ⟨by rw [HN.out]; rfl, Below.refl _ _⟩
set_option maxHeartbeats 400000 in
theorem name_wide (l : List UInt8) (w : World) :
    Calls Tryd.prog 21 #[.string ⟨l.toArray⟩] w fun e w' => e = .returned (.bool (nameB l)) ∧ Below w.heap.size w w' := by
  by_cases h8 : l.length ≤ 8
  · exact name_any l (by omega) w
  · have hsz : (⟨l.toArray⟩ : ByteArray).size = l.length := by simp [ByteArray.size]
    have h0 : l ≠ [] := by rintro rfl; simp at h8
    have hb2 : (l == []) = false := by simpa using h0
    have hb3 : (!l == []) = true := by simpa using h0
    have HN := Lib.hid (show nameB l = false by unfold nameB; rw [decide_eq_false h8]; simp)
    go_enter Tryd.func21, Tryd.ntmps21
    go_wp2
    go_ret
    exact ⟨by rw [HN.out]; rfl, Below.refl _ _⟩
end Go.Proofs.YtmhkcmoepopnoaaDoor
