/- Plain facts: three-way compares, one behind the other, and the strict orders that they make. -/
import Derived.Test.YtcmjdaalhokmdaaDoorOrd
import Derived.Test.YtcmjdaalhokmdaaDoorRowK
namespace Go.Proofs.YtcmjdaalhokmdaaDoor
open Go.RowKit Go.Sort Go.Proofs

/-- A three-way compare. -/
structure CmpLike {α : Type} (c : α → α → Int) : Prop where
  swap : ∀ x y, c y x < 0 ↔ 0 < c x y
  trans : ∀ x y z, c x y ≤ 0 → c y z ≤ 0 → c x z ≤ 0
theorem CmpLike.zero {α : Type} {c : α → α → Int} (h : CmpLike c) {x y : α} (h0 : c x y = 0) : c y x = 0 := by
  have a := h.swap x y
  have b := h.swap y x
  omega
theorem CmpLike.refl {α : Type} {c : α → α → Int} (h : CmpLike c) (x : α) : c x x = 0 := by
  have a := h.swap x x
  omega
theorem CmpLike.then_ {α : Type} {c d : α → α → Int} (h : CmpLike c) (k : CmpLike d) : CmpLike fun x y => if c x y = 0 then d x y else c x y where
  swap x y := by
    have a := h.swap x y
    have b := h.swap y x
    have p := k.swap x y
    by_cases h0 : c x y = 0
    · rw [if_pos h0, if_pos (h.zero h0)]; exact p
    · rw [if_neg h0, if_neg (by omega)]; exact a
  trans x y z h1 h2 := by
    have t1 : c x y ≤ 0 := by
      by_cases h0 : c x y = 0
      · omega
      · rwa [if_neg h0] at h1
    have t2 : c y z ≤ 0 := by
      by_cases h0 : c y z = 0
      · omega
      · rwa [if_neg h0] at h2
    have t3 := h.trans x y z t1 t2
    by_cases h0 : c x z = 0
    · have h0' := h.zero h0
      have u1 := h.trans y z x t2 (by omega)
      have u2 := h.trans z x y (by omega) t1
      have s1 := h.swap y x
      have s2 := h.swap z y
      have e1 : c x y = 0 := by omega
      have e2 : c y z = 0 := by omega
      rw [if_pos e1] at h1
      rw [if_pos e2] at h2
      rw [if_pos h0]
      exact k.trans x y z h1 h2
    · rw [if_neg h0]; exact t3
theorem CmpLike.swo {α : Type} {c : α → α → Int} (h : CmpLike c) : SWO (ltOf c) where
  irrefl x := by
    have := h.refl x
    unfold ltOf
    simp [this]
  trans x y z h1 h2 := by
    unfold ltOf at *
    rw [decide_eq_true_iff] at *
    have t := h.trans x y z (by omega) (by omega)
    have s := h.swap x y
    have s3 := h.swap x z
    have s3' := h.swap z x
    by_cases h0 : c x z = 0
    · have u := h.trans y z x (by omega) (by have := h.zero h0; omega)
      have s2 := h.swap y x
      omega
    · omega
  ntrans x y z h1 h2 := by
    unfold ltOf at *
    rw [decide_eq_false_iff_not] at *
    have a1 := h.swap x y
    have a2 := h.swap y x
    have b1 := h.swap y z
    have b2 := h.swap z y
    have t := h.trans z y x (by omega) (by omega)
    have c1 := h.swap x z
    have c2 := h.swap z x
    omega
theorem CmpLike.sub {α : Type} (f : α → Int) : CmpLike fun x y => f x - f y where
  swap x y := by constructor <;> intro h <;> omega
  trans x y z h1 h2 := by omega
theorem CmpLike.ints {α : Type} (f : α → Int) : CmpLike fun x y => Lib.compareInt (f x) (f y) where
  swap x y := by
    unfold Lib.compareInt
    by_cases h1 : f x < f y
    · have : ¬ f y < f x := by omega
      simp [h1, this]
    · by_cases h2 : f y < f x <;> simp [h1, h2]
  trans x y z h1 h2 := by
    unfold Lib.compareInt at *
    by_cases a1 : f x < f y <;> by_cases a2 : f y < f x <;> by_cases b1 : f y < f z <;> by_cases b2 : f z < f y <;> simp_all <;> split <;> (try split) <;> omega
theorem CmpLike.bytes {α : Type} (f : α → List UInt8) : CmpLike fun x y => Lib.compareBytes (f x) (f y) where
  swap x y := by rw [cmpB_swap (f x) (f y)]; omega
  trans x y z h1 h2 := by
    by_cases e1 : Lib.compareBytes (f x) (f y) = 0
    · rw [(cmpB_eq _ _).1 e1]; exact h2
    · by_cases e2 : Lib.compareBytes (f y) (f z) = 0
      · rw [← (cmpB_eq _ _).1 e2]; exact h1
      · have := cmpB_trans (f x) (f y) (f z) (by omega) (by omega)
        omega
theorem CmpLike.on {α β : Type} {c : α → α → Int} (h : CmpLike c) (f : β → α) : CmpLike fun x y => c (f x) (f y) where
  swap _ _ := h.swap _ _
  trans _ _ _ := h.trans _ _ _
theorem CmpLike.congr {α : Type} {c d : α → α → Int} (h : CmpLike c) (e : ∀ x y, d x y = c x y) : CmpLike d := by
  have : d = c := funext fun x => funext fun y => e x y
  rw [this]; exact h
end Go.Proofs.YtcmjdaalhokmdaaDoor
