/- Places: Check; what a compare of well places tells. -/
import Derived.Test.YtmhkcmoepopnoaaDoorName
import Derived.Test.YtmhkcmoepopnoaaDoorWith
import Derived.Test.YtmhkcmoepopnoaaDoorRowK
import Derived.Test.YtmhkcmoepopnoaaDoorOrd
import Derived.Test.YtmhkcmoepopnoaaDoorNum
import Derived.Laws.StructEq
namespace Go.Proofs.YtmhkcmoepopnoaaDoor
open Go.RowKit Go.Sort Go.Proofs

/-- A place: its zone, its row, its bay. -/
abbrev PlaceV := List UInt8 × Int × Int
def encPlace (x : PlaceV) : List Value := [.string ⟨x.1.toArray⟩, .int .i64 x.2.1, .int .i64 x.2.2]
theorem encPlace_len (x : PlaceV) : (encPlace x).length = 3 := rfl
theorem encPlace_one (x : PlaceV) : ∀ v ∈ encPlace x, v.oneCell' = true := fun v hv => by
  simp [encPlace] at hv
  rcases hv with rfl | rfl | rfl <;> rfl

/-- The number of a place's error. -/
def placeE (x : PlaceV) : Nat := if nameB x.1 = false then 5 else if x.2.1 < 1 ∨ 20 < x.2.1 ∨ x.2.2 < 1 ∨ 40 < x.2.2 then 2 else 0
theorem placeE_zero {x : PlaceV} : placeE x = 0 ↔ nameB x.1 = true ∧ 1 ≤ x.2.1 ∧ x.2.1 ≤ 20 ∧ 1 ≤ x.2.2 ∧ x.2.2 ≤ 40 := by
  unfold placeE
  cases hn : nameB x.1
  · simp
  · simp only [Bool.true_eq_false, if_false]
    split
    · simp; omega
    · simp; omega
theorem nameB_len {l : List UInt8} (h : nameB l = true) : 1 ≤ l.length ∧ l.length ≤ 8 := by
  unfold nameB at h
  simp at h
  refine ⟨?_, h.1.2⟩
  cases l with
  | nil => simp at h
  | cons x r => simp

/-- The variables that hold the two errors. -/
structure PlaceG (E : Nat → Addr) (w : World) : Prop where
  name : ErrAt 2 (E 5) w
  bound : ErrAt 3 (E 2) w
  tab : TabG w
theorem PlaceG.below {E : Nat → Addr} {w w' : World} (h : PlaceG E w) (hb : Below w.heap.size w w') : PlaceG E w' := ⟨h.name.below hb, h.bound.below hb, h.tab.below hb⟩

/-- The two errors alone. -/
structure PlaceCG (E : Nat → Addr) (w : World) : Prop where
  name : ErrAt 2 (E 5) w
  bound : ErrAt 3 (E 2) w
theorem PlaceCG.below {E : Nat → Addr} {w w' : World} (h : PlaceCG E w) (hb : Below w.heap.size w w') : PlaceCG E w' := ⟨h.name.below hb, h.bound.below hb⟩
theorem placeE_wi (x : PlaceV) : placeE x = if nameB x.1 = false then 5 else if wiB x.2.1 1 20 = false then 2 else if wiB x.2.2 1 40 = false then 2 else 0 := by
  unfold placeE wiB
  cases nameB x.1
  · rfl
  · simp only [Bool.true_eq_false, if_false, decide_eq_false_iff_not]
    split
    · split
      · rfl
      · rw [if_pos (by omega)]
    · rw [if_neg (by omega), if_neg (by omega)]

set_option maxHeartbeats 400000 in
theorem checkPlace_c (E : Nat → Addr) (x : PlaceV) (w : World) (hG : PlaceCG E w) :
    Calls Tryd.prog 31 #[.agg (encPlace x).toArray] w fun e w' => e = .returned (errOf E (placeE x)) ∧ Below w.heap.size w w' := by
  have HE := Lib.hid (placeE_wi x)
  obtain ⟨a1, a2, a3⟩ := x
  have HN := Lib.hid (fun W => name_wide a1 W)
  have H2 := Lib.hid (within_any a2 1 20)
  have H3 := Lib.hid (within_any a3 1 40)
  have g1 := hG.name
  have g2 := hG.bound
  have l1 := lt_of_cell g1
  have l2 := lt_of_cell g2
  simp only at l1 l2
  unfold ErrAt at g1 g2
  simp only [encPlace] at HE ⊢
  clear hG
  generalize nameB a1 = nm at HN HE
  generalize wiB a2 1 20 = p2 at H2 HE
  generalize wiB a3 1 40 = p3 at H3 HE
  go_enter Tryd.func31, Tryd.ntmps31
  go_wp2_with fail
  refine (HN.out _).mono ?_
  rintro e w1 ⟨rfl, b1⟩
  obtain ⟨hc, hf⟩ := bcell b1
  have B1 : Hid (Below w.heap.size w w1) := ((Below.refl _ _).alloc (Nat.le_refl _) _).trans (b1.mono (by simp))
  clear b1 HN
  cases nm with
  | false =>
    go_wp2_with fail
    go_ret
    rw [HE.out]
    exact ⟨rfl, B1.out⟩
  | true =>
    go_wp2_with fail
    refine (H2.out _).mono ?_
    rintro e w2 ⟨rfl, rfl⟩
    cases p2 with
    | false =>
      go_wp2_with fail
      go_ret
      rw [HE.out]
      exact ⟨rfl, B1.out⟩
    | true =>
      go_wp2_with fail
      refine (H3.out _).mono ?_
      rintro e w2 ⟨rfl, rfl⟩
      cases p3 with
      | false =>
        go_wp2_with fail
        go_ret
        rw [HE.out]
        exact ⟨rfl, B1.out⟩
      | true =>
        go_wp2_with fail
        go_ret
        rw [HE.out]
        exact ⟨rfl, B1.out⟩
theorem checkPlace_any (E : Nat → Addr) (x : PlaceV) (w : World) (hG : PlaceG E w) :
    Calls Tryd.prog 31 #[.agg (encPlace x).toArray] w fun e w' => e = .returned (errOf E (placeE x)) ∧ Below w.heap.size w w' := checkPlace_c E x w ⟨hG.name, hG.bound⟩
end Go.Proofs.YtmhkcmoepopnoaaDoor
