/- Counts: Due, IsDue. Printed by gen/dueg.py. Counts: Close. faulted, of tithebarnlaw2: an error's number and place. Counts: Due, at class a. Counts: the closed fact. LongSheet. -/
import Derived.Test.YtphgakobfegpcaaGreatDoorM01
import Derived.Test.YtphgakobfegpcaaGreatDoorM03
import Derived.Test.YtphgakobfegpcaaGreatDoorM05
import Derived.Test.YtphgakobfegpcaaGreatDoorM09
import Derived.Test.YtphgakobfegpcaaGreatDoorM20
import Derived.Test.YtphgakobfegpcaaGreatDoorM27
import Derived.Test.YtphgakobfegpcaaGreatDoorM38
import Derived.Test.YtphgakobfegpcaaGreatDoorLCountDiffs01
import Derived.Test.YtphgakobfegpcaaGreatDoorLCountDiffs08
namespace Go.Proofs.YtphgakobfegpcaaGreatDoor
open Go.RowKit Go.Proofs

/-- Days of a class; is a count due? -/
def daysOf (c : List UInt8) : Option Int := if c = [97] then some 30 else if c = [98] then some 90 else if c = [99] then some 180 else none
def dueB (c : List UInt8) (last day : Int) : Bool := match daysOf c with | some d => decide (last ≤ day - d) | none => false
def InI (a : Int) : Prop := -9223372036854775808 ≤ a ∧ a ≤ 9223372036854775807

set_option maxHeartbeats 800000 in
theorem isDue_30 (last day : Int) (hl : InI last) (hd : InI day) (w : World) : Calls Tryz.prog 25 #[.string ⟨#[97]⟩, .int .i64 last, .int .i64 day] w fun e w' => e = .returned (.bool (decide (last ≤ day - 30))) ∧ w = w' := by
  unfold InI at hl hd
  by_cases h1 : day < last
  · rw [decide_eq_false (by omega)]
    go_enter Tryz.func25, Tryz.ntmps25
    go_wp2_with fail
    go_ret
    exact ⟨rfl, rfl⟩
  · by_cases h2 : -9223372036854775808 ≤ day - 30
    · have hw : IntKind.i64.wrap (day - 30) = day - 30 := wrap_small (by omega) (by omega)
      by_cases h3 : last ≤ day - 30
      · have h4 : day - 30 ≤ day := by omega
        rw [decide_eq_true h3]
        go_enter Tryz.func25, Tryz.ntmps25
        go_wp2_with fail
        go_ret
        refine ⟨?_, rfl⟩
        simp
      · rw [decide_eq_false h3]
        go_enter Tryz.func25, Tryz.ntmps25
        go_wp2_with fail
        go_ret
        exact ⟨rfl, rfl⟩
    · have hw : IntKind.i64.wrap (day - 30) = day - 30 + 18446744073709551616 := by rw [IntKind.wrap_i64]; omega
      have h3 : last ≤ day - 30 + 18446744073709551616 := by omega
      have h4 : ¬ day - 30 + 18446744073709551616 ≤ day := by omega
      rw [decide_eq_false (by omega)]
      go_enter Tryz.func25, Tryz.ntmps25
      go_wp2_with fail
      go_ret
      refine ⟨?_, rfl⟩
      simp
set_option maxHeartbeats 800000 in
theorem isDue_90 (last day : Int) (hl : InI last) (hd : InI day) (w : World) : Calls Tryz.prog 25 #[.string ⟨#[98]⟩, .int .i64 last, .int .i64 day] w fun e w' => e = .returned (.bool (decide (last ≤ day - 90))) ∧ w = w' := by
  unfold InI at hl hd
  by_cases h1 : day < last
  · rw [decide_eq_false (by omega)]
    go_enter Tryz.func25, Tryz.ntmps25
    go_wp2_with fail
    go_ret
    exact ⟨rfl, rfl⟩
  · by_cases h2 : -9223372036854775808 ≤ day - 90
    · have hw : IntKind.i64.wrap (day - 90) = day - 90 := wrap_small (by omega) (by omega)
      by_cases h3 : last ≤ day - 90
      · have h4 : day - 90 ≤ day := by omega
        rw [decide_eq_true h3]
        go_enter Tryz.func25, Tryz.ntmps25
        go_wp2_with fail
        go_ret
        refine ⟨?_, rfl⟩
        simp
      · rw [decide_eq_false h3]
        go_enter Tryz.func25, Tryz.ntmps25
        go_wp2_with fail
        go_ret
        exact ⟨rfl, rfl⟩
    · have hw : IntKind.i64.wrap (day - 90) = day - 90 + 18446744073709551616 := by rw [IntKind.wrap_i64]; omega
      have h3 : last ≤ day - 90 + 18446744073709551616 := by omega
      have h4 : ¬ day - 90 + 18446744073709551616 ≤ day := by omega
      rw [decide_eq_false (by omega)]
      go_enter Tryz.func25, Tryz.ntmps25
      go_wp2_with fail
      go_ret
      refine ⟨?_, rfl⟩
      simp
set_option maxHeartbeats 800000 in
theorem isDue_180 (last day : Int) (hl : InI last) (hd : InI day) (w : World) : Calls Tryz.prog 25 #[.string ⟨#[99]⟩, .int .i64 last, .int .i64 day] w fun e w' => e = .returned (.bool (decide (last ≤ day - 180))) ∧ w = w' := by
  unfold InI at hl hd
  by_cases h1 : day < last
  · rw [decide_eq_false (by omega)]
    go_enter Tryz.func25, Tryz.ntmps25
    go_wp2_with fail
    go_ret
    exact ⟨rfl, rfl⟩
  · by_cases h2 : -9223372036854775808 ≤ day - 180
    · have hw : IntKind.i64.wrap (day - 180) = day - 180 := wrap_small (by omega) (by omega)
      by_cases h3 : last ≤ day - 180
      · have h4 : day - 180 ≤ day := by omega
        rw [decide_eq_true h3]
        go_enter Tryz.func25, Tryz.ntmps25
        go_wp2_with fail
        go_ret
        refine ⟨?_, rfl⟩
        simp
      · rw [decide_eq_false h3]
        go_enter Tryz.func25, Tryz.ntmps25
        go_wp2_with fail
        go_ret
        exact ⟨rfl, rfl⟩
    · have hw : IntKind.i64.wrap (day - 180) = day - 180 + 18446744073709551616 := by rw [IntKind.wrap_i64]; omega
      have h3 : last ≤ day - 180 + 18446744073709551616 := by omega
      have h4 : ¬ day - 180 + 18446744073709551616 ≤ day := by omega
      rw [decide_eq_false (by omega)]
      go_enter Tryz.func25, Tryz.ntmps25
      go_wp2_with fail
      go_ret
      refine ⟨?_, rfl⟩
      simp
set_option maxHeartbeats 800000 in
theorem isDue_any (c : List UInt8) (last day : Int) (hl : InI last) (hd : InI day) (w : World) : Calls Tryz.prog 25 #[.string ⟨c.toArray⟩, .int .i64 last, .int .i64 day] w fun e w' => e = .returned (.bool (dueB c last day)) ∧ w = w' := by
  unfold dueB daysOf
  by_cases h1 : c = [97]
  · subst h1
    exact isDue_30 last day hl hd w
  by_cases h2 : c = [98]
  · subst h2
    exact isDue_90 last day hl hd w
  by_cases h3 : c = [99]
  · subst h3
    exact isDue_180 last day hl hd w
  rw [if_neg h1, if_neg h2, if_neg h3]
  have b1 : (c == [97]) = false := by simpa using h1
  have b2 : (c == [98]) = false := by simpa using h2
  have b3 : (c == [99]) = false := by simpa using h3
  go_enter Tryz.func25, Tryz.ntmps25
  go_wp2_with fail
  go_ret
  exact ⟨rfl, rfl⟩
set_option maxHeartbeats 1600000 in
theorem due_30 (last day : Int) (hl : InI last) (hd : InI day) (w : World) : Calls Tryz.prog 24 #[.string ⟨#[97]⟩, .int .i64 last, .int .i64 day] w fun e w' => e = .returned (.bool (decide (last ≤ day - 30))) ∧ Below w.heap.size w w' := by
  have HX := Lib.hid (Tryz.strings_Index_one ⟨#[97, 98, 99]⟩ 97 w)
  have hi : Lib.indexByte (⟨#[97, 98, 99]⟩ : ByteArray).data.toList 97 = 0 := rfl
  rw [hi] at HX
  unfold InI at hl hd
  by_cases h1 : day < last
  · have hg : ¬ last ≤ day := by omega
    rw [decide_eq_false (by omega)]
    go_enter Tryz.func24, Tryz.ntmps24
    go_wp2_with fail
    refine HX.out.mono ?_
    rintro e w1 ⟨rfl, rfl⟩
    go_wp2_with fail
    go_ret
    exact ⟨rfl, below_one _ _⟩
  · have hg : last ≤ day := by omega
    by_cases h2 : day - last ≤ 9223372036854775807
    · have hw : IntKind.i64.wrap (day - last) = day - last := wrap_small (by omega) (by omega)
      by_cases h3 : 30 ≤ day - last
      · rw [decide_eq_true (by omega)]
        go_enter Tryz.func24, Tryz.ntmps24
        go_wp2_with fail
        refine HX.out.mono ?_
        rintro e w1 ⟨rfl, rfl⟩
        go_wp2_with fail
        go_ret
        exact ⟨rfl, below_one _ _⟩
      · have h4 : ¬ day - last < 0 := by omega
        rw [decide_eq_false (by omega)]
        go_enter Tryz.func24, Tryz.ntmps24
        go_wp2_with fail
        refine HX.out.mono ?_
        rintro e w1 ⟨rfl, rfl⟩
        go_wp2_with fail
        go_ret
        refine ⟨?_, below_one _ _⟩
        simp
        try omega
    · have hw : IntKind.i64.wrap (day - last) = day - last - 18446744073709551616 := by rw [IntKind.wrap_i64]; omega
      have h3 : ¬ 30 ≤ day - last - 18446744073709551616 := by omega
      have h4 : day - last - 18446744073709551616 < 0 := by omega
      rw [decide_eq_true (by omega)]
      go_enter Tryz.func24, Tryz.ntmps24
      go_wp2_with fail
      refine HX.out.mono ?_
      rintro e w1 ⟨rfl, rfl⟩
      go_wp2_with fail
      go_ret
      refine ⟨?_, below_one _ _⟩
      simp
      try omega
set_option maxHeartbeats 1600000 in
theorem due_90 (last day : Int) (hl : InI last) (hd : InI day) (w : World) : Calls Tryz.prog 24 #[.string ⟨#[98]⟩, .int .i64 last, .int .i64 day] w fun e w' => e = .returned (.bool (decide (last ≤ day - 90))) ∧ Below w.heap.size w w' := by
  have HX := Lib.hid (Tryz.strings_Index_one ⟨#[97, 98, 99]⟩ 98 w)
  have hi : Lib.indexByte (⟨#[97, 98, 99]⟩ : ByteArray).data.toList 98 = 1 := rfl
  rw [hi] at HX
  unfold InI at hl hd
  by_cases h1 : day < last
  · have hg : ¬ last ≤ day := by omega
    rw [decide_eq_false (by omega)]
    go_enter Tryz.func24, Tryz.ntmps24
    go_wp2_with fail
    refine HX.out.mono ?_
    rintro e w1 ⟨rfl, rfl⟩
    go_wp2_with fail
    go_ret
    exact ⟨rfl, below_one _ _⟩
  · have hg : last ≤ day := by omega
    by_cases h2 : day - last ≤ 9223372036854775807
    · have hw : IntKind.i64.wrap (day - last) = day - last := wrap_small (by omega) (by omega)
      by_cases h3 : 90 ≤ day - last
      · rw [decide_eq_true (by omega)]
        go_enter Tryz.func24, Tryz.ntmps24
        go_wp2_with fail
        refine HX.out.mono ?_
        rintro e w1 ⟨rfl, rfl⟩
        go_wp2_with fail
        go_ret
        exact ⟨rfl, below_one _ _⟩
      · have h4 : ¬ day - last < 0 := by omega
        rw [decide_eq_false (by omega)]
        go_enter Tryz.func24, Tryz.ntmps24
        go_wp2_with fail
        refine HX.out.mono ?_
        rintro e w1 ⟨rfl, rfl⟩
        go_wp2_with fail
        go_ret
        refine ⟨?_, below_one _ _⟩
        simp
        try omega
    · have hw : IntKind.i64.wrap (day - last) = day - last - 18446744073709551616 := by rw [IntKind.wrap_i64]; omega
      have h3 : ¬ 90 ≤ day - last - 18446744073709551616 := by omega
      have h4 : day - last - 18446744073709551616 < 0 := by omega
      rw [decide_eq_true (by omega)]
      go_enter Tryz.func24, Tryz.ntmps24
      go_wp2_with fail
      refine HX.out.mono ?_
      rintro e w1 ⟨rfl, rfl⟩
      go_wp2_with fail
      go_ret
      refine ⟨?_, below_one _ _⟩
      simp
      try omega
set_option maxHeartbeats 1600000 in
theorem due_180 (last day : Int) (hl : InI last) (hd : InI day) (w : World) : Calls Tryz.prog 24 #[.string ⟨#[99]⟩, .int .i64 last, .int .i64 day] w fun e w' => e = .returned (.bool (decide (last ≤ day - 180))) ∧ Below w.heap.size w w' := by
  have HX := Lib.hid (Tryz.strings_Index_one ⟨#[97, 98, 99]⟩ 99 w)
  have hi : Lib.indexByte (⟨#[97, 98, 99]⟩ : ByteArray).data.toList 99 = 2 := rfl
  rw [hi] at HX
  unfold InI at hl hd
  by_cases h1 : day < last
  · have hg : ¬ last ≤ day := by omega
    rw [decide_eq_false (by omega)]
    go_enter Tryz.func24, Tryz.ntmps24
    go_wp2_with fail
    refine HX.out.mono ?_
    rintro e w1 ⟨rfl, rfl⟩
    go_wp2_with fail
    go_ret
    exact ⟨rfl, below_one _ _⟩
  · have hg : last ≤ day := by omega
    by_cases h2 : day - last ≤ 9223372036854775807
    · have hw : IntKind.i64.wrap (day - last) = day - last := wrap_small (by omega) (by omega)
      by_cases h3 : 180 ≤ day - last
      · rw [decide_eq_true (by omega)]
        go_enter Tryz.func24, Tryz.ntmps24
        go_wp2_with fail
        refine HX.out.mono ?_
        rintro e w1 ⟨rfl, rfl⟩
        go_wp2_with fail
        go_ret
        exact ⟨rfl, below_one _ _⟩
      · have h4 : ¬ day - last < 0 := by omega
        rw [decide_eq_false (by omega)]
        go_enter Tryz.func24, Tryz.ntmps24
        go_wp2_with fail
        refine HX.out.mono ?_
        rintro e w1 ⟨rfl, rfl⟩
        go_wp2_with fail
        go_ret
        refine ⟨?_, below_one _ _⟩
        simp
        try omega
    · have hw : IntKind.i64.wrap (day - last) = day - last - 18446744073709551616 := by rw [IntKind.wrap_i64]; omega
      have h3 : ¬ 180 ≤ day - last - 18446744073709551616 := by omega
      have h4 : day - last - 18446744073709551616 < 0 := by omega
      rw [decide_eq_true (by omega)]
      go_enter Tryz.func24, Tryz.ntmps24
      go_wp2_with fail
      refine HX.out.mono ?_
      rintro e w1 ⟨rfl, rfl⟩
      go_wp2_with fail
      go_ret
      refine ⟨?_, below_one _ _⟩
      simp
      try omega
theorem index_abc (c : UInt8) (h1 : c ≠ 97) (h2 : c ≠ 98) (h3 : c ≠ 99) : Lib.indexByte (⟨#[97, 98, 99]⟩ : ByteArray).data.toList c = -1 := by
  simp [Lib.indexByte, Ne.symm h1, Ne.symm h2, Ne.symm h3]
set_option maxHeartbeats 1600000 in
theorem due_any (c : List UInt8) (last day : Int) (hl : InI last) (hd : InI day) (w : World) (hm : MaxG w) : Calls Tryz.prog 24 #[.string ⟨c.toArray⟩, .int .i64 last, .int .i64 day] w fun e w' => e = .returned (.bool (dueB c last day)) ∧ Below w.heap.size w w' := by
  unfold dueB daysOf
  by_cases h1 : c = [97]
  · subst h1
    exact due_30 last day hl hd w
  by_cases h2 : c = [98]
  · subst h2
    exact due_90 last day hl hd w
  by_cases h3 : c = [99]
  · subst h3
    exact due_180 last day hl hd w
  rw [if_neg h1, if_neg h2, if_neg h3]
  by_cases h4 : c.length = 1
  · obtain ⟨b, rfl⟩ := List.length_eq_one_iff.1 h4
    have HX := Lib.hid (Tryz.strings_Index_one ⟨#[97, 98, 99]⟩ b w)
    rw [index_abc b (fun e => h1 (by rw [e])) (fun e => h2 (by rw [e])) (fun e => h3 (by rw [e]))] at HX
    clear h1 h2 h3 h4 hm
    go_enter Tryz.func24, Tryz.ntmps24
    go_wp2_with fail
    refine HX.out.mono ?_
    rintro e w1 ⟨rfl, rfl⟩
    go_wp2_with fail
    go_ret
    exact ⟨rfl, Below.refl _ _⟩
  · obtain ⟨m, hm⟩ := hm
    have HX := Lib.hid (Tryz.strings_Index ⟨#[97, 98, 99]⟩ ⟨c.toArray⟩ m w (by decide) hm)
    generalize Lib.index (⟨#[97, 98, 99]⟩ : ByteArray).data.toList (⟨c.toArray⟩ : ByteArray).data.toList = ix at HX
    have h5 : ¬ ((c.length : Nat) : Int) = 1 := by omega
    have h6 : (((c.length : Nat) : Int) == 1) = false := by simpa using h5
    clear h1 h2 h3 h4
    go_enter Tryz.func24, Tryz.ntmps24
    go_wp2_with fail
    refine HX.out.mono ?_
    rintro e w1 ⟨rfl, rfl⟩
    go_wp2_with fail
    go_ret
    exact ⟨rfl, Below.refl _ _⟩
end Go.Proofs.YtphgakobfegpcaaGreatDoor
namespace Go.Proofs.YtphgakobfegpcaaGreatDoor
open Go.RowKit Go.Sort Go.Proofs

def overN (most : Int) (x : EntV) : Bool := decide (most < x.2.2.2.2.2)
def idxF (f : EntV → Bool) (l : List EntV) : Int := match l.findIdx? f with | some i => (i : Int) | none => -1
theorem idxF_any (f : EntV → Bool) (l : List EntV) : (idxF f l = -1 ∧ l.any f = false) ∨ ∃ i : Nat, idxF f l = i ∧ l.any f = true := by
  unfold idxF
  cases hf : l.findIdx? f with
  | none =>
    refine .inl ⟨rfl, ?_⟩
    rw [List.findIdx?_eq_none_iff] at hf
    exact List.any_eq_false.2 fun x hx => by simpa using hf x hx
  | some i =>
    obtain ⟨h1, h2, -⟩ := List.findIdx?_eq_some_iff_getElem.1 hf
    exact .inr ⟨i, rfl, List.any_eq_true.2 ⟨_, List.getElem_mem h1, h2⟩⟩
theorem idxF_step (f : EntV → Bool) (l : List EntV) (k : Nat) (h1 : ∀ j (h : j < l.length), j < k → f l[j] = false) (h2 : ∀ h : k < l.length, f l[k] = true) : idxF f l = if k < l.length then (k : Int) else -1 := by
  unfold idxF
  by_cases hk : k < l.length
  · have : l.findIdx? f = some k := List.findIdx?_eq_some_iff_getElem.2 ⟨hk, h2 hk, fun j hj => by simpa using h1 j (by omega) hj⟩
    rw [this, if_pos hk]
  · have : l.findIdx? f = none := by
      rw [List.findIdx?_eq_none_iff]
      intro x hx
      obtain ⟨j, hj, rfl⟩ := List.mem_iff_getElem.1 hx
      exact h1 j hj (by omega)
    rw [this, if_neg hk]

set_option maxHeartbeats 800000 in
theorem closeX_any (most : Int) (y : EntV) (b : Nat) (w : World) (h : w.heap[b]? = some (.cells #[.int .i64 most] 3 (0, 0))) :
    Calls Tryz.prog 77 #[.agg (encEnt y).toArray, .pointer (some ⟨b, 0, none⟩)] w fun e w' => e = .returned (.bool (overN most y)) ∧ Below w.heap.size w w' := by
  have hb := row_lt h
  have b0 := Lib.hid (below_one w (.cells (encEnt y).toArray 69))
  have h1 := (b0.out.block b hb).trans h
  have hy := heap_alloc_new w (.cells (encEnt y).toArray 69)
  have hc : (encEnt y)[13]? = some (.int .i64 y.2.2.2.2.2) := rfl
  have c0 := cell_of_row _ _ 0 _ _ _ h1
  have c13 := (cell_of_row _ _ 13 _ _ _ hy).trans (by simpa using hc)
  obtain ⟨r, hr⟩ : ∃ r, r = overN most y := ⟨_, rfl⟩
  rw [← hr]
  have HR : Hid (r = decide (most < y.2.2.2.2.2)) := hr
  clear h h1 hy hc hr
  generalize y.2.2.2.2.2 = n at *
  generalize encEnt y = LX at *
  simp only [List.getElem?_toArray, List.getElem?_cons_zero] at c0
  by_cases hn : most < n
  · have HT : Hid (r = true) := HR.out.trans (decide_eq_true hn)
    go_enter Tryz.func77, Tryz.ntmps77
    go_wp2_with fail
    go_ret
    rw [HT.out]
    exact ⟨by simp [hn], b0.out⟩
  · have HT : Hid (r = false) := HR.out.trans (decide_eq_false hn)
    go_enter Tryz.func77, Tryz.ntmps77
    go_wp2_with fail
    go_ret
    rw [HT.out]
    exact ⟨by simp [hn], b0.out⟩

set_option maxHeartbeats 1600000 in
set_option maxRecDepth 100000 in
theorem idxEnt_any (A : Option Addr) (cap : Nat) (l : List EntV) (most : Int) (b : Nat) (w : World) (hrow : RowAt encEnt 14 w A l) (hl : l.length ≤ 100000) (hb : w.heap[b]? = some (.cells #[.int .i64 most] 3 (0, 0))) :
    Calls Tryz.prog 126 #[.slice A l.length cap, .func (.func 77) #[] #[.pointer (some ⟨b, 0, none⟩)]] w fun e w' => e = .returned (.int .i64 (idxF (overN most) l)) ∧ Below w.heap.size w w' := by
  have HR := Lib.hid (fun W (h : Below w.heap.size w W) => hrow.below h)
  have HC := Lib.hid (fun y W (h : Below w.heap.size w W) => closeX_any most y b W ((h.block b (row_lt hb)).trans hb))
  have HF := Lib.hid (idxF_step (overN most) l)
  obtain ⟨N, hN⟩ : ∃ N, N = l.length := ⟨_, rfl⟩
  have HN := Lib.hid hN
  rw [← hN] at hl ⊢
  clear hrow hN hb
  generalize idxF (overN most) l = R at HF ⊢
  go_enter Tryz.func126, Tryz.ntmps126
  go_wp2_with fail
  go_loopw [8] (fun i wr => ∃ k : Nat, k ≤ N ∧ i = .int .i64 k ∧ Hid (∀ j (h : j < l.length), j < k → overN most l[j] = false) ∧ Hid (Below w.heap.size w wr)) (fun i _ => N - (intOf i).toNat)
  case atStart => exact ⟨0, by omega, rfl, fun j _ h => absurd h (Nat.not_lt_zero _), Below.refl _ _⟩
  case round =>
    obtain ⟨k, hk, rfl, HNO, HB⟩ := hrel
    by_cases hkN : k < N
    · have hkx : k < l.length := by rw [← HN.out]; exact hkN
      obtain ⟨g, o, rfl, lg, cg⟩ := HR.out w (Below.refl _ _) |>.resolve_left (fun h => by rw [h] at hkx; simp at hkx)
      obtain ⟨y, hy⟩ : ∃ y, y = l[k] := ⟨_, rfl⟩
      have hlies : Lies wr g (o + k * 14) (encEnt y) := fun j v hv =>
        (HB.out.cell (p := ⟨g, o + k * 14 + j, none⟩) lg).trans (cg k hkx j v (by rw [← hy]; exact hv))
      have HY := Lib.hid hy
      have HL := Lib.hid hlies
      have HCY := Lib.hid (HC.out y)
      have h5 : (encEnt y).length = 14 := rfl
      clear hy cg hlies HC
      obtain ⟨LY, hLY⟩ : ∃ LY, LY = encEnt y := ⟨_, rfl⟩
      rw [← hLY] at HCY HL h5
      clear hLY
      obtain ⟨at1, hat⟩ : ∃ at1, at1 = overN most y := ⟨_, rfl⟩
      rw [← hat] at HCY
      have HAT := Lib.hid hat
      clear hat
      go_wp2_with (refine wpList_load_at rfl 69 _ rfl g (o + k * 14) rfl LY HL.out _ Tryz.underlying69 rfl (by rw [h5]; kernel_rfl) ?_)
      refine (HCY.out wr HB.out).mono ?_
      rintro e w1 ⟨rfl, b1⟩
      have B1 := Lib.hid (HB.out.trans (b1.mono HB.out.size))
      clear b1
      cases at1 with
      | true =>
        have HT : Hid (R = (k : Int)) := by
          have := HF.out k HNO.out (fun h => by rw [← HY.out]; exact HAT.out.symm)
          rw [if_pos hkx] at this
          exact this
        go_wp2_with fail
        go_ret
        rw [HT.out]
        exact ⟨rfl, B1.out⟩
      | false =>
        have HNX : Hid (∀ j (h : j < l.length), j < k + 1 → overN most l[j] = false) := fun j hj hjk => by
          rcases Nat.lt_succ_iff_lt_or_eq.1 hjk with h | rfl
          · exact HNO.out j hj h
          · rw [← HY.out]; exact HAT.out.symm
        go_wp2_with fail
        go_roundw
        case rel => exact ⟨k + 1, by omega, by go_num, HNX.out, B1.out⟩
        case measure => simp [intOf]; omega
    · obtain rfl : k = N := by omega
      have HT : Hid (R = -1) := by
        have := HF.out k HNO.out (fun h => by rw [← HN.out] at h; omega)
        rw [if_neg (by rw [← HN.out]; omega)] at this
        exact this
      go_wp2_with fail
      go_ret
      rw [HT.out]
      exact ⟨rfl, HB.out⟩

set_option maxHeartbeats 800000 in
set_option maxRecDepth 100000 in
theorem containsEnt_any (A : Option Addr) (cap : Nat) (l : List EntV) (most : Int) (b : Nat) (w : World) (hrow : RowAt encEnt 14 w A l) (hl : l.length ≤ 100000) (hb : w.heap[b]? = some (.cells #[.int .i64 most] 3 (0, 0))) :
    Calls Tryz.prog 76 #[.slice A l.length cap, .func (.func 77) #[] #[.pointer (some ⟨b, 0, none⟩)]] w fun e w' => e = .returned (.bool (l.any (overN most))) ∧ Below w.heap.size w w' := by
  have HX := Lib.hid (idxEnt_any A cap l most b w hrow hl hb)
  have HA := Lib.hid (idxF_any (overN most) l)
  generalize l.any (overN most) = r at HA ⊢
  generalize idxF (overN most) l = fi at HA HX
  clear hrow hb
  go_enter Tryz.func76, Tryz.ntmps76
  go_wp2_with fail
  refine HX.out.mono ?_
  rintro e w1 ⟨rfl, b1⟩
  have B1 := Lib.hid b1
  rcases HA.out with ⟨rfl, rfl⟩ | ⟨i, rfl, rfl⟩
  · clear b1 HX HA
    go_wp2_with fail
    go_ret
    exact ⟨rfl, B1.out⟩
  · have hp : (0 : Int) ≤ (i : Nat) := by omega
    clear b1 HX HA
    go_wp2_with fail
    go_ret
    exact ⟨by simp, B1.out⟩

set_option maxHeartbeats 800000 in
theorem close_any (A : Option Addr) (cap : Nat) (l : List EntV) (most : Int) (w : World) (hrow : RowAt encEnt 14 w A l) (hl : l.length ≤ 100000) :
    Calls Tryz.prog 31 #[.slice A l.length cap, .int .i64 most] w fun e w' => e = .returned (.bool (!l.any (overN most))) ∧ Below w.heap.size w w' := by
  have hmf : ∀ (fn : Fn) (first cap : Array Value) (w : World), (Instr.makeFunc fn first cap).run Tryz.prog w = .ok (.func fn first cap) w := fun _ _ _ _ => rfl
  have b0 := below_one w (.cells #[.int .i64 most] 3)
  have HC := Lib.hid (containsEnt_any A cap l most w.heap.size _ (hrow.below b0) hl (heap_alloc_new w (.cells #[.int .i64 most] 3)))
  have B0 := Lib.hid b0
  generalize l.any (overN most) = r at HC ⊢
  clear hrow b0
  go_enter Tryz.func31, Tryz.ntmps31
  go_wp2_with fail
  refine HC.out.mono ?_
  rintro e w1 ⟨rfl, b1⟩
  have B1 := Lib.hid (B0.out.trans (b1.mono B0.out.size))
  clear b1
  go_wp2_with fail
  go_ret
  exact ⟨rfl, B1.out⟩
end Go.Proofs.YtphgakobfegpcaaGreatDoor
namespace Go.Proofs.YtphgakobfegpcaaGreatDoor
open Go.RowKit

set_option maxHeartbeats 800000 in
theorem faulted2_of (v : Value) (c n : Int) (w : World) (HC : Hid (∀ W, Below w.heap.size w W → Calls Tryz.prog 60 #[v] W fun e w' => e = .returned (.tuple #[.int .i64 c, .int .i64 n]) ∧ Below W.heap.size W w')) :
    Calls Tryz.prog 13 #[v, .agg #[.int .i64 c, .int .i64 n]] w fun e w' => e = .returned (.bool true) ∧ Below w.heap.size w w' := by
  have b0 := below_one w (.cells #[.int .i64 c, .int .i64 n] 32)
  have hx := heap_alloc_new w (.cells #[.int .i64 c, .int .i64 n] 32)
  by_cases hc0 : c = 0
  · subst hc0
    go_enter Tryz.func13, Tryz.ntmps13
    go_wp2_with fail
    refine (HC.out _ b0).mono ?_
    rintro e w1 ⟨rfl, b1⟩
    have hx1 := (b1.block _ (row_lt hx)).trans hx
    have c0 : w1.cell? ⟨w.heap.size, 0, none⟩ = some (.int .i64 0) := cell_of_row _ _ _ _ _ _ hx1
    have B1 := Lib.hid (b0.trans (b1.mono b0.size))
    clear b1 b0 hx hx1
    go_wp2
    go_ret
    exact ⟨rfl, B1.out⟩
  · have hcb : (c == 0) = false := by simpa using hc0
    go_enter Tryz.func13, Tryz.ntmps13
    go_wp2_with fail
    refine (HC.out _ b0).mono ?_
    rintro e w1 ⟨rfl, b1⟩
    have hx1 := (b1.block _ (row_lt hx)).trans hx
    have c0 : w1.cell? ⟨w.heap.size, 0, none⟩ = some (.int .i64 c) := cell_of_row _ _ _ _ _ _ hx1
    have c1 : w1.cell? ⟨w.heap.size, 1, none⟩ = some (.int .i64 n) := cell_of_row _ _ _ _ _ _ hx1
    have B1 := Lib.hid (b0.trans (b1.mono b0.size))
    clear b1 b0 hx hx1
    go_wp2
    go_ret
    exact ⟨rfl, B1.out⟩
/-- An error with a place, or none; an error without one. -/
theorem faulted2_some (E : Nat → Addr) (k i : Nat) (h2 : k ≤ 12) (v : Value) (w : World) (hG : ErrG E w) (hf : FltAt E (some (k, i)) v w) :
    Calls Tryz.prog 13 #[v, .agg #[.int .i64 (k : Nat), .int .i64 (i : Nat)]] w fun e w' => e = .returned (.bool true) ∧ Below w.heap.size w w' := by
  obtain ⟨h0, b, rfl, hb⟩ := hf
  rw [errOf_pos _ _ h0] at hb
  refine faulted2_of _ _ _ w fun W hw => ?_
  have hb' := (hw.block _ (row_lt hb)).trans hb
  have h := code_hit E ⟨b, 0, none⟩ (i : Nat) k W (hG.below hw) h2 (cell_of_row _ _ 0 _ _ _ hb') (isK_fault E b 0 k (by omega) h2 W (hG.below hw) (cell_of_row _ _ 1 _ _ _ hb'))
  rwa [show codeOf k = (k : Int) by unfold codeOf; rw [if_neg (by omega)]] at h
theorem faulted2_fine (w : World) : Calls Tryz.prog 13 #[.nilIface, .agg #[.int .i64 0, .int .i64 (-1)]] w fun e w' => e = .returned (.bool true) ∧ Below w.heap.size w w' :=
  faulted2_of _ _ _ w fun W hw => (code_nil W).mono fun e w' ⟨he, h⟩ => by
    subst he
    subst h
    exact ⟨rfl, Below.refl _ _⟩
theorem faulted2_sent (E : Nat → Addr) (c : Nat) (h1 : 1 ≤ c) (h2 : c ≤ 12) (w : World) (hG : ErrG E w) :
    Calls Tryz.prog 13 #[errOf E c, .agg #[.int .i64 (c : Nat), .int .i64 (-1)]] w fun e w' => e = .returned (.bool true) ∧ Below w.heap.size w w' := by
  rw [errOf_pos _ _ (by omega)]
  exact faulted2_of _ _ _ w fun W hb => code_sent E c h1 h2 W (hG.below hb)
end Go.Proofs.YtphgakobfegpcaaGreatDoor
namespace Go.Proofs.YtphgakobfegpcaaGreatDoor
open Go.RowKit Go.Proofs

set_option maxHeartbeats 800000 in
set_option maxRecDepth 100000 in
theorem dueA_any (n : Int) (h0 : 0 ≤ n) (h1 : n ≤ 1000) (w : World) :
    Calls Tryz.prog 24 #[.string ⟨#[97]⟩, .int .i64 0, .int .i64 n] w fun e w' => e = .returned (.bool (decide (30 ≤ n))) ∧ Below w.heap.size w w' := by
  have HX := Lib.hid (Tryz.strings_Index_one ⟨#[97, 98, 99]⟩ 97 w)
  have hi : Lib.indexByte (⟨#[97, 98, 99]⟩ : ByteArray).data.toList 97 = 0 := rfl
  rw [hi] at HX
  have hw : IntKind.i64.wrap n = n := wrap_small (by omega) (by omega)
  by_cases h30 : 30 ≤ n
  · rw [decide_eq_true h30]
    go_enter Tryz.func24, Tryz.ntmps24
    go_wp2_with fail
    refine HX.out.mono ?_
    rintro e w1 ⟨rfl, rfl⟩
    go_wp2_with fail
    go_ret
    exact ⟨rfl, below_one _ _⟩
  · rw [decide_eq_false h30]
    go_enter Tryz.func24, Tryz.ntmps24
    go_wp2_with fail
    refine HX.out.mono ?_
    rintro e w1 ⟨rfl, rfl⟩
    go_wp2_with fail
    go_ret
    refine ⟨?_, below_one _ _⟩
    show Ending.returned (Value.bool (decide (30 ≤ n) || decide (n < 0))) = _
    rw [decide_eq_false (show ¬ 30 ≤ n by omega), decide_eq_false (show ¬ n < 0 by omega)]
    rfl
end Go.Proofs.YtphgakobfegpcaaGreatDoor
namespace Go.Proofs.YtphgakobfegpcaaGreatDoor
open Go.RowKit Go.Sort Go.Proofs

def oneLine : LineV := (([97], 1, 1), [108, 49], 5)
theorem one_sheet : sheetF [] [oneLine] = none := by decide

set_option maxHeartbeats 800000 in
set_option maxRecDepth 100000 in
theorem counted_any (E : Nat → Addr) (w : World) (hG : BkG E w) :
    Calls Tryz.prog 16 #[] w fun e w' => e = .returned (.bool true) ∧ Below w.heap.size w w' := by
  have b0 := below_two w (.cells #[.string ⟨#[97]⟩, .int .i64 1, .int .i64 1] 67) (.cells #[.string ⟨#[97]⟩, .int .i64 1, .int .i64 1, .string ⟨#[108, 49]⟩, .int .i64 5] 128)
  have hr : RowAt encLine 5 ((w.alloc (.cells #[.string ⟨#[97]⟩, .int .i64 1, .int .i64 1] 67)).alloc (.cells #[.string ⟨#[97]⟩, .int .i64 1, .int .i64 1, .string ⟨#[108, 49]⟩, .int .i64 5] 128)) (some ⟨w.heap.size + 1, 0, none⟩) [oneLine] := by
    exact row_one (x := oneLine) (heap_new2 w _ _)
  have HC := Lib.hid (cntCheck_any E (some ⟨w.heap.size + 1, 0, none⟩) 1 [oneLine] _ hr (by decide) (by decide) (hG.below b0))
  have H1 := Lib.hid (fun W => dueA_any 30 (by decide) (by decide) W)
  have H2 := Lib.hid (fun W => dueA_any 29 (by decide) (by decide) W)
  have B0 := Lib.hid b0
  rw [one_sheet] at HC
  clear hr b0 hG
  go_enter Tryz.func16, Tryz.ntmps16
  go_wp2_with fail
  refine HC.out.mono ?_
  rintro e w1 ⟨v, rfl, hv, b1⟩
  have hv' : v = .nilIface := hv
  subst hv'
  have B1 := Lib.hid (B0.out.trans (b1.mono B0.out.size))
  clear b1 hv HC
  go_wp2_with fail
  refine (H1.out w1).mono ?_
  rintro e w2 ⟨rfl, b2⟩
  have B2 := Lib.hid (B1.out.trans (b2.mono B1.out.size))
  clear b2
  go_wp2_with fail
  refine (H2.out w2).mono ?_
  rintro e w3 ⟨rfl, b3⟩
  have B3 := Lib.hid (B2.out.trans (b3.mono B2.out.size))
  clear b3
  go_wp2_with fail
  go_ret
  exact ⟨rfl, B3.out⟩
end Go.Proofs.YtphgakobfegpcaaGreatDoor
namespace Go.Proofs.YtphgakobfegpcaaGreatDoor
open Go.RowKit Go.Sort Go.Proofs

/-- 1 if a sheet is too long for a statement. -/
def longS (l : List LineV) : Nat := if 30 < l.length then 1 else if l.any (fun x => decide (30 < x.1.1.length ∨ 30 < x.2.1.length)) = true then 1 else 0
theorem longS_short {l : List LineV} (h : longS l = 0) : l.length ≤ 30 ∧ ∀ x ∈ l, x.1.1.length ≤ 30 ∧ x.2.1.length ≤ 30 := by
  unfold longS at h
  split at h
  · cases h
  split at h
  · cases h
  rename_i h1 h2
  refine ⟨by omega, fun x hx => ?_⟩
  by_cases h3 : 30 < x.1.1.length ∨ 30 < x.2.1.length
  · exact absurd (List.any_eq_true.2 ⟨x, hx, by simpa using h3⟩) h2
  · omega

set_option maxHeartbeats 1600000 in
set_option maxRecDepth 100000 in
theorem longSheet_any (A : Option Addr) (cap : Nat) (l : List LineV) (w : World) (hrow : RowAt encLine 5 w A l) :
    Calls Tryz.prog 21 #[.slice A l.length cap] w fun e w' => e = .returned (.int .i64 (longS l : Nat)) ∧ Below w.heap.size w w' := by
  have HR := Lib.hid (fun W (h : Below w.heap.size w W) => hrow.below h)
  obtain ⟨r, hr⟩ : ∃ r, r = longS l := ⟨_, rfl⟩
  rw [← hr]
  unfold longS at hr
  have HRR := Lib.hid hr
  obtain ⟨N, hN⟩ : ∃ N, N = l.length := ⟨_, rfl⟩
  have HN := Lib.hid hN
  rw [← hN] at HRR ⊢
  clear hr hrow
  by_cases hm : 30 < N
  · have HT := Lib.hid (HRR.out.trans (if_pos hm))
    have hm' : (30 : Int) < (N : Nat) := by omega
    clear hN
    go_enter Tryz.func21, Tryz.ntmps21
    go_wp2_with fail
    go_ret
    rw [HT.out]
    exact ⟨rfl, Below.refl _ _⟩
  have HT := Lib.hid (HRR.out.trans (if_neg hm))
  have hm' : ¬ (30 : Int) < (N : Nat) := by omega
  have hNb : N ≤ 30 := by omega
  clear hN HRR
  go_enter Tryz.func21, Tryz.ntmps21
  go_wp2_with fail
  go_loopw [3] (fun i wr => ∃ k : Nat, k ≤ N ∧ i = .int .i64 k ∧ Hid (∀ j (h : j < l.length), j < k → ¬ (30 < l[j].1.1.length ∨ 30 < l[j].2.1.length)) ∧ Hid (Below w.heap.size w wr)) (fun i _ => N - (intOf i).toNat)
  case atStart => exact ⟨0, by omega, rfl, fun j _ h => absurd h (Nat.not_lt_zero _), Below.refl _ _⟩
  case round =>
    obtain ⟨k, hk, rfl, HNO, HB⟩ := hrel
    by_cases hkN : k < N
    · have hkx : k < l.length := by rw [← HN.out]; exact hkN
      obtain ⟨g, o, rfl, lg, cg⟩ := HR.out w (Below.refl _ _) |>.resolve_left (fun h => by rw [h] at hkx; simp at hkx)
      obtain ⟨x, hx⟩ : ∃ x, x = l[k] := ⟨_, rfl⟩
      obtain ⟨e0, -, -, e3, -⟩ := range5L (x := x) (w := wr) (b := g) (o := o + k * 5) (fun j v hv =>
        (HB.out.cell (p := ⟨g, o + k * 5 + j, none⟩) lg).trans (cg k hkx j v (by rw [← hx]; exact hv)))
      have HX := Lib.hid hx
      clear cg
      by_cases h1 : 30 < x.1.1.length
      · have HT1 : Hid (r = 1) := by
          show _ = _
          rw [HT.out, if_pos]
          exact List.any_eq_true.2 ⟨x, by rw [HX.out]; exact List.getElem_mem hkx, by simp [h1]⟩
        have h1' : (30 : Int) < (x.1.1.length : Nat) := by omega
        generalize x.1.1 = za at e0 h1 h1'
        clear h1 hx
        go_wp2_with fail
        go_ret
        rw [HT1.out]
        exact ⟨rfl, HB.out⟩
      by_cases h2 : 30 < x.2.1.length
      · have HT1 : Hid (r = 1) := by
          show _ = _
          rw [HT.out, if_pos]
          exact List.any_eq_true.2 ⟨x, by rw [HX.out]; exact List.getElem_mem hkx, by simp [h2]⟩
        have h1' : ¬ (30 : Int) < (x.1.1.length : Nat) := by omega
        have h2' : (30 : Int) < (x.2.1.length : Nat) := by omega
        generalize x.1.1 = za at e0 h1 h1'
        generalize x.2.1 = zb at e3 h2 h2'
        clear h1 h2 hx
        go_wp2_with fail
        go_ret
        rw [HT1.out]
        exact ⟨rfl, HB.out⟩
      have HNX : Hid (∀ j (h : j < l.length), j < k + 1 → ¬ (30 < l[j].1.1.length ∨ 30 < l[j].2.1.length)) := fun j hj hjk => by
        rcases Nat.lt_succ_iff_lt_or_eq.1 hjk with h | rfl
        · exact HNO.out j hj h
        · rw [← HX.out]; omega
      have h1' : ¬ (30 : Int) < (x.1.1.length : Nat) := by omega
      have h2' : ¬ (30 : Int) < (x.2.1.length : Nat) := by omega
      generalize x.1.1 = za at e0 h1 h1'
      generalize x.2.1 = zb at e3 h2 h2'
      clear h1 h2 hx
      go_wp2_with fail
      go_roundw
      case rel => exact ⟨k + 1, by omega, by go_num, HNX.out, HB.out⟩
      case measure => simp [intOf]; omega
    · obtain rfl : k = N := by omega
      have HT1 : Hid (r = 0) := by
        show _ = _
        rw [HT.out, if_neg]
        intro h
        obtain ⟨x, hx, h1⟩ := List.any_eq_true.1 h
        obtain ⟨j, hj, rfl⟩ := List.mem_iff_getElem.1 hx
        exact HNO.out j hj (by rw [HN.out]; exact hj) (by simpa using h1)
      go_wp2_with fail
      go_ret
      rw [HT1.out]
      exact ⟨rfl, HB.out⟩
end Go.Proofs.YtphgakobfegpcaaGreatDoor
