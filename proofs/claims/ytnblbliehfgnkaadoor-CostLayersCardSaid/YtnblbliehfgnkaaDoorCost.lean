/- Package cost as its callers use it. -/
import Derived.Test.YtnblbliehfgnkaaDoorIn
import Derived.Test.YtnblbliehfgnkaaDoorOut
import Derived.Test.YtnblbliehfgnkaaDoorText
namespace Go.Proofs.YtnblbliehfgnkaaDoor
open Go.RowKit

theorem new_any (w : World) : Calls Tryd.prog 14 #[] w fun e w' => e = .returned (.pointer (some ⟨w.heap.size, 0, none⟩)) ∧ w' = w.alloc (.cells #[.slice none 0 0] 84) := by
  go_enter Tryd.func14, Tryd.ntmps14
  go_wp2
  go_ret
  exact ⟨rfl, rfl⟩

/-- What layers are behind an In; behind an Out; what Out answers. -/
def inS (ls : Ls) (n c : Int) : Ls := if inE ls n c = 0 then inL ls n.toNat c.toNat else ls
def outS (ls : Ls) (n : Int) : Ls := if outE ls n = 0 then (outL ls n.toNat).2 else ls
def outN (ls : Ls) (n : Int) : Nat := if outE ls n = 0 then (outL ls n.toNat).1 else 0

theorem in_gen (E : Nat → Addr) (p g : Nat) (ls : Ls) (n c : Int) (w : World) (hE : ErrAt 1 (E 2) w) (hL : Lay w p g ls) (hk : OkL ls) (hlen : ls.length ≤ 1000000) :
    Calls Tryd.prog 15 #[.pointer (some ⟨p, 0, none⟩), .int .i64 n, .int .i64 c] w fun e w' => e = .returned (errOf E (inE ls n c)) ∧
      ∃ g', Lay w' p g' (inS ls n c) ∧ Only p g w w' ∧ (g' = g ∨ w.heap.size ≤ g') := by
  by_cases h : n < 1 ∨ 1099511627776 < n ∨ c < 0 ∨ 1048576 < c ∨ 1099511627776 - (hasL ls : Int) < n
  · have e : inE ls n c = 2 := if_pos h
    refine (in_no (E 2) p g ls n c w hE hL hk hlen h).mono ?_
    rintro e' w' ⟨rfl, hb⟩
    refine ⟨by rw [e]; rfl, g, ?_, Only.of_below hb, .inl rfl⟩
    simp only [inS, e]
    exact hL.below hb
  · have e : inE ls n c = 0 := if_neg h
    obtain ⟨m, rfl⟩ := Int.eq_ofNat_of_zero_le (show (0 : Int) ≤ n by omega)
    obtain ⟨d, rfl⟩ := Int.eq_ofNat_of_zero_le (show (0 : Int) ≤ c by omega)
    refine (in_yes p g ls m d w hL hk hlen (by omega) (by omega) (by omega)).mono ?_
    rintro e' w' ⟨rfl, g', h1, h2, h3⟩
    refine ⟨by rw [e]; rfl, g', ?_, h2, h3⟩
    simp only [inS, e]
    exact h1

theorem out_gen (E : Nat → Addr) (p g : Nat) (ls : Ls) (n : Int) (w : World) (hE : ErrAt 1 (E 2) w) (hE9 : ErrAt 8 (E 9) w) (hL : Lay w p g ls) (hk : OkL ls) (hlen : ls.length ≤ 1000000) :
    Calls Tryd.prog 16 #[.pointer (some ⟨p, 0, none⟩), .int .i64 n] w fun e w' => e = .returned (.tuple #[.int .i64 (outN ls n : Nat), errOf E (outE ls n)]) ∧
      Lay w' p g (outS ls n) ∧ Only p g w w' := by
  by_cases h : n < 1 ∨ 1099511627776 < n
  · have e : outE ls n = 2 := if_pos h
    refine (out_bound (E 2) p n w hE h).mono ?_
    rintro e' w' ⟨rfl, hb⟩
    refine ⟨by rw [e]; simp only [outN, e]; rfl, ?_, Only.of_below hb⟩
    simp only [outS, e]
    exact hL.below hb
  · by_cases h2 : (hasL ls : Int) < n
    · have e : outE ls n = 9 := by unfold outE; rw [if_neg h, if_pos h2]
      refine (out_short (E 9) p g ls n w hE9 hL hk hlen (by omega) (by omega) h2).mono ?_
      rintro e' w' ⟨rfl, hb⟩
      refine ⟨by rw [e]; simp only [outN, e]; rfl, ?_, Only.of_below hb⟩
      simp only [outS, e]
      exact hL.below hb
    · have e : outE ls n = 0 := by unfold outE; rw [if_neg h, if_neg h2]
      obtain ⟨m, rfl⟩ := Int.eq_ofNat_of_zero_le (show (0 : Int) ≤ n by omega)
      refine (out_yes p g ls m w hL hk hlen (by omega) (by omega)).mono ?_
      rintro e' w' ⟨rfl, h1, h2⟩
      refine ⟨by rw [e]; simp only [outN, e]; rfl, ?_, h2⟩
      simp only [outS, e]
      exact h1

/-- Layers stay as they can be. -/
theorem inS_ok (ls : Ls) (n c : Int) (hk : OkL ls) : OkL (inS ls n c) := by
  unfold inS
  split
  · next h =>
    unfold inE at h
    split at h
    · cases h
    · exact inL_ok ls _ _ hk (by omega) (by omega) (by omega)
  · exact hk
theorem inS_length (ls : Ls) (n c : Int) : (inS ls n c).length ≤ ls.length + 1 := by
  unfold inS
  split
  · exact inL_length _ _ _
  · omega
theorem outS_ok (ls : Ls) (n : Int) (hk : OkL ls) : OkL (outS ls n) := by
  unfold outS
  split
  · next h =>
    unfold outE at h
    split at h
    · cases h
    · split at h
      · cases h
      · exact outL_ok ls _ hk (by omega)
  · exact hk
theorem outS_length (ls : Ls) (n : Int) : (outS ls n).length ≤ ls.length := by
  unfold outS
  split
  · exact outL_length _ _
  · omega
theorem outS_worth (ls : Ls) (n : Int) : outN ls n + worthL (outS ls n) = worthL ls := by
  unfold outS outN
  split
  · exact outL_worth _ _
  · omega
theorem inS_worth (ls : Ls) (n c : Int) : (worthL (inS ls n c) : Int) = worthL ls + (if inE ls n c = 0 then n * c else 0) := by
  unfold inS
  split
  · next h =>
    unfold inE at h
    split at h
    · cases h
    · rw [inL_worth]
      obtain ⟨m, rfl⟩ := Int.eq_ofNat_of_zero_le (show (0 : Int) ≤ n by omega)
      obtain ⟨d, rfl⟩ := Int.eq_ofNat_of_zero_le (show (0 : Int) ≤ c by omega)
      simp
  · omega

set_option maxHeartbeats 800000 in
set_option maxRecDepth 100000 in
theorem cheap_any (w : World) (hT : TabG w) : Calls Tryd.prog 13 #[] w fun e w' => e = .returned (.bool true) ∧ Below w.heap.size w w' := by
  go_enter Tryd.func13, Tryd.ntmps13
  go_wp2_with fail
  refine (new_any _).mono ?_
  rintro e w1 ⟨rfl, rfl⟩
  have L1 : Lay (w.alloc (.cells #[.slice none 0 0] 84)) w.heap.size w.heap.size [] := .inl ⟨rfl, rfl, heap_alloc_new _ _⟩
  have b1 := (Below.refl w.heap.size w).alloc (Nat.le_refl _) (.cells #[.slice none 0 0] 84)
  go_wp2_with fail
  refine (in_yes w.heap.size w.heap.size [] 3 5 _ L1 ⟨by simp [hasL], by simp, by simp⟩ (by simp) (by omega) (by simp [hasL]) (by omega)).mono ?_
  rintro e w2 ⟨rfl, g2, L2, o2, d2⟩
  have b2 := o2.below b1 (Nat.le_refl _) (Nat.le_refl _) b1.size
  have hg2 : w.heap.size ≤ g2 := by have := b1.size; omega
  go_wp2_with fail
  refine (in_yes w.heap.size g2 [(3, 5)] 2 7 _ L2 ⟨by simp [hasL], by simp, by simp⟩ (by simp) (by omega) (by simp [hasL]) (by omega)).mono ?_
  rintro e w3 ⟨rfl, g3, L3, o3, d3⟩
  have b3 := o3.below b2 (Nat.le_refl _) hg2 b2.size
  have hg3 : w.heap.size ≤ g3 := by have := b2.size; omega
  go_wp2_with fail
  refine (out_yes w.heap.size g3 [(3, 5), (2, 7)] 4 _ L3 ⟨by simp [hasL], by simp, by simp⟩ (by simp) (by omega) (by simp [hasL])).mono ?_
  rintro e w4 ⟨rfl, L4, o4⟩
  have b4 := o4.below b3 (Nat.le_refl _) hg3 b3.size
  have e4 : outL [(3, 5), (2, 7)] 4 = (22, [(1, 7)]) := by decide
  rw [e4] at L4 ⊢
  go_wp2_with fail
  refine (text_any w.heap.size g3 [(1, 7)] _ (hT.below b4) L4 ⟨by simp [hasL], by simp, by simp⟩ (by simp)).mono ?_
  rintro e w5 ⟨rfl, b5⟩
  have e5 : textL [(1, 7)] = [49, 64, 55] := by
    simp only [textL, List.map_cons, List.map_nil, Lib.join_one, itemL]
    rw [itoa_nat _ (by omega), itoa_nat _ (by omega), Lib.decDigits_one (by omega), Lib.decDigits_one (by omega)]; rfl
  rw [e5]
  go_wp2
  go_ret
  exact ⟨rfl, b4.trans (b5.mono b4.size)⟩

end Go.Proofs.YtnblbliehfgnkaaDoor
