/- Slices of strings, as a walk reads them; the same texts? -/
import Derived.Test.YtcmjdaalhokmdaaDoorBase
import Derived.Laws.AppendOwn
namespace Go.Proofs.YtcmjdaalhokmdaaDoor
open Go.RowKit

/-- The slice at A reads as the texts xs. -/
def StrsAt (w : World) (A : Option Addr) (xs : List (List UInt8)) : Prop :=
  xs = [] ∨ ∃ b o, A = some ⟨b, o, none⟩ ∧ b < w.heap.size ∧ ∀ i (h : i < xs.length), w.cell? ⟨b, o + i, none⟩ = some (.string ⟨xs[i].toArray⟩)
theorem StrsAt.below {w w' : World} {A : Option Addr} {xs : List (List UInt8)} (h : StrsAt w A xs) (hb : Below w.heap.size w w') : StrsAt w' A xs := by
  rcases h with h | ⟨b, o, h1, h2, h3⟩
  · exact .inl h
  · exact .inr ⟨b, o, h1, Nat.lt_of_lt_of_le h2 hb.size, fun i hi => (hb.cell h2).trans (h3 i hi)⟩
def strVals (xs : List (List UInt8)) : List Value := xs.map fun x => .string ⟨x.toArray⟩
theorem strVals_length (xs : List (List UInt8)) : (strVals xs).length = xs.length := by simp [strVals]
theorem StrsAt.of_own {w : World} {B : Nat} {v : Value} {xs : List (List UInt8)} (h : w.ownsRow B 9 1 v xs.length (strVals xs)) : ∃ A cap, v = .slice A xs.length cap ∧ StrsAt w A xs ∧ ∀ a, A = some a → B ≤ a.block := by
  rcases h.2 with ⟨rfl, h0⟩ | ⟨g, cap, cur, rfl, hB, hg, _, _, _, ht⟩
  · obtain rfl := List.eq_nil_of_length_eq_zero h0
    exact ⟨_, _, rfl, .inl rfl, fun a ha => by cases ha⟩
  · refine ⟨_, _, rfl, .inr ⟨g, 0, rfl, ?_, fun i hi => ?_⟩, fun a ha => by cases ha; exact hB⟩
    · rcases Nat.lt_or_ge g w.heap.size with hl | hl
      · exact hl
      · rw [Array.getElem?_eq_none hl] at hg; cases hg
    · rw [cell_of_row w g _ cur _ _ hg, Nat.zero_add, ← Array.getElem?_toList, ← List.getElem?_take_of_lt (l := cur.toList) (show i < xs.length * 1 by omega), ht]
      simp [strVals, List.getElem?_eq_getElem hi]

theorem stringInfo1 : (Tryd.prog.info? 9).map (fun i => (i.zero, i.size, i.bytes)) = some (some (.string ⟨#[]⟩), 1, 16) := by kernel_rfl

/-- Two lists are alike up to k. -/
theorem alike_step {xs ys : List (List UInt8)} (k : Nat) (h1 : k < xs.length) (h2 : k < ys.length) (h : xs.take k = ys.take k) (he : xs[k] = ys[k]) : xs.take (k + 1) = ys.take (k + 1) := by
  rw [List.take_succ_eq_append_getElem h1, List.take_succ_eq_append_getElem h2, h, he]

set_option maxHeartbeats 800000 in
theorem sameTexts_any (A A' : Option Addr) (c c' : Nat) (xs ys : List (List UInt8)) (w : World) (hx : StrsAt w A xs) (hy : StrsAt w A' ys) (hl : xs.length ≤ 1000000000) :
    Calls Tryd.prog 20 #[.slice A xs.length c, .slice A' ys.length c'] w fun e w' => e = .returned (.bool (decide (xs = ys))) ∧ Below w.heap.size w w' := by
  by_cases hlen : xs.length = ys.length
  · have HL := Lib.hid hlen
    have hb0 : decide (xs.length = ys.length) = true := by simpa using hlen
    have HX := Lib.hid hx
    have HY := Lib.hid hy
    clear hx hy hlen hb0
    obtain ⟨n, hn⟩ : ∃ n, n = xs.length := ⟨_, rfl⟩
    have e2 : ys.length = n := by rw [hn]; exact HL.out.symm
    have HN := Lib.hid hn
    have HN2 := Lib.hid e2
    rw [← hn] at hl
    rw [e2, ← hn]
    clear hn e2
    go_enter Tryd.func20, Tryd.ntmps20
    go_wp2
    go_loopw [5] (fun i wr => ∃ k : Nat, k ≤ n ∧ i = .int .i64 k ∧ xs.take k = ys.take k ∧ ∃ m, wr = w.drewN m) (fun i _ => n - (intOf i).toNat)
    case atStart => exact ⟨0, by omega, rfl, rfl, 0, rfl⟩
    case round =>
      obtain ⟨k, hk, rfl, hek, m, rfl⟩ := hrel
      have HE := Lib.hid hek
      clear hek
      by_cases hlt : k < n
      · have hkx : k < xs.length := by rw [← HN.out]; exact hlt
        have hky : k < ys.length := by rw [HN2.out]; exact hlt
        obtain ⟨bx, ox, rfl, lx, cx⟩ := HX.out.resolve_left (fun h => by rw [h] at hkx; simp at hkx)
        obtain ⟨by', oy, rfl, ly, cy⟩ := HY.out.resolve_left (fun h => by rw [h] at hky; simp at hky)
        have dx := cx k hkx
        have dy := cy k hky
        clear cx cy
        have i1 : (k : Int) < (n : Int) := by omega
        have i0 : (0 : Int) ≤ (k : Int) := by omega
        by_cases he : xs[k] = ys[k]
        · have HS := Lib.hid (alike_step k hkx hky HE.out he)
          rw [← he] at dy
          generalize xs[k] = x at dx dy
          clear he
          go_wp2_with fail
          go_quiet (fail)
          go_wp2_with fail
          go_roundw
          case rel => exact ⟨k + 1, by omega, by go_num, HS.out, _, rfl⟩
          case measure => simp [intOf]; omega
        · have HNE := Lib.hid (show ¬ xs = ys from fun h => he (by simp [h]))
          have hb : (xs[k] == ys[k]) = false := by simpa using he
          clear he
          generalize xs[k] = x at dx hb
          generalize ys[k] = y at dy hb
          go_wp2_with fail
          go_quiet (fail)
          go_wp2_with fail
          go_ret
          exact ⟨by rw [decide_eq_false HNE.out]; rfl, below_drewN (below_drewN (Below.refl _ _) _) _⟩
      · obtain rfl : k = n := by omega
        have hxy : xs = ys := by
          have := HE.out
          rw [List.take_of_length_le (by rw [← HN.out]; exact Nat.le_refl _), List.take_of_length_le (by rw [HN2.out]; exact Nat.le_refl _)] at this
          exact this
        go_wp2_with fail
        go_ret
        exact ⟨by rw [decide_eq_true hxy]; rfl, below_drewN (Below.refl _ _) _⟩
  · have hd : decide (xs = ys) = false := by
      simp only [decide_eq_false_iff_not]
      intro h
      exact hlen (by rw [h])
    rw [hd]
    clear hd
    generalize xs.length = n at hlen
    generalize ys.length = m at hlen
    have hb0 : ¬ (n : Int) = (m : Int) := by omega
    go_enter Tryd.func20, Tryd.ntmps20
    go_wp2
    go_ret
    exact ⟨rfl, Below.refl _ _⟩
end Go.Proofs.YtcmjdaalhokmdaaDoor
