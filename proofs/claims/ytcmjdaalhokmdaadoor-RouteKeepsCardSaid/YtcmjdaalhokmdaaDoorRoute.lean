/- The law RouteKeeps: what it calls: longPicks, the closed fact on carts. -/
import Derived.Test.YtcmjdaalhokmdaaDoorCartsW
namespace Go.Proofs.YtcmjdaalhokmdaaDoor
open Go.RowKit Go.Sort Go.Proofs

/-- What longPicks tells. -/
def LongEnds (n : Nat) (w : World) (e : Ending) (w' : World) : Prop := (∃ b, e = .returned (.bool b) ∧ (b = false → n ≤ 30)) ∧ Below w.heap.size w w'
set_option maxHeartbeats 400000 in
theorem longPicks_any (A : Option Addr) (cap : Nat) (xs : List PickV) (w : World) (hX : RowAt encPick 5 w A xs) :
    Calls Tryd.prog 7 #[.slice A xs.length cap] w (LongEnds xs.length w) := by
  obtain ⟨n, hn⟩ : ∃ n, n = xs.length := ⟨_, rfl⟩
  have HN := Lib.hid hn
  have HX := Lib.hid hX
  rw [← hn]
  clear hn hX
  by_cases h30 : 30 < n
  · go_enter Tryd.func7, Tryd.ntmps7
    go_wp2
    go_ret
    exact ⟨⟨true, rfl, fun h => by cases h⟩, Below.refl _ _⟩
  · have H30 := Lib.hid (show n ≤ 30 by omega)
    go_enter Tryd.func7, Tryd.ntmps7
    go_wp2
    go_loopw [3] (fun i wr => ∃ k : Nat, k ≤ n ∧ i = .int .i64 k ∧ Below w.heap.size w wr) (fun i _ => n - (intOf i).toNat)
    case atStart => exact ⟨0, by omega, rfl, Below.refl _ _⟩
    case round =>
      obtain ⟨k, hk, rfl, hb⟩ := hrel
      have HB := Lib.hid hb
      by_cases hkl : k < n
      · have hkx : k < xs.length := by rw [← HN.out]; exact hkl
        obtain ⟨bx, ox, rfl, lx, cx⟩ := (HX.out.below hb).resolve_left (fun h => by rw [h] at hkx; simp at hkx)
        have r5 := range5 (fun c v hv => cx k hkx c v hv)
        obtain ⟨⟨⟨a1, a2, a3⟩, a4, a5⟩, hx⟩ : ∃ x, x = xs[k] := ⟨_, rfl⟩
        rw [← hx] at r5
        obtain ⟨c0, c1, c2, c3, c4⟩ := r5
        have s1 : (⟨a1.toArray⟩ : ByteArray).size = a1.length := by simp [ByteArray.size]
        have s4 : (⟨a4.toArray⟩ : ByteArray).size = a4.length := by simp [ByteArray.size]
        simp only at c0 c1 c2 c3 c4
        clear cx hb hx
        by_cases h1 : 30 < a1.length
        · have h1' : ¬ a1.length ≤ 30 := by omega
          go_wp2_with fail
          go_ret
          exact ⟨⟨true, rfl, fun h => by cases h⟩, HB.out⟩
        · by_cases h4 : 30 < a4.length
          · go_wp2_with fail
            go_ret
            exact ⟨⟨true, rfl, fun h => by cases h⟩, HB.out⟩
          · go_wp2_with fail
            go_roundw
            case rel => exact ⟨k + 1, by omega, by go_num, HB.out⟩
            case measure => simp [intOf]; omega
      · obtain rfl : k = n := by omega
        clear hb
        go_wp2
        go_ret
        exact ⟨⟨false, rfl, fun _ => H30.out⟩, HB.out⟩

/-- The one pick of the closed fact, in two carts. -/
theorem two_carts {cs : List (List PickV)} (h : CartsOk 3 [(([97], 1, 1), [108, 49], 5)] cs) : ∃ c q, cs = [c, [q]] ∧ q.2.2 = 2 := by
  have hs := h.sum
  have hs5 : sumN cs.flatten = 5 := by rw [hs]; rfl
  have hne : ∀ c ∈ cs, c ≠ [] := fun c hc e => by
    obtain ⟨j, hj, rfl⟩ := List.getElem_of_mem hc
    have := (h.sums j hj).1
    rw [e] at this
    simp [sumN] at this
  match cs, h, hs5, hne with
  | [], _, hs5, _ => simp [sumN] at hs5
  | [c], h, hs5, _ =>
    have := (h.sums 0 (by simp)).2.1
    simp at hs5 this
    omega
  | [c, d], h, hs5, hne =>
    have h0 := (h.sums 0 (by simp)).2.2 (by simp)
    simp only [List.getElem_cons_zero] at h0
    have hd : sumN d = 2 := by
      simp [sumN_append] at hs5
      omega
    have hf := h.few2 [c] d rfl (by omega)
    have hc1 := List.length_pos_iff.2 (hne c (by simp))
    have hd1 := List.length_pos_iff.2 (hne d (by simp))
    simp at hf
    match d, hd, hd1, hf with
    | [q], hd, _, _ => exact ⟨c, q, rfl, by simpa [sumN] using hd⟩
    | _ :: _ :: _, _, _, hf => simp at hf; omega
  | c :: d :: e :: r, h, hs5, _ =>
    exfalso
    have h0 := (h.sums 0 (by simp)).2.2 (by simp)
    have h1 := (h.sums 1 (by simp)).2.2 (by simp)
    simp only [List.getElem_cons_zero, List.getElem_cons_succ] at h0 h1
    have hp : 0 ≤ sumN ((e :: r).flatten) := sumN_nonneg fun x hx => by
      have := h.pos x (by rw [List.flatten_cons, List.flatten_cons]; exact List.mem_append_right _ (List.mem_append_right _ hx))
      omega
    rw [List.flatten_cons, List.flatten_cons, sumN_append, sumN_append] at hs5
    omega

set_option maxHeartbeats 800000 in
theorem routed_any (E : Nat → Addr) (w : World) (hG : RouteG E w) : Calls Tryd.prog 6 #[] w fun e w' => e = .returned (.bool true) ∧ Below w.heap.size w w' := by
  have HG := Lib.hid hG
  clear hG
  go_enter Tryd.func6, Tryd.ntmps6
  go_wp2_with fail
  have hrow : RowAt encPick 5 ((w.alloc (.cells #[.string ⟨#[97]⟩, .int .i64 1, .int .i64 1] 31)).alloc (.cells #[.string ⟨#[97]⟩, .int .i64 1, .int .i64 1, .string ⟨#[108, 49]⟩, .int .i64 5] 33)) (some ⟨w.heap.size + 1, 0, none⟩) [(([97], 1, 1), [108, 49], 5)] := by
    refine .inr ⟨w.heap.size + 1, 0, rfl, by simp, fun i hi c v hv => ?_⟩
    obtain rfl : i = 0 := by simp at hi; exact hi
    rw [cell_of_row _ _ _ _ _ _ (show ((w.alloc _).alloc _).heap[w.heap.size + 1]? = _ by have := heap_alloc_new (w.alloc (.cells #[.string ⟨#[97]⟩, .int .i64 1, .int .i64 1] 31)) (.cells #[.string ⟨#[97]⟩, .int .i64 1, .int .i64 1, .string ⟨#[108, 49]⟩, .int .i64 5] 33); simpa using this)]
    simp only [List.getElem_cons_zero] at hv
    rw [← hv, Nat.zero_mul, Nat.zero_add]
    simp [encPick]
  have b0 := below_two w (.cells #[.string ⟨#[97]⟩, .int .i64 1, .int .i64 1] 31) (.cells #[.string ⟨#[97]⟩, .int .i64 1, .int .i64 1, .string ⟨#[108, 49]⟩, .int .i64 5] 33)
  refine (carts_some E _ 1 [(([97], 1, 1), [108, 49], 5)] 3 _ (HG.out.below b0) hrow (by simp) (by simp) (by omega) (by omega)).mono ?_
  rintro e w1 ⟨(⟨t, p, hno, rfl⟩ | ⟨-, -, -, A, cap, cs, hok, rfl, hat⟩), b1⟩
  · exfalso
    apply hno
    refine ⟨⟨by omega, by omega⟩, fun x hx => ?_, ?_⟩
    · rw [List.mem_singleton] at hx
      subst hx; decide
    · simp [sumN]
  · obtain ⟨c, q, rfl, hq⟩ := two_carts hok
    have B1 := Lib.hid (b0.trans (b1.mono (by simp; omega)))
    obtain ⟨bb, o, rfl, hl, hc⟩ := hat.resolve_left (by simp)
    obtain ⟨A0, k0, c0, -⟩ := hc 0 (by simp)
    obtain ⟨A1, k1, c1, hr⟩ := hc 1 (by simp)
    simp only [List.getElem_cons_succ, List.getElem_cons_zero] at c1 hr
    obtain ⟨b2, o2, rfl, hl2, hc2⟩ := hr.resolve_left (by simp)
    have c2 := hc2 0 (by simp) 4 _ rfl
    simp only [List.getElem_cons_zero, Nat.zero_mul, Nat.add_zero, hq] at c2
    clear hc hc2 hr b1 hok hat b0 hrow c0
    go_wp2_with fail
    go_ret
    exact ⟨rfl, B1.out⟩
end Go.Proofs.YtcmjdaalhokmdaaDoor
