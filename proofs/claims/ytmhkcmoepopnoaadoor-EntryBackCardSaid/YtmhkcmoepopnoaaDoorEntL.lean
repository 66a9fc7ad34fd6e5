/- The statement EntryBack. Printed by gen/entl.py. -/
import Derived.Test.YtmhkcmoepopnoaaDoorEntRe
namespace Go.Proofs.YtmhkcmoepopnoaaDoor
open Go.RowKit Go.Sort Go.Proofs

theorem entText_one : entText (kIn, ([], 0), ([108, 49], [], 0, 0), ([], 0, 0), ([97], 1, 2), 5) = [105, 110, 32, 108, 49, 32, 97, 45, 49, 45, 50, 32, 53] := by
  have h : entE (kIn, ([], 0), ([108, 49], [], 0, 0), ([], 0, 0), ([97], 1, 2), 5) = 0 := by decide
  have h1 : Lib.itoa 1 = [49] := by
    unfold Lib.itoa
    rw [if_neg (by omega), show (1 : Int).toNat = 1 from rfl, Lib.decDigits_one (by omega)]
    rfl
  have h2 : Lib.itoa 2 = [50] := by
    unfold Lib.itoa
    rw [if_neg (by omega), show (2 : Int).toNat = 2 from rfl, Lib.decDigits_one (by omega)]
    rfl
  have h5 : Lib.itoa 5 = [53] := by
    unfold Lib.itoa
    rw [if_neg (by omega), show (5 : Int).toNat = 5 from rfl, Lib.decDigits_one (by omega)]
    rfl
  unfold entText
  rw [if_neg (by simpa using h), if_neg (by decide), if_neg (by decide)]
  unfold wordsP
  rw [if_neg (by decide), if_pos (by decide)]
  have hp : placeText ([97], 1, 2) = [97, 45, 49, 45, 50] := by
    unfold placeText
    rw [if_pos (by decide), h1, h2]
    rfl
  rw [hp, h5]
  rfl

set_option maxHeartbeats 800000 in
theorem entered_any (E : Nat → Addr) (w : World) (hG : EntG E w) : Calls Tryd.prog 4 #[] w fun e w' => e = .returned (.bool true) ∧ Below w.heap.size w w' := by
  have H := Lib.hid (fun W h => textEnt_any E (kIn, ([], 0), ([108, 49], [], 0, 0), ([], 0, 0), ([97], 1, 2), 5) (by simp) (by simp) W h)
  rw [entText_one] at H
  simp only [encEnt] at H
  have HG := Lib.hid (fun W (h : Below w.heap.size w W) => hG.below h)
  clear hG
  go_enter Tryd.func4, Tryd.ntmps4
  go_wp2_with fail
  refine (H.out _ (HG.out _ (below_one w _))).mono ?_
  rintro e w1 ⟨rfl, b1⟩
  have B1 := Lib.hid ((below_one w _).trans (b1.mono (by simp)))
  clear b1
  go_wp2
  go_ret
  exact ⟨rfl, B1.out⟩

/-- 1 if an entry is too long for a statement. -/
def longN (x : EntV) : Nat := if 20 < x.1.length ∨ 30 < x.2.1.1.length ∨ 30 < x.2.2.1.1.length ∨ 30 < x.2.2.1.2.1.length ∨ 30 < x.2.2.2.1.1.length ∨ 30 < x.2.2.2.2.1.1.length then 1 else 0
theorem longN_01 (x : EntV) : longN x = 0 ∨ longN x = 1 := by
  unfold longN
  split
  · exact .inr rfl
  · exact .inl rfl
theorem longN_short {x : EntV} (h : longN x = 0) : x.2.2.1.1.length ≤ 1000000000 ∧ x.2.2.1.2.1.length ≤ 1000000000 := by
  unfold longN at h
  split at h
  · cases h
  · omega
theorem lies_of14 {W : World} {b : Nat} {v0 v1 v2 v3 v4 v5 v6 v7 v8 v9 v10 v11 v12 v13 : Value} {R : Prop}
    (h : W.cell? ⟨b, 0, none⟩ = some v0 ∧ W.cell? ⟨b, 1, none⟩ = some v1 ∧ W.cell? ⟨b, 2, none⟩ = some v2 ∧ W.cell? ⟨b, 3, none⟩ = some v3 ∧ W.cell? ⟨b, 4, none⟩ = some v4 ∧ W.cell? ⟨b, 5, none⟩ = some v5 ∧ W.cell? ⟨b, 6, none⟩ = some v6 ∧ W.cell? ⟨b, 7, none⟩ = some v7 ∧ W.cell? ⟨b, 8, none⟩ = some v8 ∧ W.cell? ⟨b, 9, none⟩ = some v9 ∧ W.cell? ⟨b, 10, none⟩ = some v10 ∧ W.cell? ⟨b, 11, none⟩ = some v11 ∧ W.cell? ⟨b, 12, none⟩ = some v12 ∧ W.cell? ⟨b, 13, none⟩ = some v13 ∧ R) :
    Lies W b 0 [v0, v1, v2, v3, v4, v5, v6, v7, v8, v9, v10, v11, v12, v13] := by
  obtain ⟨h0, h1, h2, h3, h4, h5, h6, h7, h8, h9, h10, h11, h12, h13, -⟩ := h
  intro j v hv
  rw [Nat.zero_add]
  match j, hv with
  | 0, hv => cases hv; exact h0
  | 1, hv => cases hv; exact h1
  | 2, hv => cases hv; exact h2
  | 3, hv => cases hv; exact h3
  | 4, hv => cases hv; exact h4
  | 5, hv => cases hv; exact h5
  | 6, hv => cases hv; exact h6
  | 7, hv => cases hv; exact h7
  | 8, hv => cases hv; exact h8
  | 9, hv => cases hv; exact h9
  | 10, hv => cases hv; exact h10
  | 11, hv => cases hv; exact h11
  | 12, hv => cases hv; exact h12
  | 13, hv => cases hv; exact h13
  | j + 14, hv => simp at hv
set_option maxHeartbeats 3200000 in
set_option maxRecDepth 100000 in
theorem longEnt_any (x : EntV) (w : World) : Calls Tryd.prog 5 #[.agg (encEnt x).toArray] w fun e w' => e = .returned (.int .i64 (longN x : Nat)) ∧ Below w.heap.size w w' := by
  have BB := Lib.hid (below_one w (.cells (encEnt x).toArray 29))
  have hl := Lies.row (w := w.alloc (.cells (encEnt x).toArray 29)) (encEnt x) (heap_alloc_new _ _)
  obtain ⟨r, hr⟩ : ∃ r, r = longN x := ⟨_, rfl⟩
  rw [← hr]
  have HR := Lib.hid (show r = if 20 < x.1.length ∨ 30 < x.2.1.1.length ∨ 30 < x.2.2.1.1.length ∨ 30 < x.2.2.1.2.1.length ∨ 30 < x.2.2.2.1.1.length ∨ 30 < x.2.2.2.2.1.1.length then 1 else 0 from hr)
  clear hr
  have c0 : (w.alloc (.cells (encEnt x).toArray 29)).cell? ⟨w.heap.size, 0, none⟩ = some (.string ⟨(x.1).toArray⟩) := hl.at 0 _ rfl
  have c1 : (w.alloc (.cells (encEnt x).toArray 29)).cell? ⟨w.heap.size, 1, none⟩ = some (.string ⟨(x.2.1.1).toArray⟩) := hl.at 1 _ rfl
  have c3 : (w.alloc (.cells (encEnt x).toArray 29)).cell? ⟨w.heap.size, 3, none⟩ = some (.string ⟨(x.2.2.1.1).toArray⟩) := hl.at 3 _ rfl
  have c4 : (w.alloc (.cells (encEnt x).toArray 29)).cell? ⟨w.heap.size, 4, none⟩ = some (.string ⟨(x.2.2.1.2.1).toArray⟩) := hl.at 4 _ rfl
  have c7 : (w.alloc (.cells (encEnt x).toArray 29)).cell? ⟨w.heap.size, 7, none⟩ = some (.string ⟨(x.2.2.2.1.1).toArray⟩) := hl.at 7 _ rfl
  have c10 : (w.alloc (.cells (encEnt x).toArray 29)).cell? ⟨w.heap.size, 10, none⟩ = some (.string ⟨(x.2.2.2.2.1.1).toArray⟩) := hl.at 10 _ rfl
  clear hl
  generalize x.1 = k at c0 HR
  generalize x.2.1.1 = g1 at c1 HR
  generalize x.2.2.1.1 = l1 at c3 HR
  generalize x.2.2.1.2.1 = l2 at c4 HR
  generalize x.2.2.2.1.1 = f1 at c7 HR
  generalize x.2.2.2.2.1.1 = t1 at c10 HR
  generalize encEnt x = L at *
  by_cases h0 : 20 < k.length
  · have b0 : (20 : Int) < (k.length : Int) := by omega
    go_enter Tryd.func5, Tryd.ntmps5
    go_wp2_with fail
    go_ret
    rw [HR.out, if_pos (.inl h0)]
    exact ⟨rfl, BB.out⟩
  · have b0 : ¬ (20 : Int) < (k.length : Int) := by omega
    by_cases h1 : 30 < g1.length
    · have b1 : (30 : Int) < (g1.length : Int) := by omega
      go_enter Tryd.func5, Tryd.ntmps5
      go_wp2_with fail
      go_ret
      rw [HR.out, if_pos (.inr (.inl h1))]
      exact ⟨rfl, BB.out⟩
    · have b1 : ¬ (30 : Int) < (g1.length : Int) := by omega
      by_cases h3 : 30 < l1.length
      · have b3 : (30 : Int) < (l1.length : Int) := by omega
        go_enter Tryd.func5, Tryd.ntmps5
        go_wp2_with fail
        go_ret
        rw [HR.out, if_pos (.inr (.inr (.inl h3)))]
        exact ⟨rfl, BB.out⟩
      · have b3 : ¬ (30 : Int) < (l1.length : Int) := by omega
        by_cases h4 : 30 < l2.length
        · have b4 : (30 : Int) < (l2.length : Int) := by omega
          go_enter Tryd.func5, Tryd.ntmps5
          go_wp2_with fail
          go_ret
          rw [HR.out, if_pos (.inr (.inr (.inr (.inl h4))))]
          exact ⟨rfl, BB.out⟩
        · have b4 : ¬ (30 : Int) < (l2.length : Int) := by omega
          by_cases h7 : 30 < f1.length
          · have b7 : (30 : Int) < (f1.length : Int) := by omega
            go_enter Tryd.func5, Tryd.ntmps5
            go_wp2_with fail
            go_ret
            rw [HR.out, if_pos (.inr (.inr (.inr (.inr (.inl h7)))))]
            exact ⟨rfl, BB.out⟩
          · have b7 : ¬ (30 : Int) < (f1.length : Int) := by omega
            by_cases h10 : 30 < t1.length
            · have b10 : (30 : Int) < (t1.length : Int) := by omega
              go_enter Tryd.func5, Tryd.ntmps5
              go_wp2_with fail
              go_ret
              rw [HR.out, if_pos (.inr (.inr (.inr (.inr (.inr h10)))))]
              exact ⟨rfl, BB.out⟩
            · have b10 : ¬ (30 : Int) < (t1.length : Int) := by omega
              go_enter Tryd.func5, Tryd.ntmps5
              go_wp2_with fail
              go_ret
              rw [HR.out, if_neg (by omega)]
              exact ⟨rfl, BB.out⟩

theorem entBack_plain {x y : EntV} (hx : entE x = 0) (hy : entE y = 0) : (entText x == entText y) = decide (x = y) := by
  by_cases h : x = y
  · rw [h, decide_eq_true rfl]
    exact beq_self_eq_true _
  · rw [decide_eq_false h]
    exact beq_eq_false_iff_ne.2 fun e => h (ent_text_inj hx hy e)
theorem entText_size (x : EntV) : (entText x).length ≤ 1000000 := by
  unfold entText
  split
  · simp
  · rename_i hE
    have hE : entE x = 0 := by simpa using hE
    split
    · rename_i h
      have hg := goods_zero hE h
      have a1 := (nameB_len hg.1).2
      have a2 := Lib.itoa_length_le x.2.1.2 (by omega) (by omega)
      have a3 : kGoods.length = 5 := rfl
      simp only [List.length_append, List.length_singleton]
      omega
    · rename_i h1
      split
      · rename_i h
        have := lotText_len x.2.2.1 (lot_zero hE h)
        have a3 : kLot.length = 3 := rfl
        simp only [List.length_append, List.length_singleton]
        omega
      · rename_i h2
        have hP : isP x.1 = true := by
          cases hp : isP x.1
          · rw [entE_kind h1 h2 hp] at hE; cases hE
          · rfl
        obtain ⟨hn1, -, -, hn2, hn3, -⟩ := pieces_zero (by rw [← entE_pieces hP]; exact hE)
        have a1 := (nameB_len hn1).2
        have a2 := isP_len hP
        have a3 := Lib.itoa_length_le x.2.2.2.2.2 (by omega) (by omega)
        have a4 := placeText_len x.2.2.2.1
        have a5 := placeText_len x.2.2.2.2.1
        unfold wordsP
        cases hasF x.1 <;> cases hasT x.1 <;> simp [joinL] <;> omega

theorem len14 {L : List Value} (h : L.length = 14) : ∃ a b c d e f g i j k l m n o, L = [a, b, c, d, e, f, g, i, j, k, l, m, n, o] := by
  match L, h with
  | [a, b, c, d, e, f, g, i, j, k, l, m, n, o], _ => exact ⟨a, b, c, d, e, f, g, i, j, k, l, m, n, o, rfl⟩
end Go.Proofs.YtmhkcmoepopnoaaDoor
