/- The document's layers: Text. -/
import Derived.Test.YtnblbliehfgnkaaDoorRHas
import Derived.Test.YtnblbliehfgnkaaDoorText
import Derived.Test.YtnblbliehfgnkaaDoorDec
namespace Go.Proofs.YtnblbliehfgnkaaDoor
open Go.RowKit

theorem held_step {w Wc w1 : World} {a b c : Addr} {x y z : Value} (hb : Below Wc.heap.size Wc w1) (h1 : Wc.cell? a = some x) (h2 : Wc.cell? b = some y) (h3 : Wc.cell? c = some z) (hB : Below w.heap.size w Wc) :
    w1.cell? a = some x ∧ w1.cell? b = some y ∧ w1.cell? c = some z ∧ Below w.heap.size w w1 :=
  ⟨(hb.cell (lt_of_cell h1)).trans h1, (hb.cell (lt_of_cell h2)).trans h2, (hb.cell (lt_of_cell h3)).trans h3, hB.trans (hb.mono hB.size)⟩

theorem join_snoc (l : List (List UInt8)) (x sep : List UInt8) (h : l ≠ []) : Lib.join (l ++ [x]) sep = Lib.join l sep ++ sep ++ x := by
  cases l with
  | nil => exact absurd rfl h
  | cons y r =>
    rw [List.cons_append, Lib.join_cons, Lib.join_cons]
    simp [Lib.joinTail, List.append_assoc]

theorem textL_take (ls : Ls) (k : Nat) (h : k < ls.length) : textL (ls.take (k + 1)) = textL (ls.take k) ++ (if 0 < k then [32] else []) ++ itemL ls[k] := by
  rw [List.take_succ_eq_append_getElem h]
  simp only [textL, List.map_append, List.map_cons, List.map_nil]
  by_cases h0 : 0 < k
  · rw [if_pos h0, join_snoc _ _ _ (by
      intro e
      have := congrArg List.length e
      simp only [List.length_map, List.length_take, List.length_nil] at this
      omega)]
  · obtain rfl : k = 0 := by omega
    simp [Lib.join_nil, Lib.join_one]

set_option maxHeartbeats 1600000 in
set_option maxRecDepth 100000 in
theorem rtext_any (p g : Nat) (ls : Ls) (w : World) (hL : LayR w p g ls) (hk : OkL ls) (hlen : ls.length ≤ 1000000) :
    Calls Tryd.prog 29 #[.pointer (some ⟨p, 0, none⟩)] w fun e w' => e = .returned (.string ⟨(textL ls).toArray⟩) ∧ Below w.heap.size w w' := by
  obtain ⟨A, cap, hA, hc1, hc2, hcell⟩ := hL.reads
  have hlt := hL.lt
  have KL := Lib.hid hk
  clear hL hk
  have HC := Lib.hid hcell
  clear hcell
  go_enter Tryd.func29, Tryd.ntmps29
  go_wp2
  go_loopw [3, 4] (fun out i wr => ∃ k : Nat, k ≤ ls.length ∧ i = .int .i64 k ∧ out = .string ⟨(textL (ls.take k)).toArray⟩ ∧ Below w.heap.size w wr) (fun _ i _ => ls.length - (intOf i).toNat)
  case atStart => exact ⟨0, by omega, rfl, rfl, Below.refl _ _⟩
  case round =>
    obtain ⟨k, hk, rfl, rfl, hb⟩ := hrel
    have dA := (hb.cell (p := ⟨p, 0, none⟩) hlt.1).trans hA
    by_cases hkl : k < ls.length
    · obtain ⟨off, rfl, hcells⟩ := HC.out (by omega)
      obtain ⟨c1, c2⟩ := hcells k hkl
      have d1 : wr.cell? ⟨g, off + k * 2, none⟩ = some (.int .i64 (ls[k].1 : Nat)) := (hb.cell hlt.2).trans c1
      have d2 : wr.cell? ⟨g, off + k * 2 + 1, none⟩ = some (.int .i64 (ls[k].2 : Nat)) := (hb.cell hlt.2).trans c2
      have q1 : ls[k].1 ≤ 1099511627776 := Nat.le_trans (of_mem_has ls k hkl) KL.out.has
      have q2 : ls[k].2 ≤ 1048576 := KL.out.cost _ (List.getElem_mem hkl)
      have hn1 := Lib.itoa_length_le (ls[k].1 : Int) (by omega) (by omega)
      have hn2 := Lib.itoa_length_le (ls[k].2 : Int) (by omega) (by omega)
      have HT := Lib.hid (textL_take ls k hkl)
      have ht : (textL (ls.take k)).length ≤ 44000000 := by
        have := textL_length (ls.take k) (fun x hx => okL_small KL.out x (List.mem_of_mem_take hx))
        rw [List.length_take] at this
        omega
      obtain ⟨n, hn⟩ : ∃ n, n = ls[k].1 := ⟨_, rfl⟩
      obtain ⟨c, hc⟩ : ∃ c, c = ls[k].2 := ⟨_, rfl⟩
      rw [show itemL ls[k] = itemL (n, c) by rw [hn, hc]] at HT
      rw [← hn] at d1 q1 hn1
      rw [← hc] at d2 q2 hn2
      clear c1 c2 hcells hA hn hc
      have D1 := Lib.hid (fun w => decimal_nat n (by omega) w)
      have D2 := Lib.hid (fun w => decimal_nat c (by omega) w)
      generalize textL (ls.take k) = t at *
      by_cases h0 : 0 < k
      · rw [if_pos h0] at HT
        have hk0 : (0 : Int) < (k : Int) := by omega
        have hv0 : ¬ 9223372036854775807 < t.length + 1 := by omega
        have hv1 : ¬ 9223372036854775807 < t.length + 1 + (Lib.itoa (n : Int)).length := by omega
        have hv2 : ¬ 9223372036854775807 < t.length + 1 + (Lib.itoa (n : Int)).length + 1 := by omega
        have hv3 : ¬ 9223372036854775807 < t.length + 1 + (Lib.itoa (n : Int)).length + 1 + (Lib.itoa (c : Int)).length := by omega
        have HS : (⟨t.toArray⟩ : ByteArray) ++ (⟨#[32]⟩ : ByteArray) ++ (⟨(Lib.itoa (n : Int)).toArray⟩ : ByteArray) ++ (⟨#[64]⟩ : ByteArray) ++ (⟨(Lib.itoa (c : Int)).toArray⟩ : ByteArray) = ⟨(textL (ls.take (k + 1))).toArray⟩ := by
          rw [HT.out, show (⟨#[32]⟩ : ByteArray) = ⟨[32].toArray⟩ from rfl, show (⟨#[64]⟩ : ByteArray) = ⟨[64].toArray⟩ from rfl, mk_app, mk_app, mk_app, mk_app]
          simp [itemL]
        have HS := Lib.hid HS
        go_wp2_with fail
        go_region_held3 (fun w' => w'.cell? ⟨p, 0, none⟩ = some (.slice (some ⟨g, off, none⟩) ls.length cap) ∧ w'.cell? ⟨g, off + k * 2, none⟩ = some (.int .i64 (n : Nat)) ∧ w'.cell? ⟨g, off + k * 2 + 1, none⟩ = some (.int .i64 (c : Nat)) ∧ Below w.heap.size w w')
          (first | exact ⟨dA, d1, d2, hb.drew⟩ | (go_split_ands; exact held_step b1 (by assumption) (by assumption) (by assumption) (by assumption)) | (go_split_ands; exact held_step b2 (by assumption) (by assumption) (by assumption) (by assumption)) | go_keep)
          (first
            | (go_at_call_of 47 (Value.int .i64 (n : Int)); refine (D1.out _).mono ?_; rintro e w4 ⟨rfl, b1⟩)
            | (go_at_call_of 47 (Value.int .i64 (c : Int)); refine (D2.out _).mono ?_; rintro e w5 ⟨rfl, b2⟩))
        all_goals
          have b3 : Below w.heap.size w w5 := (hb.drew.trans (b1.mono hb.size)).trans (b2.mono (Nat.le_trans hb.size b1.size))
          clear dA d1 d2
          go_wp2
          exact ⟨⟨k + 1, by omega, by simp, by rw [← HS.out], b3⟩, by simp [intOf]; omega⟩
      · rw [if_neg h0, List.append_nil] at HT
        have hk0 : ¬ (0 : Int) < (k : Int) := by omega
        have hv1 : ¬ 9223372036854775807 < t.length + (Lib.itoa (n : Int)).length := by omega
        have hv2 : ¬ 9223372036854775807 < t.length + (Lib.itoa (n : Int)).length + 1 := by omega
        have hv3 : ¬ 9223372036854775807 < t.length + (Lib.itoa (n : Int)).length + 1 + (Lib.itoa (c : Int)).length := by omega
        have HS : (⟨t.toArray⟩ : ByteArray) ++ (⟨(Lib.itoa (n : Int)).toArray⟩ : ByteArray) ++ (⟨#[64]⟩ : ByteArray) ++ (⟨(Lib.itoa (c : Int)).toArray⟩ : ByteArray) = ⟨(textL (ls.take (k + 1))).toArray⟩ := by
          rw [HT.out, show (⟨#[64]⟩ : ByteArray) = ⟨[64].toArray⟩ from rfl, mk_app, mk_app, mk_app]
          simp [itemL]
        have HS := Lib.hid HS
        go_wp2_with fail
        go_region_held3 (fun w' => w'.cell? ⟨p, 0, none⟩ = some (.slice (some ⟨g, off, none⟩) ls.length cap) ∧ w'.cell? ⟨g, off + k * 2, none⟩ = some (.int .i64 (n : Nat)) ∧ w'.cell? ⟨g, off + k * 2 + 1, none⟩ = some (.int .i64 (c : Nat)) ∧ Below w.heap.size w w')
          (first | exact ⟨dA, d1, d2, hb.drew⟩ | (go_split_ands; exact held_step b1 (by assumption) (by assumption) (by assumption) (by assumption)) | (go_split_ands; exact held_step b2 (by assumption) (by assumption) (by assumption) (by assumption)) | go_keep)
          (first
            | (go_at_call_of 47 (Value.int .i64 (n : Int)); refine (D1.out _).mono ?_; rintro e w4 ⟨rfl, b1⟩)
            | (go_at_call_of 47 (Value.int .i64 (c : Int)); refine (D2.out _).mono ?_; rintro e w5 ⟨rfl, b2⟩))
        all_goals
          have b3 : Below w.heap.size w w5 := (hb.drew.trans (b1.mono hb.size)).trans (b2.mono (Nat.le_trans hb.size b1.size))
          clear dA d1 d2
          go_wp2
          exact ⟨⟨k + 1, by omega, by simp, by rw [← HS.out], b3⟩, by simp [intOf]; omega⟩
    · have hkn : ls.length ≤ k := by omega
      have HT := Lib.hid (show ls.take k = ls from List.take_of_length_le hkn)
      go_wp2
      go_ret
      refine ⟨?_, hb⟩
      show Ending.returned (.string ⟨(textL (ls.take k)).toArray⟩) = _
      rw [HT.out]

end Go.Proofs.YtnblbliehfgnkaaDoor
