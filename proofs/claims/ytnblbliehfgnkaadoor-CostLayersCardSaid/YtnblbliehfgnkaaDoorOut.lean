/- Layers.Out. -/
import Derived.Test.YtnblbliehfgnkaaDoorHas
import Derived.Test.YtnblbliehfgnkaaDoorFlow
namespace Go.Proofs.YtnblbliehfgnkaaDoor
open Go.RowKit

set_option maxHeartbeats 400000 in
theorem out_bound (a : Addr) (p : Nat) (n : Int) (w : World) (hE : ErrAt 1 a w) (h : n < 1 ∨ 1099511627776 < n) :
    Calls Tryd.prog 16 #[.pointer (some ⟨p, 0, none⟩), .int .i64 n] w fun e w' => e = .returned (.tuple #[.int .i64 0, .iface 79 (.pointer (some a))]) ∧ Below w.heap.size w w' := by
  unfold ErrAt at hE
  go_enter Tryd.func16, Tryd.ntmps16
  go_wp2_with fail
  refine (within_no n 1 1099511627776 _ h).mono ?_
  rintro e w1 ⟨rfl, rfl⟩
  go_wp2_with fail
  go_quiet (fail)
  go_wp2_with fail
  go_ret2
  exact ⟨rfl, below_drewN (Below.refl _ _) _⟩

set_option maxHeartbeats 400000 in
theorem out_short (a : Addr) (p g : Nat) (ls : Ls) (n : Int) (w : World) (hE : ErrAt 8 a w) (hL : Lay w p g ls) (hk : OkL ls) (hlen : ls.length ≤ 1000000) (h1 : 1 ≤ n) (h2 : n ≤ 1099511627776) (h3 : (hasL ls : Int) < n) :
    Calls Tryd.prog 16 #[.pointer (some ⟨p, 0, none⟩), .int .i64 n] w fun e w' => e = .returned (.tuple #[.int .i64 0, .iface 79 (.pointer (some a))]) ∧ Below w.heap.size w w' := by
  go_enter Tryd.func16, Tryd.ntmps16
  go_wp2_with fail
  refine (within_yes n 1 1099511627776 _ h1 h2).mono ?_
  rintro e w1 ⟨rfl, rfl⟩
  go_wp2_with fail
  refine (has_any p g ls _ hL hk hlen).mono ?_
  rintro e w1 ⟨rfl, hb⟩
  have hE1 := hE.below hb
  unfold ErrAt at hE1
  go_wp2_with fail
  go_quiet (fail)
  go_wp2_with fail
  go_ret2
  exact ⟨rfl, below_drewN hb _⟩

set_option maxHeartbeats 400000 in
set_option maxRecDepth 100000 in
theorem out_yes (p g : Nat) (ls : Ls) (n : Nat) (w : World) (hL : Lay w p g ls) (hk : OkL ls) (hlen : ls.length ≤ 1000000) (h1 : 1 ≤ n) (h3 : n ≤ hasL ls) :
    Calls Tryd.prog 16 #[.pointer (some ⟨p, 0, none⟩), .int .i64 (n : Nat)] w fun e w' => e = .returned (.tuple #[.int .i64 ((outL ls n).1 : Nat), .nilIface]) ∧ Lay w' p g (outL ls n).2 ∧ Only p g w w' := by
  have hh := hk.has
  have hW := hk.worth
  go_enter Tryd.func16, Tryd.ntmps16
  go_wp2_with fail
  refine (within_yes _ 1 1099511627776 _ (by omega) (by omega)).mono ?_
  rintro e w1 ⟨rfl, rfl⟩
  go_wp2_with fail
  refine (has_any p g ls _ hL hk hlen).mono ?_
  rintro e w1 ⟨rfl, hb⟩
  have hL1 := hL.below hb
  have ho := Only.of_below (p := p) (g := g) hb
  have hk' := hk
  clear hL hk hb
  go_wp2
  go_loopw [1, 6] (fun nn al wr => ∃ (m q : Nat) (l : Ls), nn = .int .i64 m ∧ al = .int .i64 q ∧ m ≤ hasL l ∧ OkL l ∧ (outL ls n).1 = q + (outL l m).1 ∧ (outL ls n).2 = (outL l m).2 ∧ Lay wr p g l ∧ Only p g w wr) (fun nn _ _ => (intOf nn).toNat)
  case atStart => exact ⟨n, 0, ls, rfl, rfl, h3, hk', by omega, rfl, hL1, ho⟩
  case round =>
    obtain ⟨m, q, l, rfl, rfl, hm, hkl, e1, e2, hLr, hor⟩ := hrel
    by_cases hm0 : m = 0
    · subst hm0
      have hz := outL_zero l hkl.pos
      rw [hz] at e1 e2
      have E1 := Lib.hid e1
      have E2 := Lib.hid e2
      clear e1 e2 hz
      go_wp2
      go_ret2
      refine ⟨?_, ?_, hor⟩
      · show Ending.returned (.tuple #[.int .i64 (q : Nat), .nilIface]) = _
        rw [E1.out]; rfl
      · rw [E2.out]; exact hLr
    · cases l with
      | nil => simp [hasL] at hm; omega
      | cons x r =>
        obtain ⟨xn, xc⟩ := x
        rcases hLr with ⟨h0, _⟩ | ⟨hne, off, cap, cur, hA, hG, hl1, hl2, hcells⟩
        · cases h0
        have hx1 : 1 ≤ xn := hkl.pos (xn, xc) (by simp)
        have hx2 : xc ≤ 1048576 := hkl.cost (xn, xc) (by simp)
        have hhas : xn ≤ 1099511627776 := by have := hkl.has; simp only [hasL] at this; omega
        have hmB : (m : Int) ≤ 1099511627776 := by have := hkl.has; omega
        have hwl := outL_worth ls n
        have hne' : p ≠ g := Ne.symm hne
        have cA : wr.cell? ⟨p, 0, none⟩ = some (.slice (some ⟨g, off, none⟩) (r.length + 1) cap) := by rw [cell_of_block hA]; rfl
        have fA := free_of_block hA 0
        have c1 : wr.cell? ⟨g, off, none⟩ = some (.int .i64 (xn : Nat)) := by rw [cell_of_block hG]; exact (hcells 0 (by simp)).1
        have c2 : wr.cell? ⟨g, off + 1, none⟩ = some (.int .i64 (xc : Nat)) := by rw [cell_of_block hG]; exact (hcells 0 (by simp)).2
        have fG := free_of_block hG off
        have HA := Lib.hid hA
        have HG := Lib.hid hG
        have HC := Lib.hid hcells
        have KL := Lib.hid hkl
        have HM := Lib.hid hm
        clear hA hG hcells hkl hm
        simp only [List.length_cons] at hl1
        by_cases hc : m < xn
        · rw [outL_part _ _ _ hc] at e1 e2
          have p0 : (0 : Int) ≤ (m : Int) * (xc : Int) := Int.mul_nonneg (by omega) (by omega)
          have p2 : ((m * xc : Nat) : Int) = (m : Int) * (xc : Int) := by simp
          have p1 : (q : Int) + (m : Int) * (xc : Int) ≤ 1152921504606846976 := by simp only at e1; omega
          have E1 := Lib.hid e1
          have E2 := Lib.hid e2
          have hmin : min (m : Int) (xn : Int) = m := by omega
          clear p2 e1 e2 hwl
          go_wp2
          refine ⟨⟨0, q + m * xc, (xn - m, xc) :: r, by simp, by simp, by omega, ?_, ?_, ?_, ?_, ?_⟩, by simp [intOf]; omega⟩
          · refine ⟨by have := KL.out.has; simp only [hasL] at this ⊢; omega, fun y hy => ?_, fun y hy => ?_⟩
            · rcases List.mem_cons.1 hy with rfl | hy
              · exact hx2
              · exact KL.out.cost _ (List.mem_cons_of_mem _ hy)
            · rcases List.mem_cons.1 hy with rfl | hy
              · simp only; omega
              · exact KL.out.pos _ (List.mem_cons_of_mem _ hy)
          · have e1 := E1.out
            rw [outL_part _ _ _ (by simp only; omega)]
            simp only at e1 ⊢; omega
          · rw [E2.out, outL_part _ _ _ (by simp only; omega)]; rfl
          · have g1 := heap_setCell_same wr g off cur _ (.int .i64 ((xn : Int) - m)) HG.out
            have p1 := (heap_setCell_other wr ⟨g, off, none⟩ p (.int .i64 ((xn : Int) - m)) hne').trans HA.out
            refine .inr ⟨hne, off, cap, _, p1, g1, hl1, by simpa using hl2, fun i hi => ?_⟩
            have h6 := HC.out i (by simpa using hi)
            cases i with
            | zero =>
              rw [Nat.zero_mul, Nat.add_zero] at h6 ⊢
              rw [Array.getElem?_setIfInBounds_self_of_lt (by omega), Array.getElem?_setIfInBounds_ne (by omega)]
              refine ⟨?_, h6.2⟩
              simp only [List.getElem_cons_zero]
              congr 2; omega
            | succ i =>
              rw [Array.getElem?_setIfInBounds_ne (by omega), Array.getElem?_setIfInBounds_ne (by omega)]
              exact h6
          · refine hor.trans ⟨rfl, rfl, rfl, by simp, fun k hk k1 k2 => ?_⟩ (.inl rfl)
            exact heap_setCell_other _ _ _ _ k2
        · rw [outL_full _ _ _ (by simp only; omega)] at e1 e2
          have p0 : (0 : Int) ≤ (xn : Int) * (xc : Int) := Int.mul_nonneg (by omega) (by omega)
          have p2 : ((xn * xc : Nat) : Int) = (xn : Int) * (xc : Int) := by simp
          have p1 : (q : Int) + (xn : Int) * (xc : Int) ≤ 1152921504606846976 := by simp only at e1; omega
          have E1 := Lib.hid e1
          have E2 := Lib.hid e2
          have hmin : min (m : Int) (xn : Int) = xn := by omega
          have hc' : (xn : Int) ≤ m := by omega
          clear p2 e1 e2 hwl
          go_wp2
          have hkr : OkL r := ⟨by have := KL.out.has; simp only [hasL] at this; omega, fun y hy => KL.out.cost _ (List.mem_cons_of_mem _ hy), fun y hy => KL.out.pos _ (List.mem_cons_of_mem _ hy)⟩
          refine ⟨⟨m - xn, q + xn * xc, r, by congr 1; omega, by simp, by have hm := HM.out; simp only [hasL] at hm; omega, hkr, ?_, E2.out, ?_, ?_⟩, by simp [intOf]; omega⟩
          · have e1 := E1.out
            simp only at e1; omega
          · have g1 := heap_setCell_same wr g off cur _ (.int .i64 0) HG.out
            have p1 := (heap_setCell_other wr ⟨g, off, none⟩ p (.int .i64 0) hne').trans HA.out
            have g2 := (heap_setCell_other _ ⟨p, 0, none⟩ g (.slice (if cap = 1 then some ⟨g, off, none⟩ else some ⟨g, off + 2, none⟩) r.length (cap - 1)) hne).trans g1
            have p2 := heap_setCell_same _ p 0 _ _ (.slice (if cap = 1 then some ⟨g, off, none⟩ else some ⟨g, off + 2, none⟩) r.length (cap - 1)) p1
            refine .inr ⟨hne, if cap = 1 then off else off + 2, cap - 1, _, ?_, g2, by omega, by simp; split <;> omega, fun i hi => ?_⟩
            · rw [p2]
              by_cases h1 : cap = 1 <;> simp [h1]
            · have h1 : ¬ cap = 1 := by omega
              have h6 := HC.out (i + 1) (by simpa using hi)
              rw [if_neg h1, Array.getElem?_setIfInBounds_ne (by omega), Array.getElem?_setIfInBounds_ne (by omega), show off + 2 + i * 2 = off + (i + 1) * 2 by omega]
              exact h6
          · refine hor.trans ⟨rfl, rfl, rfl, by simp, fun k hk k1 k2 => ?_⟩ (.inl rfl)
            exact (heap_setCell_other _ _ _ _ k1).trans (heap_setCell_other _ _ _ _ k2)

end Go.Proofs.YtnblbliehfgnkaaDoor
