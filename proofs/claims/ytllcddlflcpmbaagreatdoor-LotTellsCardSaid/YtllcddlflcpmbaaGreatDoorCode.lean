/- plain.Code: an error's number and place. -/
import Derived.Test.YtllcddlflcpmbaaGreatDoorAs
import Derived.LoopTactic
import Derived.Outline
namespace Go.Proofs.YtllcddlflcpmbaaGreatDoor
open Go.RowKit

/-- The variable of an error's number. -/
def gErr : Nat → Nat
  | 1 => 0 | 2 => 2 | 3 => 4 | 4 => 3 | 5 => 1 | 6 => 5
  | 7 => 6 | 8 => 7 | 9 => 8 | 10 => 9 | 11 => 10 | _ => 11

theorem lt_of_row {w : World} {b : Nat} {o : Obj} (h : w.heap[b]? = some o) : b < w.heap.size := by
  rcases Nat.lt_or_ge b w.heap.size with hl | hl
  · exact hl
  · rw [Array.getElem?_eq_none hl] at h; cases h

/-- The twelve sentinels, and errors' own variable. -/
structure ErrG (E : Nat → Addr) (w : World) : Prop where
  at_ : ∀ k, 1 ≤ k → k ≤ 12 → ErrAt (gErr k) (E k) w
  row : ∀ k, 1 ≤ k → k ≤ 12 → ∃ cs t, w.heap[(E k).block]? = some (.cells cs t (0, 0))
  inj : ∀ i j, 1 ≤ i → i ≤ 12 → 1 ≤ j → j ≤ 12 → E i = E j → i = j
  ty : w.cell? ⟨12, 0, none⟩ = some (.iface 138 (.agg #[.pointer (some ⟨21, 26, none⟩)]))
theorem ErrG.below {E : Nat → Addr} {w w' : World} (h : ErrG E w) (hb : Below w.heap.size w w') : ErrG E w' :=
  ⟨fun k h1 h2 => (h.at_ k h1 h2).below hb, fun k h1 h2 => (h.row k h1 h2).elim fun cs hh => hh.elim fun t hr => ⟨cs, t, (hb.block _ (lt_of_row hr)).trans hr⟩,
    h.inj, (hb.cell (lt_of_cell h.ty)).trans h.ty⟩

/-- How errors.Is answers of an error whose number is K (0: none of them). -/
def IsK (E : Nat → Addr) (v : Value) (K : Nat) (w : World) : Prop :=
  ∀ (k : Nat) (W : World), 1 ≤ k → k ≤ 12 → Below w.heap.size w W → Calls Tryz.prog 52 #[v, .iface 183 (.pointer (some (E k)))] W fun e w' => e = .returned (.bool (decide (k = K))) ∧ W = w'

/-- What plain.Code answers. -/
def codeOf (K : Nat) : Int := if K = 0 then -1 else K

theorem code_nil (w : World) : Calls Tryz.prog 28 #[.nilIface] w fun e w' => e = .returned (.tuple #[.int .i64 0, .int .i64 (-1)]) ∧ w = w' := by
  go_enter Tryz.func28, Tryz.ntmps28
  go_wp2
  go_ret2
  exact ⟨rfl, rfl⟩

theorem cells12 (E : Nat → Addr) (w : World) : ∀ k, k < 12 → (w.alloc (.cells #[.iface 183 (.pointer (some (E 1))), .iface 183 (.pointer (some (E 2))), .iface 183 (.pointer (some (E 3))), .iface 183 (.pointer (some (E 4))), .iface 183 (.pointer (some (E 5))), .iface 183 (.pointer (some (E 6))), .iface 183 (.pointer (some (E 7))), .iface 183 (.pointer (some (E 8))), .iface 183 (.pointer (some (E 9))), .iface 183 (.pointer (some (E 10))), .iface 183 (.pointer (some (E 11))), .iface 183 (.pointer (some (E 12)))] 26)).cell? ⟨w.heap.size, k, none⟩ = some (.iface 183 (.pointer (some (E (k + 1))))) := by
  intro k hk
  rcases (show k = 0 ∨ k = 1 ∨ k = 2 ∨ k = 3 ∨ k = 4 ∨ k = 5 ∨ k = 6 ∨ k = 7 ∨ k = 8 ∨ k = 9 ∨ k = 10 ∨ k = 11 by omega) with rfl | rfl | rfl | rfl | rfl | rfl | rfl | rfl | rfl | rfl | rfl | rfl <;> simp

set_option maxHeartbeats 1000000 in
/-- An error that bears no place. -/
theorem code_miss (E : Nat → Addr) (tv : TypeId) (pv : Value) (K : Nat) (w : World) (hG : ErrG E w) (hK : K ≤ 12) (hIs : IsK E (.iface tv pv) K w)
    (hAs : ∀ (t : Addr) (old : Value) (W : World), Below w.heap.size w W → W.cell? t = some old → Calls Tryz.prog 51 #[.iface tv pv, .iface 82 (.pointer (some t))] W fun ev w' => ev = .returned (.bool false) ∧ Below W.heap.size W w') :
    Calls Tryz.prog 28 #[.iface tv pv] w fun e w' => e = .returned (.tuple #[.int .i64 (codeOf K), .int .i64 (-1)]) ∧ Below w.heap.size w w' := by
  have HIs := Lib.hid hIs
  have HAs := Lib.hid hAs
  clear hIs hAs
  go_enter Tryz.func28, Tryz.ntmps28
  go_wp2_with fail
  refine (HAs.out _ (.pointer none) _ ((Below.refl _ _).alloc (Nat.le_refl _) _) (by simp)).mono ?_
  rintro e w1 ⟨rfl, hb1⟩
  have hb : Below w.heap.size w w1 := ((Below.refl w.heap.size w).alloc (Nat.le_refl _) _).trans (hb1.mono (by simp))
  have hG1 := hG.below hb
  have c1 := hG1.at_ 1 (by omega) (by omega)
  have c2 := hG1.at_ 2 (by omega) (by omega)
  have c3 := hG1.at_ 3 (by omega) (by omega)
  have c4 := hG1.at_ 4 (by omega) (by omega)
  have c5 := hG1.at_ 5 (by omega) (by omega)
  have c6 := hG1.at_ 6 (by omega) (by omega)
  have c7 := hG1.at_ 7 (by omega) (by omega)
  have c8 := hG1.at_ 8 (by omega) (by omega)
  have c9 := hG1.at_ 9 (by omega) (by omega)
  have c10 := hG1.at_ 10 (by omega) (by omega)
  have c11 := hG1.at_ 11 (by omega) (by omega)
  have c12 := hG1.at_ 12 (by omega) (by omega)
  simp only [gErr, ErrAt] at c1 c2 c3 c4 c5 c6 c7 c8 c9 c10 c11 c12
  go_wp2_with fail
  clear c1 c2 c3 c4 c5 c6 c7 c8 c9 c10 c11 c12 hG1
  have hc := cells12 E w1
  have hb2 : Below w.heap.size w (w1.alloc (.cells #[.iface 183 (.pointer (some (E 1))), .iface 183 (.pointer (some (E 2))), .iface 183 (.pointer (some (E 3))), .iface 183 (.pointer (some (E 4))), .iface 183 (.pointer (some (E 5))), .iface 183 (.pointer (some (E 6))), .iface 183 (.pointer (some (E 7))), .iface 183 (.pointer (some (E 8))), .iface 183 (.pointer (some (E 9))), .iface 183 (.pointer (some (E 10))), .iface 183 (.pointer (some (E 11))), .iface 183 (.pointer (some (E 12)))] 26)) := hb.alloc hb.size _
  generalize w1.alloc (.cells #[.iface 183 (.pointer (some (E 1))), .iface 183 (.pointer (some (E 2))), .iface 183 (.pointer (some (E 3))), .iface 183 (.pointer (some (E 4))), .iface 183 (.pointer (some (E 5))), .iface 183 (.pointer (some (E 6))), .iface 183 (.pointer (some (E 7))), .iface 183 (.pointer (some (E 8))), .iface 183 (.pointer (some (E 9))), .iface 183 (.pointer (some (E 10))), .iface 183 (.pointer (some (E 11))), .iface 183 (.pointer (some (E 12)))] 26) = w2 at hc hb2 ⊢
  generalize w1.heap.size = g at hc ⊢
  have HC := Lib.hid hc
  clear hc hb1 hb hG
  go_loop [3, 30] (fun a i => ∃ k : Nat, k ≤ 12 ∧ (K = 0 ∨ k < K) ∧ a = .int .i64 (-1) ∧ i = .int .i64 k) (fun _ i => 12 - (intOf i).toNat)
  case atStart => exact ⟨0, by omega, by omega, rfl, rfl⟩
  case round =>
    obtain ⟨k, hk, hlt, rfl, rfl⟩ := hrel
    by_cases h12 : k < 12
    · have hcell := HC.out k h12
      by_cases hKk : k + 1 = K
      · have hd : decide (k + 1 = K) = true := by simpa using hKk
        have HF := Lib.hid (show codeOf K = ((k : Int) + 1) by unfold codeOf; rw [if_neg (by omega), ← hKk]; rfl)
        clear hKk hlt
        go_wp2_with fail
        refine (HIs.out (k + 1) _ (by omega) (by omega) hb2).mono ?_
        rw [hd]
        rintro e w3 ⟨rfl, rfl⟩
        go_wp2_with fail
        go_ret2
        refine ⟨?_, hb2⟩
        rw [HF.out]
        rfl
      · have hd : decide (k + 1 = K) = false := by simpa using hKk
        go_wp2_with fail
        refine (HIs.out (k + 1) _ (by omega) (by omega) hb2).mono ?_
        rw [hd]
        rintro e w3 ⟨rfl, rfl⟩
        go_wp2_with fail
        go_round
        case rel => exact ⟨k + 1, by omega, by omega, rfl, by go_num⟩
        case measure => simp [intOf]; omega
    · have HF := Lib.hid (show codeOf K = -1 by unfold codeOf; rw [if_pos (by omega)])
      have hk12 : 12 ≤ k := by omega
      clear hlt
      go_wp2_with fail
      go_ret2
      refine ⟨?_, hb2⟩
      rw [HF.out]
      rfl

set_option maxRecDepth 100000 in
set_option maxHeartbeats 1000000 in
/-- A fault with a place. -/
theorem code_hit (E : Nat → Addr) (p : Addr) (n : Int) (K : Nat) (w : World) (hG : ErrG E w) (hK : K ≤ 12) (hp : w.cell? p = some (.int .i64 n)) (hIs : IsK E (.iface 80 (.pointer (some p))) K w) :
    Calls Tryz.prog 28 #[.iface 80 (.pointer (some p))] w fun e w' => e = .returned (.tuple #[.int .i64 (codeOf K), .int .i64 n]) ∧ Below w.heap.size w w' := by
  have HIs := Lib.hid hIs
  have hA := as_hit p ⟨w.heap.size, 0, none⟩ (.pointer none) (w.alloc (.cells #[.pointer none] 80)) (hG.below ((Below.refl _ _).alloc (Nat.le_refl _) _)).ty (by simp) (by simp)
  have HA := Lib.hid (hA.mono fun ev w' (h : ev = .returned (.bool true) ∧ w' = _) => (show ev = .returned (.bool true) ∧ Below w.heap.size w w' ∧ w'.cell? ⟨w.heap.size, 0, none⟩ = some (.pointer (some p)) ∧ w.heap.size < w'.heap.size from by
    obtain ⟨he, rfl⟩ := h
    refine ⟨he, ?_, ?_, by simp [World.setCell]; omega⟩
    · exact (((((((Below.refl w.heap.size w).alloc (Nat.le_refl _) _).alloc (by simp) _).alloc (by simp; omega) _).alloc (by simp; omega) _).alloc (by simp; omega) _)).setCell (by simp) _
    · refine World.cell?_setCell_same (u := .pointer none) _ _ _ ?_
      rw [World.cell?_alloc_lt _ _ ⟨w.heap.size, 0, none⟩ (by simp; omega), World.cell?_alloc_lt _ _ ⟨w.heap.size, 0, none⟩ (by simp; omega), World.cell?_alloc_lt _ _ ⟨w.heap.size, 0, none⟩ (by simp; omega), World.cell?_alloc_lt _ _ ⟨w.heap.size, 0, none⟩ (by simp)]
      simp))
  clear hIs hA
  go_enter Tryz.func28, Tryz.ntmps28
  go_wp2_with fail
  refine HA.out.mono ?_
  rintro e w1 ⟨rfl, hb, hcellF, hsz⟩
  have hp1 : w1.cell? p = some (.int .i64 n) := (hb.cell (lt_of_cell hp)).trans hp
  have hb1 : True := trivial
  have hG1 := hG.below hb
  have c1 := hG1.at_ 1 (by omega) (by omega)
  have c2 := hG1.at_ 2 (by omega) (by omega)
  have c3 := hG1.at_ 3 (by omega) (by omega)
  have c4 := hG1.at_ 4 (by omega) (by omega)
  have c5 := hG1.at_ 5 (by omega) (by omega)
  have c6 := hG1.at_ 6 (by omega) (by omega)
  have c7 := hG1.at_ 7 (by omega) (by omega)
  have c8 := hG1.at_ 8 (by omega) (by omega)
  have c9 := hG1.at_ 9 (by omega) (by omega)
  have c10 := hG1.at_ 10 (by omega) (by omega)
  have c11 := hG1.at_ 11 (by omega) (by omega)
  have c12 := hG1.at_ 12 (by omega) (by omega)
  simp only [gErr, ErrAt] at c1 c2 c3 c4 c5 c6 c7 c8 c9 c10 c11 c12
  go_wp2_with fail
  clear c1 c2 c3 c4 c5 c6 c7 c8 c9 c10 c11 c12 hG1
  have hc := cells12 E w1
  have hb2 : Below w.heap.size w (w1.alloc (.cells #[.iface 183 (.pointer (some (E 1))), .iface 183 (.pointer (some (E 2))), .iface 183 (.pointer (some (E 3))), .iface 183 (.pointer (some (E 4))), .iface 183 (.pointer (some (E 5))), .iface 183 (.pointer (some (E 6))), .iface 183 (.pointer (some (E 7))), .iface 183 (.pointer (some (E 8))), .iface 183 (.pointer (some (E 9))), .iface 183 (.pointer (some (E 10))), .iface 183 (.pointer (some (E 11))), .iface 183 (.pointer (some (E 12)))] 26)) := hb.alloc hb.size _
  generalize w1.alloc (.cells #[.iface 183 (.pointer (some (E 1))), .iface 183 (.pointer (some (E 2))), .iface 183 (.pointer (some (E 3))), .iface 183 (.pointer (some (E 4))), .iface 183 (.pointer (some (E 5))), .iface 183 (.pointer (some (E 6))), .iface 183 (.pointer (some (E 7))), .iface 183 (.pointer (some (E 8))), .iface 183 (.pointer (some (E 9))), .iface 183 (.pointer (some (E 10))), .iface 183 (.pointer (some (E 11))), .iface 183 (.pointer (some (E 12)))] 26) = w2 at hc hb2 ⊢
  generalize w1.heap.size = g at hc ⊢
  have HC := Lib.hid hc
  clear hc hb1 hb hG
  go_loop [3, 30] (fun a i => ∃ k : Nat, k ≤ 12 ∧ (K = 0 ∨ k < K) ∧ a = .int .i64 n ∧ i = .int .i64 k) (fun _ i => 12 - (intOf i).toNat)
  case atStart => exact ⟨0, by omega, by omega, rfl, rfl⟩
  case round =>
    obtain ⟨k, hk, hlt, rfl, rfl⟩ := hrel
    by_cases h12 : k < 12
    · have hcell := HC.out k h12
      by_cases hKk : k + 1 = K
      · have hd : decide (k + 1 = K) = true := by simpa using hKk
        have HF := Lib.hid (show codeOf K = ((k : Int) + 1) by unfold codeOf; rw [if_neg (by omega), ← hKk]; rfl)
        clear hKk hlt
        go_wp2_with fail
        refine (HIs.out (k + 1) _ (by omega) (by omega) hb2).mono ?_
        rw [hd]
        rintro e w3 ⟨rfl, rfl⟩
        go_wp2_with fail
        go_ret2
        refine ⟨?_, hb2⟩
        rw [HF.out]
        rfl
      · have hd : decide (k + 1 = K) = false := by simpa using hKk
        go_wp2_with fail
        refine (HIs.out (k + 1) _ (by omega) (by omega) hb2).mono ?_
        rw [hd]
        rintro e w3 ⟨rfl, rfl⟩
        go_wp2_with fail
        go_round
        case rel => exact ⟨k + 1, by omega, by omega, rfl, by go_num⟩
        case measure => simp [intOf]; omega
    · have HF := Lib.hid (show codeOf K = -1 by unfold codeOf; rw [if_pos (by omega)])
      have hk12 : 12 ≤ k := by omega
      clear hlt
      go_wp2_with fail
      go_ret2
      refine ⟨?_, hb2⟩
      rw [HF.out]
      rfl
end Go.Proofs.YtllcddlflcpmbaaGreatDoor
