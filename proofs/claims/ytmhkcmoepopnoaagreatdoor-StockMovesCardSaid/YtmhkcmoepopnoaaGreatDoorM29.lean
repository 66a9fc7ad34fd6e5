/- plain.Code: an error's number and place. plain.Code at each make of error; coded. What a row's list gives, more: errors' own variable; how large the first heap is; the texts of the sentinels. -/
import Derived.LoopTactic
import Derived.Outline
import Derived.LaidHandle
import Derived.Lay
import Derived.Stop.Joined
import Derived.Test.YtmhkcmoepopnoaaGreatDoorM27
import Derived.Test.YtmhkcmoepopnoaaGreatDoorM28
namespace Go.Proofs.YtmhkcmoepopnoaaGreatDoor
open Go.RowKit

/-- The variable of an error's number. -/
def gErr : Nat → Nat
  | 1 => 6 | 2 => 1 | 3 => 4 | 4 => 5 | 5 => 0 | 6 => 8
  | 7 => 9 | 8 => 2 | 9 => 3 | 10 => 7 | 11 => 10 | _ => 11

theorem lt_of_row {w : World} {b : Nat} {o : Obj} (h : w.heap[b]? = some o) : b < w.heap.size := by
  rcases Nat.lt_or_ge b w.heap.size with hl | hl
  · exact hl
  · rw [Array.getElem?_eq_none hl] at h; cases h

/-- The twelve sentinels, and errors' own variable. -/
structure ErrG (E : Nat → Addr) (w : World) : Prop where
  at_ : ∀ k, 1 ≤ k → k ≤ 12 → ErrAt (gErr k) (E k) w
  row : ∀ k, 1 ≤ k → k ≤ 12 → ∃ cs t, w.heap[(E k).block]? = some (.cells cs t (0, 0))
  inj : ∀ i j, 1 ≤ i → i ≤ 12 → 1 ≤ j → j ≤ 12 → E i = E j → i = j
  ty : w.cell? ⟨12, 0, none⟩ = some (.iface 179 (.agg #[.pointer (some ⟨21, 34, none⟩)]))
theorem ErrG.below {E : Nat → Addr} {w w' : World} (h : ErrG E w) (hb : Below w.heap.size w w') : ErrG E w' :=
  ⟨fun k h1 h2 => (h.at_ k h1 h2).below hb, fun k h1 h2 => (h.row k h1 h2).elim fun cs hh => hh.elim fun t hr => ⟨cs, t, (hb.block _ (lt_of_row hr)).trans hr⟩,
    h.inj, (hb.cell (lt_of_cell h.ty)).trans h.ty⟩

/-- How errors.Is answers of an error whose number is K (0: none of them). -/
def IsK (E : Nat → Addr) (v : Value) (K : Nat) (w : World) : Prop :=
  ∀ (k : Nat) (W : World), 1 ≤ k → k ≤ 12 → Below w.heap.size w W → Calls Tryz.prog 81 #[v, .iface 245 (.pointer (some (E k)))] W fun e w' => e = .returned (.bool (decide (k = K))) ∧ W = w'

/-- What plain.Code answers. -/
def codeOf (K : Nat) : Int := if K = 0 then -1 else K

theorem code_nil (w : World) : Calls Tryz.prog 41 #[.nilIface] w fun e w' => e = .returned (.tuple #[.int .i64 0, .int .i64 (-1)]) ∧ w = w' := by
  go_enter Tryz.func41, Tryz.ntmps41
  go_wp2
  go_ret2
  exact ⟨rfl, rfl⟩

theorem cells12 (E : Nat → Addr) (w : World) : ∀ k, k < 12 → (w.alloc (.cells #[.iface 245 (.pointer (some (E 1))), .iface 245 (.pointer (some (E 2))), .iface 245 (.pointer (some (E 3))), .iface 245 (.pointer (some (E 4))), .iface 245 (.pointer (some (E 5))), .iface 245 (.pointer (some (E 6))), .iface 245 (.pointer (some (E 7))), .iface 245 (.pointer (some (E 8))), .iface 245 (.pointer (some (E 9))), .iface 245 (.pointer (some (E 10))), .iface 245 (.pointer (some (E 11))), .iface 245 (.pointer (some (E 12)))] 34)).cell? ⟨w.heap.size, k, none⟩ = some (.iface 245 (.pointer (some (E (k + 1))))) := by
  intro k hk
  rcases (show k = 0 ∨ k = 1 ∨ k = 2 ∨ k = 3 ∨ k = 4 ∨ k = 5 ∨ k = 6 ∨ k = 7 ∨ k = 8 ∨ k = 9 ∨ k = 10 ∨ k = 11 by omega) with rfl | rfl | rfl | rfl | rfl | rfl | rfl | rfl | rfl | rfl | rfl | rfl <;> simp

set_option maxHeartbeats 1000000 in
/-- An error that bears no place. -/
theorem code_miss (E : Nat → Addr) (tv : TypeId) (pv : Value) (K : Nat) (w : World) (hG : ErrG E w) (hK : K ≤ 12) (hIs : IsK E (.iface tv pv) K w)
    (hAs : ∀ (t : Addr) (old : Value) (W : World), Below w.heap.size w W → W.cell? t = some old → Calls Tryz.prog 80 #[.iface tv pv, .iface 131 (.pointer (some t))] W fun ev w' => ev = .returned (.bool false) ∧ Below W.heap.size W w') :
    Calls Tryz.prog 41 #[.iface tv pv] w fun e w' => e = .returned (.tuple #[.int .i64 (codeOf K), .int .i64 (-1)]) ∧ Below w.heap.size w w' := by
  have HIs := Lib.hid hIs
  have HAs := Lib.hid hAs
  clear hIs hAs
  go_enter Tryz.func41, Tryz.ntmps41
  go_wp2_with fail
  refine (HAs.out _ (.pointer none) _ ((Below.refl _ _).alloc (Nat.le_refl _) _) (by simp)).mono ?_
  rintro e w1 ⟨rfl, hb1⟩
  have hb : Below w.heap.size w w1 := ((Below.refl w.heap.size w).alloc (Nat.le_refl _) _).trans (hb1.mono (by simp))
  have hG1 := hG.below hb
  have c1 := hG1.at_ 1 (by omega) (by omega)
  have c2 := hG1.at_ 2 (by omega) (by omega)
  have c3 := hG1.at_ 3 (by omega) (by omega)
  have c4 := hG1.at_ 4 (by omega) (by omega)
  have c5 := hG1.at_ 5 (by omega) (by omega)
  have c6 := hG1.at_ 6 (by omega) (by omega)
  have c7 := hG1.at_ 7 (by omega) (by omega)
  have c8 := hG1.at_ 8 (by omega) (by omega)
  have c9 := hG1.at_ 9 (by omega) (by omega)
  have c10 := hG1.at_ 10 (by omega) (by omega)
  have c11 := hG1.at_ 11 (by omega) (by omega)
  have c12 := hG1.at_ 12 (by omega) (by omega)
  simp only [gErr, ErrAt] at c1 c2 c3 c4 c5 c6 c7 c8 c9 c10 c11 c12
  go_wp2_with fail
  clear c1 c2 c3 c4 c5 c6 c7 c8 c9 c10 c11 c12 hG1
  have hc := cells12 E w1
  have hb2 : Below w.heap.size w (w1.alloc (.cells #[.iface 245 (.pointer (some (E 1))), .iface 245 (.pointer (some (E 2))), .iface 245 (.pointer (some (E 3))), .iface 245 (.pointer (some (E 4))), .iface 245 (.pointer (some (E 5))), .iface 245 (.pointer (some (E 6))), .iface 245 (.pointer (some (E 7))), .iface 245 (.pointer (some (E 8))), .iface 245 (.pointer (some (E 9))), .iface 245 (.pointer (some (E 10))), .iface 245 (.pointer (some (E 11))), .iface 245 (.pointer (some (E 12)))] 34)) := hb.alloc hb.size _
  generalize w1.alloc (.cells #[.iface 245 (.pointer (some (E 1))), .iface 245 (.pointer (some (E 2))), .iface 245 (.pointer (some (E 3))), .iface 245 (.pointer (some (E 4))), .iface 245 (.pointer (some (E 5))), .iface 245 (.pointer (some (E 6))), .iface 245 (.pointer (some (E 7))), .iface 245 (.pointer (some (E 8))), .iface 245 (.pointer (some (E 9))), .iface 245 (.pointer (some (E 10))), .iface 245 (.pointer (some (E 11))), .iface 245 (.pointer (some (E 12)))] 34) = w2 at hc hb2 ⊢
  generalize w1.heap.size = g at hc ⊢
  have HC := Lib.hid hc
  clear hc hb1 hb hG
  go_loop [3, 30] (fun a i => ∃ k : Nat, k ≤ 12 ∧ (K = 0 ∨ k < K) ∧ a = .int .i64 (-1) ∧ i = .int .i64 k) (fun _ i => 12 - (intOf i).toNat)
  case atStart => exact ⟨0, by omega, by omega, rfl, rfl⟩
  case round =>
    obtain ⟨k, hk, hlt, rfl, rfl⟩ := hrel
    by_cases h12 : k < 12
    · have hcell := HC.out k h12
      by_cases hKk : k + 1 = K
      · have hd : decide (k + 1 = K) = true := by simpa using hKk
        have HF := Lib.hid (show codeOf K = ((k : Int) + 1) by unfold codeOf; rw [if_neg (by omega), ← hKk]; rfl)
        clear hKk hlt
        go_wp2_with fail
        refine (HIs.out (k + 1) _ (by omega) (by omega) hb2).mono ?_
        rw [hd]
        rintro e w3 ⟨rfl, rfl⟩
        go_wp2_with fail
        go_ret2
        refine ⟨?_, hb2⟩
        rw [HF.out]
        rfl
      · have hd : decide (k + 1 = K) = false := by simpa using hKk
        go_wp2_with fail
        refine (HIs.out (k + 1) _ (by omega) (by omega) hb2).mono ?_
        rw [hd]
        rintro e w3 ⟨rfl, rfl⟩
        go_wp2_with fail
        go_round
        case rel => exact ⟨k + 1, by omega, by omega, rfl, by go_num⟩
        case measure => simp [intOf]; omega
    · have HF := Lib.hid (show codeOf K = -1 by unfold codeOf; rw [if_pos (by omega)])
      have hk12 : 12 ≤ k := by omega
      clear hlt
      go_wp2_with fail
      go_ret2
      refine ⟨?_, hb2⟩
      rw [HF.out]
      rfl

set_option maxRecDepth 100000 in
set_option maxHeartbeats 1000000 in
/-- A fault with a place. -/
theorem code_hit (E : Nat → Addr) (p : Addr) (n : Int) (K : Nat) (w : World) (hG : ErrG E w) (hK : K ≤ 12) (hp : w.cell? p = some (.int .i64 n)) (hIs : IsK E (.iface 121 (.pointer (some p))) K w) :
    Calls Tryz.prog 41 #[.iface 121 (.pointer (some p))] w fun e w' => e = .returned (.tuple #[.int .i64 (codeOf K), .int .i64 n]) ∧ Below w.heap.size w w' := by
  have HIs := Lib.hid hIs
  have hA := as_hit p ⟨w.heap.size, 0, none⟩ (.pointer none) (w.alloc (.cells #[.pointer none] 121)) (hG.below ((Below.refl _ _).alloc (Nat.le_refl _) _)).ty (by simp) (by simp)
  have HA := Lib.hid (hA.mono fun ev w' (h : ev = .returned (.bool true) ∧ w' = _) => (show ev = .returned (.bool true) ∧ Below w.heap.size w w' ∧ w'.cell? ⟨w.heap.size, 0, none⟩ = some (.pointer (some p)) ∧ w.heap.size < w'.heap.size from by
    obtain ⟨he, rfl⟩ := h
    refine ⟨he, ?_, ?_, by simp [World.setCell]; omega⟩
    · exact (((((((Below.refl w.heap.size w).alloc (Nat.le_refl _) _).alloc (by simp) _).alloc (by simp; omega) _).alloc (by simp; omega) _).alloc (by simp; omega) _)).setCell (by simp) _
    · refine World.cell?_setCell_same (u := .pointer none) _ _ _ ?_
      rw [World.cell?_alloc_lt _ _ ⟨w.heap.size, 0, none⟩ (by simp; omega), World.cell?_alloc_lt _ _ ⟨w.heap.size, 0, none⟩ (by simp; omega), World.cell?_alloc_lt _ _ ⟨w.heap.size, 0, none⟩ (by simp; omega), World.cell?_alloc_lt _ _ ⟨w.heap.size, 0, none⟩ (by simp)]
      simp))
  clear hIs hA
  go_enter Tryz.func41, Tryz.ntmps41
  go_wp2_with fail
  refine HA.out.mono ?_
  rintro e w1 ⟨rfl, hb, hcellF, hsz⟩
  have hp1 : w1.cell? p = some (.int .i64 n) := (hb.cell (lt_of_cell hp)).trans hp
  have hb1 : True := trivial
  have hG1 := hG.below hb
  have c1 := hG1.at_ 1 (by omega) (by omega)
  have c2 := hG1.at_ 2 (by omega) (by omega)
  have c3 := hG1.at_ 3 (by omega) (by omega)
  have c4 := hG1.at_ 4 (by omega) (by omega)
  have c5 := hG1.at_ 5 (by omega) (by omega)
  have c6 := hG1.at_ 6 (by omega) (by omega)
  have c7 := hG1.at_ 7 (by omega) (by omega)
  have c8 := hG1.at_ 8 (by omega) (by omega)
  have c9 := hG1.at_ 9 (by omega) (by omega)
  have c10 := hG1.at_ 10 (by omega) (by omega)
  have c11 := hG1.at_ 11 (by omega) (by omega)
  have c12 := hG1.at_ 12 (by omega) (by omega)
  simp only [gErr, ErrAt] at c1 c2 c3 c4 c5 c6 c7 c8 c9 c10 c11 c12
  go_wp2_with fail
  clear c1 c2 c3 c4 c5 c6 c7 c8 c9 c10 c11 c12 hG1
  have hc := cells12 E w1
  have hb2 : Below w.heap.size w (w1.alloc (.cells #[.iface 245 (.pointer (some (E 1))), .iface 245 (.pointer (some (E 2))), .iface 245 (.pointer (some (E 3))), .iface 245 (.pointer (some (E 4))), .iface 245 (.pointer (some (E 5))), .iface 245 (.pointer (some (E 6))), .iface 245 (.pointer (some (E 7))), .iface 245 (.pointer (some (E 8))), .iface 245 (.pointer (some (E 9))), .iface 245 (.pointer (some (E 10))), .iface 245 (.pointer (some (E 11))), .iface 245 (.pointer (some (E 12)))] 34)) := hb.alloc hb.size _
  generalize w1.alloc (.cells #[.iface 245 (.pointer (some (E 1))), .iface 245 (.pointer (some (E 2))), .iface 245 (.pointer (some (E 3))), .iface 245 (.pointer (some (E 4))), .iface 245 (.pointer (some (E 5))), .iface 245 (.pointer (some (E 6))), .iface 245 (.pointer (some (E 7))), .iface 245 (.pointer (some (E 8))), .iface 245 (.pointer (some (E 9))), .iface 245 (.pointer (some (E 10))), .iface 245 (.pointer (some (E 11))), .iface 245 (.pointer (some (E 12)))] 34) = w2 at hc hb2 ⊢
  generalize w1.heap.size = g at hc ⊢
  have HC := Lib.hid hc
  clear hc hb1 hb hG
  go_loop [3, 30] (fun a i => ∃ k : Nat, k ≤ 12 ∧ (K = 0 ∨ k < K) ∧ a = .int .i64 n ∧ i = .int .i64 k) (fun _ i => 12 - (intOf i).toNat)
  case atStart => exact ⟨0, by omega, by omega, rfl, rfl⟩
  case round =>
    obtain ⟨k, hk, hlt, rfl, rfl⟩ := hrel
    by_cases h12 : k < 12
    · have hcell := HC.out k h12
      by_cases hKk : k + 1 = K
      · have hd : decide (k + 1 = K) = true := by simpa using hKk
        have HF := Lib.hid (show codeOf K = ((k : Int) + 1) by unfold codeOf; rw [if_neg (by omega), ← hKk]; rfl)
        clear hKk hlt
        go_wp2_with fail
        refine (HIs.out (k + 1) _ (by omega) (by omega) hb2).mono ?_
        rw [hd]
        rintro e w3 ⟨rfl, rfl⟩
        go_wp2_with fail
        go_ret2
        refine ⟨?_, hb2⟩
        rw [HF.out]
        rfl
      · have hd : decide (k + 1 = K) = false := by simpa using hKk
        go_wp2_with fail
        refine (HIs.out (k + 1) _ (by omega) (by omega) hb2).mono ?_
        rw [hd]
        rintro e w3 ⟨rfl, rfl⟩
        go_wp2_with fail
        go_round
        case rel => exact ⟨k + 1, by omega, by omega, rfl, by go_num⟩
        case measure => simp [intOf]; omega
    · have HF := Lib.hid (show codeOf K = -1 by unfold codeOf; rw [if_pos (by omega)])
      have hk12 : 12 ≤ k := by omega
      clear hlt
      go_wp2_with fail
      go_ret2
      refine ⟨?_, hb2⟩
      rw [HF.out]
      rfl
end Go.Proofs.YtmhkcmoepopnoaaGreatDoor
namespace Go.Proofs.YtmhkcmoepopnoaaGreatDoor
open Go.RowKit

/-- Sentinel number j: errors.Is answers of it just for itself. -/
theorem isK_sent (E : Nat → Addr) (j : Nat) (h1 : 1 ≤ j) (h2 : j ≤ 12) (w : World) (hG : ErrG E w) : IsK E (.iface 245 (.pointer (some (E j)))) j w := by
  intro k W k1 k2 hb
  have hW := hG.below hb
  by_cases h : k = j
  · subst h
    rw [show decide (k = k) = true by simp]
    exact is_same (E k) W
  · rw [show decide (k = j) = false by simpa using h]
    obtain ⟨ca, ta, ra⟩ := hW.row j h1 h2
    obtain ⟨cb, tb, rb⟩ := hW.row k k1 k2
    exact is_other (E j) (E k) ca cb ta tb W (fun e => h (hG.inj j k h1 h2 k1 k2 e).symm) ra rb

/-- Another error of errors.New's make. -/
theorem isK_other (E : Nat → Addr) (a : Addr) (w : World) (hG : ErrG E w) (ca : Array Value) (ta : TypeId) (ha : w.heap[a.block]? = some (.cells ca ta (0, 0))) (hne : ∀ k, 1 ≤ k → k ≤ 12 → a ≠ E k) :
    IsK E (.iface 245 (.pointer (some a))) 0 w := by
  intro k W k1 k2 hb
  have hW := hG.below hb
  rw [show decide (k = 0) = false by simp; omega]
  obtain ⟨cb, tb, rb⟩ := hW.row k k1 k2
  exact is_other a (E k) ca cb ta tb W (hne k k1 k2) ((hb.block _ (lt_of_row ha)).trans ha) rb

/-- A fault that wraps sentinel number j. -/
theorem isK_fault (E : Nat → Addr) (pb po : Nat) (j : Nat) (h1 : 1 ≤ j) (h2 : j ≤ 12) (w : World) (hG : ErrG E w) (hc : w.cell? ⟨pb, po + 1, none⟩ = some (.iface 245 (.pointer (some (E j))))) :
    IsK E (.iface 121 (.pointer (some ⟨pb, po, none⟩))) j w := by
  intro k W k1 k2 hb
  have hW := hG.below hb
  have hc' : W.cell? ⟨pb, po + 1, none⟩ = some (.iface 245 (.pointer (some (E j)))) := (hb.cell (lt_of_cell hc)).trans hc
  by_cases h : k = j
  · subst h
    rw [show decide (k = k) = true by simp]
    exact is_fault_same pb po (E k) W hc'
  · rw [show decide (k = j) = false by simpa using h]
    obtain ⟨ca, ta, ra⟩ := hW.row j h1 h2
    obtain ⟨cb, tb, rb⟩ := hW.row k k1 k2
    exact is_fault_other pb po (E k) (E j) ca cb ta tb W hc' (fun e => h (hG.inj j k h1 h2 k1 k2 e).symm) ra rb

theorem as_miss_of (E : Nat → Addr) (a : Addr) (w : World) (hG : ErrG E w) : ∀ (t : Addr) (old : Value) (W : World), Below w.heap.size w W → W.cell? t = some old → Calls Tryz.prog 80 #[.iface 245 (.pointer (some a)), .iface 131 (.pointer (some t))] W fun ev w' => ev = .returned (.bool false) ∧ Below W.heap.size W w' :=
  fun t old W hb ht => as_miss a t old W (hG.below hb).ty ht

theorem code_sent (E : Nat → Addr) (j : Nat) (h1 : 1 ≤ j) (h2 : j ≤ 12) (w : World) (hG : ErrG E w) :
    Calls Tryz.prog 41 #[.iface 245 (.pointer (some (E j)))] w fun e w' => e = .returned (.tuple #[.int .i64 j, .int .i64 (-1)]) ∧ Below w.heap.size w w' := by
  have h := code_miss E _ _ j w hG h2 (isK_sent E j h1 h2 w hG) (as_miss_of E _ w hG)
  rw [show codeOf j = (j : Int) by unfold codeOf; rw [if_neg (by omega)]] at h
  exact h

theorem code_other (E : Nat → Addr) (a : Addr) (w : World) (hG : ErrG E w) (ca : Array Value) (ta : TypeId) (ha : w.heap[a.block]? = some (.cells ca ta (0, 0))) (hne : ∀ k, 1 ≤ k → k ≤ 12 → a ≠ E k) :
    Calls Tryz.prog 41 #[.iface 245 (.pointer (some a))] w fun e w' => e = .returned (.tuple #[.int .i64 (-1), .int .i64 (-1)]) ∧ Below w.heap.size w w' :=
  code_miss E _ _ 0 w hG (by omega) (isK_other E a w hG ca ta ha hne) (as_miss_of E _ w hG)

theorem code_fault (E : Nat → Addr) (pb po : Nat) (n : Int) (j : Nat) (h1 : 1 ≤ j) (h2 : j ≤ 12) (w : World) (hG : ErrG E w) (h0 : w.cell? ⟨pb, po, none⟩ = some (.int .i64 n)) (hc : w.cell? ⟨pb, po + 1, none⟩ = some (.iface 245 (.pointer (some (E j))))) :
    Calls Tryz.prog 41 #[.iface 121 (.pointer (some ⟨pb, po, none⟩))] w fun e w' => e = .returned (.tuple #[.int .i64 j, .int .i64 n]) ∧ Below w.heap.size w w' := by
  have h := code_hit E ⟨pb, po, none⟩ n j w hG h2 h0 (isK_fault E pb po j h1 h2 w hG hc)
  rw [show codeOf j = (j : Int) by unfold codeOf; rw [if_neg (by omega)]] at h
  exact h

set_option maxHeartbeats 400000 in
theorem coded1 (E : Nat → Addr) (j : Nat) (h2 : j ≤ 12) (n : Int) (w : World) (hG : ErrG E w) :
    Calls Tryz.prog 15 #[errOf E j, .int .i64 n] w fun e w' => e = .returned (.bool ((j : Int) == n)) ∧ Below w.heap.size w w' := by
  by_cases h0 : j = 0
  · subst h0
    rw [errOf_zero]
    have HC := Lib.hid (code_nil w)
    go_enter Tryz.func15, Tryz.ntmps15
    go_wp2_with fail
    refine HC.out.mono ?_
    rintro e w1 ⟨rfl, rfl⟩
    go_wp2_with fail
    all_goals go_ret
    all_goals exact ⟨by simp; assumption, Below.refl _ _⟩
  · rw [errOf_pos _ _ h0]
    have HC := Lib.hid (code_sent E j (by omega) h2 w hG)
    go_enter Tryz.func15, Tryz.ntmps15
    go_wp2_with fail
    refine HC.out.mono ?_
    rintro e w1 ⟨rfl, hb⟩
    go_wp2_with fail
    all_goals go_ret
    all_goals exact ⟨by simp; assumption, hb⟩
theorem coded1_is (E : Nat → Addr) (j : Nat) (h1 : 1 ≤ j) (h2 : j ≤ 12) (n : Int) (hn : n = j) (w : World) (hG : ErrG E w) :
    Calls Tryz.prog 15 #[.iface 245 (.pointer (some (E j))), .int .i64 n] w fun e w' => e = .returned (.bool true) ∧ Below w.heap.size w w' := by
  have h := coded1 E j h2 n w hG
  rw [errOf_pos _ _ (by omega), hn, beq_self_eq_true] at h
  rw [hn]
  exact h
end Go.Proofs.YtmhkcmoepopnoaaGreatDoor
namespace Go.Proofs.YtmhkcmoepopnoaaGreatDoor
open Go.RowKit Go.ChangeShapes

/-- The first heap holds the table. -/
theorem tab_big {W : World} (h : Lib.TabIs Tryz.prog W "internal/strconv.uint64pow10" .u64 Lib.pow10Tab) : 14 < W.heap.size := by
  have c0 : W.cell? ⟨14, 0, none⟩ = _ := World.var?_cell (P := Tryz.prog) (by kernel_rfl) h 0
  exact lt_of_cell (c0.trans (show _ = some (Value.int .u64 1) from rfl))

theorem et : Tryz.prog.globalNamed "errors.errorType" = some 12 := by kernel_rfl
theorem rt : (Tryz.prog.cutTypes.find? (·.1 == "internal/reflectlite.rtype")).map (·.2) = some 179 := by kernel_rfl
theorem oneRow : ((List.range 277).filter fun t => Tryz.prog.rowNamed t [101, 114, 114, 111, 114]) = [34] := by kernel_rfl
theorem tsize : Tryz.prog.types.size = 277 := by kernel_rfl

theorem handle_of {W : World} (h : handlesMet Tryz.prog [("errors.errorType", .iface "internal/reflectlite.rtype" (.agg [.ptr (.lit (.string [101, 114, 114, 111, 114]))]))] W) :
    W.cell? ⟨12, 0, none⟩ = some (.iface 179 (.agg #[.pointer (some ⟨21, 34, none⟩)])) := by
  obtain ⟨name, u, ty, e1, e2, e3, e4, e5⟩ := h _ (List.mem_singleton.2 rfl)
  have en : name = [101, 114, 114, 111, 114] := (Option.some.inj e1).symm
  subst en
  obtain rfl := Option.some.inj (rt.symm.trans e2)
  have hm : ty ∈ (List.range 277).filter fun t => Tryz.prog.rowNamed t [101, 114, 114, 111, 114] := List.mem_filter.2 ⟨List.mem_range.2 (by rw [← tsize]; exact e3), e4⟩
  rw [oneRow] at hm
  obtain rfl := List.mem_singleton.1 hm
  have hh : typeHandle Tryz.prog 34 = .pointer (some ⟨21, 34, none⟩) := by kernel_rfl
  rw [hh] at e5
  simpa using World.var?_cell et e5 0

/-- Two sentinels of unlike texts are unlike. -/
theorem sent_ne {g g' : Nat} {a a' : Addr} {l l' : List UInt8} {w : World} (h : Sent g a l w) (h' : Sent g' a' l' w) (hne : l ≠ l') : a ≠ a' := by
  rintro rfl
  obtain ⟨s, hs, ht⟩ := h.text
  obtain ⟨s', hs', ht'⟩ := h'.text
  rw [hs] at hs'
  injection hs' with hs'
  injection hs' with hs'
  subst hs'
  exact hne (ht.symm.trans ht')

/-- All the listed data laid over a world. -/
theorem laidMet_over {P : Program} {w0 : World} {laid : List (String × DataW Unit)} (args : Array Value)
    (hf : w0.layFits P laid [] = true) (hi : w0.layIfaces P laid (w0.layVars P laid) = true) :
    laidMet P laid ((w0.layVars P laid).forCall (fun _ _ => 0) ⟨#[], args, []⟩).memory := by
  have e1 : (laid.filter fun x => (laid.map (·.1)).contains x.1) = laid := List.filter_eq_self.2 fun x hx => List.contains_iff_mem.2 (List.mem_map.2 ⟨x, hx, rfl⟩)
  have e2 : (laid.filter fun x => !(laid.map (·.1)).contains x.1) = [] := List.filter_eq_nil_iff.2 fun x hx => by rw [List.contains_iff_mem.2 (List.mem_map.2 ⟨x, hx, rfl⟩)]; simp
  have h : laidMet P laid (w0.layVars P laid) := laidMet_layVars (w0 := w0) (laid.map (·.1)) [] (by rw [e1]) (by rw [e1]; exact hf) (by rw [e1]; exact hi) (by rw [e2]; exact LaidIn.none)
  exact h.of_heap (by simp [World.memory, World.forCall, Input.heap])
end Go.Proofs.YtmhkcmoepopnoaaGreatDoor
