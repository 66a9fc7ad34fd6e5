/- cmp.Or; strings compared: a strict order. Plain facts on decimal numerals: how strconv.Atoi ends at the digits of a number. No program in sight. Places: Check; what a compare of well places tells. Equal places. A stock's keys. Stock in memory; New, Of, At, Copy. -/
import Derived.Sort.Statements
import Derived.Lib.AtoiAll
import Derived.Lib.AtoiAllCases
import Derived.Lib.ItoaNum
import Derived.Laws.StructEq
import Derived.Test.YtphgakobfegpcaaGreatDoorM01
import Derived.Test.YtphgakobfegpcaaGreatDoorM02
import Derived.Test.YtphgakobfegpcaaGreatDoorM03
namespace Go.Proofs.YtphgakobfegpcaaGreatDoor
open Go.RowKit

/-- The first that is not zero. -/
def orL : List Int → Int
  | [] => 0
  | x :: r => if x = 0 then orL r else x
theorem orL_zeros (xs : List Int) (k : Nat) (hk : k ≤ xs.length) (h : ∀ j (hj : j < xs.length), j < k → xs[j] = 0) : orL xs = orL (xs.drop k) := by
  induction xs generalizing k with
  | nil => simp
  | cons x r ih =>
    cases k with
    | zero => rfl
    | succ k =>
      have h0 := h 0 (by simp) (by omega)
      simp only [List.getElem_cons_zero] at h0
      subst h0
      rw [List.drop_succ_cons]
      show (if (0 : Int) = 0 then orL r else 0) = _
      rw [if_pos rfl]
      exact ih k (by simpa using hk) fun j hj hjk => by
        have := h (j + 1) (by simpa using hj) (by omega)
        simpa using this
theorem orL_at (xs : List Int) (k : Nat) (hk : k < xs.length) (h : ∀ j (hj : j < xs.length), j < k → xs[j] = 0) (hx : xs[k] ≠ 0) : orL xs = xs[k] := by
  rw [orL_zeros xs k (by omega) h, List.drop_eq_getElem_cons hk]
  exact if_neg hx

set_option maxHeartbeats 400000 in
theorem or_any (b : Nat) (xs : List Int) (w : World) (hn : xs.length ≤ 1000) (hc : ∀ k (h : k < xs.length), w.cell? ⟨b, k, none⟩ = some (.int .i64 xs[k])) :
    Calls Tryz.prog 143 #[.slice (some ⟨b, 0, none⟩) xs.length xs.length] w fun e w' => e = .returned (.int .i64 (orL xs)) ∧ w = w' := by
  have HC := Lib.hid hc
  obtain ⟨n, hn'⟩ : ∃ n, n = xs.length := ⟨_, rfl⟩
  have HN := Lib.hid hn'
  rw [← hn'] at hn ⊢
  clear hc hn'
  go_enter Tryz.func143, Tryz.ntmps143
  go_wp2
  go_loop [8] (fun i => ∃ k : Nat, k ≤ n ∧ i = .int .i64 k ∧ Hid (∀ j (hj : j < xs.length), j < k → xs[j] = 0)) (fun i => n - (intOf i).toNat)
  case atStart => exact ⟨0, by omega, rfl, fun j hj h => by omega⟩
  case round =>
    obtain ⟨k, hk, rfl, HZ⟩ := hrel
    by_cases hlt : k < n
    · have hkx : k < xs.length := by rw [← HN.out]; exact hlt
      have c := HC.out k hkx
      obtain ⟨x, hx⟩ : ∃ x, x = xs[k] := ⟨_, rfl⟩
      have HX := Lib.hid hx
      rw [← hx] at c
      clear hx
      by_cases h0 : x = 0
      · subst h0
        go_wp2
        go_round
        case rel => exact ⟨k + 1, by omega, by go_num, fun j hj h => by
          rcases Nat.lt_or_ge j k with h1 | h1
          · exact HZ.out j hj h1
          · obtain rfl : j = k := by omega
            exact HX.out.symm⟩
        case measure => simp [intOf]; omega
      · have hb : (x == 0) = false := by simpa using h0
        have hb' : (x != 0) = true := by simpa using h0
        go_wp2
        go_ret
        refine ⟨?_, rfl⟩
        rw [orL_at xs k hkx HZ.out (by rw [← HX.out]; exact h0), ← HX.out]; rfl
    · obtain rfl : k = n := by omega
      go_wp2
      go_ret
      refine ⟨?_, rfl⟩
      rw [orL_zeros xs k (by have := HN.out; omega) HZ.out, List.drop_of_length_le (by have := HN.out; omega)]; rfl

/-! Strings compared. -/
theorem cmpB_refl (a : List UInt8) : Lib.compareBytes a a = 0 := by
  induction a with
  | nil => rfl
  | cons x r ih => simp [Lib.compareBytes, ih]
theorem cmpB_vals (a b : List UInt8) : Lib.compareBytes a b = -1 ∨ Lib.compareBytes a b = 0 ∨ Lib.compareBytes a b = 1 := by
  induction a generalizing b with
  | nil => cases b <;> simp [Lib.compareBytes]
  | cons x r ih =>
    cases b with
    | nil => simp [Lib.compareBytes]
    | cons y s =>
      simp only [Lib.compareBytes]
      split
      · simp
      · split
        · simp
        · exact ih s
theorem cmpB_eq (a b : List UInt8) : Lib.compareBytes a b = 0 ↔ a = b := by
  refine ⟨fun h => ?_, fun h => by subst h; exact cmpB_refl a⟩
  induction a generalizing b with
  | nil => cases b with
    | nil => rfl
    | cons y s => simp [Lib.compareBytes] at h
  | cons x r ih =>
    cases b with
    | nil => simp [Lib.compareBytes] at h
    | cons y s =>
      simp only [Lib.compareBytes] at h
      split at h
      · simp at h
      · split at h
        · simp at h
        · rename_i h1 h2
          have : x = y := by
            have a1 : ¬ x.toNat < y.toNat := h1
            have a2 : ¬ y.toNat < x.toNat := h2
            exact UInt8.toNat_inj.1 (by omega)
          rw [this, ih s h]
theorem cmpB_swap (a b : List UInt8) : Lib.compareBytes b a = - Lib.compareBytes a b := by
  induction a generalizing b with
  | nil => cases b <;> simp [Lib.compareBytes]
  | cons x r ih =>
    cases b with
    | nil => simp [Lib.compareBytes]
    | cons y s =>
      simp only [Lib.compareBytes]
      by_cases h1 : x < y
      · have h2 : ¬ y < x := by
          have a1 : x.toNat < y.toNat := h1
          intro h
          have a2 : y.toNat < x.toNat := h
          omega
        rw [if_pos h1, if_neg h2, if_pos h1]; rfl
      · by_cases h2 : y < x
        · simp [h1, h2]
        · simp [h1, h2, ih s]
theorem cmpB_trans (a b c : List UInt8) (h1 : Lib.compareBytes a b < 0) (h2 : Lib.compareBytes b c < 0) : Lib.compareBytes a c < 0 := by
  induction a generalizing b c with
  | nil => cases c with
    | nil => cases b <;> simp [Lib.compareBytes] at h1 h2
    | cons z t => simp [Lib.compareBytes]
  | cons x r ih =>
    cases b with
    | nil => simp [Lib.compareBytes] at h1
    | cons y s =>
      cases c with
      | nil => simp [Lib.compareBytes] at h2
      | cons z t =>
        simp only [Lib.compareBytes] at h1 h2 ⊢
        by_cases a1 : x < y
        · by_cases b1 : y < z
          · rw [if_pos (show x < z from (show x.toNat < z.toNat from Nat.lt_trans (show x.toNat < y.toNat from a1) b1))]; omega
          · by_cases b2 : z < y
            · rw [if_neg b1, if_pos b2] at h2; omega
            · have e : y.toNat = z.toNat := by
                have q1 : ¬ y.toNat < z.toNat := b1
                have q2 : ¬ z.toNat < y.toNat := b2
                omega
              rw [if_pos (show x < z from (show x.toNat < z.toNat by rw [← e]; exact a1))]; omega
        · by_cases a2 : y < x
          · rw [if_neg a1, if_pos a2] at h1; omega
          · have e : x = y := by
              have q1 : ¬ x.toNat < y.toNat := a1
              have q2 : ¬ y.toNat < x.toNat := a2
              exact UInt8.toNat_inj.1 (by omega)
            subst e
            rw [if_neg a1, if_neg a1] at h1
            by_cases b1 : x < z
            · rw [if_pos b1]; omega
            · by_cases b2 : z < x
              · rw [if_neg b1, if_pos b2] at h2; omega
              · rw [if_neg b1, if_neg b2] at h2 ⊢
                exact ih s t h1 h2
end Go.Proofs.YtphgakobfegpcaaGreatDoor
namespace Go.Proofs.YtphgakobfegpcaaGreatDoor
open Go.Lib

theorem parse_app (l : List UInt8) (c : UInt8) : ∀ (acc a : Nat), parseUint10 acc l = .ok a → parseUint10 acc (l ++ [c]) = parseUint10 a [c] := by
  induction l with
  | nil => intro acc a h; simp [parseUint10] at h; subst h; rfl
  | cons x r ih =>
    intro acc a h
    rw [List.cons_append, parseUint10]
    rw [parseUint10] at h
    split at h
    · rename_i h1
      rw [if_pos h1]
      split at h
      · cases h
      · rename_i h2
        rw [if_neg h2]
        split at h
        · cases h
        · rename_i h3
          rw [if_neg h3]
          exact ih _ _ h
    · cases h

theorem digit_toNat (u : Nat) (h : u < 10) : (UInt8.ofNat (48 + u)).toNat = 48 + u := by
  simp; omega

theorem parse_dec (u : Nat) : u < 18446744073709551616 → parseUint10 0 (decDigits u) = .ok u := by
  induction u using Nat.strongRecOn with
  | _ u ih =>
    intro hu
    rw [decDigits]
    by_cases h : u < 10
    · rw [dif_pos h, parseUint10, digit_toNat u h, if_pos (by omega), if_neg (by omega), if_neg (by omega), parseUint10]
      simp
    · rw [dif_neg h, parse_app _ _ _ _ (ih (u / 10) (by omega) (by omega)), parseUint10, digit_toNat _ (Nat.mod_lt _ (by omega)), if_pos (by omega), if_neg (by omega), if_neg (by omega), parseUint10]
      congr 1; omega

theorem dec_ne_nil (u : Nat) : decDigits u ≠ [] := by
  rw [decDigits]; split <;> simp

theorem dec_digit (u : Nat) : ∀ c ∈ decDigits u, 48 ≤ c.toNat ∧ c.toNat ≤ 57 := by
  induction u using Nat.strongRecOn with
  | _ u ih =>
    intro c hc
    rw [decDigits] at hc
    by_cases h : u < 10
    · rw [dif_pos h] at hc
      simp only [List.mem_singleton] at hc
      subst hc
      rw [digit_toNat u h]; omega
    · rw [dif_neg h, List.mem_append, List.mem_singleton] at hc
      rcases hc with hc | rfl
      · exact ih (u / 10) (by omega) c hc
      · rw [digit_toNat _ (Nat.mod_lt _ (by omega))]; omega

theorem atoi_dec (u : Nat) (hu : u ≤ 9223372036854775807) : atoiAll (decDigits u) = .ok (u : Int) := by
  have hp := parse_dec u (by omega)
  have hd := dec_digit u
  have hn := dec_ne_nil u
  revert hp hd hn
  generalize decDigits u = l
  intro hp hd hn
  match l, hn with
  | c :: r, _ =>
    have hc := hd c (by simp)
    rw [atoiAll_plain c r (by omega) (by omega)]
    unfold parseMag
    rw [if_neg (by simp), hp]
    unfold signless
    simp
    omega

theorem dec_inj (u v : Nat) (hu : u ≤ 9223372036854775807) (hv : v ≤ 9223372036854775807) (h : decDigits u = decDigits v) : u = v := by
  have h1 := atoi_dec u hu
  have h2 := atoi_dec v hv
  rw [h, h2] at h1
  injection h1 with h1
  omega

theorem itoa_nat (v : Int) (h : 0 ≤ v) : itoa v = decDigits v.toNat := by
  unfold itoa; rw [if_neg (by omega)]

theorem dec_len_le (u k : Nat) (hk : 1 ≤ k) (h : u < 10 ^ k) : (decDigits u).length ≤ k := by
  rw [decDigits_length]
  induction k generalizing u with
  | zero => omega
  | succ k ih =>
    by_cases h9 : u < 10
    · rw [nDigits_small h9]; omega
    · rw [nDigits_big h9]
      by_cases hk0 : k = 0
      · subst hk0; simp at h; omega
      · have := ih (u / 10) (by omega) (by rw [Nat.pow_succ] at h; omega)
        omega

/-- Is a text the numeral of n, of at most d digits? -/
def NumIs (l : List UInt8) (d n : Nat) : Prop := l = decDigits n ∧ l.length ≤ d ∧ n ≤ 9223372036854775807

/-- The number of a text that is a numeral of at most d digits. -/
def numQ (l : List UInt8) (d : Nat) : Option Nat :=
  match atoiAll l with
  | .ok v => if l = decDigits v.toNat ∧ 0 ≤ v ∧ l.length ≤ d then some v.toNat else none
  | _ => none

theorem numQ_iff (l : List UInt8) (d n : Nat) : numQ l d = some n ↔ NumIs l d n := by
  constructor
  · intro h
    unfold numQ at h
    split at h
    · rename_i v hv
      obtain ⟨b0, b1⟩ := atoiAll_bounds hv
      split at h
      · rename_i hh
        injection h with h
        subst h
        exact ⟨hh.1, hh.2.2, by omega⟩
      · cases h
    · cases h
  · rintro ⟨h1, h2, h3⟩
    unfold numQ
    have ha := atoi_dec n h3
    rw [← h1] at ha
    rw [ha]
    simp [← h1, h2]

theorem numQ_none (l : List UInt8) (d : Nat) (h : numQ l d = none) (n : Nat) : ¬ NumIs l d n := by
  intro hn
  rw [(numQ_iff l d n).2 hn] at h
  cases h

theorem numQ_lt {l : List UInt8} {d n : Nat} (h : NumIs l d n) (_hd : 1 ≤ d) : n < 10 ^ d := by
  obtain ⟨h1, h2, _⟩ := h
  have h3 := lt_pow_nDigits n
  rw [← decDigits_length, ← h1] at h3
  exact Nat.lt_of_lt_of_le h3 (Nat.pow_le_pow_right (by omega) h2)
end Go.Proofs.YtphgakobfegpcaaGreatDoor
namespace Go.Proofs.YtphgakobfegpcaaGreatDoor
open Go.RowKit Go.Sort Go.Proofs

/-- A place: its zone, its row, its bay. -/
abbrev PlaceV := List UInt8 × Int × Int
def encPlace (x : PlaceV) : List Value := [.string ⟨x.1.toArray⟩, .int .i64 x.2.1, .int .i64 x.2.2]
theorem encPlace_len (x : PlaceV) : (encPlace x).length = 3 := rfl
theorem encPlace_one (x : PlaceV) : ∀ v ∈ encPlace x, v.oneCell' = true := fun v hv => by
  simp [encPlace] at hv
  rcases hv with rfl | rfl | rfl <;> rfl

/-- The number of a place's error. -/
def placeE (x : PlaceV) : Nat := if nameB x.1 = false then 5 else if x.2.1 < 1 ∨ 20 < x.2.1 ∨ x.2.2 < 1 ∨ 40 < x.2.2 then 2 else 0
theorem placeE_zero {x : PlaceV} : placeE x = 0 ↔ nameB x.1 = true ∧ 1 ≤ x.2.1 ∧ x.2.1 ≤ 20 ∧ 1 ≤ x.2.2 ∧ x.2.2 ≤ 40 := by
  unfold placeE
  cases hn : nameB x.1
  · simp
  · simp only [Bool.true_eq_false, if_false]
    split
    · simp; omega
    · simp; omega
theorem nameB_len {l : List UInt8} (h : nameB l = true) : 1 ≤ l.length ∧ l.length ≤ 8 := by
  unfold nameB at h
  simp at h
  refine ⟨?_, h.1.2⟩
  cases l with
  | nil => simp at h
  | cons x r => simp

/-- The variables that hold the two errors. -/
structure PlaceG (E : Nat → Addr) (w : World) : Prop where
  name : ErrAt 6 (E 5) w
  bound : ErrAt 2 (E 2) w
  tab : TabG w
theorem PlaceG.below {E : Nat → Addr} {w w' : World} (h : PlaceG E w) (hb : Below w.heap.size w w') : PlaceG E w' := ⟨h.name.below hb, h.bound.below hb, h.tab.below hb⟩

/-- The two errors alone. -/
structure PlaceCG (E : Nat → Addr) (w : World) : Prop where
  name : ErrAt 6 (E 5) w
  bound : ErrAt 2 (E 2) w
theorem PlaceCG.below {E : Nat → Addr} {w w' : World} (h : PlaceCG E w) (hb : Below w.heap.size w w') : PlaceCG E w' := ⟨h.name.below hb, h.bound.below hb⟩
theorem placeE_wi (x : PlaceV) : placeE x = if nameB x.1 = false then 5 else if wiB x.2.1 1 20 = false then 2 else if wiB x.2.2 1 40 = false then 2 else 0 := by
  unfold placeE wiB
  cases nameB x.1
  · rfl
  · simp only [Bool.true_eq_false, if_false, decide_eq_false_iff_not]
    split
    · split
      · rfl
      · rw [if_pos (by omega)]
    · rw [if_neg (by omega), if_neg (by omega)]

set_option maxHeartbeats 400000 in
theorem checkPlace_c (E : Nat → Addr) (x : PlaceV) (w : World) (hG : PlaceCG E w) :
    Calls Tryz.prog 120 #[.agg (encPlace x).toArray] w fun e w' => e = .returned (errOf E (placeE x)) ∧ Below w.heap.size w w' := by
  have HE := Lib.hid (placeE_wi x)
  obtain ⟨a1, a2, a3⟩ := x
  have HN := Lib.hid (fun W => name_wide a1 W)
  have H2 := Lib.hid (within_any a2 1 20)
  have H3 := Lib.hid (within_any a3 1 40)
  have g1 := hG.name
  have g2 := hG.bound
  have l1 := lt_of_cell g1
  have l2 := lt_of_cell g2
  simp only at l1 l2
  unfold ErrAt at g1 g2
  simp only [encPlace] at HE ⊢
  clear hG
  generalize nameB a1 = nm at HN HE
  generalize wiB a2 1 20 = p2 at H2 HE
  generalize wiB a3 1 40 = p3 at H3 HE
  go_enter Tryz.func120, Tryz.ntmps120
  go_wp2_with fail
  refine (HN.out _).mono ?_
  rintro e w1 ⟨rfl, b1⟩
  obtain ⟨hc, hf⟩ := bcell b1
  have B1 : Hid (Below w.heap.size w w1) := ((Below.refl _ _).alloc (Nat.le_refl _) _).trans (b1.mono (by simp))
  clear b1 HN
  cases nm with
  | false =>
    go_wp2_with fail
    go_ret
    rw [HE.out]
    exact ⟨rfl, B1.out⟩
  | true =>
    go_wp2_with fail
    refine (H2.out _).mono ?_
    rintro e w2 ⟨rfl, rfl⟩
    cases p2 with
    | false =>
      go_wp2_with fail
      go_ret
      rw [HE.out]
      exact ⟨rfl, B1.out⟩
    | true =>
      go_wp2_with fail
      refine (H3.out _).mono ?_
      rintro e w2 ⟨rfl, rfl⟩
      cases p3 with
      | false =>
        go_wp2_with fail
        go_ret
        rw [HE.out]
        exact ⟨rfl, B1.out⟩
      | true =>
        go_wp2_with fail
        go_ret
        rw [HE.out]
        exact ⟨rfl, B1.out⟩
theorem checkPlace_any (E : Nat → Addr) (x : PlaceV) (w : World) (hG : PlaceG E w) :
    Calls Tryz.prog 120 #[.agg (encPlace x).toArray] w fun e w' => e = .returned (errOf E (placeE x)) ∧ Below w.heap.size w w' := checkPlace_c E x w ⟨hG.name, hG.bound⟩
end Go.Proofs.YtphgakobfegpcaaGreatDoor
namespace Go.Proofs.YtphgakobfegpcaaGreatDoor
open Go.RowKit Go.Sort Go.Proofs

theorem eqPlace (x y : PlaceV) (W : World) : (binOp .eql 67 (.agg (encPlace x).toArray) (.agg (encPlace y).toArray)).run Tryz.prog W = .ok (.bool (decide (x = y))) W := by
  have u3 := Tryz.underlying3
  have u9 := Tryz.underlying9
  have hS : Tryz.prog.underlying 67 = some (.struct (Tryz.prog.fieldsOf 67)) := by kernel_rfl
  have hp : Tryz.prog.stoodInHeld 67 = false := by kernel_rfl
  simp only [encPlace]
  rw [run_eql_struct, show (10000 : Nat) = 9999 + 1 from rfl, run_equalIn_agg W 9999 67 _ _ hS hp]
  simp only [Program.fieldsOf, Tryz.underlying67]
  go_simp
  obtain ⟨a1, a2, a3⟩ := x
  obtain ⟨b1, b2, b3⟩ := y
  by_cases h1 : a1 = b1 <;> by_cases h2 : a2 = b2 <;> by_cases h3 : a3 = b3 <;> simp [h1, h2, h3]
theorem eqInPlace (x y : PlaceV) (W : World) : (Op.equalIn 10000 67 (.agg (encPlace x).toArray) (.agg (encPlace y).toArray)).run Tryz.prog W = .ok (decide (x = y)) W := by
  have h := eqPlace x y W
  rw [run_eql_struct] at h
  cases hr : (Op.equalIn 10000 67 (.agg (encPlace x).toArray) (.agg (encPlace y).toArray)).run Tryz.prog W with
  | ok b w' =>
    rw [hr] at h
    simp [Result.andThen] at h
    rw [h.1, h.2]
  | _ => rw [hr] at h; simp [Result.andThen] at h
theorem neqPlace (x y : PlaceV) (W : World) : (binOp .neq 67 (.agg (encPlace x).toArray) (.agg (encPlace y).toArray)).run Tryz.prog W = .ok (.bool (!decide (x = y))) W := by
  rw [run_neq_struct, eqInPlace]
  rfl
end Go.Proofs.YtphgakobfegpcaaGreatDoor
namespace Go.Proofs.YtphgakobfegpcaaGreatDoor
open Go.RowKit Go.Sort Go.Proofs

/-- A key of a stock: a place, a lot. -/
abbrev KeyV := PlaceV × List UInt8
def encKey (k : KeyV) : List Value := [.string ⟨k.1.1.toArray⟩, .int .i64 k.1.2.1, .int .i64 k.1.2.2, .string ⟨k.2.toArray⟩]
def eKey (k : KeyV) : Value := .agg (encKey k).toArray
def eNat (n : Nat) : Value := .int .i64 (n : Nat)
theorem encKey_one (k : KeyV) : ∀ v ∈ encKey k, v.oneCell' = true := fun v hv => by
  simp [encKey] at hv
  rcases hv with rfl | rfl | rfl | rfl <;> rfl

theorem key_check (w : World) (em : Bool) (k : KeyV) : (Instr.checkKey em 10000 172 (eKey k)).run Tryz.prog w = .ok () w := by
  have u3 := Tryz.underlying3
  have u9 := Tryz.underlying9
  have uK := Tryz.underlying172
  have uP := Tryz.underlying67
  have e3 : ∀ n (v : Int) (w : World), (Instr.checkKey em (n + 1) 3 (.int .i64 v)).run Tryz.prog w = .ok () w := fun n v w => by
    unfold Instr.checkKey
    simp [run_underlying u3, Result.andThen]
  have e9 : ∀ n (v : ByteArray) (w : World), (Instr.checkKey em (n + 1) 9 (.string v)).run Tryz.prog w = .ok () w := fun n v w => by
    unfold Instr.checkKey
    simp [run_underlying u9, Result.andThen]
  have p3 : ∀ (cs : Array Value) (i : Nat) (v : Value) (w : World), cs[i]? = some v → (part 3 cs i).run Tryz.prog w = .ok v w := fun cs i v w h => by
    simp [part, isAgg, run_underlying u3, Result.andThen, h]
  have p9 : ∀ (cs : Array Value) (i : Nat) (v : Value) (w : World), cs[i]? = some v → (part 9 cs i).run Tryz.prog w = .ok v w := fun cs i v w h => by
    simp [part, isAgg, run_underlying u9, Result.andThen, h]
  have eP : ∀ n (a : ByteArray) (b c : Int) (w : World), (Instr.checkKey em (n + 2) 67 (.agg #[.string a, .int .i64 b, .int .i64 c])).run Tryz.prog w = .ok () w := fun n a b c w => by
    unfold Instr.checkKey
    simp [run_underlying uP, Result.andThen, p3 _ 1 (.int .i64 b), p3 _ 2 (.int .i64 c), p9 _ 0 (.string a), e3, e9]
  have pP : ∀ (w : World), (part 67 (encKey k).toArray 0).run Tryz.prog w = .ok (.agg #[.string ⟨k.1.1.toArray⟩, .int .i64 k.1.2.1, .int .i64 k.1.2.2]) w := fun w => by
    have s := Tryz.sizeOf67 w
    simp [part, isAgg, run_underlying uP, Result.andThen, s, encKey]
  unfold eKey
  rw [show (10000 : Nat) = 9997 + 3 from rfl]
  unfold Instr.checkKey
  simp [run_underlying uK, Result.andThen, pP, p9 (encKey k).toArray 3 (.string ⟨k.2.toArray⟩) w rfl, eP, e9]
theorem eqInKey (x y : KeyV) (W : World) : (Op.equalIn 10000 172 (eKey x) (eKey y)).run Tryz.prog W = .ok (decide (x = y)) W := by
  have u3 := Tryz.underlying3
  have u9 := Tryz.underlying9
  have hS : Tryz.prog.underlying 172 = some (.struct (Tryz.prog.fieldsOf 172)) := by kernel_rfl
  have hp : Tryz.prog.stoodInHeld 172 = false := by kernel_rfl
  have pS : Tryz.prog.underlying 67 = some (.struct (Tryz.prog.fieldsOf 67)) := by kernel_rfl
  have pp : Tryz.prog.stoodInHeld 67 = false := by kernel_rfl
  have eP : ∀ (a1 b1 : List UInt8) (a2 a3 b2 b3 : Int) (W : World), (Op.equalIn 9999 67 (.agg #[.string ⟨a1.toArray⟩, .int .i64 a2, .int .i64 a3]) (.agg #[.string ⟨b1.toArray⟩, .int .i64 b2, .int .i64 b3])).run Tryz.prog W = .ok (decide (a1 = b1 ∧ a2 = b2 ∧ a3 = b3)) W := fun a1 b1 a2 a3 b2 b3 W => by
    rw [show (9999 : Nat) = 9998 + 1 from rfl, run_equalIn_agg W 9998 67 _ _ pS pp]
    simp only [Program.fieldsOf, Tryz.underlying67]
    go_simp
    by_cases h1 : a1 = b1 <;> by_cases h2 : a2 = b2 <;> by_cases h3 : a3 = b3 <;> simp [h1, h2, h3]
  unfold eKey
  simp only [encKey]
  rw [show (10000 : Nat) = 9999 + 1 from rfl, run_equalIn_agg W 9999 172 _ _ hS hp]
  clear hS hp pS pp
  simp only [Program.fieldsOf, Tryz.underlying172]
  go_simp
  obtain ⟨⟨a1, a2, a3⟩, a4⟩ := x
  obtain ⟨⟨b1, b2, b3⟩, b4⟩ := y
  by_cases h1 : a1 = b1 <;> by_cases h2 : a2 = b2 <;> by_cases h3 : a3 = b3 <;> by_cases h4 : a4 = b4 <;> simp [h1, h2, h3, h4]
theorem key_bits (k : KeyV) : Instr.sameBits 10000 (eKey k) (eKey k) = true := by
  unfold eKey encKey
  rw [show (10000 : Nat) = 9999 + 1 from rfl]
  simp [Instr.sameBits]
  exact ⟨(MapKept.bytes_beq _ _).2 rfl, (MapKept.bytes_beq _ _).2 rfl⟩
theorem keyOk : KeyOk Tryz.prog 172 eKey :=
  key_struct Tryz.underlying172 (fun a => ⟨_, rfl⟩) (fun {a b} h => by
    obtain ⟨⟨a1, a2, a3⟩, a4⟩ := a
    obtain ⟨⟨b1, b2, b3⟩, b4⟩ := b
    simp [eKey, encKey] at h
    obtain ⟨h1, h2, h3, h4⟩ := h
    simp [h1, h2, h3, h4]) eqInKey key_check key_bits
end Go.Proofs.YtphgakobfegpcaaGreatDoor
namespace Go.Proofs.YtphgakobfegpcaaGreatDoor
open Go.RowKit Go.Sort Go.Proofs

abbrev StkV := List (KeyV × Nat)
/-- Block p is a stock whose map is block b and holds m. -/
def StkAt (w : World) (p b : Nat) (m : StkV) : Prop := w.heap[p]? = some (.cells #[.map (some b)] 170 (0, 0)) ∧ MapIs eKey eNat w b m
theorem StkAt.lt {w : World} {p b : Nat} {m : StkV} (h : StkAt w p b m) : p < w.heap.size ∧ b < w.heap.size := ⟨(Array.getElem?_eq_some_iff.1 h.1).1, h.2.lt⟩
theorem StkAt.ne {w : World} {p b : Nat} {m : StkV} (h : StkAt w p b m) : p ≠ b := by
  rintro rfl
  obtain ⟨h1, es, c, h2, _⟩ := h
  rw [h1] at h2
  cases h2
theorem StkAt.keep {w w' : World} {p b : Nat} {m : StkV} (h : StkAt w p b m) (hp : w'.heap[p]? = w.heap[p]?) (hb : w'.heap[b]? = w.heap[b]?) : StkAt w' p b m := ⟨hp.trans h.1, h.2.keep hb⟩
theorem StkAt.below {w w' : World} {p b : Nat} {m : StkV} (h : StkAt w p b m) (hb : Below w.heap.size w w') : StkAt w' p b m := h.keep (hb.block _ h.lt.1) (hb.block _ h.lt.2)
theorem StkAt.cell {w : World} {p b : Nat} {m : StkV} (h : StkAt w p b m) : w.cell? ⟨p, 0, none⟩ = some (.map (some b)) := cell_of_row _ _ _ _ _ _ h.1

/-- Pieces of a lot; at a place. -/
def ofM (m : StkV) (lot : List UInt8) : Nat := ((m.filter fun x => decide (x.1.2 = lot)).map (·.2)).sum
theorem ofM_nil (lot : List UInt8) : ofM [] lot = 0 := rfl
theorem ofM_cons (x : KeyV × Nat) (m : StkV) (lot : List UInt8) : ofM (x :: m) lot = (if x.1.2 = lot then x.2 else 0) + ofM m lot := by
  unfold ofM
  by_cases h : x.1.2 = lot
  · rw [List.filter_cons_of_pos (by simpa using h), if_pos h, List.map_cons, List.sum_cons]
  · rw [List.filter_cons_of_neg (by simpa using h), if_neg h, Nat.zero_add]
theorem ofM_app (a b : StkV) (lot : List UInt8) : ofM (a ++ b) lot = ofM a lot + ofM b lot := by
  unfold ofM
  rw [List.filter_append, List.map_append, List.sum_append]
theorem ofM_mid (a b : StkV) (x : KeyV × Nat) (lot : List UInt8) : ofM (a ++ x :: b) lot = (if x.1.2 = lot then x.2 else 0) + ofM (a ++ b) lot := by
  rw [ofM_app, ofM_cons, ofM_app]
  omega
def atM (m : StkV) (k : KeyV) : Nat := (mget m k).getD 0

theorem zeroNat (w : World) : (zeroValue 3).run Tryz.prog w = .ok (eNat 0) w := by kernel_rfl

set_option maxHeartbeats 400000 in
theorem newStock_any (w : World) : Calls Tryz.prog 78 #[] w fun e w' => e = .returned (.pointer (some ⟨w.heap.size + 1, 0, none⟩)) ∧ StkAt w' (w.heap.size + 1) w.heap.size [] ∧ Below w.heap.size w w' := by
  have hmm := @run_makeMap Tryz.prog
  go_enter Tryz.func78, Tryz.ntmps78
  go_wp2
  go_ret
  refine ⟨rfl, ⟨?_, ?_⟩, below_two _ _ _⟩
  · have := heap_alloc_new (w.alloc (.map #[] 0)) (.cells #[.map (some w.heap.size)] 170)
    simpa using this
  · exact (MapIs.made eKey eNat w).below (below_one _ _)

set_option maxHeartbeats 800000 in
set_option maxRecDepth 100000 in
theorem ofStock_any (p b : Nat) (m : StkV) (lot : List UInt8) (w : World) (h : StkAt w p b m) (hs : ofM m lot ≤ 4611686018427387904) :
    Calls Tryz.prog 41 #[.pointer (some ⟨p, 0, none⟩), .string ⟨lot.toArray⟩] w fun e w' => e = .returned (.int .i64 (ofM m lot : Nat)) ∧ Below w.heap.size w w' := by
  have c0 := h.cell
  have hM := h.2
  obtain ⟨T, hT⟩ : ∃ T, T = ofM m lot := ⟨_, rfl⟩
  have HT := Lib.hid hT
  rw [← hT] at hs ⊢
  clear hT h
  go_enter Tryz.func41, Tryz.ntmps41
  go_wp2_with (first | (at_range; refine wpList_range_map _ rfl _ 168 rfl _ _ Tryz.underlying168 b m rfl hM ?_; intro w0 hrg0 hb0 hs0) | go_in)
  go_frame
  go_loopw [5] (fun n wr => ∃ (left : StkV) (a : Nat), Ranging eKey eNat wr b w.heap.size m left ∧ n = .int .i64 (a : Nat) ∧ Hid (a + ofM left lot = T) ∧ Below w.heap.size w wr) (fun _ wr => wr.rangeLeft b w.heap.size)
  case atStart => exact ⟨m, 0, hrg0, rfl, (Nat.zero_add _).trans HT.out.symm, hb0⟩
  case round =>
    obtain ⟨left, a, hrg, rfl, HA, hb⟩ := hrel
    have HB := Lib.hid hb
    have HRG := Lib.hid hrg
    have hal : a ≤ T := by have := HA.out; omega
    clear hb
    go_wp2_with (first | (at_next; refine wpList_next_map _ rfl _ rfl b w.heap.size m left rfl hrg ?_ ?_) | go_in)
    · intro hl0
      have hfin := Lib.hid (show a = T by have := HA.out; rw [hl0, ofM_nil] at this; exact this)
      clear hl0
      go_wp2
      go_ret
      rw [hfin.out]
      exact ⟨rfl, HB.out⟩
    · intro l1 a1 a2 a3 a4 v l2 w1 hl hrg1 ht1 hen
      have HL := Lib.hid hl
      have HS := Lib.hid (ofM_mid l1 l2 (((a1, a2, a3), a4), v) lot)
      have B1 := Lib.hid (HB.out.trans (ht1.below (Nat.le_refl _)))
      have hlen := Lib.hid (show (l1 ++ l2).length < left.length by rw [hl]; simp)
      simp only [eKey, encKey, eNat] at hen
      clear hl ht1 hrg
      by_cases hk : a4 = lot
      · have hkb : (a4 == lot) = true := by simpa using hk
        have hsum : a + v + ofM (l1 ++ l2) lot = T := by
          have h1 := HA.out
          have h2 := HS.out
          rw [← HL.out, if_pos hk] at h2
          omega
        have hle : a + v ≤ T := by omega
        have HSM := Lib.hid hsum
        clear hsum hk
        go_wp2
        go_roundw
        case rel => exact ⟨l1 ++ l2, a + v, hrg1.below (below_one _ _), by go_num, HSM.out, B1.out.alloc B1.out.size _⟩
        case measure => rw [(hrg1.below (below_one _ _)).left_eq, HRG.out.left_eq]; exact hlen.out
      · have hkb : (a4 == lot) = false := by simpa using hk
        have hsum : a + ofM (l1 ++ l2) lot = T := by
          have h1 := HA.out
          have h2 := HS.out
          rw [← HL.out, if_neg hk] at h2
          omega
        have HSM := Lib.hid hsum
        clear hsum hk
        go_wp2
        go_roundw
        case rel => exact ⟨l1 ++ l2, a, hrg1.below (below_one _ _), rfl, HSM.out, B1.out.alloc B1.out.size _⟩
        case measure => rw [(hrg1.below (below_one _ _)).left_eq, HRG.out.left_eq]; exact hlen.out
end Go.Proofs.YtphgakobfegpcaaGreatDoor
