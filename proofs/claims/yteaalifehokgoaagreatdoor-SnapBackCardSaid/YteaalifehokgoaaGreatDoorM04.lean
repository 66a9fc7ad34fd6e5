/- Slices of structs, as walks read them, sort them and append them. cmp.Or; strings compared: a strict order. Plain facts on decimal numerals: how strconv.Atoi ends at the digits of a number. No program in sight. Places: Check; what a compare of well places tells. Equal places. A stock's keys. -/
import Derived.Shelf.SlSortCmp.KitK
import Derived.Maps.AppendAt
import Derived.OwnWalk
import Derived.Sort.Statements
import Derived.Lib.AtoiAll
import Derived.Lib.AtoiAllCases
import Derived.Lib.ItoaNum
import Derived.Laws.StructEq
import Derived.Test.YteaalifehokgoaaGreatDoorM01
import Derived.Test.YteaalifehokgoaaGreatDoorM02
import Derived.Test.YteaalifehokgoaaGreatDoorM03
namespace Go.Proofs.YteaalifehokgoaaGreatDoor
open Go.RowKit Go.Sort Go.Proofs
section
variable {α : Type} {enc : α → List Value} {k : Nat} {w w' : World} {A : Option Addr} {xs : List α}
def RowAt (enc : α → List Value) (k : Nat) (w : World) (A : Option Addr) (xs : List α) : Prop :=
 xs = [] ∨ ∃ b o, A = some ⟨b, o, none⟩ ∧ b < w.heap.size ∧ ∀ i (h : i < xs.length) c v, (enc xs[i])[c]? = some v → w.cell? ⟨b, o + i * k + c, none⟩ = some v
theorem RowAt.nil : RowAt enc k w A ([] : List α) := .inl rfl
theorem RowAt.below (h : RowAt enc k w A xs) (hb : Below w.heap.size w w') : RowAt enc k w' A xs := by
 rcases h with h | ⟨b, o, h1, h2, h3⟩
 ·exact .inl h
 ·exact .inr ⟨b, o, h1, Nat.lt_of_lt_of_le h2 hb.size, fun i hi c v hv => (hb.cell (p := ⟨b, o + i * k + c, none⟩) h2).trans (h3 i hi c v hv)⟩
def flatL (enc : α → List Value) (xs : List α) : List Value := xs.flatMap enc
theorem flatL_length (hk : ∀ x, (enc x).length = k) (xs : List α) : (flatL enc xs).length = xs.length * k := by
 induction xs with
 |nil => simp [flatL]
 |cons x r ih =>
  have : flatL enc (x :: r) = enc x ++ flatL enc r := rfl
  rw [this, List.length_append, hk, ih, List.length_cons, Nat.add_mul, Nat.one_mul, Nat.add_comm]
theorem flatL_append (xs ys : List α) : flatL enc (xs ++ ys) = flatL enc xs ++ flatL enc ys := by simp [flatL]
theorem flatL_get (hk : ∀ x, (enc x).length = k) (xs : List α) (i c : Nat) (hi : i < xs.length) (hc : c < k) : (flatL enc xs)[i * k + c]? = (enc xs[i])[c]? := by
 induction xs generalizing i with
 |nil => simp at hi
 |cons x r ih =>
  have e : flatL enc (x :: r) = enc x ++ flatL enc r := rfl
  rw [e]
  cases i with
  |zero => rw [Nat.zero_mul, Nat.zero_add, List.getElem?_append_left (by rw [hk]; exact hc)]; rfl
  |succ i =>
   rw [List.getElem?_append_right (by rw [hk, Nat.add_mul]; omega), hk, show (i + 1) * k + c - k = i * k + c by rw [Nat.add_mul]; omega, ih i (by simpa using hi)]
   rfl
theorem flat_split (hk0 : 0 < k) (xs : List α) (j : Nat) (hj : j < xs.length * k) : j / k < xs.length ∧ j % k < k ∧ j / k * k + j % k = j :=
 ⟨Nat.div_lt_of_lt_mul (by rw [Nat.mul_comm]; exact hj), Nat.mod_lt _ hk0, Nat.div_add_mod' j k⟩
theorem RowAt.news (h : RowAt enc k w A xs) (hk : ∀ x, (enc x).length = k) (hk0 : 0 < k) {b o : Nat} (hA : A = some ⟨b, o, none⟩) : ∀ j u, (flatL enc xs)[j]? = some u → w.cell? ⟨b, o + j, none⟩ = some u := by
 intro j u hj
 have hjl : j < xs.length * k := by rw [← flatL_length hk]; exact (List.getElem?_eq_some_iff.1 hj).1
 obtain ⟨h1, h2, h3⟩ := flat_split hk0 xs j hjl
 rcases h with rfl | ⟨b', o', hA', _, hc⟩
 ·simp at hjl
 ·rw [hA] at hA'
  cases hA'
  have := flatL_get hk xs (j / k) (j % k) h1 h2
  rw [h3, hj] at this
  have h4 := hc (j / k) h1 (j % k) u this.symm
  rw [Nat.add_assoc, h3] at h4
  exact h4
theorem RowAt.of_own {B : Nat} {e : TypeId} {v : Value} (hk : ∀ x, (enc x).length = k) (h : w.ownsRow B e k v xs.length (flatL enc xs)) : ∃ A cap, v = .slice A xs.length cap ∧ RowAt enc k w A xs ∧ (∀ a, A = some a → B ≤ a.block) := by
 rcases h.2 with ⟨rfl, h0⟩ | ⟨g, cap, cur, rfl, hB, hg, _, _, _, ht⟩
 ·obtain rfl := List.eq_nil_of_length_eq_zero h0
  exact ⟨_, _, rfl, .inl rfl, fun a ha => by cases ha⟩
 ·refine ⟨_, _, rfl, .inr ⟨g, 0, rfl, ?_, fun i hi c v hv => ?_⟩, fun a ha => by cases ha; exact hB⟩
  ·rcases Nat.lt_or_ge g w.heap.size with hl | hl
   ·exact hl
   ·rw [Array.getElem?_eq_none hl] at hg; cases hg
  ·have hc : c < k := by rw [← hk xs[i]]; exact (List.getElem?_eq_some_iff.1 hv).1
   have hlt : i * k + c < xs.length * k := by
    have : (i + 1) * k ≤ xs.length * k := Nat.mul_le_mul_right k hi
    rw [Nat.add_mul] at this; omega
   rw [cell_of_row w g _ cur _ _ hg, Nat.zero_add, ← Array.getElem?_toList, ← List.getElem?_take_of_lt (l := cur.toList) hlt, ht, flatL_get hk xs i c hi hc]
   exact hv
theorem getBang (xs : List α) [Inhabited α] (i : Nat) (h : i < xs.length) : xs.toArray[i]! = xs[i] := by
 simp [h]
theorem holds_of_own [Inhabited α] {B g cap n : Nat} {e : TypeId} (hk : ∀ x, (enc x).length = k) (hk0 : 0 < k) (h : w.ownsRow B e k (.slice (some ⟨g, 0, none⟩) n cap) xs.length (flatL enc xs)) : HoldsK enc k w g 0 xs.toArray := by
 intro j hj
 rw [size_flatK, List.size_toArray] at hj
 obtain ⟨h1, h2, h3⟩ := flat_split hk0 xs j hj
 rw [get_flatK _ _ _ _ (by rw [List.size_toArray]; exact hj), getBang xs _ h1, Nat.zero_add]
 rcases h.2 with ⟨h0, _⟩ | ⟨g', cap', cur, h0, _, hg, _, _, _, ht⟩
 ·cases h0
 ·cases h0
  have hl : j < (flatL enc xs).length := by rw [flatL_length hk]; exact hj
  refine ⟨?_, by simp [World.frozen?, hg]⟩
  rw [cell_of_row w g _ cur _ _ hg, ← Array.getElem?_toList, ← List.getElem?_take_of_lt (l := cur.toList) hj, ht]
  have := flatL_get hk xs (j / k) (j % k) h1 h2
  rw [h3] at this
  rw [this]
  simp only [id]
  rw [List.getElem?_eq_getElem (by rw [hk]; exact h2)]
  congr 1
  rw [List.getElem!_eq_getElem?_getD, List.getElem?_eq_getElem (by rw [hk]; exact h2)]
  rfl
theorem RowAt.of_sort [Inhabited α] {w0 : World} {g : Nat} {d0 : Array α} (hk : ∀ x, (enc x).length = k) (R : RowK enc k w0 g 0 d0) (S : SWK enc k w0 g 0 xs.toArray w) (hs : xs.length = d0.size) : RowAt enc k w (some ⟨g, 0, none⟩) xs := by
 refine .inr ⟨g, 0, rfl, S.lt R.hblk, fun i hi c v hv => ?_⟩
 have hc : c < k := by rw [← hk xs[i]]; exact (List.getElem?_eq_some_iff.1 hv).1
 have h := (HoldsK.cell (S.holds R.hblk R.hH (by rw [List.size_toArray]; exact hs)) (i := i) (c := c) (by rw [List.size_toArray]; exact hi) hc).1
 rw [h, getBang xs i hi]
 rw [List.getElem!_eq_getElem?_getD, hv]
 rfl
theorem sort_block [Inhabited α] {w0 : World} {g o : Nat} {d : Array α} (S : SWK enc k w0 g o d w) (j : Nat) (hj : j < w0.heap.size) (hne : j ≠ g) : w.heap[j]? = w0.heap[j]? := by
 obtain ⟨m, os, rfl⟩ := S
 simp [sortWorldK, Go.Sort.grow, putRowK, putRow, mapBlock, Go.Sort.ahead, Array.getElem?_append, hj]
 rw [Array.getElem_modify_of_ne (Ne.symm hne)]
theorem sort_below [Inhabited α] {B : Nat} {a w0 : World} {g o : Nat} {d : Array α} (h : Below B a w0) (S : SWK enc k w0 g o d w) (hg : B ≤ g) (hB : B ≤ w0.heap.size) : Below B a w := by
 refine h.trans ⟨?_, ?_, ?_, S.le, fun j hj => sort_block S j (by omega) (by omega)⟩
 all_goals
  obtain ⟨m, os, rfl⟩ := S
  rfl
theorem run_append_rows {P : Program} (w : World) (base : Nat) (t ty e : TypeId) (i : TypeInfo) (z : Value) (bytes : Nat) (ht : P.underlying t = some (.slice e)) (hi : P.info? e = some i) (hz : i.zero = some z)
  (hsize : i.size = k) (hby : i.bytes = bytes) (hzs : z.cells.size = k) (hk : ∀ x, (enc x).length = k) (hk0 : 0 < k) (h1 : ∀ x, ∀ u ∈ enc x, u.oneCell' = true)
  (v : Value) (n : Nat) (cs : List Value) (hown : w.ownsRow base e k v n cs) (A : Option Addr) (c : Nat) (ys : List α) (hS : RowAt enc k w A ys) (hn : n + ys.length ≤ 1000000) (hbytes : bytes ≤ 1000) (hbase : base ≤ w.heap.size) :
  ∃ v' w', (Builtin.append_ #[t, t] ty #[v, .slice A ys.length c]).run P w = .ok v' w' ∧ w'.ownsRow base e k v' (n + ys.length) (cs ++ flatL enc ys) ∧ w.grownBy w' v.ownBlock := by
 cases A with
 |none =>
  have h0 : ys = [] := by
   rcases hS with h | ⟨b, o, h, _⟩
   ·exact h
   ·cases h
  subst h0
  refine ⟨v, w, ?_, by simpa [flatL] using hown, World.grownBy.refl w _⟩
  rcases hown.2 with ⟨rfl, rfl⟩ | ⟨g, cap, cur, rfl, _, _, hnc, _⟩
  ·simp [Builtin.append_, run_underlying ht, sizeOf, typeInfo, hi, Builtin.lenOf, Builtin.firstCells]
  ·simp [Builtin.append_, run_underlying ht, sizeOf, typeInfo, hi, Builtin.lenOf, Builtin.firstCells, hnc, storeCells]
 |some ad =>
  have hc : ∀ j u, (flatL enc ys)[j]? = some u → w.cell? (ad.add j) = some u := by
   intro j u hj
   have hjl : j < (flatL enc ys).length := (List.getElem?_eq_some_iff.1 hj).1
   have hS' := hS
   rcases hS' with h | ⟨b, o, h, _, _⟩
   ·subst h; simp [flatL] at hjl
   ·cases h
    have hplain : (⟨b, o, none⟩ : Addr).add j = ⟨b, o + j, none⟩ := by unfold Addr.add; split <;> simp_all
    rw [hplain]
    exact hS.news hk hk0 rfl j u hj
  have hb : (n + ys.length) * bytes ≤ 1000000 * 1000 := Nat.mul_le_mul hn hbytes
  obtain ⟨v', w', h4, h2, h3, _, _⟩ := run_append_own_at (P := P) w base t ty e i z k bytes ht hi hz hsize hby hzs hk0 v n cs hown ad ys.length c (flatL enc ys) (flatL_length hk ys) hc (fun u hu => by
   obtain ⟨x, _, hx⟩ := List.mem_flatMap.1 hu
   exact h1 x u hx) (by unfold maxLen; omega) (by omega) hbase
  exact ⟨v', w', h4, h2, h3⟩
theorem wpList_append_rows {P : Program} {ops : Array Oper} {rest : List Oper} {o : Oper} {a : Act} {Q : Exit → Act → World → Prop} (w : World) (hgd : o.guard = none) (s x : Operand) (t : TypeId)
  (ho : o.op = .call { callee := .builtin .append, args := #[s, x], argTypes := #[t, t] })
  (base : Nat) (e : TypeId) (i : TypeInfo) (z : Value) (bytes : Nat) (ht : P.underlying t = some (.slice e)) (hi : P.info? e = some i) (hz : i.zero = some z)
  (hsize : i.size = k) (hby : i.bytes = bytes) (hzs : z.cells.size = k) (hk : ∀ x, (enc x).length = k) (hk0 : 0 < k) (h1 : ∀ x, ∀ u ∈ enc x, u.oneCell' = true)
  (v : Value) (n : Nat) (cs : List Value) (hs : a.eval s = v) (hown : w.ownsRow base e k v n cs) (A : Option Addr) (c : Nat) (ys : List α) (hx : a.eval x = .slice A ys.length c) (hS : RowAt enc k w A ys) (hn : n + ys.length ≤ 1000000) (hbytes : bytes ≤ 1000) (hbase : base ≤ w.heap.size)
  (h : ∀ v' w', Hid (w'.ownsRow base e k v' (n + ys.length) (cs ++ flatL enc ys)) → Below base w w' → wpList P ops Q rest (a.put o.dst v') w') : wpList P ops Q (o :: rest) a w := by
 refine wpList_plain hgd fun K hK => ?_
 obtain ⟨v', w', hr, h2, h3⟩ := run_append_rows w base t o.type e i z bytes ht hi hz hsize hby hzs hk hk0 h1 v n cs hown A c ys hS hn hbytes hbase
 unfold Oper.wp execOp
 simp only [ho, resolve, invoke, builtin, Sem.run_bind, Sem.run_pure, Result.andThen_ok, List.map_toArray, List.map_cons, List.map_nil, hs, hx, hr]
 exact hK _ _ (h v' w' h2 ((Below.refl base w).grown h3 hbase (fun j hj => (hown.lt j hj).1)))
end
theorem below_grown (w : World) (q : Nat) (os : Array Obj) : Below w.heap.size w (Go.Sort.grow (w.drewN q) os) :=
 ⟨rfl, rfl, rfl, by simp [Go.Sort.grow, World.drewN], fun k hk => by simp [Go.Sort.grow, World.drewN, Array.getElem?_append, hk]⟩
end Go.Proofs.YteaalifehokgoaaGreatDoor
namespace Go.Proofs.YteaalifehokgoaaGreatDoor
open Go.RowKit
def orL : List Int → Int
 |[] => 0
 |x :: r => if x = 0 then orL r else x
theorem orL_zeros (xs : List Int) (k : Nat) (hk : k ≤ xs.length) (h : ∀ j (hj : j < xs.length), j < k → xs[j] = 0) : orL xs = orL (xs.drop k) := by
 induction xs generalizing k with
 |nil => simp
 |cons x r ih =>
  cases k with
  |zero => rfl
  |succ k =>
   have h0 := h 0 (by simp) (by omega)
   simp only [List.getElem_cons_zero] at h0
   subst h0
   rw [List.drop_succ_cons]
   show (if (0 : Int) = 0 then orL r else 0) = _
   rw [if_pos rfl]
   exact ih k (by simpa using hk) fun j hj hjk => by
    have := h (j + 1) (by simpa using hj) (by omega)
    simpa using this
theorem orL_at (xs : List Int) (k : Nat) (hk : k < xs.length) (h : ∀ j (hj : j < xs.length), j < k → xs[j] = 0) (hx : xs[k] ≠ 0) : orL xs = xs[k] := by
 rw [orL_zeros xs k (by omega) h, List.drop_eq_getElem_cons hk]
 exact if_neg hx
set_option maxHeartbeats 400000 in
theorem or_any (b : Nat) (xs : List Int) (w : World) (hn : xs.length ≤ 1000) (hc : ∀ k (h : k < xs.length), w.cell? ⟨b, k, none⟩ = some (.int .i64 xs[k])) :
  Calls Tryz.prog 134 #[.slice (some ⟨b, 0, none⟩) xs.length xs.length] w fun e w' => e = .returned (.int .i64 (orL xs)) ∧ w = w' := by
 have HC := Lib.hid hc
 obtain ⟨n, hn'⟩ : ∃ n, n = xs.length := ⟨_, rfl⟩
 have HN := Lib.hid hn'
 rw [← hn'] at hn ⊢
 clear hc hn'
 go_enter Tryz.func134, Tryz.ntmps134
 go_wp2
 go_loop [8] (fun i => ∃ k : Nat, k ≤ n ∧ i = .int .i64 k ∧ Hid (∀ j (hj : j < xs.length), j < k → xs[j] = 0)) (fun i => n - (intOf i).toNat)
 case atStart => exact ⟨0, by omega, rfl, fun j hj h => by omega⟩
 case round =>
  obtain ⟨k, hk, rfl, HZ⟩ := hrel
  by_cases hlt : k < n
  ·have hkx : k < xs.length := by rw [← HN.out]; exact hlt
   have c := HC.out k hkx
   obtain ⟨x, hx⟩ : ∃ x, x = xs[k] := ⟨_, rfl⟩
   have HX := Lib.hid hx
   rw [← hx] at c
   clear hx
   by_cases h0 : x = 0
   ·subst h0
    go_wp2
    go_round
    case rel => exact ⟨k + 1, by omega, by go_num, fun j hj h => by
     rcases Nat.lt_or_ge j k with h1 | h1
     ·exact HZ.out j hj h1
     ·obtain rfl : j = k := by omega
      exact HX.out.symm⟩
    case measure => simp [intOf]; omega
   ·have hb : (x == 0) = false := by simpa using h0
    have hb' : (x != 0) = true := by simpa using h0
    go_wp2
    go_ret
    refine ⟨?_, rfl⟩
    rw [orL_at xs k hkx HZ.out (by rw [← HX.out]; exact h0), ← HX.out]; rfl
  ·obtain rfl : k = n := by omega
   go_wp2
   go_ret
   refine ⟨?_, rfl⟩
   rw [orL_zeros xs k (by have := HN.out; omega) HZ.out, List.drop_of_length_le (by have := HN.out; omega)]; rfl
/-! Strings compared. -/
theorem cmpB_refl (a : List UInt8) : Lib.compareBytes a a = 0 := by
 induction a with
 |nil => rfl
 |cons x r ih => simp [Lib.compareBytes, ih]
theorem cmpB_eq (a b : List UInt8) : Lib.compareBytes a b = 0 ↔ a = b := by
 refine ⟨fun h => ?_, fun h => by subst h; exact cmpB_refl a⟩
 induction a generalizing b with
 |nil => cases b with
  |nil => rfl
  |cons y s => simp [Lib.compareBytes] at h
 |cons x r ih =>
  cases b with
  |nil => simp [Lib.compareBytes] at h
  |cons y s =>
   simp only [Lib.compareBytes] at h
   split at h
   ·simp at h
   ·split at h
    ·simp at h
    ·rename_i h1 h2
     have : x = y := by
      have a1 : ¬ x.toNat < y.toNat := h1
      have a2 : ¬ y.toNat < x.toNat := h2
      exact UInt8.toNat_inj.1 (by omega)
     rw [this, ih s h]
theorem cmpB_swap (a b : List UInt8) : Lib.compareBytes b a = - Lib.compareBytes a b := by
 induction a generalizing b with
 |nil => cases b <;> simp [Lib.compareBytes]
 |cons x r ih =>
  cases b with
  |nil => simp [Lib.compareBytes]
  |cons y s =>
   simp only [Lib.compareBytes]
   by_cases h1 : x < y
   ·have h2 : ¬ y < x := by
     have a1 : x.toNat < y.toNat := h1
     intro h
     have a2 : y.toNat < x.toNat := h
     omega
    rw [if_pos h1, if_neg h2, if_pos h1]; rfl
   ·by_cases h2 : y < x
    ·simp [h1, h2]
    ·simp [h1, h2, ih s]
theorem cmpB_trans (a b c : List UInt8) (h1 : Lib.compareBytes a b < 0) (h2 : Lib.compareBytes b c < 0) : Lib.compareBytes a c < 0 := by
 induction a generalizing b c with
 |nil => cases c with
  |nil => cases b <;> simp [Lib.compareBytes] at h1 h2
  |cons z t => simp [Lib.compareBytes]
 |cons x r ih =>
  cases b with
  |nil => simp [Lib.compareBytes] at h1
  |cons y s =>
   cases c with
   |nil => simp [Lib.compareBytes] at h2
   |cons z t =>
    simp only [Lib.compareBytes] at h1 h2 ⊢
    by_cases a1 : x < y
    ·by_cases b1 : y < z
     ·rw [if_pos (show x < z from (show x.toNat < z.toNat from Nat.lt_trans (show x.toNat < y.toNat from a1) b1))]; omega
     ·by_cases b2 : z < y
      ·rw [if_neg b1, if_pos b2] at h2; omega
      ·have e : y.toNat = z.toNat := by
        have q1 : ¬ y.toNat < z.toNat := b1
        have q2 : ¬ z.toNat < y.toNat := b2
        omega
       rw [if_pos (show x < z from (show x.toNat < z.toNat by rw [← e]; exact a1))]; omega
    ·by_cases a2 : y < x
     ·rw [if_neg a1, if_pos a2] at h1; omega
     ·have e : x = y := by
       have q1 : ¬ x.toNat < y.toNat := a1
       have q2 : ¬ y.toNat < x.toNat := a2
       exact UInt8.toNat_inj.1 (by omega)
      subst e
      rw [if_neg a1, if_neg a1] at h1
      by_cases b1 : x < z
      ·rw [if_pos b1]; omega
      ·by_cases b2 : z < x
       ·rw [if_neg b1, if_pos b2] at h2; omega
       ·rw [if_neg b1, if_neg b2] at h2 ⊢
        exact ih s t h1 h2
end Go.Proofs.YteaalifehokgoaaGreatDoor
namespace Go.Proofs.YteaalifehokgoaaGreatDoor
open Go.Lib
theorem parse_app (l : List UInt8) (c : UInt8) : ∀ (acc a : Nat), parseUint10 acc l = .ok a → parseUint10 acc (l ++ [c]) = parseUint10 a [c] := by
 induction l with
 |nil => intro acc a h; simp [parseUint10] at h; subst h; rfl
 |cons x r ih =>
  intro acc a h
  rw [List.cons_append, parseUint10]
  rw [parseUint10] at h
  split at h
  ·rename_i h1
   rw [if_pos h1]
   split at h
   ·cases h
   ·rename_i h2
    rw [if_neg h2]
    split at h
    ·cases h
    ·rename_i h3
     rw [if_neg h3]
     exact ih _ _ h
  ·cases h
theorem digit_toNat (u : Nat) (h : u < 10) : (UInt8.ofNat (48 + u)).toNat = 48 + u := by
 simp; omega
theorem parse_dec (u : Nat) : u < 18446744073709551616 → parseUint10 0 (decDigits u) = .ok u := by
 induction u using Nat.strongRecOn with
 |_ u ih =>
  intro hu
  rw [decDigits]
  by_cases h : u < 10
  ·rw [dif_pos h, parseUint10, digit_toNat u h, if_pos (by omega), if_neg (by omega), if_neg (by omega), parseUint10]
   simp
  ·rw [dif_neg h, parse_app _ _ _ _ (ih (u / 10) (by omega) (by omega)), parseUint10, digit_toNat _ (Nat.mod_lt _ (by omega)), if_pos (by omega), if_neg (by omega), if_neg (by omega), parseUint10]
   congr 1; omega
theorem dec_ne_nil (u : Nat) : decDigits u ≠ [] := by
 rw [decDigits]; split <;> simp
theorem dec_digit (u : Nat) : ∀ c ∈ decDigits u, 48 ≤ c.toNat ∧ c.toNat ≤ 57 := by
 induction u using Nat.strongRecOn with
 |_ u ih =>
  intro c hc
  rw [decDigits] at hc
  by_cases h : u < 10
  ·rw [dif_pos h] at hc
   simp only [List.mem_singleton] at hc
   subst hc
   rw [digit_toNat u h]; omega
  ·rw [dif_neg h, List.mem_append, List.mem_singleton] at hc
   rcases hc with hc | rfl
   ·exact ih (u / 10) (by omega) c hc
   ·rw [digit_toNat _ (Nat.mod_lt _ (by omega))]; omega
theorem atoi_dec (u : Nat) (hu : u ≤ 9223372036854775807) : atoiAll (decDigits u) = .ok (u : Int) := by
 have hp := parse_dec u (by omega)
 have hd := dec_digit u
 have hn := dec_ne_nil u
 revert hp hd hn
 generalize decDigits u = l
 intro hp hd hn
 match l, hn with
 |c :: r, _ =>
  have hc := hd c (by simp)
  rw [atoiAll_plain c r (by omega) (by omega)]
  unfold parseMag
  rw [if_neg (by simp), hp]
  unfold signless
  simp
  omega
theorem itoa_nat (v : Int) (h : 0 ≤ v) : itoa v = decDigits v.toNat := by
 unfold itoa; rw [if_neg (by omega)]
theorem dec_len_le (u k : Nat) (hk : 1 ≤ k) (h : u < 10 ^ k) : (decDigits u).length ≤ k := by
 rw [decDigits_length]
 induction k generalizing u with
 |zero => omega
 |succ k ih =>
  by_cases h9 : u < 10
  ·rw [nDigits_small h9]; omega
  ·rw [nDigits_big h9]
   by_cases hk0 : k = 0
   ·subst hk0; simp at h; omega
   ·have := ih (u / 10) (by omega) (by rw [Nat.pow_succ] at h; omega)
    omega
def NumIs (l : List UInt8) (d n : Nat) : Prop := l = decDigits n ∧ l.length ≤ d ∧ n ≤ 9223372036854775807
def numQ (l : List UInt8) (d : Nat) : Option Nat :=
 match atoiAll l with
 |.ok v => if l = decDigits v.toNat ∧ 0 ≤ v ∧ l.length ≤ d then some v.toNat else none
 |_ => none
theorem numQ_iff (l : List UInt8) (d n : Nat) : numQ l d = some n ↔ NumIs l d n := by
 constructor
 ·intro h
  unfold numQ at h
  split at h
  ·rename_i v hv
   obtain ⟨b0, b1⟩ := atoiAll_bounds hv
   split at h
   ·rename_i hh
    injection h with h
    subst h
    exact ⟨hh.1, hh.2.2, by omega⟩
   ·cases h
  ·cases h
 ·rintro ⟨h1, h2, h3⟩
  unfold numQ
  have ha := atoi_dec n h3
  rw [← h1] at ha
  rw [ha]
  simp [← h1, h2]
theorem numQ_none (l : List UInt8) (d : Nat) (h : numQ l d = none) (n : Nat) : ¬ NumIs l d n := by
 intro hn
 rw [(numQ_iff l d n).2 hn] at h
 cases h
theorem numQ_lt {l : List UInt8} {d n : Nat} (h : NumIs l d n) (_hd : 1 ≤ d) : n < 10 ^ d := by
 obtain ⟨h1, h2, _⟩ := h
 have h3 := lt_pow_nDigits n
 rw [← decDigits_length, ← h1] at h3
 exact Nat.lt_of_lt_of_le h3 (Nat.pow_le_pow_right (by omega) h2)
end Go.Proofs.YteaalifehokgoaaGreatDoor
namespace Go.Proofs.YteaalifehokgoaaGreatDoor
open Go.RowKit Go.Sort Go.Proofs
abbrev PlaceV := List UInt8 × Int × Int
def encPlace (x : PlaceV) : List Value := [.string ⟨x.1.toArray⟩, .int .i64 x.2.1, .int .i64 x.2.2]
def placeE (x : PlaceV) : Nat := if nameB x.1 = false then 5 else if x.2.1 < 1 ∨ 20 < x.2.1 ∨ x.2.2 < 1 ∨ 40 < x.2.2 then 2 else 0
theorem placeE_zero {x : PlaceV} : placeE x = 0 ↔ nameB x.1 = true ∧ 1 ≤ x.2.1 ∧ x.2.1 ≤ 20 ∧ 1 ≤ x.2.2 ∧ x.2.2 ≤ 40 := by
 unfold placeE
 cases hn : nameB x.1
 ·simp
 ·simp only [Bool.true_eq_false, if_false]
  split
  ·simp; omega
  ·simp; omega
theorem nameB_len {l : List UInt8} (h : nameB l = true) : 1 ≤ l.length ∧ l.length ≤ 8 := by
 unfold nameB at h
 simp at h
 refine ⟨?_, h.1.2⟩
 cases l with
 |nil => simp at h
 |cons x r => simp
structure PlaceG (E : Nat → Addr) (w : World) : Prop where
 name : ErrAt 4 (E 5) w
 bound : ErrAt 0 (E 2) w
 tab : TabG w
theorem PlaceG.below {E : Nat → Addr} {w w' : World} (h : PlaceG E w) (hb : Below w.heap.size w w') : PlaceG E w' := ⟨h.name.below hb, h.bound.below hb, h.tab.below hb⟩
structure PlaceCG (E : Nat → Addr) (w : World) : Prop where
 name : ErrAt 4 (E 5) w
 bound : ErrAt 0 (E 2) w
theorem PlaceCG.below {E : Nat → Addr} {w w' : World} (h : PlaceCG E w) (hb : Below w.heap.size w w') : PlaceCG E w' := ⟨h.name.below hb, h.bound.below hb⟩
theorem placeE_wi (x : PlaceV) : placeE x = if nameB x.1 = false then 5 else if wiB x.2.1 1 20 = false then 2 else if wiB x.2.2 1 40 = false then 2 else 0 := by
 unfold placeE wiB
 cases nameB x.1
 ·rfl
 ·simp only [Bool.true_eq_false, if_false, decide_eq_false_iff_not]
  split
  ·split
   ·rfl
   ·rw [if_pos (by omega)]
  ·rw [if_neg (by omega), if_neg (by omega)]
set_option maxHeartbeats 400000 in
theorem checkPlace_c (E : Nat → Addr) (x : PlaceV) (w : World) (hG : PlaceCG E w) :
  Calls Tryz.prog 137 #[.agg (encPlace x).toArray] w fun e w' => e = .returned (errOf E (placeE x)) ∧ Below w.heap.size w w' := by
 have HE := Lib.hid (placeE_wi x)
 obtain ⟨a1, a2, a3⟩ := x
 have HN := Lib.hid (fun W => name_wide a1 W)
 have H2 := Lib.hid (within_any a2 1 20)
 have H3 := Lib.hid (within_any a3 1 40)
 have g1 := hG.name
 have g2 := hG.bound
 have l1 := lt_of_cell g1
 have l2 := lt_of_cell g2
 have l0 : 0 < w.heap.size := Nat.lt_of_le_of_lt (Nat.zero_le _) l2
 simp only at l1 l2
 unfold ErrAt at g1 g2
 simp only [encPlace] at HE ⊢
 clear hG
 generalize nameB a1 = nm at HN HE
 generalize wiB a2 1 20 = p2 at H2 HE
 generalize wiB a3 1 40 = p3 at H3 HE
 go_enter Tryz.func137, Tryz.ntmps137
 go_wp2_with fail
 refine (HN.out _).mono ?_
 rintro e w1 ⟨rfl, b1⟩
 obtain ⟨hc, hf⟩ := bcell b1
 have B1 : Hid (Below w.heap.size w w1) := ((Below.refl _ _).alloc (Nat.le_refl _) _).trans (b1.mono (by simp))
 clear b1 HN
 cases nm with
 |false =>
  go_wp2_with fail
  go_ret
  rw [HE.out]
  exact ⟨rfl, B1.out⟩
 |true =>
  go_wp2_with fail
  refine (H2.out _).mono ?_
  rintro e w2 ⟨rfl, rfl⟩
  cases p2 with
  |false =>
   go_wp2_with fail
   go_ret
   rw [HE.out]
   exact ⟨rfl, B1.out⟩
  |true =>
   go_wp2_with fail
   refine (H3.out _).mono ?_
   rintro e w2 ⟨rfl, rfl⟩
   cases p3 with
   |false =>
    go_wp2_with fail
    go_ret
    rw [HE.out]
    exact ⟨rfl, B1.out⟩
   |true =>
    go_wp2_with fail
    go_ret
    rw [HE.out]
    exact ⟨rfl, B1.out⟩
theorem checkPlace_any (E : Nat → Addr) (x : PlaceV) (w : World) (hG : PlaceG E w) :
  Calls Tryz.prog 137 #[.agg (encPlace x).toArray] w fun e w' => e = .returned (errOf E (placeE x)) ∧ Below w.heap.size w w' := checkPlace_c E x w ⟨hG.name, hG.bound⟩
end Go.Proofs.YteaalifehokgoaaGreatDoor
namespace Go.Proofs.YteaalifehokgoaaGreatDoor
open Go.RowKit Go.Sort Go.Proofs
theorem eqPlace (x y : PlaceV) (W : World) : (binOp .eql 41 (.agg (encPlace x).toArray) (.agg (encPlace y).toArray)).run Tryz.prog W = .ok (.bool (decide (x = y))) W := by
 have u3 := Tryz.underlying3
 have u9 := Tryz.underlying9
 have hS : Tryz.prog.underlying 41 = some (.struct (Tryz.prog.fieldsOf 41)) := by kernel_rfl
 have hp : Tryz.prog.stoodInHeld 41 = false := by kernel_rfl
 simp only [encPlace]
 rw [run_eql_struct, show (10000 : Nat) = 9999 + 1 from rfl, run_equalIn_agg W 9999 41 _ _ hS hp]
 simp only [Program.fieldsOf, Tryz.underlying41]
 go_simp
 obtain ⟨a1, a2, a3⟩ := x
 obtain ⟨b1, b2, b3⟩ := y
 by_cases h1 : a1 = b1 <;> by_cases h2 : a2 = b2 <;> by_cases h3 : a3 = b3 <;> simp [h1, h2, h3]
theorem eqInPlace (x y : PlaceV) (W : World) : (Op.equalIn 10000 41 (.agg (encPlace x).toArray) (.agg (encPlace y).toArray)).run Tryz.prog W = .ok (decide (x = y)) W := by
 have h := eqPlace x y W
 rw [run_eql_struct] at h
 cases hr : (Op.equalIn 10000 41 (.agg (encPlace x).toArray) (.agg (encPlace y).toArray)).run Tryz.prog W with
 |ok b w' =>
  rw [hr] at h
  simp [Result.andThen] at h
  rw [h.1, h.2]
 |_ => rw [hr] at h; simp [Result.andThen] at h
theorem neqPlace (x y : PlaceV) (W : World) : (binOp .neq 41 (.agg (encPlace x).toArray) (.agg (encPlace y).toArray)).run Tryz.prog W = .ok (.bool (!decide (x = y))) W := by
 rw [run_neq_struct, eqInPlace]
 rfl
end Go.Proofs.YteaalifehokgoaaGreatDoor
namespace Go.Proofs.YteaalifehokgoaaGreatDoor
open Go.RowKit Go.Sort Go.Proofs
abbrev KeyV := PlaceV × List UInt8
def encKey (k : KeyV) : List Value := [.string ⟨k.1.1.toArray⟩, .int .i64 k.1.2.1, .int .i64 k.1.2.2, .string ⟨k.2.toArray⟩]
def eKey (k : KeyV) : Value := .agg (encKey k).toArray
def eNat (n : Nat) : Value := .int .i64 (n : Nat)
theorem key_check (w : World) (em : Bool) (k : KeyV) : (Instr.checkKey em 10000 149 (eKey k)).run Tryz.prog w = .ok () w := by
 have u3 := Tryz.underlying3
 have u9 := Tryz.underlying9
 have uK := Tryz.underlying149
 have uP := Tryz.underlying41
 have e3 : ∀ n (v : Int) (w : World), (Instr.checkKey em (n + 1) 3 (.int .i64 v)).run Tryz.prog w = .ok () w := fun n v w => by
  unfold Instr.checkKey
  simp [run_underlying u3, Result.andThen]
 have e9 : ∀ n (v : ByteArray) (w : World), (Instr.checkKey em (n + 1) 9 (.string v)).run Tryz.prog w = .ok () w := fun n v w => by
  unfold Instr.checkKey
  simp [run_underlying u9, Result.andThen]
 have p3 : ∀ (cs : Array Value) (i : Nat) (v : Value) (w : World), cs[i]? = some v → (part 3 cs i).run Tryz.prog w = .ok v w := fun cs i v w h => by
  simp [part, isAgg, run_underlying u3, Result.andThen, h]
 have p9 : ∀ (cs : Array Value) (i : Nat) (v : Value) (w : World), cs[i]? = some v → (part 9 cs i).run Tryz.prog w = .ok v w := fun cs i v w h => by
  simp [part, isAgg, run_underlying u9, Result.andThen, h]
 have eP : ∀ n (a : ByteArray) (b c : Int) (w : World), (Instr.checkKey em (n + 2) 41 (.agg #[.string a, .int .i64 b, .int .i64 c])).run Tryz.prog w = .ok () w := fun n a b c w => by
  unfold Instr.checkKey
  simp [run_underlying uP, Result.andThen, p3 _ 1 (.int .i64 b), p3 _ 2 (.int .i64 c), p9 _ 0 (.string a), e3, e9]
 have pP : ∀ (w : World), (part 41 (encKey k).toArray 0).run Tryz.prog w = .ok (.agg #[.string ⟨k.1.1.toArray⟩, .int .i64 k.1.2.1, .int .i64 k.1.2.2]) w := fun w => by
  have s := Tryz.sizeOf41 w
  simp [part, isAgg, run_underlying uP, Result.andThen, s, encKey]
 unfold eKey
 rw [show (10000 : Nat) = 9997 + 3 from rfl]
 unfold Instr.checkKey
 simp [run_underlying uK, Result.andThen, pP, p9 (encKey k).toArray 3 (.string ⟨k.2.toArray⟩) w rfl, eP, e9]
theorem eqInKey (x y : KeyV) (W : World) : (Op.equalIn 10000 149 (eKey x) (eKey y)).run Tryz.prog W = .ok (decide (x = y)) W := by
 have u3 := Tryz.underlying3
 have u9 := Tryz.underlying9
 have hS : Tryz.prog.underlying 149 = some (.struct (Tryz.prog.fieldsOf 149)) := by kernel_rfl
 have hp : Tryz.prog.stoodInHeld 149 = false := by kernel_rfl
 have pS : Tryz.prog.underlying 41 = some (.struct (Tryz.prog.fieldsOf 41)) := by kernel_rfl
 have pp : Tryz.prog.stoodInHeld 41 = false := by kernel_rfl
 have eP : ∀ (a1 b1 : List UInt8) (a2 a3 b2 b3 : Int) (W : World), (Op.equalIn 9999 41 (.agg #[.string ⟨a1.toArray⟩, .int .i64 a2, .int .i64 a3]) (.agg #[.string ⟨b1.toArray⟩, .int .i64 b2, .int .i64 b3])).run Tryz.prog W = .ok (decide (a1 = b1 ∧ a2 = b2 ∧ a3 = b3)) W := fun a1 b1 a2 a3 b2 b3 W => by
  rw [show (9999 : Nat) = 9998 + 1 from rfl, run_equalIn_agg W 9998 41 _ _ pS pp]
  simp only [Program.fieldsOf, Tryz.underlying41]
  go_simp
  by_cases h1 : a1 = b1 <;> by_cases h2 : a2 = b2 <;> by_cases h3 : a3 = b3 <;> simp [h1, h2, h3]
 unfold eKey
 simp only [encKey]
 rw [show (10000 : Nat) = 9999 + 1 from rfl, run_equalIn_agg W 9999 149 _ _ hS hp]
 clear hS hp pS pp
 simp only [Program.fieldsOf, Tryz.underlying149]
 go_simp
 obtain ⟨⟨a1, a2, a3⟩, a4⟩ := x
 obtain ⟨⟨b1, b2, b3⟩, b4⟩ := y
 by_cases h1 : a1 = b1 <;> by_cases h2 : a2 = b2 <;> by_cases h3 : a3 = b3 <;> by_cases h4 : a4 = b4 <;> simp [h1, h2, h3, h4]
theorem key_bits (k : KeyV) : Instr.sameBits 10000 (eKey k) (eKey k) = true := by
 unfold eKey encKey
 rw [show (10000 : Nat) = 9999 + 1 from rfl]
 simp [Instr.sameBits]
 exact ⟨(MapKept.bytes_beq _ _).2 rfl, (MapKept.bytes_beq _ _).2 rfl⟩
theorem keyOk : KeyOk Tryz.prog 149 eKey :=
 key_struct Tryz.underlying149 (fun a => ⟨_, rfl⟩) (fun {a b} h => by
  obtain ⟨⟨a1, a2, a3⟩, a4⟩ := a
  obtain ⟨⟨b1, b2, b3⟩, b4⟩ := b
  simp [eKey, encKey] at h
  obtain ⟨h1, h2, h3, h4⟩ := h
  simp [h1, h2, h3, h4]) eqInKey key_check key_bits
end Go.Proofs.YteaalifehokgoaaGreatDoor
