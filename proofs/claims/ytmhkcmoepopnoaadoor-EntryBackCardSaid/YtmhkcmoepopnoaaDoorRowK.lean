/- Slices of structs, as walks read them, sort them and append them. -/
import Derived.Test.YtmhkcmoepopnoaaDoorBase
import Derived.Shelf.SlSortCmp.KitK
import Derived.Maps.AppendAt
import Derived.OwnWalk
namespace Go.Proofs.YtmhkcmoepopnoaaDoor
open Go.RowKit Go.Sort Go.Proofs

section
variable {α : Type} {enc : α → List Value} {k : Nat} {w w' : World} {A : Option Addr} {xs : List α}

/-- The slice at A reads as the elements xs, of k cells each. -/
def RowAt (enc : α → List Value) (k : Nat) (w : World) (A : Option Addr) (xs : List α) : Prop :=
  xs = [] ∨ ∃ b o, A = some ⟨b, o, none⟩ ∧ b < w.heap.size ∧ ∀ i (h : i < xs.length) c v, (enc xs[i])[c]? = some v → w.cell? ⟨b, o + i * k + c, none⟩ = some v
theorem RowAt.nil : RowAt enc k w A ([] : List α) := .inl rfl
theorem RowAt.below (h : RowAt enc k w A xs) (hb : Below w.heap.size w w') : RowAt enc k w' A xs := by
  rcases h with h | ⟨b, o, h1, h2, h3⟩
  · exact .inl h
  · exact .inr ⟨b, o, h1, Nat.lt_of_lt_of_le h2 hb.size, fun i hi c v hv => (hb.cell (p := ⟨b, o + i * k + c, none⟩) h2).trans (h3 i hi c v hv)⟩

/-- The cells of elements, one behind the other. -/
def flatL (enc : α → List Value) (xs : List α) : List Value := xs.flatMap enc
theorem flatL_length (hk : ∀ x, (enc x).length = k) (xs : List α) : (flatL enc xs).length = xs.length * k := by
  induction xs with
  | nil => simp [flatL]
  | cons x r ih =>
    have : flatL enc (x :: r) = enc x ++ flatL enc r := rfl
    rw [this, List.length_append, hk, ih, List.length_cons, Nat.add_mul, Nat.one_mul, Nat.add_comm]
theorem flatL_append (xs ys : List α) : flatL enc (xs ++ ys) = flatL enc xs ++ flatL enc ys := by simp [flatL]
theorem flatL_get (hk : ∀ x, (enc x).length = k) (xs : List α) (i c : Nat) (hi : i < xs.length) (hc : c < k) : (flatL enc xs)[i * k + c]? = (enc xs[i])[c]? := by
  induction xs generalizing i with
  | nil => simp at hi
  | cons x r ih =>
    have e : flatL enc (x :: r) = enc x ++ flatL enc r := rfl
    rw [e]
    cases i with
    | zero => rw [Nat.zero_mul, Nat.zero_add, List.getElem?_append_left (by rw [hk]; exact hc)]; rfl
    | succ i =>
      rw [List.getElem?_append_right (by rw [hk, Nat.add_mul]; omega), hk, show (i + 1) * k + c - k = i * k + c by rw [Nat.add_mul]; omega, ih i (by simpa using hi)]
      rfl
theorem flat_split (hk0 : 0 < k) (xs : List α) (j : Nat) (hj : j < xs.length * k) : j / k < xs.length ∧ j % k < k ∧ j / k * k + j % k = j :=
  ⟨Nat.div_lt_of_lt_mul (by rw [Nat.mul_comm]; exact hj), Nat.mod_lt _ hk0, Nat.div_add_mod' j k⟩

/-- What the slice's cells are, for an append or a copy. -/
theorem RowAt.news (h : RowAt enc k w A xs) (hk : ∀ x, (enc x).length = k) (hk0 : 0 < k) {b o : Nat} (hA : A = some ⟨b, o, none⟩) : ∀ j u, (flatL enc xs)[j]? = some u → w.cell? ⟨b, o + j, none⟩ = some u := by
  intro j u hj
  have hjl : j < xs.length * k := by rw [← flatL_length hk]; exact (List.getElem?_eq_some_iff.1 hj).1
  obtain ⟨h1, h2, h3⟩ := flat_split hk0 xs j hjl
  rcases h with rfl | ⟨b', o', hA', _, hc⟩
  · simp at hjl
  · rw [hA] at hA'
    cases hA'
    have := flatL_get hk xs (j / k) (j % k) h1 h2
    rw [h3, hj] at this
    have h4 := hc (j / k) h1 (j % k) u this.symm
    rw [Nat.add_assoc, h3] at h4
    exact h4

/-- A row that the call owns reads so. -/
theorem RowAt.of_own {B : Nat} {e : TypeId} {v : Value} (hk : ∀ x, (enc x).length = k) (h : w.ownsRow B e k v xs.length (flatL enc xs)) : ∃ A cap, v = .slice A xs.length cap ∧ RowAt enc k w A xs ∧ (∀ a, A = some a → B ≤ a.block) := by
  rcases h.2 with ⟨rfl, h0⟩ | ⟨g, cap, cur, rfl, hB, hg, _, _, _, ht⟩
  · obtain rfl := List.eq_nil_of_length_eq_zero h0
    exact ⟨_, _, rfl, .inl rfl, fun a ha => by cases ha⟩
  · refine ⟨_, _, rfl, .inr ⟨g, 0, rfl, ?_, fun i hi c v hv => ?_⟩, fun a ha => by cases ha; exact hB⟩
    · rcases Nat.lt_or_ge g w.heap.size with hl | hl
      · exact hl
      · rw [Array.getElem?_eq_none hl] at hg; cases hg
    · have hc : c < k := by rw [← hk xs[i]]; exact (List.getElem?_eq_some_iff.1 hv).1
      have hlt : i * k + c < xs.length * k := by
        have : (i + 1) * k ≤ xs.length * k := Nat.mul_le_mul_right k hi
        rw [Nat.add_mul] at this; omega
      rw [cell_of_row w g _ cur _ _ hg, Nat.zero_add, ← Array.getElem?_toList, ← List.getElem?_take_of_lt (l := cur.toList) hlt, ht, flatL_get hk xs i c hi hc]
      exact hv

theorem getBang (xs : List α) [Inhabited α] (i : Nat) (h : i < xs.length) : xs.toArray[i]! = xs[i] := by
  simp [h]
/-- A row that the call owns can be sorted. -/
theorem holds_of_own [Inhabited α] {B g cap n : Nat} {e : TypeId} (hk : ∀ x, (enc x).length = k) (hk0 : 0 < k) (h : w.ownsRow B e k (.slice (some ⟨g, 0, none⟩) n cap) xs.length (flatL enc xs)) : HoldsK enc k w g 0 xs.toArray := by
  intro j hj
  rw [size_flatK, List.size_toArray] at hj
  obtain ⟨h1, h2, h3⟩ := flat_split hk0 xs j hj
  rw [get_flatK _ _ _ _ (by rw [List.size_toArray]; exact hj), getBang xs _ h1, Nat.zero_add]
  rcases h.2 with ⟨h0, _⟩ | ⟨g', cap', cur, h0, _, hg, _, _, _, ht⟩
  · cases h0
  · cases h0
    have hl : j < (flatL enc xs).length := by rw [flatL_length hk]; exact hj
    refine ⟨?_, by simp [World.frozen?, hg]⟩
    rw [cell_of_row w g _ cur _ _ hg, ← Array.getElem?_toList, ← List.getElem?_take_of_lt (l := cur.toList) hj, ht]
    have := flatL_get hk xs (j / k) (j % k) h1 h2
    rw [h3] at this
    rw [this]
    simp only [id]
    rw [List.getElem?_eq_getElem (by rw [hk]; exact h2)]
    congr 1
    rw [List.getElem!_eq_getElem?_getD, List.getElem?_eq_getElem (by rw [hk]; exact h2)]
    rfl

/-- Behind a sort: what is held reads as a slice. -/
theorem RowAt.of_sort [Inhabited α] {w0 : World} {g : Nat} {d0 : Array α} (hk : ∀ x, (enc x).length = k) (R : RowK enc k w0 g 0 d0) (S : SWK enc k w0 g 0 xs.toArray w) (hs : xs.length = d0.size) : RowAt enc k w (some ⟨g, 0, none⟩) xs := by
  refine .inr ⟨g, 0, rfl, S.lt R.hblk, fun i hi c v hv => ?_⟩
  have hc : c < k := by rw [← hk xs[i]]; exact (List.getElem?_eq_some_iff.1 hv).1
  have h := (HoldsK.cell (S.holds R.hblk R.hH (by rw [List.size_toArray]; exact hs)) (i := i) (c := c) (by rw [List.size_toArray]; exact hi) hc).1
  rw [h, getBang xs i hi]
  rw [List.getElem!_eq_getElem?_getD, hv]
  rfl

/-- What a sort turns: the row's block alone. -/
theorem sort_block [Inhabited α] {w0 : World} {g o : Nat} {d : Array α} (S : SWK enc k w0 g o d w) (j : Nat) (hj : j < w0.heap.size) (hne : j ≠ g) : w.heap[j]? = w0.heap[j]? := by
  obtain ⟨m, os, rfl⟩ := S
  simp [sortWorldK, Go.Sort.grow, putRowK, putRow, mapBlock, Go.Sort.ahead, Array.getElem?_append, hj]
  rw [Array.getElem_modify_of_ne (Ne.symm hne)]
theorem sort_below [Inhabited α] {B : Nat} {a w0 : World} {g o : Nat} {d : Array α} (h : Below B a w0) (S : SWK enc k w0 g o d w) (hg : B ≤ g) (hB : B ≤ w0.heap.size) : Below B a w := by
  refine h.trans ⟨?_, ?_, ?_, S.le, fun j hj => sort_block S j (by omega) (by omega)⟩
  all_goals
    obtain ⟨m, os, rfl⟩ := S
    rfl

/-- Appending elements to a row of the call's own. -/
theorem run_append_rows {P : Program} (w : World) (base : Nat) (t ty e : TypeId) (i : TypeInfo) (z : Value) (bytes : Nat) (ht : P.underlying t = some (.slice e)) (hi : P.info? e = some i) (hz : i.zero = some z)
    (hsize : i.size = k) (hby : i.bytes = bytes) (hzs : z.cells.size = k) (hk : ∀ x, (enc x).length = k) (hk0 : 0 < k) (h1 : ∀ x, ∀ u ∈ enc x, u.oneCell' = true)
    (v : Value) (n : Nat) (cs : List Value) (hown : w.ownsRow base e k v n cs) (A : Option Addr) (c : Nat) (ys : List α) (hS : RowAt enc k w A ys) (hn : n + ys.length ≤ 1000000) (hbytes : bytes ≤ 1000) (hbase : base ≤ w.heap.size) :
    ∃ v' w', (Builtin.append_ #[t, t] ty #[v, .slice A ys.length c]).run P w = .ok v' w' ∧ w'.ownsRow base e k v' (n + ys.length) (cs ++ flatL enc ys) ∧ w.grownBy w' v.ownBlock := by
  cases A with
  | none =>
    have h0 : ys = [] := by
      rcases hS with h | ⟨b, o, h, _⟩
      · exact h
      · cases h
    subst h0
    refine ⟨v, w, ?_, by simpa [flatL] using hown, World.grownBy.refl w _⟩
    rcases hown.2 with ⟨rfl, rfl⟩ | ⟨g, cap, cur, rfl, _, _, hnc, _⟩
    · simp [Builtin.append_, run_underlying ht, sizeOf, typeInfo, hi, Builtin.lenOf, Builtin.firstCells]
    · simp [Builtin.append_, run_underlying ht, sizeOf, typeInfo, hi, Builtin.lenOf, Builtin.firstCells, hnc, storeCells]
  | some ad =>
    have hc : ∀ j u, (flatL enc ys)[j]? = some u → w.cell? (ad.add j) = some u := by
      intro j u hj
      have hjl : j < (flatL enc ys).length := (List.getElem?_eq_some_iff.1 hj).1
      have hS' := hS
      rcases hS' with h | ⟨b, o, h, _, _⟩
      · subst h; simp [flatL] at hjl
      · cases h
        have hplain : (⟨b, o, none⟩ : Addr).add j = ⟨b, o + j, none⟩ := by unfold Addr.add; split <;> simp_all
        rw [hplain]
        exact hS.news hk hk0 rfl j u hj
    have hb : (n + ys.length) * bytes ≤ 1000000 * 1000 := Nat.mul_le_mul hn hbytes
    obtain ⟨v', w', h4, h2, h3, _, _⟩ := run_append_own_at (P := P) w base t ty e i z k bytes ht hi hz hsize hby hzs hk0 v n cs hown ad ys.length c (flatL enc ys) (flatL_length hk ys) hc (fun u hu => by
      obtain ⟨x, _, hx⟩ := List.mem_flatMap.1 hu
      exact h1 x u hx) (by unfold maxLen; omega) (by omega) hbase
    exact ⟨v', w', h4, h2, h3⟩
theorem wpList_append_rows {P : Program} {ops : Array Oper} {rest : List Oper} {o : Oper} {a : Act} {Q : Exit → Act → World → Prop} (w : World) (hgd : o.guard = none) (s x : Operand) (t : TypeId)
    (ho : o.op = .call { callee := .builtin .append, args := #[s, x], argTypes := #[t, t] })
    (base : Nat) (e : TypeId) (i : TypeInfo) (z : Value) (bytes : Nat) (ht : P.underlying t = some (.slice e)) (hi : P.info? e = some i) (hz : i.zero = some z)
    (hsize : i.size = k) (hby : i.bytes = bytes) (hzs : z.cells.size = k) (hk : ∀ x, (enc x).length = k) (hk0 : 0 < k) (h1 : ∀ x, ∀ u ∈ enc x, u.oneCell' = true)
    (v : Value) (n : Nat) (cs : List Value) (hs : a.eval s = v) (hown : w.ownsRow base e k v n cs) (A : Option Addr) (c : Nat) (ys : List α) (hx : a.eval x = .slice A ys.length c) (hS : RowAt enc k w A ys) (hn : n + ys.length ≤ 1000000) (hbytes : bytes ≤ 1000) (hbase : base ≤ w.heap.size)
    (h : ∀ v' w', Hid (w'.ownsRow base e k v' (n + ys.length) (cs ++ flatL enc ys)) → Below base w w' → wpList P ops Q rest (a.put o.dst v') w') : wpList P ops Q (o :: rest) a w := by
  refine wpList_plain hgd fun K hK => ?_
  obtain ⟨v', w', hr, h2, h3⟩ := run_append_rows w base t o.type e i z bytes ht hi hz hsize hby hzs hk hk0 h1 v n cs hown A c ys hS hn hbytes hbase
  unfold Oper.wp execOp
  simp only [ho, resolve, invoke, builtin, Sem.run_bind, Sem.run_pure, Result.andThen_ok, List.map_toArray, List.map_cons, List.map_nil, hs, hx, hr]
  exact hK _ _ (h v' w' h2 ((Below.refl base w).grown h3 hbase (fun j hj => (hown.lt j hj).1)))
end
theorem below_grown (w : World) (q : Nat) (os : Array Obj) : Below w.heap.size w (Go.Sort.grow (w.drewN q) os) :=
  ⟨rfl, rfl, rfl, by simp [Go.Sort.grow, World.drewN], fun k hk => by simp [Go.Sort.grow, World.drewN, Array.getElem?_append, hk]⟩
end Go.Proofs.YtmhkcmoepopnoaaDoor
