/- Slices of strings that a call owns: one more appended; joined. -/
import Derived.Test.YtmhkcmoepopnoaaDoorAppS
import Derived.Test.YtmhkcmoepopnoaaDoorSplitJ
import Derived.Lib.Join
namespace Go.Proofs.YtmhkcmoepopnoaaDoor
open Go.RowKit

theorem wpList_append_strs2 {ops : Array Oper} {rest : List Oper} {o : Oper} {a : Act} {Q : Exit → Act → World → Prop} (w : World) (hgd : o.guard = none) (s x : Operand)
    (ho : o.op = .call { callee := .builtin .append, args := #[s, x], argTypes := #[45, 45] })
    (base : Nat) (v : Value) (n : Nat) (xs : List Value) (hs : a.eval s = v) (hown : w.ownsRow base 9 1 v n xs) (A : Option Addr) (c : Nat) (ys : List (List UInt8)) (hx : a.eval x = .slice A ys.length c) (hS : StrsAt w A ys) (hn : n + ys.length ≤ 1000000000) (hbase : base ≤ w.heap.size)
    (h : ∀ v' w', Hid (w'.ownsRow base 9 1 v' (n + ys.length) (xs ++ strVals ys)) → w.grownBy w' v.ownBlock → wpList Tryd.prog ops Q rest (a.put o.dst v') w') : wpList Tryd.prog ops Q (o :: rest) a w := by
  refine wpList_plain hgd fun K hK => ?_
  obtain ⟨v', w', hr, h2, h3⟩ := run_append_strs w base v n xs hown A c ys hS hn hbase o.type
  unfold Oper.wp execOp
  simp only [ho, resolve, invoke, builtin, Sem.run_bind, Sem.run_pure, Result.andThen_ok, List.map_toArray, List.map_cons, List.map_nil, hs, hx, hr]
  exact hK _ _ (h v' w' h2 h3)
/-- A row of strings that is new. -/
theorem own_new (w : World) (B : Nat) (ys : List (List UInt8)) (hB : B ≤ w.heap.size) (hl : ys.length ≤ 1000000000) : (w.alloc (.cells (strVals ys).toArray 9)).ownsRow B 9 1 (.slice (some ⟨w.heap.size, 0, none⟩) ys.length ys.length) ys.length (strVals ys) :=
  ⟨by simp [strVals], .inr ⟨w.heap.size, ys.length, _, rfl, hB, heap_alloc_new _ _, Nat.le_refl _, by unfold maxLen; omega, by simp [strVals], by simp [strVals, ← List.map_take]⟩⟩
theorem strs_new (w : World) (ys : List (List UInt8)) : StrsAt (w.alloc (.cells (strVals ys).toArray 9)) (some ⟨w.heap.size, 0, none⟩) ys :=
  .inr ⟨w.heap.size, 0, rfl, by simp, fun i hi => by
    rw [cell_of_row _ _ _ _ _ _ (heap_alloc_new _ _), Nat.zero_add]
    simp [strVals, hi]⟩
theorem own_keep {w w' : World} {B e size n : Nat} {v : Value} {xs : List Value} (h : w.ownsRow B e size v n xs) (hb : Below w.heap.size w w') : w'.ownsRow B e size v n xs := by
  refine ⟨h.1, ?_⟩
  rcases h.2 with h0 | ⟨g, cap, cur, h1, h2, h3, h4⟩
  · exact .inl h0
  · exact .inr ⟨g, cap, cur, h1, h2, (hb.block g (Array.getElem?_eq_some_iff.1 h3).1).trans h3, h4⟩
theorem bsz {B : Nat} {w w' : World} (h : B ≤ w.heap.size) (hb : Below B w w') : B ≤ w'.heap.size := Nat.le_trans h hb.size
theorem lt_own {w : World} {B e size g o n cap m : Nat} {xs : List Value} (h : w.ownsRow B e size (.slice (some ⟨g, o, none⟩) n cap) m xs) : g < w.heap.size := (h.lt g rfl).2
theorem below_cell {w w' : World} {a : Addr} {v : Value} (hb : Below w.heap.size w w') (h : w.cell? a = some v) : w'.cell? a = some v := (hb.cell (lt_of_cell h)).trans h
theorem join_joinL (c : UInt8) (xs : List (List UInt8)) : Lib.join xs [c] = joinL c xs := by
  induction xs with
  | nil => rfl
  | cons x r ih =>
    rw [Lib.join_cons]
    cases r with
    | nil => simp [Lib.joinTail, joinL]
    | cons y q =>
      rw [joinL_cons, ← ih, Lib.join_cons]
      simp [Lib.joinTail]
/-- strings.Join at a row that the call owns. -/
theorem joinOwn_any (c : UInt8) (B : Nat) (v : Value) (xs : List (List UInt8)) (w : World) (h : w.ownsRow B 9 1 v xs.length (strVals xs)) (hl : xs.length ≤ 1000000) (hj : (joinL c xs).length ≤ 140737488355328) :
    Calls Tryd.prog 16 #[v, .string ⟨#[c]⟩] w fun e w' => e = .returned (.string ⟨(joinL c xs).toArray⟩) ∧ Below w.heap.size w w' := by
  rcases h.2 with ⟨rfl, h0⟩ | ⟨g, cap, cur, rfl, hB, hg, hc, _, _, ht⟩
  · obtain rfl := List.eq_nil_of_length_eq_zero h0
    exact (Tryd.strings_Join_none none 0 ⟨#[c]⟩ w).mono fun e w' hh => by
      obtain ⟨he, rfl⟩ := hh
      exact ⟨he, Below.refl _ _⟩
  · have e : (xs.map fun x => (⟨x.toArray⟩ : ByteArray)).map (·.data.toList) = xs := by simp [Function.comp_def]
    have hgl : g < w.heap.size := by
      rcases Nat.lt_or_ge g w.heap.size with hl | hl
      · exact hl
      · rw [Array.getElem?_eq_none hl] at hg; cases hg
    have h := Tryd.strings_Join g 0 cap (xs.map fun x => (⟨x.toArray⟩ : ByteArray)) ⟨#[c]⟩ w (fun j x hx => ?_) hgl (by simp; omega) (by simpa using hc) (by rw [e]; show (Lib.join xs [c]).length ≤ _; rw [join_joinL]; exact hj)
    · rw [e, List.length_map] at h
      rw [← join_joinL]
      exact h
    · obtain ⟨hj, hx⟩ := List.getElem?_eq_some_iff.1 hx
      have hj : j < xs.length := by simpa using hj
      rw [cell_of_row _ _ _ _ _ _ hg, Nat.zero_add, ← Array.getElem?_toList, ← List.getElem?_take_of_lt (l := cur.toList) (show j < xs.length * 1 by omega), ht]
      simp only [strVals, List.getElem?_map, List.getElem?_eq_getElem hj]
      simp at hx
      simp [hx]
/-- strings.Join at a row that lies there. -/
theorem joinLies_any (c : UInt8) (A : Option Addr) (cap : Nat) (xs : List (List UInt8)) (w : World) (h : StrsAt w A xs) (hc : xs.length ≤ cap) (hl : xs.length ≤ 1000000) (hj : (joinL c xs).length ≤ 140737488355328) :
    Calls Tryd.prog 16 #[.slice A xs.length cap, .string ⟨#[c]⟩] w fun e w' => e = .returned (.string ⟨(joinL c xs).toArray⟩) ∧ Below w.heap.size w w' := by
  rcases h with rfl | ⟨g, o, rfl, hgl, hx⟩
  · exact (Tryd.strings_Join_none A cap ⟨#[c]⟩ w).mono fun e w' hh => by
      obtain ⟨he, rfl⟩ := hh
      exact ⟨he, Below.refl _ _⟩
  · have e : (xs.map fun x => (⟨x.toArray⟩ : ByteArray)).map (·.data.toList) = xs := by simp [Function.comp_def]
    have h := Tryd.strings_Join g o cap (xs.map fun x => (⟨x.toArray⟩ : ByteArray)) ⟨#[c]⟩ w (fun j x hx' => ?_) hgl (by simp; omega) (by simpa using hc) (by rw [e]; show (Lib.join xs [c]).length ≤ _; rw [join_joinL]; exact hj)
    · rw [e, List.length_map] at h
      rw [← join_joinL]
      exact h
    · obtain ⟨hj, hx2⟩ := List.getElem?_eq_some_iff.1 hx'
      have hj : j < xs.length := by simpa using hj
      rw [hx j hj]
      simp at hx2
      simp [hx2]
end Go.Proofs.YtmhkcmoepopnoaaDoor
