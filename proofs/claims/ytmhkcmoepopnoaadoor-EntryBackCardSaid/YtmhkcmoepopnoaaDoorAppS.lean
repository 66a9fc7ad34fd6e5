/- A slice of strings appended to one that the call owns. -/
import Derived.Test.YtmhkcmoepopnoaaDoorStrs
import Derived.Maps.AppendAt
import Derived.OwnWalk
namespace Go.Proofs.YtmhkcmoepopnoaaDoor
open Go.RowKit

theorem run_append_strs (w : World) (base : Nat) (v : Value) (n : Nat) (xs : List Value) (hown : w.ownsRow base 9 1 v n xs) (A : Option Addr) (c : Nat) (ys : List (List UInt8)) (hS : StrsAt w A ys) (hn : n + ys.length ≤ 1000000000) (hbase : base ≤ w.heap.size) (ty : TypeId) :
    ∃ v' w', (Builtin.append_ #[45, 45] ty #[v, .slice A ys.length c]).run Tryd.prog w = .ok v' w' ∧ w'.ownsRow base 9 1 v' (n + ys.length) (xs ++ strVals ys) ∧ w.grownBy w' v.ownBlock := by
  obtain ⟨i, hi, hz, hs1, hb1⟩ := info_parts stringInfo1
  have ht := Tryd.underlying45
  cases A with
  | none =>
    have h0 : ys = [] := by
      rcases hS with h | ⟨b, o, h, _⟩
      · exact h
      · cases h
    subst h0
    refine ⟨v, w, ?_, by simpa [strVals] using hown, World.grownBy.refl w _⟩
    rcases hown.2 with ⟨rfl, rfl⟩ | ⟨g, cap, cur, rfl, _, _, hnc, _⟩
    · simp [Builtin.append_, run_underlying ht, sizeOf, typeInfo, hi, Builtin.lenOf, Builtin.firstCells]
    · simp [Builtin.append_, run_underlying ht, sizeOf, typeInfo, hi, Builtin.lenOf, Builtin.firstCells, hnc, storeCells]
  | some ad =>
    have hc : ∀ j u, (strVals ys)[j]? = some u → w.cell? (ad.add j) = some u := by
      intro j u hj
      have hjl : j < ys.length := by simpa [strVals] using (List.getElem?_eq_some_iff.1 hj).1
      rcases hS with h | ⟨b, o, h, _, h3⟩
      · subst h; simp at hjl
      · cases h
        have hplain : (⟨b, o, none⟩ : Addr).add j = ⟨b, o + j, none⟩ := by unfold Addr.add; split <;> simp_all
        rw [hplain, h3 j hjl]
        simp [strVals, List.getElem?_eq_getElem hjl] at hj
        rw [← hj]
    obtain ⟨v', w', h1, h2, h3, _, _⟩ := run_append_own_at (P := Tryd.prog) w base 45 ty 9 i (.string ⟨#[]⟩) 1 16 ht hi hz hs1 hb1 rfl (by decide) v n xs hown ad ys.length c (strVals ys) (by simp [strVals]) hc (by simp [strVals, Value.oneCell']) (by unfold maxLen; omega) (by omega) hbase
    exact ⟨v', w', h1, h2, h3⟩
theorem wpList_append_strs {ops : Array Oper} {rest : List Oper} {o : Oper} {a : Act} {Q : Exit → Act → World → Prop} (w : World) (hgd : o.guard = none) (s x : Operand)
    (ho : o.op = .call { callee := .builtin .append, args := #[s, x], argTypes := #[45, 45] })
    (base : Nat) (v : Value) (n : Nat) (xs : List Value) (hs : a.eval s = v) (hown : w.ownsRow base 9 1 v n xs) (A : Option Addr) (c : Nat) (ys : List (List UInt8)) (hx : a.eval x = .slice A ys.length c) (hS : StrsAt w A ys) (hn : n + ys.length ≤ 1000000000) (hbase : base ≤ w.heap.size)
    (h : ∀ v' w', Hid (w'.ownsRow base 9 1 v' (n + ys.length) (xs ++ strVals ys)) → Below base w w' → wpList Tryd.prog ops Q rest (a.put o.dst v') w') : wpList Tryd.prog ops Q (o :: rest) a w := by
  refine wpList_plain hgd fun K hK => ?_
  obtain ⟨v', w', hr, h2, h3⟩ := run_append_strs w base v n xs hown A c ys hS hn hbase o.type
  unfold Oper.wp execOp
  simp only [ho, resolve, invoke, builtin, Sem.run_bind, Sem.run_pure, Result.andThen_ok, List.map_toArray, List.map_cons, List.map_nil, hs, hx, hr]
  exact hK _ _ (h v' w' h2 ((Below.refl base w).grown h3 hbase (fun j hj => (hown.lt j hj).1)))
theorem StrsAt.belowB {w w' : World} {A : Option Addr} {xs : List (List UInt8)} {B : Nat} (h : StrsAt w A xs) (hb : Below B w w') (hA : ∀ a, A = some a → a.block < B) : StrsAt w' A xs := by
  rcases h with h | ⟨b, o, h1, h2, h3⟩
  · exact .inl h
  · exact .inr ⟨b, o, h1, Nat.lt_of_lt_of_le h2 hb.size, fun i hi => (hb.cell (p := ⟨b, o + i, none⟩) (show b < B from hA _ h1)).trans (h3 i hi)⟩
theorem StrsAt.lt {w : World} {A : Option Addr} {xs : List (List UInt8)} (h : StrsAt w A xs) (hx : xs ≠ []) : ∀ a, A = some a → a.block < w.heap.size := by
  rcases h with h | ⟨b, o, h1, h2, _⟩
  · exact absurd h hx
  · intro a ha
    rw [h1] at ha
    cases ha
    exact h2
end Go.Proofs.YtmhkcmoepopnoaaDoor
