/- The document's book in memory, behind the stores of Do at pieces. -/
import Derived.Test.YteaalifehokgoaaGreatDoorM25
namespace Go.Proofs.YteaalifehokgoaaGreatDoor
open Go.RowKit Go.Sort Go.Proofs
theorem puts_mid {g : Nat} {t : TypeId} : ∀ (vs : List Value) (w : World) (L : List Value) (off : Nat), off + vs.length ≤ L.length → w.heap[g]? = some (.cells L.toArray t (0, 0)) → (puts w g off vs).heap[g]? = some (.cells (L.take off ++ vs ++ L.drop (off + vs.length)).toArray t (0, 0))
 |[], w, L, off, hl, h => by
  have : L.take off ++ [] ++ L.drop (off + 0) = L := by simp
  simpa [puts] using h
 |v :: r, w, L, off, hl, h => by
  have h2 := heap_setCell_same w g off _ _ v h
  have e : L.toArray.setIfInBounds off v = (L.set off v).toArray := by
   apply Array.ext'
   simp
  rw [e] at h2
  have hl' : off + 1 + r.length ≤ (L.set off v).length := by
   rw [List.length_set]
   simp at hl
   omega
  have h3 := puts_mid r (w.setCell ⟨g, off, none⟩ v) (L.set off v) (off + 1) hl' h2
  have ho : off < L.length := by simp at hl; omega
  have e1 : (L.set off v).take (off + 1) = L.take off ++ [v] := by
   rw [List.take_succ_eq_append_getElem (by simpa using ho), List.getElem_set_self, List.take_set_of_le (Nat.le_refl _)]
  have e2 : (L.set off v).drop (off + 1 + r.length) = L.drop (off + (v :: r).length) := by
   rw [List.drop_set_of_lt (by omega)]
   congr 1
   simp
   omega
  rw [e1, e2] at h3
  simpa [puts, List.append_assoc] using h3
theorem puts_turned {g : Nat} : ∀ (vs : List Value) (w : World) (i : Nat), Turned g w (puts w g i vs)
 |[], w, i => Turned.refl g w
 |v :: r, w, i => (show Turned g w (w.setCell ⟨g, i, none⟩ v) from ⟨rfl, rfl, rfl, by simp [World.setCell], fun k hk => Below.heap_setCell w ⟨g, i, none⟩ v k hk⟩).trans (puts_turned r _ (i + 1))
theorem RowAt.keepB {α : Type} {enc : α → List Value} {k : Nat} {w w' : World} {A : Option Addr} {xs : List α} (h : RowAt enc k w A xs) (hs : w.heap.size ≤ w'.heap.size) (hb : ∀ a, A = some a → w'.heap[a.block]? = w.heap[a.block]?) : RowAt enc k w' A xs := by
 rcases h with h | ⟨b, o, h1, h2, h3⟩
 ·exact .inl h
 ·have e : w'.heap[b]? = w.heap[b]? := hb _ h1
  exact .inr ⟨b, o, h1, Nat.lt_of_lt_of_le h2 hs, fun i hi c v hv => (World.cell?_of_block e).trans (h3 i hi c v hv)⟩
set_option maxHeartbeats 800000 in
theorem bk_stored {w w7 w8 w9 : World} {q gG gL oG oL NG NL : Nat} {vG vL : Value} {A A2 : Option Addr} {cap c2 cG cL ki gj nN hO : Nat} {B Bd : BkV} {m2 : StkV} {LL LQ LY LG1 : List Value} {yl : LotV} {gl : GoodsV} {t1 t2 t3 t4 o1 o2 o3 o4 : Int} (ho : oG = 0 ∧ oL = 0) (hNG : NG = B.1.length) (hNL : NL = B.2.1.length)
  (h7 : Below w.heap.size w w7) (tu8 : Turned q w7 w8) (tu9 : Turned gL w8 w9) (hqd : q ≠ gG ∧ q ≠ gL ∧ gG ≠ gL) (hvG : vG = .slice (some ⟨gG, oG, none⟩) B.1.length cG) (hvL : vL = .slice (some ⟨gL, oL, none⟩) B.2.1.length cL)
  (hlt : q < w.heap.size ∧ gG < w.heap.size ∧ gL < w.heap.size) (hR : ∀ k ∈ rowB A B.2.2, k ∉ q :: (blockL vG ++ blockL vL))
  (hlo : w7.ownsRow 0 124 5 (.slice (some ⟨gL, 0, none⟩) B.2.1.length cL) B.2.1.length (flatL encLoH B.2.1))
  (hgo : w7.ownsRow 0 121 6 (.slice (some ⟨gG, 0, none⟩) B.1.length cG) B.1.length (flatL encGoS B.1))
  (hLL : w7.heap[gL]? = some (.cells LL.toArray 124 (0, 0))) (hLQ : w9.heap[gG]? = some (.cells LQ.toArray 121 (0, 0))) (hlen : B.1.length * 6 ≤ LQ.length)
  (hq9 : w9.heap[q]? = some (.cells (List.take 2 [Value.slice (some ⟨gG, oG, none⟩) NG cG, Value.slice (some ⟨gL, oL, none⟩) NL cL, Value.slice A B.2.2.length cap] ++ [Value.slice A2 m2.length c2] ++ List.drop (2 + [Value.slice A2 m2.length c2].length) [Value.slice (some ⟨gG, oG, none⟩) NG cG, Value.slice (some ⟨gL, oL, none⟩) NL cL, Value.slice A B.2.2.length cap]).toArray 71 (0, 0)))
  (hL9 : w9.heap[gL]? = some (.cells (LL.take (oL + ki * 5 + 4) ++ [Value.int .i64 (nN : Nat)] ++ LL.drop (oL + ki * 5 + 4 + 1)).toArray 124 (0, 0)))
  (hki : ki < B.2.1.length) (hgj : gj < B.1.length) (hyk : encLoH B.2.1[ki] = LY ++ [.int .i64 (hO : Nat)]) (hyn : ∀ hv : Nat, encLoH (yl, hv) = LY ++ [.int .i64 (hv : Nat)]) (hyl : LY.length = 4)
  (hgk : encGoS B.1[gj] = LG1 ++ [.int .i64 o1, .int .i64 o2, .int .i64 o3, .int .i64 o4]) (hgn : ∀ s : SumsV, encGoS (gl, s) = LG1 ++ encSums s)
  (hdg : Bd.1 = B.1.set gj (gl, t1, t2, t3, t4)) (hdl : Bd.2.1 = B.2.1.set ki (yl, ((nN : Nat) : Int).toNat)) (hdq : Bd.2.2 = m2)
  (hrow : RowAt encLine 5 w7 A2 (linesM m2)) (hor : (A2 = A ∧ m2 = B.2.2) ∨ ∀ a, A2 = some a → w.heap.size ≤ a.block) :
  MBkM (puts w9 gG (oG + gj * 6 + 2) [.int .i64 t1, .int .i64 t2, .int .i64 t3, .int .i64 t4]).drew q vG vL A2 c2 Bd ∧ (∀ k ∈ rowB A2 m2, k ∈ rowB A B.2.2 ∨ w.heap.size ≤ k) ∧ ButF (q :: (blockL vG ++ blockL vL)) w (puts w9 gG (oG + gj * 6 + 2) [.int .i64 t1, .int .i64 t2, .int .i64 t3, .int .i64 t4]).drew := by
 obtain ⟨rfl, rfl⟩ := ho
 subst hNG hNL hdq
 simp only [Nat.zero_add] at *
 have tp := puts_turned (g := gG) [.int .i64 t1, .int .i64 t2, .int .i64 t3, .int .i64 t4] w9 (gj * 6 + 2)
 have hjl : gj * 6 + 6 ≤ B.1.length * 6 := by
  have : (gj + 1) * 6 ≤ B.1.length * 6 := Nat.mul_le_mul_right 6 hgj
  omega
 have hkl : ki * 5 + 5 ≤ B.2.1.length * 5 := by
  have : (ki + 1) * 5 ≤ B.2.1.length * 5 := Nat.mul_le_mul_right 5 hki
  omega
 have hmid := puts_mid (g := gG) (t := 121) [.int .i64 t1, .int .i64 t2, .int .i64 t3, .int .i64 t4] w9 LQ (gj * 6 + 2) (by simp; omega) hLQ
 generalize puts w9 gG (gj * 6 + 2) [.int .i64 t1, .int .i64 t2, .int .i64 t3, .int .i64 t4] = P at tp hmid ⊢
 have hLQ7 : w7.heap[gG]? = some (.cells LQ.toArray 121 (0, 0)) := by
  rw [← hLQ, tu9.block gG hqd.2.2, tu8.block gG (fun e => hqd.1 e.symm)]
 have hG := own_splice (w' := P.drew) hgo hLQ7 hmid (by simp; omega)
 have hL := own_splice (w' := P.drew) (vs := [.int .i64 (nN : Nat)]) (off := ki * 5 + 4) hlo hLL ((tp.block gL (fun e => hqd.2.2 e.symm)).trans hL9) (by simp; omega)
 have hg2 : LG1.length = 2 := by
  have := congrArg List.length hgk
  simp [encGoS_len] at this
  omega
 have e1 := flat_splice encGoS_len B.1 gj hgj (gl, t1, t2, t3, t4) 2 [.int .i64 t1, .int .i64 t2, .int .i64 t3, .int .i64 t4] (by
  rw [hgn, hgk, List.take_append_of_le_length (by omega), List.take_of_length_le (by omega), List.drop_of_length_le (by simp; omega)]
  simp [encSums]) (by simp)
 have e2 := flat_splice encLoH_len B.2.1 ki hki (yl, nN) 4 [.int .i64 (nN : Nat)] (by
  rw [hyn, hyk, List.take_append_of_le_length (by omega), List.take_of_length_le (by omega), List.drop_of_length_le (by simp; omega)]
  simp) (by simp)
 have hd1 : Bd.1.length = B.1.length := by rw [hdg]; simp
 have hd2 : Bd.2.1.length = B.2.1.length := by rw [hdl]; simp
 have hblk : ∀ k, k < w.heap.size → k ≠ q → k ≠ gG → k ≠ gL → P.drew.heap[k]? = w7.heap[k]? := fun k _ h1 h2 h3 =>
  ((tp.block k h2).trans (tu9.block k h3)).trans (tu8.block k h1)
 have hsz : P.drew.heap.size = w7.heap.size := (tp.size.trans tu9.size).trans tu8.size
 have hbG : blockL vG = [gG] := by rw [hvG]; rfl
 have hbL : blockL vL = [gL] := by rw [hvL]; rfl
 have hrow' : ∀ a, A2 = some a → linesM Bd.2.2 ≠ [] → a.block ≠ q ∧ a.block ≠ gG ∧ a.block ≠ gL := fun a ha hne => by
  rcases hor with ⟨h1, h2⟩ | h
  ·have := hR a.block (by rw [← h2, ← h1]; exact rowB_mem ha (linesM_ne hne))
   rw [hbG, hbL] at this
   simp at this
   exact this
  ·have := h a ha
   omega
 refine ⟨⟨?_, ?_, ?_, ?_⟩, ?_, ?_⟩
 ·rw [hvG, hvL]
  exact ((tp.block q hqd.1).trans hq9).trans rfl
 ·rw [hd1, hdg, e1, hvG]
  exact hG
 ·rw [hd2, hdl, Int.toNat_natCast, e2, hvL]
  exact hL
 ·rcases hrow with h | ⟨b, o, h1, h2, h3⟩
  ·exact .inl h
  ·by_cases hne : linesM Bd.2.2 = []
   ·exact .inl hne
   ·obtain ⟨r1, r2, r3⟩ := hrow' _ h1 hne
    have e : P.drew.heap[b]? = w7.heap[b]? := ((tp.block b r2).trans (tu9.block b r3)).trans (tu8.block b r1)
    exact .inr ⟨b, o, h1, by rw [hsz]; exact h2, fun i hi c v hv => (World.cell?_of_block e).trans (h3 i hi c v hv)⟩
 ·intro k hk
  obtain ⟨a, h1, h2, h3⟩ := rowB_own hk
  rcases hor with ⟨r1, r2⟩ | h
  ·exact .inl (by rw [← r2, ← r1]; exact hk)
  ·exact .inr (by rw [← h2]; exact h a h1)
 ·have f1 : ButF (q :: (blockL vG ++ blockL vL)) w w7 := ButF.of_below h7
  have f2 := f1.step (ButF.of_turned tu8 (.inl (by simp)))
  have f3 := f2.step (ButF.of_turned tu9 (.inl (by rw [hbL]; simp)))
  exact (f3.step (ButF.of_turned tp (.inl (by rw [hbG]; simp)))).drew
end Go.Proofs.YteaalifehokgoaaGreatDoor
