/- The document's book in memory: rows that it owns, and stores into them. The document's book: FindGoods, FindLot. Printed by gen/bkfind.py. Kinds of entries, of the document: hasFrom, hasTo, IsKind. Lots: their compare. Lots: Sooner. -/
import Derived.Test.YtgllddebodfhkaaGreatDoorM13
import Derived.Test.YtgllddebodfhkaaGreatDoorM15
import Derived.Test.YtgllddebodfhkaaGreatDoorM21
namespace Go.Proofs.YtgllddebodfhkaaGreatDoor
open Go.RowKit Go.Sort Go.Proofs

def encGoS (x : GoS) : List Value := [.string ⟨x.1.1.toArray⟩, .int .i64 x.1.2, .int .i64 x.2.1, .int .i64 x.2.2.1, .int .i64 x.2.2.2.1, .int .i64 x.2.2.2.2]
theorem encGoS_len (x : GoS) : (encGoS x).length = 6 := rfl
theorem encGoS_one (x : GoS) : ∀ v ∈ encGoS x, v.oneCell' = true := fun v hv => by
  simp [encGoS] at hv
  rcases hv with rfl | rfl | rfl | rfl | rfl | rfl <;> rfl
def encLoH (x : LoH) : List Value := [.string ⟨x.1.1.toArray⟩, .string ⟨x.1.2.1.toArray⟩, .int .i64 x.1.2.2.1, .int .i64 x.1.2.2.2, .int .i64 (x.2 : Nat)]
theorem encLoH_len (x : LoH) : (encLoH x).length = 5 := rfl
theorem encLoH_one (x : LoH) : ∀ v ∈ encLoH x, v.oneCell' = true := fun v hv => by
  simp [encLoH] at hv
  rcases hv with rfl | rfl | rfl | rfl | rfl <;> rfl

/-- An element set in a row of elements: its cells spliced in. -/
theorem flat_splice {α : Type} {enc : α → List Value} {k : Nat} (hk : ∀ x, (enc x).length = k) : ∀ (l : List α) (i : Nat) (hi : i < l.length) (y : α) (c : Nat) (vs : List Value), enc y = (enc l[i]).take c ++ vs ++ (enc l[i]).drop (c + vs.length) → c + vs.length ≤ k →
    flatL enc (l.set i y) = (flatL enc l).take (i * k + c) ++ vs ++ (flatL enc l).drop (i * k + c + vs.length)
  | [], i, hi, _, _, _, _, _ => by simp at hi
  | x :: r, 0, hi, y, c, vs, hy, hc => by
    have e1 : flatL enc (x :: r) = enc x ++ flatL enc r := rfl
    have e2 : flatL enc ((x :: r).set 0 y) = enc y ++ flatL enc r := rfl
    have hx : (x :: r)[0] = x := rfl
    rw [hx] at hy
    have hl := hk x
    rw [e1, e2, hy, Nat.zero_mul, Nat.zero_add, List.take_append_of_le_length (by omega), List.drop_append_of_le_length (by omega)]
    simp only [List.append_assoc]
  | x :: r, i + 1, hi, y, c, vs, hy, hc => by
    have e1 : flatL enc (x :: r) = enc x ++ flatL enc r := rfl
    have e2 : flatL enc ((x :: r).set (i + 1) y) = enc x ++ flatL enc (r.set i y) := rfl
    have hl := hk x
    have hi' : i < r.length := by simpa using hi
    have ih := flat_splice hk r i hi' y c vs (by simpa using hy) hc
    have ek : (i + 1) * k + c = (enc x).length + (i * k + c) := by rw [hl, Nat.add_mul]; omega
    rw [e1, e2, ih, ek, List.take_length_add_append, Nat.add_assoc (enc x).length, List.drop_length_add_append]
    simp only [List.append_assoc]
theorem splice_take {α : Type} (L vs : List α) (off N : Nat) (h : off + vs.length ≤ N) (hN : N ≤ L.length) : (L.take off ++ vs ++ L.drop (off + vs.length)).take N = (L.take N).take off ++ vs ++ (L.take N).drop (off + vs.length) := by
  have hl : (L.take off ++ vs).length = off + vs.length := by
    rw [List.length_append, List.length_take, Nat.min_eq_left (by omega)]
  rw [List.take_append, List.take_of_length_le (by omega), hl, List.take_take, Nat.min_eq_left (by omega), List.drop_take]
/-- A store into a row that is owned. -/
theorem own_splice {w w' : World} {B e size n g cap : Nat} {t : TypeId} {xs vs L : List Value} {off : Nat} (h : w.ownsRow B e size (.slice (some ⟨g, 0, none⟩) n cap) n xs) (hL : w.heap[g]? = some (.cells L.toArray t (0, 0)))
    (h' : w'.heap[g]? = some (.cells (L.take off ++ vs ++ L.drop (off + vs.length)).toArray t (0, 0))) (ho : off + vs.length ≤ n * size) :
    w'.ownsRow B e size (.slice (some ⟨g, 0, none⟩) n cap) n (xs.take off ++ vs ++ xs.drop (off + vs.length)) := by
  obtain ⟨h1, h2⟩ := h
  rcases h2 with ⟨h2, _⟩ | ⟨g', cap', cur, h2, h3, h4, h5, h6, h7, h8⟩
  · cases h2
  · cases h2
    rw [hL] at h4
    cases h4
    have hn : n * size ≤ cap * size := Nat.mul_le_mul_right _ h5
    have hsz : L.length = cap * size := by simpa using h7
    have h8' : L.take (n * size) = xs := by simpa using h8
    refine ⟨?_, .inr ⟨g, cap, _, rfl, h3, h', h5, h6, ?_, ?_⟩⟩
    · simp only [List.length_append, List.length_take, List.length_drop]
      omega
    · simp only [List.size_toArray, List.length_append, List.length_take, List.length_drop]
      omega
    · rw [← h8']
      exact splice_take L vs off _ ho (by omega)
theorem own_block {w : World} {B e size n g cap : Nat} {xs : List Value} (h : w.ownsRow B e size (.slice (some ⟨g, 0, none⟩) n cap) n xs) : ∃ L : List Value, w.heap[g]? = some (.cells L.toArray e (0, 0)) ∧ n * size ≤ L.length := by
  obtain ⟨h1, h2⟩ := h
  rcases h2 with ⟨h2, _⟩ | ⟨g', cap', cur, h2, h3, h4, h5, h6, h7, h8⟩
  · cases h2
  · cases h2
    refine ⟨cur.toList, by simpa using h4, ?_⟩
    have : n * size ≤ cap * size := Nat.mul_le_mul_right _ h5
    simp only [Array.length_toList]
    omega
theorem own_kept {w w' : World} {B e size n : Nat} {v : Value} {xs : List Value} (h : w.ownsRow B e size v n xs) (hb : ∀ g, v.ownBlock = some g → w'.heap[g]? = w.heap[g]?) : w'.ownsRow B e size v n xs := by
  obtain ⟨h1, h2⟩ := h
  refine ⟨h1, ?_⟩
  rcases h2 with h2 | ⟨g, cap, cur, h2, h3, h4, h5⟩
  · exact .inl h2
  · exact .inr ⟨g, cap, cur, h2, h3, by rw [hb g (by rw [h2]; rfl)]; exact h4, h5⟩
theorem own_base {w : World} {B B' e size n : Nat} {v : Value} {xs : List Value} (h : w.ownsRow B e size v n xs) (hB : B' ≤ B) : w.ownsRow B' e size v n xs := by
  obtain ⟨h1, h2⟩ := h
  refine ⟨h1, ?_⟩
  rcases h2 with h2 | ⟨g, cap, cur, h2, h3, h4⟩
  · exact .inl h2
  · exact .inr ⟨g, cap, cur, h2, by omega, h4⟩

/-- Block q is the document's book, that lives in the blocks F: q, the goods' row, the lots' row; the stock's row is no one's of these. -/
def blockL (v : Value) : List Nat := match v.ownBlock with | some g => [g] | none => []
structure MBkM (w : World) (q : Nat) (vG vL : Value) (A : Option Addr) (cap : Nat) (B : BkV) : Prop where
  own : w.heap[q]? = some (.cells #[vG, vL, .slice A B.2.2.length cap] 96 (0, 0))
  goods : w.ownsRow 0 130 6 vG B.1.length (flatL encGoS B.1)
  lots : w.ownsRow 0 132 5 vL B.2.1.length (flatL encLoH B.2.1)
  lines : RowAt encLine 5 w A (linesM B.2.2)
/-- The block that the stock's rows lie in: it is read alone. -/
def rowB (A : Option Addr) (m : StkV) : List Nat := match A, m with | some a, _ :: _ => [a.block] | _, _ => []
def MBk (w : World) (q : Nat) (F R : List Nat) (B : BkV) : Prop := ∃ vG vL A cap, F = q :: (blockL vG ++ blockL vL) ∧ F.Nodup ∧ R = rowB A B.2.2 ∧ (∀ k ∈ R, k ∉ F ∧ k < w.heap.size) ∧ MBkM w q vG vL A cap B
theorem blockL_mem {v : Value} {g : Nat} (h : v.ownBlock = some g) : g ∈ blockL v := by unfold blockL; rw [h]; simp
theorem blockL_own {v : Value} {g : Nat} (h : g ∈ blockL v) : v.ownBlock = some g := by
  unfold blockL at h
  split at h
  · rename_i k hk
    simp only [List.mem_singleton] at h
    rw [hk, h]
  · simp at h
theorem rowB_mem {A : Option Addr} {m : StkV} {a : Addr} (h : A = some a) (hm : m ≠ []) : a.block ∈ rowB A m := by
  cases m with
  | nil => exact absurd rfl hm
  | cons x r => rw [h]; simp [rowB]
theorem rowB_own {A : Option Addr} {m : StkV} {k : Nat} (h : k ∈ rowB A m) : ∃ a, A = some a ∧ a.block = k ∧ m ≠ [] := by
  unfold rowB at h
  split at h
  · rename_i a x r
    simp only [List.mem_singleton] at h
    exact ⟨a, rfl, h.symm, by simp⟩
  · simp at h
theorem MBkM.lt {w : World} {q : Nat} {vG vL : Value} {A : Option Addr} {cap : Nat} {B : BkV} (H : MBkM w q vG vL A cap B) : ∀ k ∈ q :: (blockL vG ++ blockL vL), k < w.heap.size := fun k hk => by
  rcases List.mem_cons.1 hk with rfl | hk
  · exact (Array.getElem?_eq_some_iff.1 H.own).1
  · rcases List.mem_append.1 hk with hk | hk
    · exact (H.goods.lt _ (blockL_own hk)).2
    · exact (H.lots.lt _ (blockL_own hk)).2
theorem MBk.lt {w : World} {q : Nat} {F R : List Nat} {B : BkV} (H : MBk w q F R B) : (∀ k ∈ F, k < w.heap.size) ∧ ∀ k ∈ R, k < w.heap.size := by
  obtain ⟨vG, vL, A, cap, rfl, hn, rfl, hA, H⟩ := H
  exact ⟨H.lt, fun k hk => (hA k hk).2⟩
theorem linesM_ne {m : StkV} (h : linesM m ≠ []) : m ≠ [] := fun e => h (by rw [e]; rfl)
/-- A row that is read lies where it lay. -/
theorem lines_kept {w w' : World} {A : Option Addr} {m : StkV} (h : RowAt encLine 5 w A (linesM m)) (hs : w.heap.size ≤ w'.heap.size) (hk : ∀ k ∈ rowB A m, w'.heap[k]? = w.heap[k]?) : RowAt encLine 5 w' A (linesM m) := by
  rcases h with h | ⟨b, o, h1, h2, h3⟩
  · exact .inl h
  · by_cases hm : linesM m = []
    · exact .inl hm
    · have h4 := hk b (rowB_mem h1 (linesM_ne hm))
      exact .inr ⟨b, o, h1, Nat.lt_of_lt_of_le h2 hs, fun i hi c v hv => (World.cell?_of_block h4).trans (h3 i hi c v hv)⟩
theorem MBk.butF {w w' : World} {q : Nat} {F R X : List Nat} {B : BkV} (H : MBk w q F R B) (hb : ButF X w w') (hd : ∀ k ∈ F, k ∉ X) (hl : ∀ k ∈ R, k ∉ X) : MBk w' q F R B := by
  obtain ⟨h1, h2⟩ := H.lt
  obtain ⟨vG, vL, A, cap, rfl, hn, rfl, hA, H⟩ := H
  refine ⟨vG, vL, A, cap, rfl, hn, rfl, fun k hk => ⟨(hA k hk).1, Nat.lt_of_lt_of_le (hA k hk).2 hb.size⟩, ⟨?_, ?_, ?_, ?_⟩⟩
  · exact (hb.block _ (h1 q (by simp)) (hd q (by simp))).trans H.own
  · exact own_kept H.goods fun g hg => hb.block _ (H.goods.lt g hg).2 (hd g (by simp [blockL_mem hg]))
  · exact own_kept H.lots fun g hg => hb.block _ (H.lots.lt g hg).2 (hd g (by simp [blockL_mem hg]))
  · exact lines_kept H.lines hb.size fun k hk => hb.block k (h2 k hk) (hl k hk)
theorem MBk.below {w w' : World} {q : Nat} {F R : List Nat} {B : BkV} (H : MBk w q F R B) (hb : Below w.heap.size w w') : MBk w' q F R B := H.butF (X := []) (ButF.of_below hb) (by simp) (by simp)
theorem map_set {α : Type} (key : α → List UInt8) {l : List α} (hs : l.Pairwise fun x y => ltB (key x) (key y) = true) {k : Nat} (hk : k < l.length) (f : α → α) : (l.map fun y => if key y = key l[k] then f y else y) = l.set k (f l[k]) := by
  refine List.ext_getElem (by simp) fun i h1 h2 => ?_
  have hi : i < l.length := by simpa using h1
  have hp := List.pairwise_iff_getElem.1 hs
  rw [List.getElem_map, List.getElem_set]
  by_cases e : k = i
  · subst e
    rw [if_pos rfl, if_pos rfl]
  · rw [if_neg e, if_neg]
    rcases Nat.lt_or_gt_of_ne e with h | h
    · exact fun q => ltB_ne (hp k i hk hi h) q.symm
    · exact ltB_ne (hp i k hi hk h)
/-- Where a key stands (-1: nowhere). -/
def idxK {α : Type} (key : α → List UInt8) (l : List α) (c : List UInt8) : Int := match l.findIdx? (fun x => decide (key x = c)) with | some i => (i : Int) | none => -1
theorem idxK_find {α : Type} (key : α → List UInt8) (l : List α) (c : List UInt8) :
    (l.find? (fun x => decide (key x = c)) = none ∧ idxK key l c = -1) ∨ ∃ i, ∃ h : i < l.length, l.find? (fun x => decide (key x = c)) = some l[i] ∧ idxK key l c = i ∧ key l[i] = c := by
  unfold idxK
  cases hf : l.findIdx? (fun x => decide (key x = c)) with
  | none =>
    refine .inl ⟨?_, rfl⟩
    rw [List.findIdx?_eq_none_iff] at hf
    exact List.find?_eq_none.2 fun x hx => by simpa using hf x hx
  | some i =>
    obtain ⟨h1, h2, h3⟩ := List.findIdx?_eq_some_iff_getElem.1 hf
    refine .inr ⟨i, h1, ?_, rfl, by simpa using h2⟩
    rw [List.find?_eq_some_iff_getElem]
    exact ⟨h2, i, h1, rfl, fun j hj => by simpa using h3 j hj⟩
theorem idxK_step {α : Type} (key : α → List UInt8) (l : List α) (c : List UInt8) (k : Nat) (h1 : ∀ j (h : j < l.length), j < k → key l[j] ≠ c) (h2 : ∀ h : k < l.length, key l[k] = c) : idxK key l c = if k < l.length then (k : Int) else -1 := by
  unfold idxK
  by_cases hk : k < l.length
  · have : l.findIdx? (fun x => decide (key x = c)) = some k := List.findIdx?_eq_some_iff_getElem.2 ⟨hk, by simpa using h2 hk, fun j hj => by simpa using h1 j (by omega) hj⟩
    rw [this, if_pos hk]
  · have : l.findIdx? (fun x => decide (key x = c)) = none := by
      rw [List.findIdx?_eq_none_iff]
      intro x hx
      obtain ⟨j, hj, rfl⟩ := List.mem_iff_getElem.1 hx
      simpa using h1 j hj (by omega)
    rw [this, if_neg hk]
end Go.Proofs.YtgllddebodfhkaaGreatDoor
namespace Go.Proofs.YtgllddebodfhkaaGreatDoor
open Go.RowKit Go.Sort Go.Proofs

/-- The cells of an element, as a walk reads them. -/
theorem range6L {w : World} {b o : Nat} {x : GoS} (h : ∀ c v, (encGoS x)[c]? = some v → w.cell? ⟨b, o + c, none⟩ = some v) : w.cell? ⟨b, o, none⟩ = some (.string ⟨x.1.1.toArray⟩) := h 0 _ rfl
theorem rangeLo {w : World} {b o : Nat} {x : LoH} (h : ∀ c v, (encLoH x)[c]? = some v → w.cell? ⟨b, o + c, none⟩ = some v) : w.cell? ⟨b, o, none⟩ = some (.string ⟨x.1.1.toArray⟩) := h 0 _ rfl

set_option maxHeartbeats 800000 in
set_option maxRecDepth 100000 in
theorem findG_any (q : Nat) (A : Option Addr) (cap : Nat) (l : List GoS) (c : List UInt8) (w : World) (c0 : w.cell? ⟨q, 0, none⟩ = some (.slice A l.length cap)) (hrow : RowAt encGoS 6 w A l) (hl : l.length ≤ 100000) :
    Calls Tryz.prog 27 #[.pointer (some ⟨q, 0, none⟩), .string ⟨c.toArray⟩] w fun e w' => e = .returned (.int .i64 (idxK (fun x : GoS => x.1.1) l c)) ∧ Below w.heap.size w w' := by
  obtain ⟨N, hN⟩ : ∃ N, N = l.length := ⟨_, rfl⟩
  have HN := Lib.hid hN
  have HROW := Lib.hid hrow
  have HC := Lib.hid c0
  rw [← hN] at hl HC
  have HF := Lib.hid (fun k h1 h2 => idxK_step (fun x : GoS => x.1.1) l c k h1 h2)
  generalize idxK (fun x : GoS => x.1.1) l c = R at HF ⊢
  clear hN hrow c0
  go_enter Tryz.func27, Tryz.ntmps27
  go_wp2_with fail
  go_loopw [5] (fun n wr => ∃ k : Nat, k ≤ N ∧ n = .int .i64 k ∧ Hid (∀ j (h : j < l.length), j < k → l[j].1.1 ≠ c) ∧ Below w.heap.size w wr) (fun n _ => N - (intOf n).toNat)
  case atStart => exact ⟨0, by omega, rfl, fun j _ h => absurd h (Nat.not_lt_zero _), Below.refl _ _⟩
  case round =>
    obtain ⟨k, hk, rfl, HNO, hb⟩ := hrel
    have HB := Lib.hid hb
    have c0 : wr.cell? ⟨q, 0, none⟩ = some (.slice A N cap) := (hb.cell (p := ⟨_, 0, none⟩) (lt_of_cell HC.out)).trans HC.out
    clear hb
    by_cases hkN : k < N
    · have hkx : k < l.length := by rw [← HN.out]; exact hkN
      obtain ⟨g, o, rfl, lg, cg⟩ := HROW.out.resolve_left (fun h => by rw [h] at hkx; simp at hkx)
      obtain ⟨x, hx⟩ : ∃ x, x = l[k] := ⟨_, rfl⟩
      have e0 := range6L (x := x) (w := wr) (b := g) (o := o + k * 6) (fun cc v hv => by
        have h1 := cg k hkx cc v (by rw [← hx]; exact hv)
        exact (HB.out.cell (p := ⟨g, o + k * 6 + cc, none⟩) lg).trans h1)
      have HX := Lib.hid hx
      clear hx cg
      by_cases h2 : x.1.1 = c
      · have HT : Hid (R = (k : Int)) := by
          have := HF.out k HNO.out (fun h => by rw [← HX.out]; exact h2)
          rw [if_pos hkx] at this
          exact this
        obtain ⟨⟨a1, a2⟩, a3⟩ := x
        simp only at e0 h2
        have hb4 : (a1 == c) = true := by simpa using h2
        clear h2 HF
        go_wp2_with fail
        go_ret
        rw [HT.out]
        exact ⟨rfl, HB.out⟩
      · have HNX : Hid (∀ j (h : j < l.length), j < k + 1 → l[j].1.1 ≠ c) := fun j hj hjk => by
          rcases Nat.lt_succ_iff_lt_or_eq.1 hjk with h | rfl
          · exact HNO.out j hj h
          · rw [← HX.out]; exact h2
        obtain ⟨⟨a1, a2⟩, a3⟩ := x
        simp only at e0 h2
        have hb4 : (a1 == c) = false := by simpa using h2
        clear h2 HF
        go_wp2_with fail
        go_roundw
        case rel => exact ⟨k + 1, by omega, by go_num, HNX.out, HB.out⟩
        case measure => simp [intOf]; omega
    · obtain rfl : k = N := by omega
      have HT : Hid (R = -1) := by
        have := HF.out k HNO.out (fun h => by rw [← HN.out] at h; omega)
        rw [if_neg (by rw [← HN.out]; omega)] at this
        exact this
      go_wp2_with fail
      go_ret
      rw [HT.out]
      exact ⟨rfl, HB.out⟩

set_option maxHeartbeats 800000 in
set_option maxRecDepth 100000 in
theorem findL_any (q : Nat) (A : Option Addr) (cap : Nat) (l : List LoH) (c : List UInt8) (w : World) (c0 : w.cell? ⟨q, 1, none⟩ = some (.slice A l.length cap)) (hrow : RowAt encLoH 5 w A l) (hl : l.length ≤ 100000) :
    Calls Tryz.prog 26 #[.pointer (some ⟨q, 0, none⟩), .string ⟨c.toArray⟩] w fun e w' => e = .returned (.int .i64 (idxK (fun x : LoH => x.1.1) l c)) ∧ Below w.heap.size w w' := by
  obtain ⟨N, hN⟩ : ∃ N, N = l.length := ⟨_, rfl⟩
  have HN := Lib.hid hN
  have HROW := Lib.hid hrow
  have HC := Lib.hid c0
  rw [← hN] at hl HC
  have HF := Lib.hid (fun k h1 h2 => idxK_step (fun x : LoH => x.1.1) l c k h1 h2)
  generalize idxK (fun x : LoH => x.1.1) l c = R at HF ⊢
  clear hN hrow c0
  go_enter Tryz.func26, Tryz.ntmps26
  go_wp2_with fail
  go_loopw [5] (fun n wr => ∃ k : Nat, k ≤ N ∧ n = .int .i64 k ∧ Hid (∀ j (h : j < l.length), j < k → l[j].1.1 ≠ c) ∧ Below w.heap.size w wr) (fun n _ => N - (intOf n).toNat)
  case atStart => exact ⟨0, by omega, rfl, fun j _ h => absurd h (Nat.not_lt_zero _), Below.refl _ _⟩
  case round =>
    obtain ⟨k, hk, rfl, HNO, hb⟩ := hrel
    have HB := Lib.hid hb
    have c0 : wr.cell? ⟨q, 1, none⟩ = some (.slice A N cap) := (hb.cell (p := ⟨_, 1, none⟩) (lt_of_cell HC.out)).trans HC.out
    clear hb
    by_cases hkN : k < N
    · have hkx : k < l.length := by rw [← HN.out]; exact hkN
      obtain ⟨g, o, rfl, lg, cg⟩ := HROW.out.resolve_left (fun h => by rw [h] at hkx; simp at hkx)
      obtain ⟨x, hx⟩ : ∃ x, x = l[k] := ⟨_, rfl⟩
      have e0 := rangeLo (x := x) (w := wr) (b := g) (o := o + k * 5) (fun cc v hv => by
        have h1 := cg k hkx cc v (by rw [← hx]; exact hv)
        exact (HB.out.cell (p := ⟨g, o + k * 5 + cc, none⟩) lg).trans h1)
      have HX := Lib.hid hx
      clear hx cg
      by_cases h2 : x.1.1 = c
      · have HT : Hid (R = (k : Int)) := by
          have := HF.out k HNO.out (fun h => by rw [← HX.out]; exact h2)
          rw [if_pos hkx] at this
          exact this
        obtain ⟨⟨a1, a2⟩, a3⟩ := x
        simp only at e0 h2
        have hb4 : (a1 == c) = true := by simpa using h2
        clear h2 HF
        go_wp2_with fail
        go_ret
        rw [HT.out]
        exact ⟨rfl, HB.out⟩
      · have HNX : Hid (∀ j (h : j < l.length), j < k + 1 → l[j].1.1 ≠ c) := fun j hj hjk => by
          rcases Nat.lt_succ_iff_lt_or_eq.1 hjk with h | rfl
          · exact HNO.out j hj h
          · rw [← HX.out]; exact h2
        obtain ⟨⟨a1, a2⟩, a3⟩ := x
        simp only at e0 h2
        have hb4 : (a1 == c) = false := by simpa using h2
        clear h2 HF
        go_wp2_with fail
        go_roundw
        case rel => exact ⟨k + 1, by omega, by go_num, HNX.out, HB.out⟩
        case measure => simp [intOf]; omega
    · obtain rfl : k = N := by omega
      have HT : Hid (R = -1) := by
        have := HF.out k HNO.out (fun h => by rw [← HN.out] at h; omega)
        rw [if_neg (by rw [← HN.out]; omega)] at this
        exact this
      go_wp2_with fail
      go_ret
      rw [HT.out]
      exact ⟨rfl, HB.out⟩
end Go.Proofs.YtgllddebodfhkaaGreatDoor
namespace Go.Proofs.YtgllddebodfhkaaGreatDoor
open Go.RowKit Go.Sort Go.Proofs

set_option maxHeartbeats 800000 in
theorem hasFrom_any (k : List UInt8) (w : World) : Calls Tryz.prog 127 #[.string ⟨k.toArray⟩] w fun e w' => e = .returned (.bool (hasF k)) ∧ w = w' := by
  rcases kind_cases k with rfl | rfl | rfl | rfl | rfl | rfl | rfl | ⟨h1, h2, h3, h4, h5, h6, h7, e1, e2, e3⟩
  case' inr.inr.inr.inr.inr.inr.inr =>
    rw [e1]
    clear e1 e2 e3
  all_goals
    go_enter Tryz.func127, Tryz.ntmps127
    go_wp2
    go_ret
    exact ⟨rfl, rfl⟩
set_option maxHeartbeats 800000 in
theorem hasTo_any (k : List UInt8) (w : World) : Calls Tryz.prog 128 #[.string ⟨k.toArray⟩] w fun e w' => e = .returned (.bool (hasT k)) ∧ w = w' := by
  rcases kind_cases k with rfl | rfl | rfl | rfl | rfl | rfl | rfl | ⟨h1, h2, h3, h4, h5, h6, h7, e1, e2, e3⟩
  case' inr.inr.inr.inr.inr.inr.inr =>
    rw [e2]
    clear e1 e2 e3
  all_goals
    go_enter Tryz.func128, Tryz.ntmps128
    go_wp2
    go_ret
    exact ⟨rfl, rfl⟩
/-- Is a word an entry's kind? -/
def isKB (k : List UInt8) : Bool := decide (k = kGoods) || decide (k = kLot) || isP k
set_option maxHeartbeats 1600000 in
theorem isKind_any (k : List UInt8) (w : World) : Calls Tryz.prog 123 #[.string ⟨k.toArray⟩] w fun e w' => e = .returned (.bool (isKB k)) ∧ w = w' := by
  have HF := Lib.hid (fun W => hasFrom_any k W)
  have HT := Lib.hid (fun W => hasTo_any k W)
  have hcase : (k = kGoods ∨ k = kLot) ∨ (k ≠ kGoods ∧ k ≠ kLot) := by
    by_cases h1 : k = kGoods
    · exact .inl (.inl h1)
    · by_cases h2 : k = kLot
      · exact .inl (.inr h2)
      · exact .inr ⟨h1, h2⟩
  rcases hcase with (rfl | rfl) | ⟨g1, g2⟩
  · go_enter Tryz.func123, Tryz.ntmps123
    go_wp2_with fail
    refine (HF.out _).mono ?_
    rintro e w1 ⟨rfl, rfl⟩
    go_wp2_with fail
    refine (HT.out _).mono ?_
    rintro e w1 ⟨rfl, rfl⟩
    go_wp2
    go_ret
    exact ⟨rfl, rfl⟩
  · go_enter Tryz.func123, Tryz.ntmps123
    go_wp2_with fail
    refine (HF.out _).mono ?_
    rintro e w1 ⟨rfl, rfl⟩
    go_wp2_with fail
    refine (HT.out _).mono ?_
    rintro e w1 ⟨rfl, rfl⟩
    go_wp2
    go_ret
    exact ⟨rfl, rfl⟩
  · have hg : (k == [103, 111, 111, 100, 115]) = false := beq_eq_false_iff_ne.2 g1
    have hl : (k == [108, 111, 116]) = false := beq_eq_false_iff_ne.2 g2
    have HK := Lib.hid (show isKB k = isP k by unfold isKB; rw [decide_eq_false g1, decide_eq_false g2]; rfl)
    rcases kind_cases k with rfl | rfl | rfl | rfl | rfl | rfl | rfl | ⟨h1, h2, h3, h4, h5, h6, h7, e1, e2, e3⟩
    case' inr.inr.inr.inr.inr.inr.inr =>
      rw [e3] at HK
      rw [e1] at HF
      rw [e2] at HT
      clear e1 e2 e3
    all_goals
      clear g1 g2
      go_enter Tryz.func123, Tryz.ntmps123
      go_wp2_with fail
      refine (HF.out _).mono ?_
      rintro e w1 ⟨rfl, rfl⟩
      go_wp2_with fail
      refine (HT.out _).mono ?_
      rintro e w1 ⟨rfl, rfl⟩
      go_wp2
      go_ret
      rw [HK.out]
      exact ⟨rfl, rfl⟩
end Go.Proofs.YtgllddebodfhkaaGreatDoor
namespace Go.Proofs.YtgllddebodfhkaaGreatDoor
open Go.RowKit Go.Sort Go.Proofs

/-- The compare of two lots. -/
def cfLot (x y : LotV) : Int := orL [Lib.compareInt x.2.2.1 y.2.2.1, Lib.compareBytes x.1 y.1]
theorem cmpI_lt (x y : Int) : Lib.compareInt x y < 0 ↔ x < y := by
  unfold Lib.compareInt
  by_cases h1 : x < y
  · simp [h1]
  · by_cases h2 : y < x <;> simp [h1, h2]
theorem cmpI_zero (x y : Int) : Lib.compareInt x y = 0 ↔ x = y := by
  unfold Lib.compareInt
  by_cases h1 : x < y
  · simp [h1]; omega
  · by_cases h2 : y < x
    · simp [h1, h2]; omega
    · simp [h1, h2]; omega
theorem ltLot (x y : LotV) : ltOf cfLot x y = decide (x.2.2.1 < y.2.2.1 ∨ (x.2.2.1 = y.2.2.1 ∧ Lib.compareBytes x.1 y.1 < 0)) := by
  unfold ltOf cfLot
  rw [Bool.eq_iff_iff, decide_eq_true_iff, decide_eq_true_iff]
  by_cases h : Lib.compareInt x.2.2.1 y.2.2.1 = 0
  · have h' := (cmpI_zero _ _).1 h
    simp only [orL, h, if_pos]
    by_cases h2 : Lib.compareBytes x.1 y.1 = 0
    · rw [if_pos h2, h2]; omega
    · rw [if_neg h2]; omega
  · have h' : x.2.2.1 ≠ y.2.2.1 := fun e => h ((cmpI_zero _ _).2 e)
    simp only [orL, if_neg h]
    rw [cmpI_lt]; omega
theorem swoLot : SWO (ltOf cfLot) where
  irrefl x := by rw [ltLot, cmpB_refl]; simp
  trans x y z h1 h2 := by
    rw [ltLot, decide_eq_true_iff] at *
    rcases h1 with h1 | ⟨h1, h1'⟩ <;> rcases h2 with h2 | ⟨h2, h2'⟩
    · exact .inl (by omega)
    · exact .inl (by omega)
    · exact .inl (by omega)
    · exact .inr ⟨by omega, cmpB_trans _ _ _ h1' h2'⟩
  ntrans x y z h1 h2 := by
    rw [ltLot, decide_eq_false_iff_not] at *
    rintro (h3 | ⟨h3, h3'⟩)
    · exact h1 (.inl (by have : ¬ y.2.2.1 < z.2.2.1 := fun h => h2 (.inl h); omega))
    · have a1 : ¬ x.2.2.1 < y.2.2.1 := fun h => h1 (.inl h)
      have a2 : ¬ y.2.2.1 < z.2.2.1 := fun h => h2 (.inl h)
      have b1 : ¬ Lib.compareBytes x.1 y.1 < 0 := fun h => h1 (.inr ⟨by omega, h⟩)
      have b2 : ¬ Lib.compareBytes y.1 z.1 < 0 := fun h => h2 (.inr ⟨by omega, h⟩)
      have s1 := cmpB_swap x.1 y.1
      have s2 := cmpB_swap y.1 z.1
      by_cases e1 : Lib.compareBytes x.1 y.1 = 0
      · rw [(cmpB_eq _ _).1 e1] at h3'; exact b2 h3'
      · by_cases e2 : Lib.compareBytes y.1 z.1 = 0
        · rw [← (cmpB_eq _ _).1 e2] at h3'; exact b1 h3'
        · have := cmpB_trans z.1 y.1 x.1 (by omega) (by omega)
          have s3 := cmpB_swap x.1 z.1
          omega

set_option maxHeartbeats 1000000 in
theorem cmpLot_any (x y : LotV) (W : World) : Calls Tryz.prog 64 #[.agg (encLot x).toArray, .agg (encLot y).toArray] W fun e w' => e = .returned (.int .i64 (cfLot x y)) ∧ ∃ q os', w' = grow (W.drewN q) os' := by
  obtain ⟨a1, a2, a3, a4⟩ := x
  obtain ⟨b1, b2, b3, b4⟩ := y
  simp only [encLot, cfLot]
  go_enter Tryz.func64, Tryz.ntmps64
  go_wp2_with fail
  have hor := fun (B : Nat) (W' : World) (h0 : W'.cell? ⟨B, 0, none⟩ = some (.int .i64 (Lib.compareInt a3 b3))) (h1 : W'.cell? ⟨B, 1, none⟩ = some (.int .i64 (Lib.compareBytes a1 b1))) => or_any B [Lib.compareInt a3 b3, Lib.compareBytes a1 b1] W' (by simp) (fun k hk => by
    have hk' : k < 2 := hk
    rcases (show k = 0 ∨ k = 1 by omega) with rfl | rfl
    · exact h0
    · exact h1)
  have HOR := Lib.hid hor
  clear hor
  go_region_held3 (fun w' => w'.cell? ⟨W.heap.size, 0, none⟩ = some (.string ⟨a1.toArray⟩) ∧ w'.cell? ⟨W.heap.size, 2, none⟩ = some (.int .i64 a3) ∧ w'.cell? ⟨W.heap.size + 1, 0, none⟩ = some (.string ⟨b1.toArray⟩) ∧ w'.cell? ⟨W.heap.size + 1, 2, none⟩ = some (.int .i64 b3))
    (go_keep)
    (first
      | (go_at_call 106; refine (Tryz.cmp_Compare_int _ _ _).mono ?_; rintro e w' ⟨rfl, rfl⟩)
      | (go_at_call 105; refine (Tryz.strings_Compare _ _ _).mono ?_; rintro e w' ⟨rfl, rfl⟩)
      | (go_at_call 104; refine (HOR.out _ _ (by show (World.alloc _ _).cell? _ = _; rw [World.cell?_alloc_at _ _ _ _ (by simp)]; rfl) (by show (World.alloc _ _).cell? _ = _; rw [World.cell?_alloc_at _ _ _ _ (by simp)]; rfl)).mono ?_; rintro e w' ⟨rfl, rfl⟩))
  all_goals
    clear HOR
    go_wp2_with fail
    go_ret
    refine ⟨rfl, 1, #[.cells #[.string ⟨a1.toArray⟩, .string ⟨a2.toArray⟩, .int .i64 a3, .int .i64 a4] 47, .cells #[.string ⟨b1.toArray⟩, .string ⟨b2.toArray⟩, .int .i64 b3, .int .i64 b4] 47, .cells #[.int .i64 (Lib.compareInt a3 b3), .int .i64 (Lib.compareBytes a1 b1)] 3], ?_⟩
    rw [alloc_eq_grow, alloc_eq_grow, alloc_eq_grow, grow_grow, grow_grow]; rfl
end Go.Proofs.YtgllddebodfhkaaGreatDoor
namespace Go.Proofs.YtgllddebodfhkaaGreatDoor
open Go.RowKit Go.Sort Go.Proofs

set_option maxHeartbeats 400000 in
theorem sooner_any (x y : LotV) (W : World) : Calls Tryz.prog 19 #[.agg (encLot x).toArray, .agg (encLot y).toArray] W fun e w' => e = .returned (.bool (ltOf cfLot x y)) ∧ Below W.heap.size W w' := by
  have hc := fun W' => cmpLot_any x y W'
  have HL := Lib.hid (show ltOf cfLot x y = decide (cfLot x y < 0) from rfl)
  obtain ⟨a1, a2, a3, a4⟩ := x
  obtain ⟨b1, b2, b3, b4⟩ := y
  simp only [encLot] at hc ⊢
  have HC := Lib.hid hc
  clear hc
  generalize cfLot (a1, a2, a3, a4) (b1, b2, b3, b4) = c at HC HL
  go_enter Tryz.func19, Tryz.ntmps19
  go_wp2_with fail
  refine (HC.out _).mono ?_
  rintro e w1 ⟨rfl, q, os, hw⟩
  have hb := below_grown ((W.alloc (.cells #[.string ⟨a1.toArray⟩, .string ⟨a2.toArray⟩, .int .i64 a3, .int .i64 a4] 47)).alloc (.cells #[.string ⟨b1.toArray⟩, .string ⟨b2.toArray⟩, .int .i64 b3, .int .i64 b4] 47)) q os
  have B1 : Hid (Below W.heap.size W w1) := by
    rw [hw]
    exact (((Below.refl W.heap.size W).alloc (Nat.le_refl _) _).alloc (by simp) _).trans (hb.mono (by simp; omega))
  clear hw HC hb
  go_wp2
  go_ret
  exact ⟨by rw [HL.out]; rfl, B1.out⟩
end Go.Proofs.YtgllddebodfhkaaGreatDoor
