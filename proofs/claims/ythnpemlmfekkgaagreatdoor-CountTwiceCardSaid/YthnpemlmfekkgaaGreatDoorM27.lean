/- The document's book in memory: rows that it owns, and stores into them. -/
import Derived.Test.YthnpemlmfekkgaaGreatDoorM12
import Derived.Test.YthnpemlmfekkgaaGreatDoorM20
namespace Go.Proofs.YthnpemlmfekkgaaGreatDoor
open Go.RowKit Go.Sort Go.Proofs

def encGoS (x : GoS) : List Value := [.string ⟨x.1.1.toArray⟩, .int .i64 x.1.2, .int .i64 x.2.1, .int .i64 x.2.2.1, .int .i64 x.2.2.2.1, .int .i64 x.2.2.2.2]
theorem encGoS_len (x : GoS) : (encGoS x).length = 6 := rfl
theorem encGoS_one (x : GoS) : ∀ v ∈ encGoS x, v.oneCell' = true := fun v hv => by
  simp [encGoS] at hv
  rcases hv with rfl | rfl | rfl | rfl | rfl | rfl <;> rfl
def encLoH (x : LoH) : List Value := [.string ⟨x.1.1.toArray⟩, .string ⟨x.1.2.1.toArray⟩, .int .i64 x.1.2.2.1, .int .i64 x.1.2.2.2, .int .i64 (x.2 : Nat)]
theorem encLoH_len (x : LoH) : (encLoH x).length = 5 := rfl
theorem encLoH_one (x : LoH) : ∀ v ∈ encLoH x, v.oneCell' = true := fun v hv => by
  simp [encLoH] at hv
  rcases hv with rfl | rfl | rfl | rfl | rfl <;> rfl

/-- An element set in a row of elements: its cells spliced in. -/
theorem flat_splice {α : Type} {enc : α → List Value} {k : Nat} (hk : ∀ x, (enc x).length = k) : ∀ (l : List α) (i : Nat) (hi : i < l.length) (y : α) (c : Nat) (vs : List Value), enc y = (enc l[i]).take c ++ vs ++ (enc l[i]).drop (c + vs.length) → c + vs.length ≤ k →
    flatL enc (l.set i y) = (flatL enc l).take (i * k + c) ++ vs ++ (flatL enc l).drop (i * k + c + vs.length)
  | [], i, hi, _, _, _, _, _ => by simp at hi
  | x :: r, 0, hi, y, c, vs, hy, hc => by
    have e1 : flatL enc (x :: r) = enc x ++ flatL enc r := rfl
    have e2 : flatL enc ((x :: r).set 0 y) = enc y ++ flatL enc r := rfl
    have hx : (x :: r)[0] = x := rfl
    rw [hx] at hy
    have hl := hk x
    rw [e1, e2, hy, Nat.zero_mul, Nat.zero_add, List.take_append_of_le_length (by omega), List.drop_append_of_le_length (by omega)]
    simp only [List.append_assoc]
  | x :: r, i + 1, hi, y, c, vs, hy, hc => by
    have e1 : flatL enc (x :: r) = enc x ++ flatL enc r := rfl
    have e2 : flatL enc ((x :: r).set (i + 1) y) = enc x ++ flatL enc (r.set i y) := rfl
    have hl := hk x
    have hi' : i < r.length := by simpa using hi
    have ih := flat_splice hk r i hi' y c vs (by simpa using hy) hc
    have ek : (i + 1) * k + c = (enc x).length + (i * k + c) := by rw [hl, Nat.add_mul]; omega
    rw [e1, e2, ih, ek, List.take_length_add_append, Nat.add_assoc (enc x).length, List.drop_length_add_append]
    simp only [List.append_assoc]
theorem splice_take {α : Type} (L vs : List α) (off N : Nat) (h : off + vs.length ≤ N) (hN : N ≤ L.length) : (L.take off ++ vs ++ L.drop (off + vs.length)).take N = (L.take N).take off ++ vs ++ (L.take N).drop (off + vs.length) := by
  have hl : (L.take off ++ vs).length = off + vs.length := by
    rw [List.length_append, List.length_take, Nat.min_eq_left (by omega)]
  rw [List.take_append, List.take_of_length_le (by omega), hl, List.take_take, Nat.min_eq_left (by omega), List.drop_take]
/-- A store into a row that is owned. -/
theorem own_splice {w w' : World} {B e size n g cap : Nat} {t : TypeId} {xs vs L : List Value} {off : Nat} (h : w.ownsRow B e size (.slice (some ⟨g, 0, none⟩) n cap) n xs) (hL : w.heap[g]? = some (.cells L.toArray t (0, 0)))
    (h' : w'.heap[g]? = some (.cells (L.take off ++ vs ++ L.drop (off + vs.length)).toArray t (0, 0))) (ho : off + vs.length ≤ n * size) :
    w'.ownsRow B e size (.slice (some ⟨g, 0, none⟩) n cap) n (xs.take off ++ vs ++ xs.drop (off + vs.length)) := by
  obtain ⟨h1, h2⟩ := h
  rcases h2 with ⟨h2, _⟩ | ⟨g', cap', cur, h2, h3, h4, h5, h6, h7, h8⟩
  · cases h2
  · cases h2
    rw [hL] at h4
    cases h4
    have hn : n * size ≤ cap * size := Nat.mul_le_mul_right _ h5
    have hsz : L.length = cap * size := by simpa using h7
    have h8' : L.take (n * size) = xs := by simpa using h8
    refine ⟨?_, .inr ⟨g, cap, _, rfl, h3, h', h5, h6, ?_, ?_⟩⟩
    · simp only [List.length_append, List.length_take, List.length_drop]
      omega
    · simp only [List.size_toArray, List.length_append, List.length_take, List.length_drop]
      omega
    · rw [← h8']
      exact splice_take L vs off _ ho (by omega)
theorem own_block {w : World} {B e size n g cap : Nat} {xs : List Value} (h : w.ownsRow B e size (.slice (some ⟨g, 0, none⟩) n cap) n xs) : ∃ L : List Value, w.heap[g]? = some (.cells L.toArray e (0, 0)) ∧ n * size ≤ L.length := by
  obtain ⟨h1, h2⟩ := h
  rcases h2 with ⟨h2, _⟩ | ⟨g', cap', cur, h2, h3, h4, h5, h6, h7, h8⟩
  · cases h2
  · cases h2
    refine ⟨cur.toList, by simpa using h4, ?_⟩
    have : n * size ≤ cap * size := Nat.mul_le_mul_right _ h5
    simp only [Array.length_toList]
    omega
theorem own_kept {w w' : World} {B e size n : Nat} {v : Value} {xs : List Value} (h : w.ownsRow B e size v n xs) (hb : ∀ g, v.ownBlock = some g → w'.heap[g]? = w.heap[g]?) : w'.ownsRow B e size v n xs := by
  obtain ⟨h1, h2⟩ := h
  refine ⟨h1, ?_⟩
  rcases h2 with h2 | ⟨g, cap, cur, h2, h3, h4, h5⟩
  · exact .inl h2
  · exact .inr ⟨g, cap, cur, h2, h3, by rw [hb g (by rw [h2]; rfl)]; exact h4, h5⟩
theorem own_base {w : World} {B B' e size n : Nat} {v : Value} {xs : List Value} (h : w.ownsRow B e size v n xs) (hB : B' ≤ B) : w.ownsRow B' e size v n xs := by
  obtain ⟨h1, h2⟩ := h
  refine ⟨h1, ?_⟩
  rcases h2 with h2 | ⟨g, cap, cur, h2, h3, h4⟩
  · exact .inl h2
  · exact .inr ⟨g, cap, cur, h2, by omega, h4⟩

/-- Block q is the document's book, that lives in the blocks F: q, the goods' row, the lots' row; the stock's row is no one's of these. -/
def blockL (v : Value) : List Nat := match v.ownBlock with | some g => [g] | none => []
structure MBkM (w : World) (q : Nat) (vG vL : Value) (A : Option Addr) (cap : Nat) (B : BkV) : Prop where
  own : w.heap[q]? = some (.cells #[vG, vL, .slice A B.2.2.length cap] 71 (0, 0))
  goods : w.ownsRow 0 115 6 vG B.1.length (flatL encGoS B.1)
  lots : w.ownsRow 0 117 5 vL B.2.1.length (flatL encLoH B.2.1)
  lines : RowAt encLine 5 w A (linesM B.2.2)
/-- The block that the stock's rows lie in: it is read alone. -/
def rowB (A : Option Addr) (m : StkV) : List Nat := match A, m with | some a, _ :: _ => [a.block] | _, _ => []
def MBk (w : World) (q : Nat) (F R : List Nat) (B : BkV) : Prop := ∃ vG vL A cap, F = q :: (blockL vG ++ blockL vL) ∧ F.Nodup ∧ R = rowB A B.2.2 ∧ (∀ k ∈ R, k ∉ F ∧ k < w.heap.size) ∧ MBkM w q vG vL A cap B
theorem blockL_mem {v : Value} {g : Nat} (h : v.ownBlock = some g) : g ∈ blockL v := by unfold blockL; rw [h]; simp
theorem blockL_own {v : Value} {g : Nat} (h : g ∈ blockL v) : v.ownBlock = some g := by
  unfold blockL at h
  split at h
  · rename_i k hk
    simp only [List.mem_singleton] at h
    rw [hk, h]
  · simp at h
theorem rowB_mem {A : Option Addr} {m : StkV} {a : Addr} (h : A = some a) (hm : m ≠ []) : a.block ∈ rowB A m := by
  cases m with
  | nil => exact absurd rfl hm
  | cons x r => rw [h]; simp [rowB]
theorem rowB_own {A : Option Addr} {m : StkV} {k : Nat} (h : k ∈ rowB A m) : ∃ a, A = some a ∧ a.block = k ∧ m ≠ [] := by
  unfold rowB at h
  split at h
  · rename_i a x r
    simp only [List.mem_singleton] at h
    exact ⟨a, rfl, h.symm, by simp⟩
  · simp at h
theorem MBkM.lt {w : World} {q : Nat} {vG vL : Value} {A : Option Addr} {cap : Nat} {B : BkV} (H : MBkM w q vG vL A cap B) : ∀ k ∈ q :: (blockL vG ++ blockL vL), k < w.heap.size := fun k hk => by
  rcases List.mem_cons.1 hk with rfl | hk
  · exact (Array.getElem?_eq_some_iff.1 H.own).1
  · rcases List.mem_append.1 hk with hk | hk
    · exact (H.goods.lt _ (blockL_own hk)).2
    · exact (H.lots.lt _ (blockL_own hk)).2
theorem MBk.lt {w : World} {q : Nat} {F R : List Nat} {B : BkV} (H : MBk w q F R B) : (∀ k ∈ F, k < w.heap.size) ∧ ∀ k ∈ R, k < w.heap.size := by
  obtain ⟨vG, vL, A, cap, rfl, hn, rfl, hA, H⟩ := H
  exact ⟨H.lt, fun k hk => (hA k hk).2⟩
theorem linesM_ne {m : StkV} (h : linesM m ≠ []) : m ≠ [] := fun e => h (by rw [e]; rfl)
/-- A row that is read lies where it lay. -/
theorem lines_kept {w w' : World} {A : Option Addr} {m : StkV} (h : RowAt encLine 5 w A (linesM m)) (hs : w.heap.size ≤ w'.heap.size) (hk : ∀ k ∈ rowB A m, w'.heap[k]? = w.heap[k]?) : RowAt encLine 5 w' A (linesM m) := by
  rcases h with h | ⟨b, o, h1, h2, h3⟩
  · exact .inl h
  · by_cases hm : linesM m = []
    · exact .inl hm
    · have h4 := hk b (rowB_mem h1 (linesM_ne hm))
      exact .inr ⟨b, o, h1, Nat.lt_of_lt_of_le h2 hs, fun i hi c v hv => (World.cell?_of_block h4).trans (h3 i hi c v hv)⟩
theorem MBk.butF {w w' : World} {q : Nat} {F R X : List Nat} {B : BkV} (H : MBk w q F R B) (hb : ButF X w w') (hd : ∀ k ∈ F, k ∉ X) (hl : ∀ k ∈ R, k ∉ X) : MBk w' q F R B := by
  obtain ⟨h1, h2⟩ := H.lt
  obtain ⟨vG, vL, A, cap, rfl, hn, rfl, hA, H⟩ := H
  refine ⟨vG, vL, A, cap, rfl, hn, rfl, fun k hk => ⟨(hA k hk).1, Nat.lt_of_lt_of_le (hA k hk).2 hb.size⟩, ⟨?_, ?_, ?_, ?_⟩⟩
  · exact (hb.block _ (h1 q (by simp)) (hd q (by simp))).trans H.own
  · exact own_kept H.goods fun g hg => hb.block _ (H.goods.lt g hg).2 (hd g (by simp [blockL_mem hg]))
  · exact own_kept H.lots fun g hg => hb.block _ (H.lots.lt g hg).2 (hd g (by simp [blockL_mem hg]))
  · exact lines_kept H.lines hb.size fun k hk => hb.block k (h2 k hk) (hl k hk)
theorem MBk.below {w w' : World} {q : Nat} {F R : List Nat} {B : BkV} (H : MBk w q F R B) (hb : Below w.heap.size w w') : MBk w' q F R B := H.butF (X := []) (ButF.of_below hb) (by simp) (by simp)
theorem map_set {α : Type} (key : α → List UInt8) {l : List α} (hs : l.Pairwise fun x y => ltB (key x) (key y) = true) {k : Nat} (hk : k < l.length) (f : α → α) : (l.map fun y => if key y = key l[k] then f y else y) = l.set k (f l[k]) := by
  refine List.ext_getElem (by simp) fun i h1 h2 => ?_
  have hi : i < l.length := by simpa using h1
  have hp := List.pairwise_iff_getElem.1 hs
  rw [List.getElem_map, List.getElem_set]
  by_cases e : k = i
  · subst e
    rw [if_pos rfl, if_pos rfl]
  · rw [if_neg e, if_neg]
    rcases Nat.lt_or_gt_of_ne e with h | h
    · exact fun q => ltB_ne (hp k i hk hi h) q.symm
    · exact ltB_ne (hp i k hi hk h)
/-- Where a key stands (-1: nowhere). -/
def idxK {α : Type} (key : α → List UInt8) (l : List α) (c : List UInt8) : Int := match l.findIdx? (fun x => decide (key x = c)) with | some i => (i : Int) | none => -1
theorem idxK_find {α : Type} (key : α → List UInt8) (l : List α) (c : List UInt8) :
    (l.find? (fun x => decide (key x = c)) = none ∧ idxK key l c = -1) ∨ ∃ i, ∃ h : i < l.length, l.find? (fun x => decide (key x = c)) = some l[i] ∧ idxK key l c = i ∧ key l[i] = c := by
  unfold idxK
  cases hf : l.findIdx? (fun x => decide (key x = c)) with
  | none =>
    refine .inl ⟨?_, rfl⟩
    rw [List.findIdx?_eq_none_iff] at hf
    exact List.find?_eq_none.2 fun x hx => by simpa using hf x hx
  | some i =>
    obtain ⟨h1, h2, h3⟩ := List.findIdx?_eq_some_iff_getElem.1 hf
    refine .inr ⟨i, h1, ?_, rfl, by simpa using h2⟩
    rw [List.find?_eq_some_iff_getElem]
    exact ⟨h2, i, h1, rfl, fun j hj => by simpa using h3 j hj⟩
theorem idxK_step {α : Type} (key : α → List UInt8) (l : List α) (c : List UInt8) (k : Nat) (h1 : ∀ j (h : j < l.length), j < k → key l[j] ≠ c) (h2 : ∀ h : k < l.length, key l[k] = c) : idxK key l c = if k < l.length then (k : Int) else -1 := by
  unfold idxK
  by_cases hk : k < l.length
  · have : l.findIdx? (fun x => decide (key x = c)) = some k := List.findIdx?_eq_some_iff_getElem.2 ⟨hk, by simpa using h2 hk, fun j hj => by simpa using h1 j (by omega) hj⟩
    rw [this, if_pos hk]
  · have : l.findIdx? (fun x => decide (key x = c)) = none := by
      rw [List.findIdx?_eq_none_iff]
      intro x hx
      obtain ⟨j, hj, rfl⟩ := List.mem_iff_getElem.1 hx
      simpa using h1 j hj (by omega)
    rw [this, if_neg hk]
end Go.Proofs.YthnpemlmfekkgaaGreatDoor
