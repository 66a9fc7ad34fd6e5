/- Carts in memory: a row of rows, each of them the call's own. -/
import Derived.Test.YtcmjdaalhokmdaaDoorCarts
import Derived.Deep.AppendLies
import Derived.Laws.Rows
namespace Go.Proofs.YtcmjdaalhokmdaaDoor
open Go.RowKit Go.Sort Go.Proofs

theorem own_keep {w w' : World} {B e size n : Nat} {v : Value} {xs : List Value} (h : w.ownsRow B e size v n xs) (hk : ∀ a, v.ownBlock = some a → w'.heap[a]? = w.heap[a]?) : w'.ownsRow B e size v n xs := by
  refine ⟨h.1, ?_⟩
  rcases h.2 with h0 | ⟨g, cap, cur, h1, h2, h3, h4⟩
  · exact .inl h0
  · exact .inr ⟨g, cap, cur, h1, h2, (hk g (by rw [h1]; rfl)).trans h3, h4⟩
theorem own_blt {w : World} {B e size n : Nat} {v : Value} {xs : List Value} (h : w.ownsRow B e size v n xs) (a : Nat) (ha : v.ownBlock = some a) : B ≤ a ∧ a < w.heap.size := h.lt a ha

/-- out holds the carts cs: vals are their slices. -/
structure OutAt (w : World) (B : Nat) (out : Value) (cs : List (List PickV)) (vals : List Value) : Prop where
  len : vals.length = cs.length
  own : w.ownsRow B 22 1 out cs.length vals
  each : ∀ (j : Nat) (c : List PickV) (v : Value), cs[j]? = some c → vals[j]? = some v → w.ownsRow B 33 5 v c.length (flatL encPick c)
  apart : ∀ v ∈ vals, ∀ a, v.ownBlock = some a → out.ownBlock ≠ some a
  apart2 : ∀ (i j : Nat) (u v : Value), i ≠ j → vals[i]? = some u → vals[j]? = some v → ∀ a, u.ownBlock = some a → v.ownBlock ≠ some a
theorem OutAt.start (w : World) (B : Nat) : OutAt w B (.slice none 0 0) [] [] where
  len := rfl
  own := World.ownsRow_nil _ _ _ _
  each j c v h := by simp at h
  apart v hv := by simp at hv
  apart2 i j u v _ h := by simp at h
theorem OutAt.lts {w : World} {B : Nat} {out : Value} {cs : List (List PickV)} {vals : List Value} (h : OutAt w B out cs vals) (v : Value) (hv : v ∈ vals) (a : Nat) (ha : v.ownBlock = some a) : B ≤ a ∧ a < w.heap.size := by
  obtain ⟨j, hj, rfl⟩ := List.getElem_of_mem hv
  have hl := h.len
  exact own_blt (h.each j _ _ (List.getElem?_eq_getElem (by omega)) (List.getElem?_eq_getElem hj)) a ha
theorem OutAt.keep {w w' : World} {B : Nat} {out : Value} {cs : List (List PickV)} {vals : List Value} (h : OutAt w B out cs vals) (hk : ∀ a, a < w.heap.size → w'.heap[a]? = w.heap[a]?) : OutAt w' B out cs vals where
  len := h.len
  own := own_keep h.own fun a ha => hk a (own_blt h.own a ha).2
  each j c v h1 h2 := own_keep (h.each j c v h1 h2) fun a ha => hk a (own_blt (h.each j c v h1 h2) a ha).2
  apart := h.apart
  apart2 := h.apart2
theorem OutAt.below {w w' : World} {B : Nat} {out : Value} {cs : List (List PickV)} {vals : List Value} (h : OutAt w B out cs vals) (hb : Below w.heap.size w w') : OutAt w' B out cs vals := h.keep fun a ha => hb.block a ha

/-- An empty cart more. -/
theorem OutAt.push {w w' : World} {B : Nat} {out out' : Value} {cs : List (List PickV)} {vals : List Value} (h : OutAt w B out cs vals) (hown : w'.ownsRow B 22 1 out' (cs.length + 1) (vals ++ [.slice none 0 0])) (hg : w.grownBy w' out.ownBlock)
    (hat : ∀ a, out'.ownBlock = some a → out.ownBlock = some a ∨ w.heap.size ≤ a) : OutAt w' B out' (cs ++ [[]]) (vals ++ [.slice none 0 0]) where
  len := by simp [h.len]
  own := by rw [List.length_append]; exact hown
  each j c v h1 h2 := by
    rcases Nat.lt_or_ge j cs.length with hj | hj
    · rw [List.getElem?_append_left hj] at h1
      rw [List.getElem?_append_left (by rw [h.len]; exact hj)] at h2
      have he := h.each j c v h1 h2
      refine own_keep he fun a ha => hg.block a (own_blt he a ha).2 ?_
      have := h.apart v (List.mem_of_getElem? h2) a ha
      exact fun e => this e.symm
    · have hj' : j = cs.length := by
        have := (List.getElem?_eq_some_iff.1 h1).1
        simp at this; omega
      subst hj'
      rw [List.getElem?_append_right (Nat.le_refl _), Nat.sub_self] at h1
      rw [← h.len, List.getElem?_append_right (Nat.le_refl _), Nat.sub_self] at h2
      simp at h1 h2
      subst h1 h2
      exact World.ownsRow_nil _ _ _ _
  apart v hv a ha e := by
    rcases List.mem_append.1 hv with hv | hv
    · rcases hat a e with h1 | h1
      · exact h.apart v hv a ha h1
      · have := (h.lts v hv a ha).2; omega
    · rw [List.mem_singleton] at hv
      subst hv
      simp [Value.ownBlock] at ha
  apart2 i j u v hij h1 h2 a ha e := by
    rcases Nat.lt_or_ge i vals.length with hi | hi
    · rw [List.getElem?_append_left hi] at h1
      rcases Nat.lt_or_ge j vals.length with hj | hj
      · rw [List.getElem?_append_left hj] at h2
        exact h.apart2 i j u v hij h1 h2 a ha e
      · have hj' : j = vals.length := by
          have := (List.getElem?_eq_some_iff.1 h2).1
          simp at this; omega
        subst hj'
        simp at h2
        subst h2
        simp [Value.ownBlock] at e
    · have hi' : i = vals.length := by
        have := (List.getElem?_eq_some_iff.1 h1).1
        simp at this; omega
      subst hi'
      simp at h1
      subst h1
      simp [Value.ownBlock] at ha

/-- What a row of one that isn't empty looks like. -/
theorem OutAt.form {w : World} {B : Nat} {out : Value} {cs : List (List PickV)} {vals : List Value} (h : OutAt w B out cs vals) (h0 : cs ≠ []) :
    ∃ g cap cur, out = .slice (some ⟨g, 0, none⟩) cs.length cap ∧ B ≤ g ∧ g < w.heap.size ∧ w.heap[g]? = some (.cells cur 22 (0, 0)) ∧ (∀ j v, vals[j]? = some v → w.cell? ⟨g, j, none⟩ = some v) ∧ (∀ j, w.frozen? ⟨g, j, none⟩ = false) := by
  rcases h.own.2 with ⟨_, h1⟩ | ⟨g, cap, cur, h1, h2, h3, h4, h5, h6, h7⟩
  · exact absurd (List.eq_nil_of_length_eq_zero h1) h0
  · refine ⟨g, cap, cur, h1, h2, ?_, h3, fun j v hv => ?_, fun j => ?_⟩
    · exact (own_blt h.own g (by rw [h1]; rfl)).2
    · have hj := (List.getElem?_eq_some_iff.1 hv).1
      have hl := h.len
      rw [cell_of_row w g _ cur _ _ h3, ← Array.getElem?_toList, ← List.getElem?_take_of_lt (l := cur.toList) (show j < cs.length * 1 by omega), h7, hv]
    · exact frozen_of_row w g j cur _ h3

/-- A pick more in the last cart: its row turned (w1), and then its slice stored (w2). -/
theorem OutAt.add {w w1 : World} {B g cap : Nat} {pre : List (List PickV)} {c : List PickV} {pv : List Value} {v v' : Value} {q : PickV} (h : OutAt w B (.slice (some ⟨g, 0, none⟩) (pre.length + 1) cap) (pre ++ [c]) (pv ++ [v]))
    (hown : w1.ownsRow B 33 5 v' (c.length + 1) (flatL encPick (c ++ [q]))) (hg : w.grownBy w1 v.ownBlock) (hat : ∀ a, v'.ownBlock = some a → v.ownBlock = some a ∨ w.heap.size ≤ a) :
    OutAt (w1.setCell ⟨g, pre.length, none⟩ v') B (.slice (some ⟨g, 0, none⟩) (pre.length + 1) cap) (pre ++ [c ++ [q]]) (pv ++ [v']) := by
  have hl : pv.length = pre.length := by have := h.len; simp at this; exact this
  have hgl := (own_blt h.own g rfl).2
  have hvg : v.ownBlock ≠ some g := fun e => h.apart v (by simp) g e rfl
  have hv'g : v'.ownBlock ≠ some g := fun e => by
    rcases hat g e with h1 | h1
    · exact hvg h1
    · omega
  obtain ⟨g', cap', cur, e1, e2, -, e3, -, -⟩ := h.form (by simp)
  simp only [Value.slice.injEq, Option.some.injEq, Addr.mk.injEq, and_true] at e1
  obtain ⟨rfl, -, rfl⟩ := e1
  have e4 : w1.heap[g]? = some (.cells cur 22 (0, 0)) := (hg.block g hgl fun e => hvg e.symm).trans e3
  have hoth : ∀ a, a ≠ g → (w1.setCell ⟨g, pre.length, none⟩ v').heap[a]? = w1.heap[a]? := fun a ha => heap_setCell_other _ _ _ _ ha
  refine ⟨by simp [hl], ?_, fun j c' u h1 h2 => ?_, fun u hu a ha e => ?_, fun i j u u' hij h1 h2 a ha e => ?_⟩
  · refine ⟨by simp [hl], .inr ⟨g, cap, cur.setIfInBounds pre.length v', by simp, e2, heap_setCell_same w1 g _ cur _ v' e4, ?_⟩⟩
    rcases h.own.2 with ⟨h1, _⟩ | ⟨g', cap', cur', h1, h2, h3, h4, h5, h6, h7⟩
    · cases h1
    · simp only [Value.slice.injEq, Option.some.injEq, Addr.mk.injEq, and_true] at h1
      obtain ⟨rfl, -, rfl⟩ := h1
      rw [e3] at h3
      injection h3 with h3
      injection h3 with h3
      subst h3
      simp only [List.length_append, List.length_singleton] at h4 h6 h7 ⊢
      refine ⟨h4, h5, by simpa using h6, ?_⟩
      rw [Array.toList_setIfInBounds, List.take_set, h7, List.set_append_right _ _ (by omega), hl, Nat.sub_self]
      rfl
  · rcases Nat.lt_or_ge j pre.length with hj | hj
    · rw [List.getElem?_append_left hj] at h1
      rw [List.getElem?_append_left (by omega)] at h2
      have he := h.each j c' u (by rw [List.getElem?_append_left hj]; exact h1) (by rw [List.getElem?_append_left (by omega)]; exact h2)
      refine own_keep he fun a ha => ?_
      have n1 : a ≠ g := fun e => h.apart u (List.mem_append_left _ (List.mem_of_getElem? h2)) a ha (by rw [e]; rfl)
      rw [hoth a n1]
      refine hg.block a (own_blt he a ha).2 fun e => ?_
      exact h.apart2 j pv.length u v (by omega) (by rw [List.getElem?_append_left (by omega)]; exact h2) (by simp) a ha e.symm
    · have hj' : j = pre.length := by
        have := (List.getElem?_eq_some_iff.1 h1).1
        simp at this; omega
      subst hj'
      rw [← hl] at h2
      simp at h1 h2
      subst h1 h2
      rw [List.length_append]
      exact own_keep hown fun a ha => hoth a fun e => hv'g (by rw [ha, e])
  · have e' : g = a := by simpa [Value.ownBlock] using e
    subst e'
    rcases List.mem_append.1 hu with hu | hu
    · exact h.apart u (List.mem_append_left _ hu) g ha rfl
    · rw [List.mem_singleton] at hu
      subst hu
      exact hv'g ha
  · rcases Nat.lt_or_ge i pv.length with hi | hi
    · rw [List.getElem?_append_left hi] at h1
      have q1 : (pv ++ [v])[i]? = some u := by rw [List.getElem?_append_left hi]; exact h1
      rcases Nat.lt_or_ge j pv.length with hj | hj
      · rw [List.getElem?_append_left hj] at h2
        exact h.apart2 i j u u' hij q1 (by rw [List.getElem?_append_left hj]; exact h2) a ha e
      · have hj' : j = pv.length := by
          have := (List.getElem?_eq_some_iff.1 h2).1
          simp at this; omega
        subst hj'
        simp at h2
        subst h2
        rcases hat a e with h3 | h3
        · exact h.apart2 i pv.length u v hij q1 (by simp) a ha h3
        · have := (h.lts u (List.mem_of_getElem? q1) a ha).2; omega
    · have hi' : i = pv.length := by
        have := (List.getElem?_eq_some_iff.1 h1).1
        simp at this; omega
      subst hi'
      simp at h1
      subst h1
      have hj : j < pv.length := by
        have := (List.getElem?_eq_some_iff.1 h2).1
        simp at this; omega
      rw [List.getElem?_append_left hj] at h2
      have q2 : (pv ++ [v])[j]? = some u' := by rw [List.getElem?_append_left hj]; exact h2
      rcases hat a ha with h3 | h3
      · exact h.apart2 pv.length j v u' hij (by simp) q2 a h3 e
      · have := (h.lts u' (List.mem_of_getElem? q2) a e).2; omega

/-- A slice of carts, as a walk reads it. -/
def CartsAt (w : World) (A : Option Addr) (cs : List (List PickV)) : Prop :=
  cs = [] ∨ ∃ b o, A = some ⟨b, o, none⟩ ∧ b < w.heap.size ∧ ∀ j (h : j < cs.length), ∃ Aj cj, w.cell? ⟨b, o + j, none⟩ = some (.slice Aj cs[j].length cj) ∧ RowAt encPick 5 w Aj cs[j]
theorem OutAt.at_ {w : World} {B : Nat} {out : Value} {cs : List (List PickV)} {vals : List Value} (h : OutAt w B out cs vals) : ∃ A cap, out = .slice A cs.length cap ∧ CartsAt w A cs := by
  by_cases h0 : cs = []
  · subst h0
    rcases h.own.2 with ⟨h1, _⟩ | ⟨g, cap, cur, h1, _⟩
    · exact ⟨_, _, h1, .inl rfl⟩
    · exact ⟨_, _, h1, .inl rfl⟩
  · obtain ⟨g, cap, cur, h1, _, h2, _, h3, _⟩ := h.form h0
    refine ⟨_, _, h1, .inr ⟨g, 0, rfl, h2, fun j hj => ?_⟩⟩
    have hv : vals[j]? = some (vals[j]'(by rw [h.len]; exact hj)) := List.getElem?_eq_getElem _
    obtain ⟨Aj, cj, e1, e2, _⟩ := RowAt.of_own encPick_len (h.each j _ _ (List.getElem?_eq_getElem hj) hv)
    refine ⟨Aj, cj, ?_, e2⟩
    rw [Nat.zero_add, h3 j _ hv, e1]
theorem CartsAt.below {w w' : World} {A : Option Addr} {cs : List (List PickV)} (h : CartsAt w A cs) (hb : Below w.heap.size w w') : CartsAt w' A cs := by
  rcases h with h | ⟨b, o, h1, h2, h3⟩
  · exact .inl h
  · refine .inr ⟨b, o, h1, Nat.lt_of_lt_of_le h2 hb.size, fun j hj => ?_⟩
    obtain ⟨Aj, cj, e1, e2⟩ := h3 j hj
    exact ⟨Aj, cj, (hb.cell (p := ⟨b, o + j, none⟩) h2).trans e1, e2.below hb⟩
end Go.Proofs.YtcmjdaalhokmdaaDoor
