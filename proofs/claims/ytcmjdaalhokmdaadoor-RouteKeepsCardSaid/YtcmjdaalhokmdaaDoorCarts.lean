/- Carts, plainly: what the loops of route.Carts keep. No program in sight. -/
import Derived.Test.YtcmjdaalhokmdaaDoorPick
namespace Go.Proofs.YtcmjdaalhokmdaaDoor
open Go.RowKit Go.Sort Go.Proofs

/-- How many pieces. -/
def sumN : List PickV → Int
  | [] => 0
  | x :: r => x.2.2 + sumN r
theorem sumN_append (a b : List PickV) : sumN (a ++ b) = sumN a + sumN b := by
  induction a with
  | nil => simp [sumN]
  | cons x r ih => simp only [List.cons_append, sumN, ih]; omega
theorem sumN_one (x : PickV) : sumN [x] = x.2.2 := by simp [sumN]
theorem sumN_perm {a b : List PickV} (h : a.Perm b) : sumN a = sumN b := by
  induction h with
  | nil => rfl
  | cons x _ ih => simp only [sumN, ih]
  | swap x y l => simp only [sumN]; omega
  | trans _ _ h1 h2 => rw [h1, h2]
theorem sumN_nonneg {l : List PickV} (h : ∀ x ∈ l, 0 ≤ x.2.2) : 0 ≤ sumN l := by
  induction l with
  | nil => simp [sumN]
  | cons x r ih =>
    have h1 := h x (by simp)
    have h2 := ih fun y hy => h y (by simp [hy])
    simp only [sumN]; omega
theorem sumN_take (l : List PickV) (k : Nat) (h : k < l.length) : sumN (l.take (k + 1)) = sumN (l.take k) + l[k].2.2 := by
  rw [List.take_succ_eq_append_getElem h, sumN_append, sumN_one]
theorem sumN_take_le {l : List PickV} (h : ∀ x ∈ l, 0 ≤ x.2.2) (k : Nat) : sumN (l.take k) ≤ sumN l := by
  have e : sumN l = sumN (l.take k) + sumN (l.drop k) := by rw [← sumN_append, List.take_append_drop]
  have := sumN_nonneg (l := l.drop k) fun x hx => h x (List.mem_of_mem_drop hx)
  omega

/-- How many pieces of a lot, at a place. -/
def keyN (p : PlaceV) (s : List UInt8) : List PickV → Int
  | [] => 0
  | x :: r => (if x.1 = p ∧ x.2.1 = s then x.2.2 else 0) + keyN p s r
theorem keyN_append (p : PlaceV) (s : List UInt8) (a b : List PickV) : keyN p s (a ++ b) = keyN p s a + keyN p s b := by
  induction a with
  | nil => simp [keyN]
  | cons x r ih => simp only [List.cons_append, keyN, ih]; omega
theorem keyN_one (p : PlaceV) (s : List UInt8) (x : PickV) : keyN p s [x] = if x.1 = p ∧ x.2.1 = s then x.2.2 else 0 := by simp [keyN]
theorem keyN_perm (p : PlaceV) (s : List UInt8) {a b : List PickV} (h : a.Perm b) : keyN p s a = keyN p s b := by
  induction h with
  | nil => rfl
  | cons x _ ih => simp only [keyN, ih]
  | swap x y l => simp only [keyN]; omega
  | trans _ _ h1 h2 => rw [h1, h2]
theorem keyN_take (p : PlaceV) (s : List UInt8) (l : List PickV) (k : Nat) (h : k < l.length) : keyN p s (l.take (k + 1)) = keyN p s (l.take k) + if l[k].1 = p ∧ l[k].2.1 = s then l[k].2.2 else 0 := by
  rw [List.take_succ_eq_append_getElem h, keyN_append, keyN_one]
theorem keyN_bound (p : PlaceV) (s : List UInt8) {l : List PickV} (h : ∀ x ∈ l, 0 ≤ x.2.2) : 0 ≤ keyN p s l ∧ keyN p s l ≤ sumN l := by
  induction l with
  | nil => simp [keyN, sumN]
  | cons x r ih =>
    have h1 := h x (by simp)
    have h2 := ih fun y hy => h y (by simp [hy])
    simp only [sumN, keyN]
    split <;> omega

/-- What the loops keep: ds: what went into carts; fut: what comes yet. -/
structure CartI (most : Int) (ds fut : List PickV) (cs : List (List PickV)) (room : Int) : Prop where
  room0 : 0 ≤ room
  room1 : room ≤ most
  none : cs = [] → room = 0
  full : ∀ pre c, cs = pre ++ [c] → (∀ d ∈ pre, sumN d = most) ∧ sumN c = most - room
  keys : ∀ p s, keyN p s cs.flatten = keyN p s ds
  sum : sumN cs.flatten = sumN ds
  pos : ∀ y ∈ cs.flatten, 1 ≤ y.2.2
  well : ∀ y ∈ cs.flatten, InP y.1
  ord : cs.flatten.Pairwise fun x y => ltOf cfPlace y.1 x.1 = false
  ahead : ∀ y ∈ cs.flatten, ∀ x ∈ fut, ltOf cfPlace x.1 y.1 = false
/-- There are not many more pieces than carts. -/
def Few (i : Nat) (cs : List (List PickV)) (room : Int) : Prop := cs.flatten.length + (if room = 0 then 0 else 1) ≤ i + cs.length

theorem CartI.start {most : Int} (h : 1 ≤ most) (ss : List PickV) : CartI most [] ss [] 0 where
  room0 := by omega
  room1 := by omega
  none _ := rfl
  full pre c h := by simp at h
  keys p s := rfl
  sum := rfl
  pos y hy := by simp at hy
  well y hy := by simp at hy
  ord := List.Pairwise.nil
  ahead y hy := by simp at hy
theorem Few.start : Few 0 [] 0 := by simp [Few]

theorem CartI.push {most : Int} {ds fut : List PickV} {cs : List (List PickV)} (hm : 1 ≤ most) (h : CartI most ds fut cs 0) : CartI most ds fut (cs ++ [[]]) most where
  room0 := by omega
  room1 := by omega
  none h := by simp at h
  full pre c e := by
    have e1 := List.append_inj' e rfl
    obtain ⟨rfl, e2⟩ := e1
    injection e2 with e2 _
    subst e2
    refine ⟨fun d hd => ?_, by simp [sumN]⟩
    rcases List.eq_nil_or_concat cs with rfl | ⟨pre', c', rfl⟩
    · simp at hd
    · obtain ⟨q1, q2⟩ := h.full pre' c' (by simp)
      simp at hd
      rcases hd with hd | rfl
      · exact q1 d hd
      · rw [q2]; omega
  keys p s := by simpa using h.keys p s
  sum := by simpa using h.sum
  pos := by simpa using h.pos
  well := by simpa using h.well
  ord := by simpa using h.ord
  ahead := by simpa using h.ahead
theorem Few.push {i : Nat} {cs : List (List PickV)} {most : Int} (h : Few i cs 0) : Few i (cs ++ [[]]) most := by
  unfold Few at *
  simp at h ⊢
  split <;> omega

theorem flat_snoc (pre : List (List PickV)) (c : List PickV) (q : PickV) : (pre ++ [c ++ [q]]).flatten = (pre ++ [c]).flatten ++ [q] := by simp

theorem CartI.piece {most room k u : Int} {ds fut : List PickV} {p : PlaceV} {s : List UInt8} {pre : List (List PickV)} {c : List PickV} (h : CartI most (ds ++ [(p, s, u)]) fut (pre ++ [c]) room) (hk : 1 ≤ k) (hkr : k ≤ room) (hp : InP p) (hf : ∀ x ∈ fut, ltOf cfPlace x.1 p = false) (hin : ∃ x ∈ fut, x.1 = p) :
    CartI most (ds ++ [(p, s, u + k)]) fut (pre ++ [c ++ [(p, s, k)]]) (room - k) where
  room0 := by omega
  room1 := by have := h.room1; omega
  none h := by simp at h
  full pre2 c2 e := by
    have e1 := List.append_inj' e rfl
    obtain ⟨rfl, e2⟩ := e1
    injection e2 with e2 _
    subst e2
    obtain ⟨q1, q2⟩ := h.full pre c rfl
    refine ⟨q1, ?_⟩
    rw [sumN_append, sumN_one, q2]
    show most - room + k = _
    omega
  keys p' s' := by
    rw [flat_snoc, keyN_append, h.keys, keyN_append, keyN_append, keyN_one, keyN_one, keyN_one]
    simp only
    split <;> omega
  sum := by
    rw [flat_snoc, sumN_append, h.sum, sumN_append, sumN_append, sumN_one, sumN_one, sumN_one]
    simp only; omega
  pos y hy := by
    rw [flat_snoc, List.mem_append, List.mem_singleton] at hy
    rcases hy with hy | rfl
    · exact h.pos y hy
    · exact hk
  well y hy := by
    rw [flat_snoc, List.mem_append, List.mem_singleton] at hy
    rcases hy with hy | rfl
    · exact h.well y hy
    · exact hp
  ord := by
    rw [flat_snoc, List.pairwise_append]
    refine ⟨h.ord, List.pairwise_singleton _ _, fun x hx y hy => ?_⟩
    rw [List.mem_singleton] at hy
    subst hy
    obtain ⟨z, hz, hz2⟩ := hin
    have := h.ahead x hx z hz
    rwa [hz2] at this
  ahead y hy x hx := by
    rw [flat_snoc, List.mem_append, List.mem_singleton] at hy
    rcases hy with hy | rfl
    · exact h.ahead y hy x hx
    · exact hf x hx
theorem Few.piece {i : Nat} {pre : List (List PickV)} {c : List PickV} {q : PickV} {room k : Int} (h : Few i (pre ++ [c]) room) (h0 : 0 < room) (_hk : k ≤ room) (i' : Nat) (hi : i' = i + 1 ∨ (i' = i ∧ k = room)) : Few i' (pre ++ [c ++ [q]]) (room - k) := by
  unfold Few at *
  rw [flat_snoc]
  rw [if_neg (by omega)] at h
  simp only [List.length_append, List.length_singleton] at h ⊢
  rcases hi with rfl | ⟨rfl, rfl⟩
  · split <;> omega
  · rw [if_pos (by omega)]; omega

/-- A pick is begun; a pick is done. -/
theorem CartI.begin {most room : Int} {ds fut : List PickV} {cs : List (List PickV)} (h : CartI most ds fut cs room) (p : PlaceV) (s : List UInt8) : CartI most (ds ++ [(p, s, 0)]) fut cs room :=
  { h with
    keys := fun p' s' => by rw [h.keys, keyN_append, keyN_one]; simp
    sum := by rw [h.sum, sumN_append, sumN_one]; simp }
theorem CartI.fut {most room : Int} {ds fut fut' : List PickV} {cs : List (List PickV)} (h : CartI most ds fut cs room) (hf : ∀ x ∈ fut', x ∈ fut) : CartI most ds fut' cs room :=
  { h with ahead := fun y hy x hx => h.ahead y hy x (hf x hx) }

theorem sumN_fulls {most : Int} {pre : List (List PickV)} (h : ∀ d ∈ pre, sumN d = most) : sumN pre.flatten = pre.length * most := by
  induction pre with
  | nil => simp [sumN]
  | cons c r ih =>
    rw [List.flatten_cons, sumN_append, h c (by simp), ih fun d hd => h d (by simp [hd]), List.length_cons]
    rw [Int.natCast_add, Int.add_mul]; simp; omega
theorem CartI.count {most room : Int} {ds fut : List PickV} {cs : List (List PickV)} (h : CartI most ds fut cs room) (hm : 1 ≤ most) (hs : sumN ds ≤ 200 * most) : cs.length ≤ 201 := by
  rcases List.eq_nil_or_concat cs with rfl | ⟨pre, c, rfl⟩
  · simp
  · rw [List.concat_eq_append] at h ⊢
    obtain ⟨q1, q2⟩ := h.full pre c rfl
    have e := h.sum
    rw [List.flatten_append, sumN_append, sumN_fulls q1] at e
    simp only [List.flatten_cons, List.flatten_nil, List.append_nil] at e
    have r1 := h.room1
    have h1 : (pre.length : Int) * most ≤ 200 * most := by omega
    have h2 : (pre.length : Int) ≤ 200 := Int.le_of_mul_le_mul_right h1 (by omega)
    simp; omega

/-- What the carts are in the end. -/
structure CartsOk (most : Int) (l : List PickV) (cs : List (List PickV)) : Prop where
  len : cs.length ≤ 201
  many : l.length ≤ cs.flatten.length
  few : cs.flatten.length ≤ l.length + 201
  few2 : ∀ pre c, cs = pre ++ [c] → sumN c ≠ most → cs.flatten.length + 1 ≤ l.length + cs.length
  sums : ∀ j (h : j < cs.length), 1 ≤ sumN cs[j] ∧ sumN cs[j] ≤ most ∧ (j + 1 < cs.length → sumN cs[j] = most)
  keys : ∀ p s, keyN p s cs.flatten = keyN p s l
  sum : sumN cs.flatten = sumN l
  pos : ∀ y ∈ cs.flatten, 1 ≤ y.2.2
  well : ∀ y ∈ cs.flatten, InP y.1
  ord : cs.flatten.Pairwise fun x y => ltOf cfPlace y.1 x.1 = false
theorem CartI.ok {most room : Int} {l ss : List PickV} {cs : List (List PickV)} (h : CartI most ss [] cs room) (hm : 1 ≤ most) (hr : room < most) (hp : ss.Perm l) (hs : sumN l ≤ 200 * most) (hmany : l.length ≤ cs.flatten.length) (hfew : Few l.length cs room) : CartsOk most l cs where
  len := h.count hm (by rw [sumN_perm hp]; exact hs)
  many := hmany
  few := by
    have := h.count hm (by rw [sumN_perm hp]; exact hs)
    unfold Few at hfew
    omega
  few2 pre c e hne := by
    have := (h.full pre c e).2
    unfold Few at hfew
    rw [if_neg (by omega)] at hfew
    exact hfew
  sums j hj := by
    rcases List.eq_nil_or_concat cs with rfl | ⟨pre, c, rfl⟩
    · simp at hj
    · simp only [List.concat_eq_append] at h hj ⊢
      obtain ⟨q1, q2⟩ := h.full pre c rfl
      have r0 := h.room0
      by_cases hlt : j < pre.length
      · have : (pre ++ [c])[j] = pre[j] := by rw [List.getElem_append_left hlt]
        rw [this]
        have := q1 pre[j] (List.getElem_mem hlt)
        omega
      · have hj' : j = pre.length := by simp at hj; omega
        subst hj'
        have : (pre ++ [c])[pre.length] = c := by simp
        rw [this]
        simp
        omega
  keys p s := by rw [h.keys]; exact keyN_perm p s hp
  sum := by rw [h.sum]; exact sumN_perm hp
  pos := h.pos
  well := h.well
  ord := h.ord
end Go.Proofs.YtcmjdaalhokmdaaDoor
