/- Rows of cells, as walks read them. Places read by the document: ReadPlace. A line's words; a line read by the document: ReadLine. A stock read, plainly: pieces of a text, line by line. Words joined and split again, plainly; names and numerals hold neither blanks nor dashes. A stock that is read is written as it was read. Goods: Check. -/
import Derived.Test.YtgllddebodfhkaaGreatDoorM01
import Derived.Test.YtgllddebodfhkaaGreatDoorM03
import Derived.Test.YtgllddebodfhkaaGreatDoorM05
import Derived.Test.YtgllddebodfhkaaGreatDoorM07
import Derived.Test.YtgllddebodfhkaaGreatDoorM10
import Derived.Test.YtgllddebodfhkaaGreatDoorM11
import Derived.Test.YtgllddebodfhkaaGreatDoorM15
import Derived.Test.YtgllddebodfhkaaGreatDoorM16
namespace Go.Proofs.YtgllddebodfhkaaGreatDoor
open Go.RowKit

theorem rowC {w : World} {b : Nat} {cs : Array Value} {t : TypeId} (h : w.heap[b]? = some (.cells cs t (0, 0))) (j : Nat) : w.cell? ⟨b, j, none⟩ = cs[j]? := cell_of_row _ _ _ _ _ _ h
theorem rowF {w : World} {b : Nat} {cs : Array Value} {t : TypeId} (h : w.heap[b]? = some (.cells cs t (0, 0))) (j : Nat) : w.frozen? ⟨b, j, none⟩ = false := frozen_of_row _ _ _ _ _ h
theorem row3f {w : World} {b : Nat} {u v x : Value} {t : TypeId} (h : w.heap[b]? = some (.cells #[u, v, x] t (0, 0))) :
    (w.cell? ⟨b, 0, none⟩ = some u ∧ w.cell? ⟨b, 1, none⟩ = some v ∧ w.cell? ⟨b, 2, none⟩ = some x) ∧ w.frozen? ⟨b, 0, none⟩ = false ∧ w.frozen? ⟨b, 1, none⟩ = false ∧ w.frozen? ⟨b, 2, none⟩ = false :=
  ⟨⟨rowC h 0, rowC h 1, rowC h 2⟩, rowF h 0, rowF h 1, rowF h 2⟩
theorem row5f {w : World} {b : Nat} {u v x y z : Value} {t : TypeId} (h : w.heap[b]? = some (.cells #[u, v, x, y, z] t (0, 0))) :
    (w.cell? ⟨b, 0, none⟩ = some u ∧ w.cell? ⟨b, 1, none⟩ = some v ∧ w.cell? ⟨b, 2, none⟩ = some x ∧ w.cell? ⟨b, 3, none⟩ = some y ∧ w.cell? ⟨b, 4, none⟩ = some z) ∧ w.frozen? ⟨b, 0, none⟩ = false ∧ w.frozen? ⟨b, 1, none⟩ = false ∧ w.frozen? ⟨b, 2, none⟩ = false ∧ w.frozen? ⟨b, 3, none⟩ = false ∧ w.frozen? ⟨b, 4, none⟩ = false :=
  ⟨⟨rowC h 0, rowC h 1, rowC h 2, rowC h 3, rowC h 4⟩, rowF h 0, rowF h 1, rowF h 2, rowF h 3, rowF h 4⟩

/-- A struct stored into a box of its own. -/
theorem wpList_store_box {P : Program} {ops : Array Oper} {rest : List Oper} {o : Oper} {a : Act} {w : World} {Q : Exit → Act → World → Prop} (hgd : o.guard = none) (ty : TypeId) (x y : Operand) (ho : o.op = .store ty x y) (b : Nat) (vs : List Value) (hx : a.eval x = .pointer (some ⟨b, 0, none⟩)) (hy : a.eval y = .agg vs.toArray)
    (t : TypeId) (L : List Value) (hb : w.heap[b]? = some (.cells L.toArray t (0, 0))) (hi : (P.info? ty).map (·.size) = some vs.length) (hl : L.length = vs.length) (h1 : ∀ v ∈ vs, v.oneCell' = true)
    (h : ∀ w', w'.heap[b]? = some (.cells vs.toArray t (0, 0)) → Turned b w w' → wpList P ops Q rest (a.put o.dst undef) w') : wpList P ops Q (o :: rest) a w :=
  wpList_store_at hgd ty x y ho b 0 vs hx hy t L hb hi (by omega) h1 fun w' hr ht => h w' (by rw [hr, Nat.zero_add, List.drop_of_length_le (Nat.le_of_eq hl)]; simp) ht
end Go.Proofs.YtgllddebodfhkaaGreatDoor
namespace Go.Proofs.YtgllddebodfhkaaGreatDoor
open Go.RowKit Go.Sort Go.Proofs

theorem placeWords_cases (a c d : List UInt8) : ((refNum c 4 < 0 ∨ ¬ refNum c 4 < 0 ∧ refNum d 4 < 0) ∧ placeWords [a, c, d] = (zeroPlace, 1)) ∨ (¬ refNum c 4 < 0 ∧ ¬ refNum d 4 < 0 ∧ placeWords [a, c, d] = if placeE (a, refNum c 4, refNum d 4) = 0 then ((a, refNum c 4, refNum d 4), 0) else (zeroPlace, placeE (a, refNum c 4, refNum d 4))) := by
  rw [refNum_eq c 4 (by omega), refNum_eq d 4 (by omega)]
  rw [show placeWords [a, c, d] = match numQ c 4, numQ d 4 with
    | some u, some v => if placeE (a, (u : Int), (v : Int)) = 0 then ((a, (u : Int), (v : Int)), 0) else (zeroPlace, placeE (a, (u : Int), (v : Int)))
    | _, _ => (zeroPlace, 1) from rfl]
  cases numQ c 4 with
  | none => exact .inl ⟨.inl (by simp), rfl⟩
  | some u =>
    cases numQ d 4 with
    | none => exact .inl ⟨.inr ⟨by simp, by simp⟩, rfl⟩
    | some v => exact .inr ⟨by simp, by simp, rfl⟩

end Go.Proofs.YtgllddebodfhkaaGreatDoor
namespace Go.Proofs.YtgllddebodfhkaaGreatDoor
open Go.RowKit Go.Sort Go.Proofs

def zeroLine : LineV := (([], 0, 0), [], 0)
/-- What reading a line's words answers. -/
def lineWords (ws : List (List UInt8)) : LineV × Nat :=
  match ws with
  | [a, b, c] => match numQ c 13 with
    | none => (zeroLine, 1)
    | some n => if (placeWords (splitL 45 a)).2 ≠ 0 then (zeroLine, (placeWords (splitL 45 a)).2) else if nameB b = false then (zeroLine, 5) else if wiB (n : Int) 1 1099511627776 = false then (zeroLine, 2) else (((placeWords (splitL 45 a)).1, b, (n : Int)), 0)
  | _ => (zeroLine, 1)
theorem lineWords_len {ws : List (List UInt8)} (h : ws.length ≠ 3) : lineWords ws = (zeroLine, 1) := by
  unfold lineWords
  split
  · simp at h
  · rfl
theorem lineWords_le (ws : List (List UInt8)) : (lineWords ws).2 ≤ 12 := by
  unfold lineWords
  split
  · rename_i a b c
    have := placeWords_le (splitL 45 a)
    split
    · simp
    · repeat' split
      all_goals first | exact this | simp
  · simp
theorem lineWords_none {a b c : List UInt8} (h : numQ c 13 = none) : lineWords [a, b, c] = (zeroLine, 1) := by
  show (match numQ c 13 with | none => (zeroLine, 1) | some n => _) = _
  rw [h]
theorem lineWords_some {a b c : List UInt8} {n : Nat} (h : numQ c 13 = some n) : lineWords [a, b, c] = if (placeWords (splitL 45 a)).2 ≠ 0 then (zeroLine, (placeWords (splitL 45 a)).2) else if nameB b = false then (zeroLine, 5) else if wiB (n : Int) 1 1099511627776 = false then (zeroLine, 2) else (((placeWords (splitL 45 a)).1, b, (n : Int)), 0) := by
  show (match numQ c 13 with | none => (zeroLine, 1) | some n => _) = _
  rw [h]

end Go.Proofs.YtgllddebodfhkaaGreatDoor
namespace Go.Proofs.YtgllddebodfhkaaGreatDoor
open Go.RowKit Go.Sort Go.Proofs

theorem placeWords_ok {ws : List (List UInt8)} (h : (placeWords ws).2 = 0) : placeE (placeWords ws).1 = 0 := by
  unfold placeWords at *
  split at h
  · split at h
    · split at h
      · rename_i h0; rw [if_pos h0]; exact h0
      · rename_i h0; exact absurd h h0
    · cases h
  · cases h
theorem lineWords_ok {ws : List (List UInt8)} (h : (lineWords ws).2 = 0) : placeE (lineWords ws).1.1 = 0 ∧ nameB (lineWords ws).1.2.1 = true ∧ wiB (lineWords ws).1.2.2 1 1099511627776 = true := by
  match ws with
  | [a, b, c] =>
    cases hq : numQ c 13 with
    | none => rw [lineWords_none hq] at h; cases h
    | some n =>
      rw [lineWords_some hq] at h ⊢
      by_cases h1 : (placeWords (splitL 45 a)).2 ≠ 0
      · rw [if_pos h1] at h; exact absurd h h1
      rw [if_neg h1] at h ⊢
      by_cases h2 : nameB b = false
      · rw [if_pos h2] at h; cases h
      rw [if_neg h2] at h ⊢
      by_cases h3 : wiB (n : Int) 1 1099511627776 = false
      · rw [if_pos h3] at h; cases h
      rw [if_neg h3]
      exact ⟨placeWords_ok (by omega), by simpa using h2, by simpa using h3⟩
  | [] => rw [lineWords_len (by simp)] at h; cases h
  | [_] => rw [lineWords_len (by simp)] at h; cases h
  | [_, _] => rw [lineWords_len (by simp)] at h; cases h
  | _ :: _ :: _ :: _ :: _ => rw [lineWords_len (by simp)] at h; cases h

/-- Lines as a map, in the order in which they came. -/
def toM (l : List LineV) : StkV := l.map fun x => ((x.1, x.2.1), x.2.2.toNat)
theorem toM_snoc (l : List LineV) (x : LineV) : toM (l ++ [x]) = toM l ++ [((x.1, x.2.1), x.2.2.toNat)] := by simp [toM]
/-- What reading has done so far. -/
structure RdI (l : List LineV) : Prop where
  inv : StkI (toM l)
  up : l.Pairwise fun x y => ltOf cfLine x y = true
  pos : ∀ x ∈ l, 0 ≤ x.2.2
theorem RdI.nil : RdI [] := ⟨StkI.nil, List.Pairwise.nil, by simp⟩
theorem back_toM {l : List LineV} (h : ∀ x ∈ l, 0 ≤ x.2.2) : (toM l).map lineOf = l := by
  induction l with
  | nil => rfl
  | cons x r ih =>
    have e : toM (x :: r) = ((x.1, x.2.1), x.2.2.toNat) :: toM r := rfl
    rw [e, List.map_cons, ih fun y hy => h y (List.mem_cons_of_mem _ hy)]
    have := h x List.mem_cons_self
    obtain ⟨p, q, n⟩ := x
    simp only [lineOf, List.cons.injEq, Prod.mk.injEq, true_and, and_true] at *
    omega
theorem RdI.lines {l : List LineV} (h : RdI l) : linesM (toM l) = l := by
  refine (lines_of h.inv.nodup (d := l) ?_ ?_).symm
  · rw [back_toM h.pos]
  · exact h.up.imp fun hxy => ltL_asym hxy
theorem RdI.len {l : List LineV} (h : RdI l) : l.length ≤ 200 := by
  have := h.inv.well.few
  simpa [toM] using this
theorem lt_irr {x y : LineV} (h : ltOf cfLine x y = true) : ¬ (x.1 = y.1 ∧ x.2.1 = y.2.1) := fun e => by
  have h1 := (cfLine_zero x y).2 e
  unfold ltOf at h
  rw [h1] at h
  exact absurd h (by decide)

/-- What a line of a text answers, behind these. -/
def rdE (d : List LineV) (t : List UInt8) : Nat :=
  if (lineWords (splitL 32 t)).2 ≠ 0 then (lineWords (splitL 32 t)).2
  else if (match d.getLast? with | some z => !ltOf cfLine z (lineWords (splitL 32 t)).1 | none => false) = true then 10
  else putE (toM d) (lineWords (splitL 32 t)).1.1 (lineWords (splitL 32 t)).1.2.1 (lineWords (splitL 32 t)).1.2.2
theorem rdE_le (d : List LineV) (t : List UInt8) : rdE d t ≤ 12 := by
  have h1 := lineWords_le (splitL 32 t)
  have h2 : ∀ m pl lot n, putE m pl lot n ≤ 12 := fun m pl lot n => by
    have h3 : placeE pl ≤ 12 := Nat.le_trans (placeE_le pl) (by omega)
    unfold putE
    repeat' split
    all_goals omega
  unfold rdE
  repeat' split
  all_goals first | exact h1 | exact h2 _ _ _ _ | omega
theorem getLast_lt {d : List LineV} (hp : d.Pairwise fun x y => ltOf cfLine x y = true) {z x : LineV} (hz : d.getLast? = some z) (hx : ltOf cfLine z x = true) : ∀ y ∈ d, ltOf cfLine y x = true := fun y hy => by
  obtain ⟨r, rfl⟩ := List.getLast?_eq_some_iff.1 hz
  rcases List.mem_append.1 hy with h | h
  · exact likeLine.swo.trans _ _ _ ((List.pairwise_append.1 hp).2.2 y h z (by simp)) hx
  · rw [List.mem_singleton.1 h]; exact hx
theorem RdI.next {d : List LineV} (h : RdI d) {x : LineV} (hx : ∀ z, d.getLast? = some z → ltOf cfLine z x = true) (hp : putE (toM d) x.1 x.2.1 x.2.2 = 0) : RdI (d ++ [x]) ∧ toM (d ++ [x]) = putM (toM d) x.1 x.2.1 x.2.2 := by
  have hall : ∀ y ∈ d, ltOf cfLine y x = true := by
    cases hl : d.getLast? with
    | none => rw [List.getLast?_eq_none_iff.1 hl]; simp
    | some z => exact getLast_lt h.up hl (hx z hl)
  have hnew : ∀ p ∈ toM d, p.1 ≠ (x.1, x.2.1) := fun p hp e => by
    obtain ⟨y, hy, rfl⟩ := List.mem_map.1 hp
    simp only [Prod.mk.injEq] at e
    exact lt_irr (hall y hy) e
  obtain ⟨-, -, h3, -⟩ := putE_zero hp
  have he : toM (d ++ [x]) = putM (toM d) x.1 x.2.1 x.2.2 := by
    unfold putM
    rw [if_pos hp, mput_new _ hnew, toM_snoc]
    have : atM (toM d) (x.1, x.2.1) = 0 := by unfold atM; rw [mget_none hnew]; rfl
    rw [this, Nat.zero_add]
  refine ⟨⟨by rw [he]; exact h.inv.put _ _ _, ?_, fun y hy => ?_⟩, he⟩
  · rw [List.pairwise_append]
    exact ⟨h.up, by simp, fun y hy z hz => by rw [List.mem_singleton.1 hz]; exact hall y hy⟩
  · rcases List.mem_append.1 hy with hy | hy
    · exact h.pos y hy
    · rw [List.mem_singleton.1 hy]; omega
theorem rdE_zero {d : List LineV} {t : List UInt8} (h : rdE d t = 0) : (lineWords (splitL 32 t)).2 = 0 ∧ (∀ z, d.getLast? = some z → ltOf cfLine z (lineWords (splitL 32 t)).1 = true) ∧ putE (toM d) (lineWords (splitL 32 t)).1.1 (lineWords (splitL 32 t)).1.2.1 (lineWords (splitL 32 t)).1.2.2 = 0 := by
  unfold rdE at h
  by_cases h1 : (lineWords (splitL 32 t)).2 ≠ 0
  · rw [if_pos h1] at h; exact absurd h h1
  rw [if_neg h1] at h
  refine ⟨by omega, ?_⟩
  cases hl : d.getLast? with
  | none =>
    rw [hl] at h
    exact ⟨(fun z hz => by cases hz), by simpa using h⟩
  | some z =>
    rw [hl] at h
    cases h2 : ltOf cfLine z (lineWords (splitL 32 t)).1 with
    | false => simp [h2] at h
    | true => exact ⟨(fun y hy => by cases hy; exact h2), by simpa [h2] using h⟩

/-- The rest of the pieces read: an error and where, or the lines. -/
def rdGo : List (List UInt8) → Nat → List LineV → (Nat × Nat) ⊕ List LineV
  | [], _, d => .inr d
  | [t], i, d => if t = [] then .inr d else .inl (1, i)
  | t :: u :: r, i, d => if rdE d t = 0 then rdGo (u :: r) (i + 1) (d ++ [(lineWords (splitL 32 t)).1]) else .inl (rdE d t, i)
theorem rdGo_ok {t : List UInt8} {q : List (List UInt8)} {i : Nat} {d : List LineV} (hq : q ≠ []) (h : rdE d t = 0) : rdGo (t :: q) i d = rdGo q (i + 1) (d ++ [(lineWords (splitL 32 t)).1]) := by
  cases q with
  | nil => exact absurd rfl hq
  | cons u r => rw [rdGo, if_pos h]
theorem rdGo_bad {t : List UInt8} {q : List (List UInt8)} {i : Nat} {d : List LineV} (hq : q ≠ []) (h : rdE d t ≠ 0) : rdGo (t :: q) i d = .inl (rdE d t, i) := by
  cases q with
  | nil => exact absurd rfl hq
  | cons u r => rw [rdGo, if_neg h]
theorem rdGo_inv : ∀ (ps : List (List UInt8)) (i : Nat) (d l : List LineV), RdI d → rdGo ps i d = .inr l → RdI l
  | [], _, d, l, h, e => by rw [rdGo] at e; injection e with e; rw [← e]; exact h
  | [t], i, d, l, h, e => by
    rw [rdGo] at e
    split at e
    · injection e with e; rw [← e]; exact h
    · cases e
  | t :: u :: r, i, d, l, h, e => by
    rw [rdGo] at e
    split at e
    · rename_i h0
      obtain ⟨h1, h2, h3⟩ := rdE_zero h0
      exact rdGo_inv (u :: r) _ _ l (h.next h2 h3).1 e
    · cases e
theorem rdGo_code : ∀ (ps : List (List UInt8)) (i : Nat) (d : List LineV) (c k : Nat), rdGo ps i d = .inl (c, k) → 1 ≤ c ∧ c ≤ 12 ∧ k < i + ps.length
  | [], _, d, c, k, e => by rw [rdGo] at e; cases e
  | [t], i, d, c, k, e => by
    rw [rdGo] at e
    split at e
    · cases e
    · injection e with e; cases e; simp
  | t :: u :: r, i, d, c, k, e => by
    rw [rdGo] at e
    split at e
    · have := rdGo_code (u :: r) _ _ c k e
      simp only [List.length_cons] at *
      omega
    · rename_i h0
      injection e with e
      cases e
      have := rdE_le d t
      simp only [List.length_cons]
      omega
end Go.Proofs.YtgllddebodfhkaaGreatDoor
namespace Go.Proofs.YtgllddebodfhkaaGreatDoor
open Go.RowKit

/-- Words, a byte between them. -/
def joinL (c : UInt8) : List (List UInt8) → List UInt8
  | [] => []
  | [w] => w
  | w :: v :: r => w ++ c :: joinL c (v :: r)
theorem joinL_cons (c : UInt8) (w v : List UInt8) (r : List (List UInt8)) : joinL c (w :: v :: r) = w ++ c :: joinL c (v :: r) := rfl
theorem splitL_join (c : UInt8) (ws : List (List UInt8)) (h0 : ws ≠ []) (h : ∀ w ∈ ws, c ∉ w) : splitL c (joinL c ws) = ws := by
  induction ws with
  | nil => exact absurd rfl h0
  | cons w r ih =>
    cases r with
    | nil => exact splitL_none (h w (by simp))
    | cons v q => rw [joinL_cons, splitL_at _ _ (h w (by simp)), ih (by simp) fun x hx => h x (by simp [hx])]

theorem alnum_not {l : List UInt8} (h : l.all alnum = true) (c : UInt8) (hc : alnum c = false) : c ∉ l := fun hm => by
  have := List.all_eq_true.1 h c hm
  rw [hc] at this; cases this
theorem name_not {l : List UInt8} (h : nameB l = true) (c : UInt8) (hc : alnum c = false) : c ∉ l := by
  unfold nameB at h
  rw [Bool.and_eq_true] at h
  exact alnum_not h.2 c hc
theorem dec_not (n : Nat) (c : UInt8) (hc : c.toNat < 48 ∨ 57 < c.toNat) : c ∉ Lib.decDigits n := fun hm => by
  have := dec_digit n c hm
  omega
theorem itoa_not {n : Int} (h : 0 ≤ n) (c : UInt8) (hc : c.toNat < 48 ∨ 57 < c.toNat) : c ∉ Lib.itoa n := by
  rw [itoa_nat n h]; exact dec_not _ c hc
theorem numQ_dec (n d : Nat) (h : n ≤ 9223372036854775807) (hd : (Lib.decDigits n).length ≤ d) : numQ (Lib.decDigits n) d = some n :=
  (numQ_iff _ _ _).2 ⟨rfl, hd, h⟩
theorem numQ_itoa {n : Int} (h0 : 0 ≤ n) (d : Nat) (hd : 1 ≤ d) (h : n < 10 ^ d) (hb : n ≤ 9223372036854775807) : numQ (Lib.itoa n) d = some n.toNat := by
  rw [itoa_nat n h0]
  refine numQ_dec _ _ (by omega) (dec_len_le _ _ hd ?_)
  have : ((n.toNat : Nat) : Int) < ((10 ^ d : Nat) : Int) := by
    rw [Int.toNat_of_nonneg h0]; simpa using h
  exact Int.ofNat_lt.1 this
end Go.Proofs.YtgllddebodfhkaaGreatDoor
namespace Go.Proofs.YtgllddebodfhkaaGreatDoor
open Go.RowKit Go.Sort Go.Proofs

theorem joinL_split (c : UInt8) : ∀ l : List UInt8, joinL c (splitL c l) = l
  | [] => rfl
  | x :: r => by
    have ih := joinL_split c r
    unfold splitL
    by_cases h : x = c
    · rw [if_pos h]
      cases hs : splitL c r with
      | nil => exact absurd hs (splitL_ne c r)
      | cons p q => rw [joinL_cons, ← hs, ih, h]; rfl
    · rw [if_neg h]
      cases hs : splitL c r with
      | nil => exact absurd hs (splitL_ne c r)
      | cons p q =>
        rw [hs] at ih
        cases q with
        | nil =>
          have ih : p = r := ih
          rw [ih]
          rfl
        | cons v q =>
          rw [joinL_cons] at ih
          show joinL c ((x :: p) :: v :: q) = x :: r
          rw [joinL_cons, ← ih]
          rfl
theorem num_back {l : List UInt8} {d n : Nat} (h : numQ l d = some n) : Lib.itoa (n : Int) = l := by
  rw [itoa_nat _ (by omega), Int.toNat_natCast]
  exact ((numQ_iff l d n).1 h).1.symm
theorem placeWords_some {a c d : List UInt8} (h : (placeWords [a, c, d]).2 = 0) : ∃ u v : Nat, numQ c 4 = some u ∧ numQ d 4 = some v ∧ placeWords [a, c, d] = ((a, (u : Int), (v : Int)), 0) := by
  rw [show placeWords [a, c, d] = match numQ c 4, numQ d 4 with
    | some u, some v => if placeE (a, (u : Int), (v : Int)) = 0 then ((a, (u : Int), (v : Int)), 0) else (zeroPlace, placeE (a, (u : Int), (v : Int)))
    | _, _ => (zeroPlace, 1) from rfl] at h ⊢
  cases hc : numQ c 4 with
  | none => rw [hc] at h; cases h
  | some u =>
    cases hd : numQ d 4 with
    | none => rw [hc, hd] at h; cases h
    | some v =>
      rw [hc, hd] at h
      simp only at h
      split at h
      · rename_i h0
        exact ⟨u, v, rfl, rfl, by simp only; rw [if_pos h0]⟩
      · rename_i h0; exact absurd h h0
theorem placeText_back {t : List UInt8} (h : (placeWords (splitL 45 t)).2 = 0) : placeText (placeWords (splitL 45 t)).1 = t := by
  have hj := joinL_split 45 t
  have h0 := placeWords_ok h
  generalize splitL 45 t = ws at h hj h0
  by_cases hl : ws.length = 3
  · obtain ⟨a, c, d, rfl⟩ := three hl
    obtain ⟨u, v, hu, hv, hw⟩ := placeWords_some h
    rw [hw] at h0 ⊢
    unfold placeText
    rw [if_pos h0, num_back hu, num_back hv, ← hj]
    simp [joinL]
  · rw [placeWords_len hl] at h; cases h
theorem lineText_back {t : List UInt8} (h : (lineWords (splitL 32 t)).2 = 0) : lineText (lineWords (splitL 32 t)).1 = t := by
  have hj := joinL_split 32 t
  generalize splitL 32 t = ws at h hj
  by_cases hl : ws.length = 3
  · obtain ⟨a, b, c, rfl⟩ := three hl
    cases hq : numQ c 13 with
    | none => rw [lineWords_none hq] at h; cases h
    | some n =>
      rw [lineWords_some hq] at h ⊢
      by_cases h1 : (placeWords (splitL 45 a)).2 ≠ 0
      · rw [if_pos h1] at h; exact absurd h h1
      rw [if_neg h1] at h ⊢
      by_cases h2 : nameB b = false
      · rw [if_pos h2] at h; cases h
      rw [if_neg h2] at h ⊢
      by_cases h3 : wiB (n : Int) 1 1099511627776 = false
      · rw [if_pos h3] at h; cases h
      rw [if_neg h3]
      unfold lineText
      simp only
      rw [placeText_back (by omega), num_back hq, ← hj]
      simp [joinL]
  · rw [lineWords_len hl] at h; cases h
theorem linesText_snoc (d : List LineV) (x : LineV) : linesText (d ++ [x]) = linesText d ++ (lineText x ++ [10]) := by simp [linesText]
theorem rdGo_text : ∀ (ps : List (List UInt8)) (i : Nat) (d l : List LineV), ps ≠ [] → rdGo ps i d = .inr l → linesText l = linesText d ++ joinL 10 ps
  | [], _, _, _, h, _ => absurd rfl h
  | [t], i, d, l, _, e => by
    rw [rdGo] at e
    split at e
    · rename_i h; injection e with e; rw [← e, h]; simp [joinL]
    · cases e
  | t :: u :: r, i, d, l, _, e => by
    rw [rdGo] at e
    split at e
    · rename_i h0
      rw [rdGo_text (u :: r) _ _ l (by simp) e, linesText_snoc, lineText_back (rdE_zero h0).1, joinL_cons]
      simp
    · cases e
theorem read_text {s : List UInt8} {d : List LineV} (h : rdGo (splitL 10 s) 0 [] = .inr d) : textM (toM d) = s := by
  have hI := rdGo_inv _ _ _ _ RdI.nil h
  unfold textM
  rw [hI.lines, rdGo_text _ _ _ _ (splitL_ne 10 s) h, joinL_split]
  rfl
end Go.Proofs.YtgllddebodfhkaaGreatDoor
namespace Go.Proofs.YtgllddebodfhkaaGreatDoor
open Go.RowKit

/-- Goods: the code, the pack. -/
abbrev GoodsV := List UInt8 × Int
def encGoods (x : GoodsV) : List Value := [.string ⟨x.1.toArray⟩, .int .i64 x.2]
def goodsE (x : GoodsV) : Nat := if nameB x.1 = false then 5 else if wiB x.2 1 1000 = false then 2 else 0
theorem goodsE_le (x : GoodsV) : goodsE x ≤ 12 := by unfold goodsE; split <;> (try split) <;> omega

set_option maxHeartbeats 400000 in
theorem checkGoods_any (E : Nat → Addr) (x : GoodsV) (w : World) (g1 : ErrAt 9 (E 5) w) (g2 : ErrAt 1 (E 2) w) :
    Calls Tryz.prog 97 #[.agg (encGoods x).toArray] w fun e w' => e = .returned (errOf E (goodsE x)) ∧ Below w.heap.size w w' := by
  have HE := Lib.hid (show goodsE x = if nameB x.1 = false then 5 else if wiB x.2 1 1000 = false then 2 else 0 from rfl)
  obtain ⟨a1, a2⟩ := x
  have HN := Lib.hid (fun W => name_wide a1 W)
  have H2 := Lib.hid (within_any a2 1 1000)
  have l1 := lt_of_cell g1
  have l2 := lt_of_cell g2
  have l0 : 0 < w.heap.size := Nat.lt_of_le_of_lt (Nat.zero_le _) l2
  simp only at l1 l2
  unfold ErrAt at g1 g2
  simp only [encGoods] at HE ⊢
  generalize nameB a1 = nm at HN HE
  generalize wiB a2 1 1000 = p2 at H2 HE
  go_enter Tryz.func97, Tryz.ntmps97
  go_wp2_with fail
  refine (HN.out _).mono ?_
  rintro e w1 ⟨rfl, b1⟩
  obtain ⟨hc, hf⟩ := bcell b1
  have B1 : Hid (Below w.heap.size w w1) := (below_one _ _).trans (b1.mono (by simp))
  clear b1 HN
  cases nm with
  | false =>
    go_wp2_with fail
    go_ret
    rw [HE.out]
    exact ⟨rfl, B1.out⟩
  | true =>
    go_wp2_with fail
    refine (H2.out _).mono ?_
    rintro e w2 ⟨rfl, rfl⟩
    cases p2 with
    | false =>
      go_wp2_with fail
      go_ret
      rw [HE.out]
      exact ⟨rfl, B1.out⟩
    | true =>
      go_wp2_with fail
      go_ret
      rw [HE.out]
      exact ⟨rfl, B1.out⟩

end Go.Proofs.YtgllddebodfhkaaGreatDoor
