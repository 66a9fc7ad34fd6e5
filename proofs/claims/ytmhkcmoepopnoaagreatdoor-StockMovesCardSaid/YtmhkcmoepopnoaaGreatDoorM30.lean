/- The twelve sentinels together. Acts on a stock, as the statement names them. -/
import Derived.Test.YtmhkcmoepopnoaaGreatDoorM27
import Derived.Test.YtmhkcmoepopnoaaGreatDoorM29
namespace Go.Proofs.YtmhkcmoepopnoaaGreatDoor
open Go.RowKit

/-- The number of a sentinel, by its text. -/
def textNo (l : List UInt8) : Nat :=
  if l = [116, 105, 116, 104, 101, 98, 97, 114, 110, 58, 32, 116, 101, 120, 116] then 1 else
  if l = [116, 105, 116, 104, 101, 98, 97, 114, 110, 58, 32, 98, 111, 117, 110, 100] then 2 else
  if l = [116, 105, 116, 104, 101, 98, 97, 114, 110, 58, 32, 115, 104, 97, 112, 101] then 3 else
  if l = [116, 105, 116, 104, 101, 98, 97, 114, 110, 58, 32, 107, 105, 110, 100] then 4 else
  if l = [116, 105, 116, 104, 101, 98, 97, 114, 110, 58, 32, 110, 97, 109, 101] then 5 else
  if l = [116, 105, 116, 104, 101, 98, 97, 114, 110, 58, 32, 110, 111, 110, 101] then 6 else
  if l = [116, 105, 116, 104, 101, 98, 97, 114, 110, 58, 32, 101, 120, 105, 115, 116] then 7 else
  if l = [116, 105, 116, 104, 101, 98, 97, 114, 110, 58, 32, 102, 117, 108, 108] then 8 else
  if l = [116, 105, 116, 104, 101, 98, 97, 114, 110, 58, 32, 115, 104, 111, 114, 116] then 9 else
  if l = [116, 105, 116, 104, 101, 98, 97, 114, 110, 58, 32, 111, 114, 100, 101, 114] then 10 else
  if l = [116, 105, 116, 104, 101, 98, 97, 114, 110, 58, 32, 115, 116, 97, 116, 101] then 11 else
  if l = [116, 105, 116, 104, 101, 98, 97, 114, 110, 58, 32, 111, 102, 102] then 12 else 0

theorem errG_of {W : World} {a1 a2 a3 a4 a5 a6 a7 a8 a9 a10 a11 a12 : Addr}
    (h1 : Sent 6 a1 [116, 105, 116, 104, 101, 98, 97, 114, 110, 58, 32, 116, 101, 120, 116] W)
    (h2 : Sent 1 a2 [116, 105, 116, 104, 101, 98, 97, 114, 110, 58, 32, 98, 111, 117, 110, 100] W)
    (h3 : Sent 4 a3 [116, 105, 116, 104, 101, 98, 97, 114, 110, 58, 32, 115, 104, 97, 112, 101] W)
    (h4 : Sent 5 a4 [116, 105, 116, 104, 101, 98, 97, 114, 110, 58, 32, 107, 105, 110, 100] W)
    (h5 : Sent 0 a5 [116, 105, 116, 104, 101, 98, 97, 114, 110, 58, 32, 110, 97, 109, 101] W)
    (h6 : Sent 8 a6 [116, 105, 116, 104, 101, 98, 97, 114, 110, 58, 32, 110, 111, 110, 101] W)
    (h7 : Sent 9 a7 [116, 105, 116, 104, 101, 98, 97, 114, 110, 58, 32, 101, 120, 105, 115, 116] W)
    (h8 : Sent 2 a8 [116, 105, 116, 104, 101, 98, 97, 114, 110, 58, 32, 102, 117, 108, 108] W)
    (h9 : Sent 3 a9 [116, 105, 116, 104, 101, 98, 97, 114, 110, 58, 32, 115, 104, 111, 114, 116] W)
    (h10 : Sent 7 a10 [116, 105, 116, 104, 101, 98, 97, 114, 110, 58, 32, 111, 114, 100, 101, 114] W)
    (h11 : Sent 10 a11 [116, 105, 116, 104, 101, 98, 97, 114, 110, 58, 32, 115, 116, 97, 116, 101] W)
    (h12 : Sent 11 a12 [116, 105, 116, 104, 101, 98, 97, 114, 110, 58, 32, 111, 102, 102] W)
    (hty : W.cell? ⟨12, 0, none⟩ = some (.iface 179 (.agg #[.pointer (some ⟨21, 34, none⟩)]))) :
    ErrG (fun k => if k = 1 then a1 else if k = 2 then a2 else if k = 3 then a3 else if k = 4 then a4 else if k = 5 then a5 else if k = 6 then a6 else if k = 7 then a7 else if k = 8 then a8 else if k = 9 then a9 else if k = 10 then a10 else if k = 11 then a11 else a12) W := by
  refine ⟨?_, ?_, ?_, hty⟩
  · intro k k1 k2
    rcases (show k = 1 ∨ k = 2 ∨ k = 3 ∨ k = 4 ∨ k = 5 ∨ k = 6 ∨ k = 7 ∨ k = 8 ∨ k = 9 ∨ k = 10 ∨ k = 11 ∨ k = 12 by omega) with rfl | rfl | rfl | rfl | rfl | rfl | rfl | rfl | rfl | rfl | rfl | rfl
    · exact h1.at_
    · exact h2.at_
    · exact h3.at_
    · exact h4.at_
    · exact h5.at_
    · exact h6.at_
    · exact h7.at_
    · exact h8.at_
    · exact h9.at_
    · exact h10.at_
    · exact h11.at_
    · exact h12.at_
  · intro k k1 k2
    rcases (show k = 1 ∨ k = 2 ∨ k = 3 ∨ k = 4 ∨ k = 5 ∨ k = 6 ∨ k = 7 ∨ k = 8 ∨ k = 9 ∨ k = 10 ∨ k = 11 ∨ k = 12 by omega) with rfl | rfl | rfl | rfl | rfl | rfl | rfl | rfl | rfl | rfl | rfl | rfl
    · exact h1.row
    · exact h2.row
    · exact h3.row
    · exact h4.row
    · exact h5.row
    · exact h6.row
    · exact h7.row
    · exact h8.row
    · exact h9.row
    · exact h10.row
    · exact h11.row
    · exact h12.row
  · have T : ∀ k, 1 ≤ k → k ≤ 12 → ∃ g l, Sent g ((fun k => if k = 1 then a1 else if k = 2 then a2 else if k = 3 then a3 else if k = 4 then a4 else if k = 5 then a5 else if k = 6 then a6 else if k = 7 then a7 else if k = 8 then a8 else if k = 9 then a9 else if k = 10 then a10 else if k = 11 then a11 else a12) k) l W ∧ textNo l = k := by
      intro k k1 k2
      rcases (show k = 1 ∨ k = 2 ∨ k = 3 ∨ k = 4 ∨ k = 5 ∨ k = 6 ∨ k = 7 ∨ k = 8 ∨ k = 9 ∨ k = 10 ∨ k = 11 ∨ k = 12 by omega) with rfl | rfl | rfl | rfl | rfl | rfl | rfl | rfl | rfl | rfl | rfl | rfl
      · exact ⟨_, _, h1, by decide⟩
      · exact ⟨_, _, h2, by decide⟩
      · exact ⟨_, _, h3, by decide⟩
      · exact ⟨_, _, h4, by decide⟩
      · exact ⟨_, _, h5, by decide⟩
      · exact ⟨_, _, h6, by decide⟩
      · exact ⟨_, _, h7, by decide⟩
      · exact ⟨_, _, h8, by decide⟩
      · exact ⟨_, _, h9, by decide⟩
      · exact ⟨_, _, h10, by decide⟩
      · exact ⟨_, _, h11, by decide⟩
      · exact ⟨_, _, h12, by decide⟩
    intro i j i1 i2 j1 j2 he
    obtain ⟨g, l, s, e⟩ := T i i1 i2
    obtain ⟨g', l', s', e'⟩ := T j j1 j2
    rcases Decidable.em (l = l') with hl | hl
    · rw [← e, ← e', hl]
    · exact absurd he (sent_ne s s' hl)
end Go.Proofs.YtmhkcmoepopnoaaGreatDoor
namespace Go.Proofs.YtmhkcmoepopnoaaGreatDoor
open Go.RowKit Go.Sort Go.Proofs

/-- An act: its kind, two places, a lot, pieces. -/
abbrev ActV := List UInt8 × PlaceV × PlaceV × List UInt8 × Int
def encAct (x : ActV) : List Value := [.string ⟨x.1.toArray⟩, .string ⟨x.2.1.1.toArray⟩, .int .i64 x.2.1.2.1, .int .i64 x.2.1.2.2, .string ⟨x.2.2.1.1.toArray⟩, .int .i64 x.2.2.1.2.1, .int .i64 x.2.2.1.2.2, .string ⟨x.2.2.2.1.toArray⟩, .int .i64 x.2.2.2.2]
theorem encAct_len (x : ActV) : (encAct x).length = 9 := rfl

structure SActsG (E : Nat → Addr) (w : World) : Prop where
  err : ErrG E w
  stk : StkG E w
theorem SActsG.below {E : Nat → Addr} {w w' : World} (h : SActsG E w) (hb : Below w.heap.size w w') : SActsG E w' := ⟨h.err.below hb, h.stk.below hb⟩
theorem placeE_12 (x : PlaceV) : placeE x ≤ 12 := by
  unfold placeE
  split
  · omega
  · split <;> omega
theorem putE_le (m : StkV) (pl : PlaceV) (lot : List UInt8) (n : Int) : putE m pl lot n ≤ 12 := by
  have := placeE_12 pl
  unfold putE
  repeat' split
  all_goals omega
theorem takeE_le (m : StkV) (pl : PlaceV) (lot : List UInt8) (n : Int) : takeE m pl lot n ≤ 12 := by
  unfold takeE
  repeat' split
  all_goals omega
theorem moveE_le (m : StkV) (pf pt : PlaceV) (lot : List UInt8) (n : Int) : moveE m pf pt lot n ≤ 12 := by
  have h1 := takeE_le m pf lot n
  have h2 := placeE_12 pt
  have h3 := putE_le (takeM m pf lot n) pt lot n
  unfold moveE
  repeat' split
  all_goals omega
theorem coded1_same (E : Nat → Addr) (k : Nat) (hk : k ≤ 12) (w : World) (hG : ErrG E w) : Calls Tryz.prog 15 #[errOf E k, .int .i64 (k : Nat)] w fun e w' => e = .returned (.bool true) ∧ Below w.heap.size w w' := by
  have := coded1 E k hk (k : Nat) w hG
  rwa [beq_self_eq_true] at this

/-- A row of lines stays where a stock's own blocks turn. -/
theorem row_but2 {w w' : World} {p b : Nat} {m : StkV} {A : Option Addr} {l : List LineV} (h : RowAt encLine 5 w A l) (hS : StkAt w p b m) (hb : But2 p b w w') : RowAt encLine 5 w' A l := by
  rcases h with h | ⟨g, o, h1, h2, h3⟩
  · exact .inl h
  cases l with
  | nil => exact .inl rfl
  | cons x r =>
    have h4 := h3 0 (by simp) 0 _ rfl
    have hgp : g ≠ p := by
      rintro rfl
      rw [cell_of_row _ _ _ _ _ _ hS.1] at h4
      match o, h4 with
      | 0, h4 => simp at h4
      | o + 1, h4 => simp at h4
    have hgb : g ≠ b := by
      rintro rfl
      obtain ⟨-, es, c, h5, _⟩ := hS
      simp [World.cell?, h5] at h4
    exact .inr ⟨g, o, h1, Nat.lt_of_lt_of_le h2 hb.size, fun i hi c v hv => (World.cell?_of_block (hb.block g h2 hgp hgb)).trans (h3 i hi c v hv)⟩
/-- A block of cells that is no stock's stays too. -/
theorem blk_but2 {w w' : World} {p b q : Nat} {m : StkV} {cs : Array Value} {t : TypeId} (h : w.heap[q]? = some (.cells cs t (0, 0))) (hS : StkAt w p b m) (hqp : q ≠ p) (hb : But2 p b w w') : w'.heap[q]? = some (.cells cs t (0, 0)) := by
  have hqb : q ≠ b := by
    rintro rfl
    obtain ⟨-, es, c, h5, _⟩ := hS
    rw [h] at h5
    cases h5
  exact (hb.block q (heap_lt h) hqp hqb).trans h

/-- What the loop over acts keeps: the program's stock, the document's in its box q. -/
structure SInv (B p q : Nat) (w0 : World) (m : StkV) (b : Nat) (A : Option Addr) (cap : Nat) (w : World) : Prop where
  inv : StkI m
  stk : StkAt w p b m
  row : RowAt encLine 5 w A (linesM m)
  box : w.heap[q]? = some (.cells #[.slice A m.length cap] 30 (0, 0))
  below : Below B w0 w
  bB : B ≤ b
theorem SInv.next {B p q : Nat} {w0 : World} {m : StkV} {b : Nat} {A : Option Addr} {cap : Nat} {w w' : World} (h : SInv B p q w0 m b A cap w) (hb : Below w.heap.size w w') (hB : B ≤ w.heap.size) : SInv B p q w0 m b A cap w' :=
  ⟨h.inv, h.stk.below hb, h.row.below hb, at_b hb h.box (heap_lt h.box), h.below.trans (hb.mono hB), h.bB⟩
theorem SInv.set {B p q : Nat} {w0 : World} {m : StkV} {b : Nat} {A : Option Addr} {cap : Nat} {w : World} (h : SInv B p q w0 m b A cap w) {g n c : Nat} {D : Option Addr} {t : TypeId} {v : Value} (hg : w.heap[g]? = some (.cells #[.slice D n c] t (0, 0))) (hp : g ≠ p) (hq : g ≠ q) (hB : B ≤ g) : SInv B p q w0 m b A cap (w.setCell ⟨g, 0, none⟩ v) := by
  have hb : b ≠ g := by
    rintro rfl
    obtain ⟨-, es, c, h5, _⟩ := h.stk
    rw [hg] at h5
    cases h5
  exact ⟨h.inv, h.stk.keep (Below.heap_setCell _ _ _ _ (Ne.symm hp)) (Below.heap_setCell _ _ _ _ hb), row_set_sl h.row hg, (Below.heap_setCell _ _ _ _ (Ne.symm hq)).trans h.box, h.below.setCell (p := ⟨g, 0, none⟩) hB _, h.bB⟩
theorem SInv.make {B p q : Nat} {w0 : World} {m : StkV} {b : Nat} {A : Option Addr} {cap : Nat} {w : World} {n k : Nat} {D : Option Addr} (hI : StkI m) (hS : StkAt w p b m) (hr : RowAt encLine 5 w A (linesM m)) (hq : w.heap[q]? = some (.cells #[.slice D n k] 30 (0, 0))) (hpq : p ≠ q) (hb : Below B w0 w) (hB : B ≤ b) (hBq : B ≤ q) :
    SInv B p q w0 m b A cap (w.setCell ⟨q, 0, none⟩ (.slice A m.length cap)) := by
  have hcq : b ≠ q := by
    rintro rfl
    obtain ⟨-, es, cl, h5, _⟩ := hS
    rw [hq] at h5
    cases h5
  exact ⟨hI, hS.keep (Below.heap_setCell _ _ _ _ hpq) (Below.heap_setCell _ _ _ _ hcq), row_set_sl hr hq, set_row hq _, hb.setCell (p := ⟨q, 0, none⟩) hBq _, hB⟩
/-- What an act of the program's answers, whichever it is. -/
def ActEnds (E : Nat → Addr) (p b : Nat) (m' : StkV) (r : Nat) (W : World) (e : Ending) (w' : World) : Prop :=
  e = .returned (errOf E r) ∧ (∃ c, StkAt w' p c m' ∧ (c = b ∨ W.heap.size ≤ c)) ∧ But2 p b W w'
theorem putAct (E : Nat → Addr) (p b : Nat) {m : StkV} (hI : StkI m) (pl : PlaceV) (lot : List UInt8) (n : Int) (w : World) (h : StkAt w p b m) (hG : StkG E w) :
    Calls Tryz.prog 10 #[.pointer (some ⟨p, 0, none⟩), .agg (encPlace pl).toArray, .string ⟨lot.toArray⟩, .int .i64 n] w (ActEnds E p b (putM m pl lot n) (putE m pl lot n) w) :=
  (putStock_any E p b m pl lot n w h (hI.few lot) hG).mono fun _ _ ⟨h1, h2, h3⟩ => ⟨h1, ⟨b, h2, .inl rfl⟩, h3.two⟩
theorem takeAct (E : Nat → Addr) (p b : Nat) {m : StkV} (hI : StkI m) (pl : PlaceV) (lot : List UInt8) (n : Int) (w : World) (h : StkAt w p b m) (hG : StkG E w) :
    Calls Tryz.prog 12 #[.pointer (some ⟨p, 0, none⟩), .agg (encPlace pl).toArray, .string ⟨lot.toArray⟩, .int .i64 n] w (ActEnds E p b (takeM m pl lot n) (takeE m pl lot n) w) :=
  (takeStock_any E p b m pl lot n w h (by have := atM_le m pl lot; have := hI.few lot; omega) hG).mono fun _ _ ⟨h1, h2, h3⟩ => ⟨h1, ⟨b, h2, .inl rfl⟩, h3.two⟩
theorem moveAct (E : Nat → Addr) (p b : Nat) {m : StkV} (hI : StkI m) (pf pt : PlaceV) (lot : List UInt8) (n : Int) (w : World) (h : StkAt w p b m) (hG : StkG E w) :
    Calls Tryz.prog 14 #[.pointer (some ⟨p, 0, none⟩), .agg (encPlace pf).toArray, .agg (encPlace pt).toArray, .string ⟨lot.toArray⟩, .int .i64 n] w (ActEnds E p b (moveM m pf pt lot n) (moveE m pf pt lot n) w) :=
  (moveStock_any E p b m pf pt lot n w h (hI.few lot) hG).mono fun _ _ h => h
end Go.Proofs.YtmhkcmoepopnoaaGreatDoor
