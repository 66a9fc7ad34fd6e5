/- Acts on a stock, as the statement names them. The law StockActs, walked. -/
import Derived.Test.YtmhkcmoepopnoaaGreatDoorM16
import Derived.Test.YtmhkcmoepopnoaaGreatDoorM18
namespace Go.Proofs.YtmhkcmoepopnoaaGreatDoor
open Go.RowKit Go.Sort Go.Proofs

/-- An act: its kind, two places, a lot, pieces. -/
abbrev ActV := List UInt8 × PlaceV × PlaceV × List UInt8 × Int
def encAct (x : ActV) : List Value := [.string ⟨x.1.toArray⟩, .string ⟨x.2.1.1.toArray⟩, .int .i64 x.2.1.2.1, .int .i64 x.2.1.2.2, .string ⟨x.2.2.1.1.toArray⟩, .int .i64 x.2.2.1.2.1, .int .i64 x.2.2.1.2.2, .string ⟨x.2.2.2.1.toArray⟩, .int .i64 x.2.2.2.2]
theorem encAct_len (x : ActV) : (encAct x).length = 9 := rfl

structure SActsG (E : Nat → Addr) (w : World) : Prop where
  err : ErrG E w
  stk : StkG E w
theorem SActsG.below {E : Nat → Addr} {w w' : World} (h : SActsG E w) (hb : Below w.heap.size w w') : SActsG E w' := ⟨h.err.below hb, h.stk.below hb⟩
theorem placeE_le (x : PlaceV) : placeE x ≤ 12 := by
  unfold placeE
  split
  · omega
  · split <;> omega
theorem putE_le (m : StkV) (pl : PlaceV) (lot : List UInt8) (n : Int) : putE m pl lot n ≤ 12 := by
  have := placeE_le pl
  unfold putE
  repeat' split
  all_goals omega
theorem takeE_le (m : StkV) (pl : PlaceV) (lot : List UInt8) (n : Int) : takeE m pl lot n ≤ 12 := by
  unfold takeE
  repeat' split
  all_goals omega
theorem moveE_le (m : StkV) (pf pt : PlaceV) (lot : List UInt8) (n : Int) : moveE m pf pt lot n ≤ 12 := by
  have h1 := takeE_le m pf lot n
  have h2 := placeE_le pt
  have h3 := putE_le (takeM m pf lot n) pt lot n
  unfold moveE
  repeat' split
  all_goals omega
theorem coded1_same (E : Nat → Addr) (k : Nat) (hk : k ≤ 12) (w : World) (hG : ErrG E w) : Calls Tryz.prog 15 #[errOf E k, .int .i64 (k : Nat)] w fun e w' => e = .returned (.bool true) ∧ Below w.heap.size w w' := by
  have := coded1 E k hk (k : Nat) w hG
  rwa [beq_self_eq_true] at this

/-- A row of lines stays where a stock's own blocks turn. -/
theorem row_but2 {w w' : World} {p b : Nat} {m : StkV} {A : Option Addr} {l : List LineV} (h : RowAt encLine 5 w A l) (hS : StkAt w p b m) (hb : But2 p b w w') : RowAt encLine 5 w' A l := by
  rcases h with h | ⟨g, o, h1, h2, h3⟩
  · exact .inl h
  cases l with
  | nil => exact .inl rfl
  | cons x r =>
    have h4 := h3 0 (by simp) 0 _ rfl
    have hgp : g ≠ p := by
      rintro rfl
      rw [cell_of_row _ _ _ _ _ _ hS.1] at h4
      match o, h4 with
      | 0, h4 => simp at h4
      | o + 1, h4 => simp at h4
    have hgb : g ≠ b := by
      rintro rfl
      obtain ⟨-, es, c, h5, _⟩ := hS
      simp [World.cell?, h5] at h4
    exact .inr ⟨g, o, h1, Nat.lt_of_lt_of_le h2 hb.size, fun i hi c v hv => (World.cell?_of_block (hb.block g h2 hgp hgb)).trans (h3 i hi c v hv)⟩
/-- A block of cells that is no stock's stays too. -/
theorem blk_but2 {w w' : World} {p b q : Nat} {m : StkV} {cs : Array Value} {t : TypeId} (h : w.heap[q]? = some (.cells cs t (0, 0))) (hS : StkAt w p b m) (hqp : q ≠ p) (hb : But2 p b w w') : w'.heap[q]? = some (.cells cs t (0, 0)) := by
  have hqb : q ≠ b := by
    rintro rfl
    obtain ⟨-, es, c, h5, _⟩ := hS
    rw [h] at h5
    cases h5
  exact (hb.block q (heap_lt h) hqp hqb).trans h

/-- What the loop over acts keeps: the program's stock, the document's in its box q. -/
structure SInv (B p q : Nat) (w0 : World) (m : StkV) (b : Nat) (A : Option Addr) (cap : Nat) (w : World) : Prop where
  inv : StkI m
  stk : StkAt w p b m
  row : RowAt encLine 5 w A (linesM m)
  box : w.heap[q]? = some (.cells #[.slice A m.length cap] 30 (0, 0))
  below : Below B w0 w
  bB : B ≤ b
theorem SInv.next {B p q : Nat} {w0 : World} {m : StkV} {b : Nat} {A : Option Addr} {cap : Nat} {w w' : World} (h : SInv B p q w0 m b A cap w) (hb : Below w.heap.size w w') (hB : B ≤ w.heap.size) : SInv B p q w0 m b A cap w' :=
  ⟨h.inv, h.stk.below hb, h.row.below hb, at_b hb h.box (heap_lt h.box), h.below.trans (hb.mono hB), h.bB⟩
theorem SInv.set {B p q : Nat} {w0 : World} {m : StkV} {b : Nat} {A : Option Addr} {cap : Nat} {w : World} (h : SInv B p q w0 m b A cap w) {g n c : Nat} {D : Option Addr} {t : TypeId} {v : Value} (hg : w.heap[g]? = some (.cells #[.slice D n c] t (0, 0))) (hp : g ≠ p) (hq : g ≠ q) (hB : B ≤ g) : SInv B p q w0 m b A cap (w.setCell ⟨g, 0, none⟩ v) := by
  have hb : b ≠ g := by
    rintro rfl
    obtain ⟨-, es, c, h5, _⟩ := h.stk
    rw [hg] at h5
    cases h5
  exact ⟨h.inv, h.stk.keep (Below.heap_setCell _ _ _ _ (Ne.symm hp)) (Below.heap_setCell _ _ _ _ hb), row_set_sl h.row hg, (Below.heap_setCell _ _ _ _ (Ne.symm hq)).trans h.box, h.below.setCell (p := ⟨g, 0, none⟩) hB _, h.bB⟩
theorem SInv.make {B p q : Nat} {w0 : World} {m : StkV} {b : Nat} {A : Option Addr} {cap : Nat} {w : World} {n k : Nat} {D : Option Addr} (hI : StkI m) (hS : StkAt w p b m) (hr : RowAt encLine 5 w A (linesM m)) (hq : w.heap[q]? = some (.cells #[.slice D n k] 30 (0, 0))) (hpq : p ≠ q) (hb : Below B w0 w) (hB : B ≤ b) (hBq : B ≤ q) :
    SInv B p q w0 m b A cap (w.setCell ⟨q, 0, none⟩ (.slice A m.length cap)) := by
  have hcq : b ≠ q := by
    rintro rfl
    obtain ⟨-, es, cl, h5, _⟩ := hS
    rw [hq] at h5
    cases h5
  exact ⟨hI, hS.keep (Below.heap_setCell _ _ _ _ hpq) (Below.heap_setCell _ _ _ _ hcq), row_set_sl hr hq, set_row hq _, hb.setCell (p := ⟨q, 0, none⟩) hBq _, hB⟩
/-- What an act of the program's answers, whichever it is. -/
def ActEnds (E : Nat → Addr) (p b : Nat) (m' : StkV) (r : Nat) (W : World) (e : Ending) (w' : World) : Prop :=
  e = .returned (errOf E r) ∧ (∃ c, StkAt w' p c m' ∧ (c = b ∨ W.heap.size ≤ c)) ∧ But2 p b W w'
theorem putAct (E : Nat → Addr) (p b : Nat) {m : StkV} (hI : StkI m) (pl : PlaceV) (lot : List UInt8) (n : Int) (w : World) (h : StkAt w p b m) (hG : StkG E w) :
    Calls Tryz.prog 10 #[.pointer (some ⟨p, 0, none⟩), .agg (encPlace pl).toArray, .string ⟨lot.toArray⟩, .int .i64 n] w (ActEnds E p b (putM m pl lot n) (putE m pl lot n) w) :=
  (putStock_any E p b m pl lot n w h (hI.few lot) hG).mono fun _ _ ⟨h1, h2, h3⟩ => ⟨h1, ⟨b, h2, .inl rfl⟩, h3.two⟩
theorem takeAct (E : Nat → Addr) (p b : Nat) {m : StkV} (hI : StkI m) (pl : PlaceV) (lot : List UInt8) (n : Int) (w : World) (h : StkAt w p b m) (hG : StkG E w) :
    Calls Tryz.prog 12 #[.pointer (some ⟨p, 0, none⟩), .agg (encPlace pl).toArray, .string ⟨lot.toArray⟩, .int .i64 n] w (ActEnds E p b (takeM m pl lot n) (takeE m pl lot n) w) :=
  (takeStock_any E p b m pl lot n w h (by have := atM_le m pl lot; have := hI.few lot; omega) hG).mono fun _ _ ⟨h1, h2, h3⟩ => ⟨h1, ⟨b, h2, .inl rfl⟩, h3.two⟩
theorem moveAct (E : Nat → Addr) (p b : Nat) {m : StkV} (hI : StkI m) (pf pt : PlaceV) (lot : List UInt8) (n : Int) (w : World) (h : StkAt w p b m) (hG : StkG E w) :
    Calls Tryz.prog 14 #[.pointer (some ⟨p, 0, none⟩), .agg (encPlace pf).toArray, .agg (encPlace pt).toArray, .string ⟨lot.toArray⟩, .int .i64 n] w (ActEnds E p b (moveM m pf pt lot n) (moveE m pf pt lot n) w) :=
  (moveStock_any E p b m pf pt lot n w h (hI.few lot) hG).mono fun _ _ h => h
end Go.Proofs.YtmhkcmoepopnoaaGreatDoor
namespace Go.Proofs.YtmhkcmoepopnoaaGreatDoor
open Go.RowKit Go.Sort Go.Proofs

set_option maxHeartbeats 1600000 in
set_option maxRecDepth 100000 in
theorem sacts_out (E : Nat → Addr) (A : Option Addr) (n cap : Nat) (pl : PlaceV) (id : List UInt8) (w : World) (hG : SActsG E w) (h : 60 < n ∨ 30 < id.length ∨ 30 < pl.1.length) :
    Calls Tryz.prog 3 #[.slice A n cap, .agg (encPlace pl).toArray, .string ⟨id.toArray⟩] w fun e w' => e = .returned (.bool true) ∧ Below w.heap.size w w' := by
  have hbs : (⟨id.toArray⟩ : ByteArray).size = id.length := by simp [ByteArray.size]
  have hbz : (⟨pl.1.toArray⟩ : ByteArray).size = pl.1.length := by simp [ByteArray.size]
  have h' : 60 < n ∨ (¬ 60 < n ∧ 30 < id.length) ∨ (¬ 60 < n ∧ ¬ 30 < id.length ∧ 30 < pl.1.length) := by omega
  have HST := Lib.hid (stocked_any E _ (hG.stk.below (below_one w (.cells (encPlace pl).toArray 24))))
  have b0 := below_one w (.cells (encPlace pl).toArray 24)
  obtain ⟨a1, a2, a3⟩ := pl
  simp only [encPlace] at *
  have hx := heap_alloc_new w (.cells #[.string ⟨a1.toArray⟩, .int .i64 a2, .int .i64 a3] 24)
  clear h hG
  rcases h' with h | ⟨h1, h2⟩ | ⟨h1, h2, h3⟩
  all_goals
    go_enter Tryz.func3, Tryz.ntmps3
    go_wp2_with fail
    refine HST.out.mono ?_
    rintro e w1 ⟨rfl, b1⟩
    have c0 := (row3 (at_b b1 hx (heap_lt hx))).1
    have B1 := Lib.hid (b0.trans (b1.mono b0.size))
    clear b1
    go_wp2
    go_ret
    exact ⟨rfl, B1.out⟩

set_option maxHeartbeats 3200000 in
set_option maxRecDepth 100000 in
theorem sacts_in (E : Nat → Addr) (A : Option Addr) (cap : Nat) (xs : List ActV) (pl : PlaceV) (id : List UInt8) (w : World) (hG : SActsG E w) (hX : RowAt encAct 9 w A xs) (h1 : xs.length ≤ 60) (h2 : id.length ≤ 30) (h3 : pl.1.length ≤ 30) :
    Calls Tryz.prog 3 #[.slice A xs.length cap, .agg (encPlace pl).toArray, .string ⟨id.toArray⟩] w fun e w' => e = .returned (.bool true) ∧ Below w.heap.size w w' := by
  have hbs : (⟨id.toArray⟩ : ByteArray).size = id.length := by simp [ByteArray.size]
  obtain ⟨n, hn⟩ : ∃ n, n = xs.length := ⟨_, rfl⟩
  have HN := Lib.hid hn
  have HX := Lib.hid hX
  have b0 := below_one w (.cells (encPlace pl).toArray 24)
  have HST := Lib.hid (stocked_any E _ (hG.stk.below b0))
  have HG := Lib.hid (fun W (h : Below w.heap.size w W) => hG.below h)
  have hx := heap_alloc_new w (.cells (encPlace pl).toArray 24)
  have HAT := Lib.hid (fun p b m W h => atStock_any p b m pl id W h)
  have HRA := Lib.hid (fun m (hI : StkI m) A cap W h => refAt_m hI A cap W h pl id)
  rw [← hn] at h1 ⊢
  clear hX hn hG
  obtain ⟨a1, a2, a3⟩ := pl
  simp only [encPlace] at *
  go_enter Tryz.func3, Tryz.ntmps3
  go_wp2_with fail
  refine HST.out.mono ?_
  rintro e w1 ⟨rfl, b1⟩
  have hx1 := at_b b1 hx (heap_lt hx)
  have c0 := (row3 hx1).1
  have B1 := Lib.hid (b0.trans (b1.mono b0.size))
  have HX1 := Lib.hid hx1
  have lw := heap_lt hx1
  clear b1 b0 hx HST hx1
  go_wp2_with fail
  refine (newStock_any w1).mono ?_
  rintro e w2 ⟨rfl, hS2, b2⟩
  have b3 := b2.trans ((below_one w2 (.cells #[.slice none 0 0] 30)).mono b2.size)
  have B3 := Lib.hid (B1.out.trans (b3.mono B1.out.size))
  have HX3 := Lib.hid (at_b b3 HX1.out (heap_lt HX1.out))
  have hlt := hS2.lt
  have hM : Hid (SInv w.heap.size (w1.heap.size + 1) w2.heap.size w [] w1.heap.size none 0 (w2.alloc (.cells #[.slice none 0 0] 30))) :=
    ⟨StkI.nil, hS2.below (below_one _ _), .inl rfl, heap_alloc_new _ _, B3.out, B1.out.size⟩
  have hsz : (w2.alloc (.cells #[.slice none 0 0] 30)).heap.size = w2.heap.size + 1 := by simp
  have hBq : w.heap.size < w2.heap.size := by omega
  clear b2 b3 hS2 B1 HX1 c0
  go_wp2_with fail
  generalize w2.alloc (.cells #[.slice none 0 0] 30) = W3 at *
  obtain ⟨q, hq⟩ : ∃ q, q = w2.heap.size := ⟨_, rfl⟩
  obtain ⟨p, hp⟩ : ∃ p, p = w1.heap.size + 1 := ⟨_, rfl⟩
  rw [← hq, ← hp] at hM
  rw [← hq, ← hp]
  have hBp : w.heap.size < p := by omega
  have hpq : p < q := by omega
  rw [← hq] at hBq hsz
  clear hq hp hlt
  go_loopw [10] (fun i wr => ∃ (k : Nat) (m : StkV) (b : Nat) (A' : Option Addr) (cap' : Nat), k ≤ n ∧ i = .int .i64 k ∧ SInv w.heap.size p q w m b A' cap' wr ∧ wr.heap[w.heap.size]? = some (.cells #[.string ⟨a1.toArray⟩, .int .i64 a2, .int .i64 a3] 24 (0, 0)) ∧ q < wr.heap.size) (fun i _ => n - (intOf i).toNat)
  case atStart => exact ⟨0, [], w1.heap.size, none, 0, by omega, rfl, hM.out, HX3.out, by omega⟩
  case round =>
    obtain ⟨k, m, b, A', cap', hk, rfl, hI, hpx, hqw⟩ := hrel
    have HI := Lib.hid hI
    have HPX := Lib.hid hpx
    have hbw := hI.stk.lt
    by_cases hkl : k < n
    · have hkx : k < xs.length := by rw [← HN.out]; exact hkl
      obtain ⟨bx, ox, rfl, lx, cx⟩ := HX.out.resolve_left (fun h => by rw [h] at hkx; simp at hkx)
      obtain ⟨x, hxk⟩ : ∃ x, x = xs[k] := ⟨_, rfl⟩
      have ce := fun j v h => (hI.below.cell (p := ⟨bx, ox + k * 9 + j, none⟩) lx).trans (cx k hkx j v h)
      rw [← hxk] at ce
      obtain ⟨x1, ⟨f1, f2, f3⟩, ⟨t1, t2, t3⟩, x4, x5⟩ := x
      have e0 := ce 0 _ rfl
      have e1 := ce 1 _ rfl
      have e2 := ce 2 _ rfl
      have e3 := ce 3 _ rfl
      have e4 := ce 4 _ rfl
      have e5 := ce 5 _ rfl
      have e6 := ce 6 _ rfl
      have e7 := ce 7 _ rfl
      have e8 := ce 8 _ rfl
      rw [Nat.add_zero] at e0
      simp only at e0 e1 e2 e3 e4 e5 e6 e7 e8
      have s1 : (⟨f1.toArray⟩ : ByteArray).size = f1.length := by simp [ByteArray.size]
      have s2 : (⟨t1.toArray⟩ : ByteArray).size = t1.length := by simp [ByteArray.size]
      have s3 : (⟨x4.toArray⟩ : ByteArray).size = x4.length := by simp [ByteArray.size]
      have ba := below_one wr (.cells (encAct (x1, (f1, f2, f3), (t1, t2, t3), x4, x5)).toArray 32)
      have hI1 := hI.next ba (by omega)
      obtain ⟨d0, -⟩ := row1 hI1.box
      have HI1 := Lib.hid hI1
      have HPX1 := Lib.hid (at_b ba hpx (heap_lt hpx))
      clear cx ce hxk hI hpx ba hI1 hkx lx
      simp only [encAct] at d0 HI1 HPX1
      by_cases hlong : 30 < f1.length ∨ 30 < t1.length ∨ 30 < x4.length
      · have hl' : 30 < f1.length ∨ (¬ 30 < f1.length ∧ 30 < t1.length) ∨ (¬ 30 < f1.length ∧ ¬ 30 < t1.length ∧ 30 < x4.length) := by omega
        clear hlong
        rcases hl' with g1 | ⟨g1, g2⟩ | ⟨g1, g2, g3⟩
        all_goals
          go_wp2
          go_ret
          exact ⟨rfl, HI1.out.below⟩
      · obtain ⟨g1, g2, g3⟩ : ¬ 30 < f1.length ∧ ¬ 30 < t1.length ∧ ¬ 30 < x4.length := by omega
        clear hlong
        have bb := below_one (wr.alloc (.cells #[.string ⟨x1.toArray⟩, .string ⟨f1.toArray⟩, .int .i64 f2, .int .i64 f3, .string ⟨t1.toArray⟩, .int .i64 t2, .int .i64 t3, .string ⟨x4.toArray⟩, .int .i64 x5] 32)) (.cells #[.slice A' m.length cap'] 30)
        have HI2 := Lib.hid (HI1.out.next bb (by simp; omega))
        have HPX2 := Lib.hid (at_b bb HPX1.out (heap_lt HPX1.out))
        have HA2 := Lib.hid (at_b bb (heap_alloc_new wr _) (heap_lt (heap_alloc_new wr _)))
        have HX2 := Lib.hid (heap_new2 wr (.cells #[.string ⟨x1.toArray⟩, .string ⟨f1.toArray⟩, .int .i64 f2, .int .i64 f3, .string ⟨t1.toArray⟩, .int .i64 t2, .int .i64 t3, .string ⟨x4.toArray⟩, .int .i64 x5] 32) (.cells #[.slice A' m.length cap'] 30))
        have hf1 : f1.length ≤ 1000000000 := by omega
        have ht1 : t1.length ≤ 1000000000 := by omega
        have hx4 : x4.length ≤ 1000000000 := by omega
        clear bb HI1 HPX1 HI HPX
        go_wp2_with fail
        all_goals
          generalize (wr.alloc (.cells #[.string ⟨x1.toArray⟩, .string ⟨f1.toArray⟩, .int .i64 f2, .int .i64 f3, .string ⟨t1.toArray⟩, .int .i64 t2, .int .i64 t3, .string ⟨x4.toArray⟩, .int .i64 x5] 32)).alloc (.cells #[.slice A' m.length cap'] 30) = W2 at *
          generalize wr.heap.size = ab at *
          have hIm := HI2.out.inv
          (first
            | (have HD := refPut_m hIm A' cap' W2 HI2.out.row (f1, f2, f3) x4 x5 hf1 hx4
               have HPR := Lib.hid (fun b W h hg => putAct E p b hIm (f1, f2, f3) x4 x5 W h hg)
               have hm' := hIm.put (f1, f2, f3) x4 x5
               have hr := putE_le m (f1, f2, f3) x4 x5
               generalize putM m (f1, f2, f3) x4 x5 = m' at *
               generalize putE m (f1, f2, f3) x4 x5 = r at *
               simp only [encPlace] at HD HPR
               with_reducible refine HD.mono ?_)
            | (have HD := refTake_m hIm A' cap' W2 HI2.out.row (f1, f2, f3) x4 x5
               have HPR := Lib.hid (fun b W h hg => takeAct E p b hIm (f1, f2, f3) x4 x5 W h hg)
               have hm' := hIm.take (f1, f2, f3) x4 x5
               have hr := takeE_le m (f1, f2, f3) x4 x5
               generalize takeM m (f1, f2, f3) x4 x5 = m' at *
               generalize takeE m (f1, f2, f3) x4 x5 = r at *
               simp only [encPlace] at HD HPR
               with_reducible refine HD.mono ?_)
            | (have HD := refMove_m hIm A' cap' W2 HI2.out.row (f1, f2, f3) (t1, t2, t3) x4 x5 ht1 hx4
               have HPR := Lib.hid (fun b W h hg => moveAct E p b hIm (f1, f2, f3) (t1, t2, t3) x4 x5 W h hg)
               have hm' := hIm.move (f1, f2, f3) (t1, t2, t3) x4 x5
               have hr := moveE_le m (f1, f2, f3) (t1, t2, t3) x4 x5
               generalize moveM m (f1, f2, f3) (t1, t2, t3) x4 x5 = m' at *
               generalize moveE m (f1, f2, f3) (t1, t2, t3) x4 x5 = r at *
               simp only [encPlace] at HD HPR
               with_reducible refine HD.mono ?_))
          rintro e w4 h4
          obtain ⟨A4, cap4, rfl, hr4, b4⟩ := h4.len
          have HI4 := Lib.hid (HI2.out.next b4 HI2.out.below.size)
          have hx4 := at_b b4 HX2.out (heap_lt HX2.out)
          have ha4 := at_b b4 HA2.out (heap_lt HA2.out)
          have hp4 := at_b b4 HPX2.out (heap_lt HPX2.out)
          have HR4 := Lib.hid hr4
          have hI5 := HI4.out.set (v := .slice A4 m'.length cap4) hx4 (by omega) (by omega) (by omega)
          have ha5 := (Below.heap_setCell w4 ⟨ab + 1, 0, none⟩ (.slice A4 m'.length cap4) ab (by show ab ≠ ab + 1; omega)).trans ha4
          have hp5 := (Below.heap_setCell w4 ⟨ab + 1, 0, none⟩ (.slice A4 m'.length cap4) w.heap.size (by show w.heap.size ≠ ab + 1; omega)).trans hp4
          have hx5 := set_row hx4 (.slice A4 m'.length cap4)
          have HI5 := Lib.hid hI5
          have HP5 := Lib.hid hp5
          have HX5 := Lib.hid hx5
          have HR5 := Lib.hid (row_set_sl (v := .slice A4 m'.length cap4) hr4 hx4)
          obtain ⟨x0, xf0⟩ := row1 hx4
          have z1 := cell_of_row _ _ 1 _ _ _ ha5
          have z2 := cell_of_row _ _ 2 _ _ _ ha5
          have z3 := cell_of_row _ _ 3 _ _ _ ha5
          have z4 := cell_of_row _ _ 4 _ _ _ ha5
          have z5 := cell_of_row _ _ 5 _ _ _ ha5
          have z6 := cell_of_row _ _ 6 _ _ _ ha5
          have z7 := cell_of_row _ _ 7 _ _ _ ha5
          have z8 := cell_of_row _ _ 8 _ _ _ ha5
          simp at z1 z2 z3 z4 z5 z6 z7 z8
          clear h4 hr4 b4 ha4 hp4 hI5 ha5 hp5 hx4 hx5 HI4 HI2 HPX2 HA2 HX2 HD d0 e0 e1 e2 e3 e4 e5 e6 e7 e8 s1 s2 s3 g1 g2 g3
          go_wp2_with fail
          generalize w4.setCell ⟨ab + 1, 0, none⟩ (.slice A4 m'.length cap4) = w5 at *
          refine (HPR.out b w5 HI5.out.stk (HG.out _ HI5.out.below).stk).mono ?_
          rintro e w6 ⟨rfl, ⟨c, hS6, hc⟩, t6⟩
          have hb6 := t6.below HI5.out.below (by omega) HI5.out.bB HI5.out.below.size
          have hcB : w.heap.size ≤ c := by
            have := HI5.out.bB
            have := HI5.out.below.size
            omega
          have hr6 := row_but2 HR5.out HI5.out.stk t6
          have hp6 := blk_but2 HP5.out HI5.out.stk (by omega) t6
          have hx6 := blk_but2 HX5.out HI5.out.stk (by omega) t6
          have hq6 := blk_but2 HI5.out.box HI5.out.stk (by omega) t6
          have H6 := Lib.hid (And.intro hb6 (And.intro hr6 (And.intro hp6 (And.intro hx6 (And.intro hq6 hS6)))))
          have HM := Lib.hid hm'
          clear hb6 hr6 hp6 hx6 hq6 hS6 hm' t6 hc HPR HI5 HP5 HX5 HR5 x0 xf0 z1 z2 z3 z4 z5 z6 z7 z8
          go_wp2_with fail
          refine (coded1_same E r hr w6 (HG.out _ H6.out.1).err).mono ?_
          rintro e w7 ⟨rfl, b7⟩
          obtain ⟨hb6, hr6, hp6, hx6, hq6, hS6⟩ := H6.out
          have hx7 := at_b b7 hx6 (heap_lt hx6)
          have hq7 := at_b b7 hq6 (heap_lt hq6)
          have hp7 := at_b b7 hp6 (heap_lt hp6)
          have HF := Lib.hid (And.intro (SInv.make (cap := cap4) HM.out (hS6.below b7) (hr6.below b7) hq7 (by omega) (hb6.trans (b7.mono hb6.size)) hcB (by omega)) (And.intro ((Below.heap_setCell w7 ⟨q, 0, none⟩ (.slice A4 m'.length cap4) w.heap.size (by show w.heap.size ≠ q; omega)).trans hp7) (heap_lt hq7)))
          obtain ⟨x0, -⟩ := row1 hx7
          obtain ⟨q0, qf0⟩ := row1 hq7
          clear hb6 hr6 hp6 hx6 hq6 hS6 hx7 hq7 hp7 b7 H6 HM
          go_wp2_with fail
          go_roundw
          case rel => exact ⟨k + 1, m', c, A4, cap4, by omega, by go_num, HF.out.1, HF.out.2.1, by simpa [World.setCell] using HF.out.2.2⟩
          case measure => simp [intOf]; omega
    · obtain rfl : k = n := by omega
      have HCP := Lib.hid (copyStock_any p b m wr hI.stk)
      clear hI hpx
      go_wp2_with fail
      refine HCP.out.mono ?_
      rintro e w5 ⟨q2, c2, rfl, hq2, hc2, hS5, b5⟩
      have hI5 := HI.out.next b5 (by omega)
      have hp5 := at_b b5 HPX.out (heap_lt HPX.out)
      obtain ⟨c0, -⟩ := row1 hI5.box
      obtain ⟨d0, d1, d2⟩ := row3 hp5
      have hIm := hI5.inv
      have HAS := Lib.hid (fun p b A cap W h hr hg => asStock_any E p b hIm A cap W h hr hg)
      have HATM := Lib.hid (fun W h => HAT.out p b m W h)
      have HRAM := Lib.hid (fun W h => HRA.out m hIm A' cap' W h)
      have HOF := Lib.hid (fun W h => ofStock_any p b m id W h (by have := hIm.few id; omega))
      have HRO := Lib.hid (fun W h => refOf_m hIm A' cap' W h id)
      have HSS := Lib.hid (fun W (h : Below w5.heap.size w5 W) => And.intro (hI5.stk.below h) (And.intro (hI5.row.below h) (And.intro (hS5.below h) (HG.out W (hI5.below.trans (h.mono hI5.below.size))).stk.place)))
      have up := Lib.hid (fun (W : World) (hW : Below w5.heap.size w5 W) (q : Addr) (v : Value) (h : w5.cell? q = some v) => (hW.cell (lt_of_cell h)).trans h)
      have HB5 := Lib.hid hI5.below
      generalize atM m ((a1, a2, a3), id) = va at HATM HRAM
      generalize ofM m id = vo at HOF HRO
      clear hI5 hp5 hS5 b5 hq2 hc2 HI HPX HAT HRA HX HX3 hM HCP hIm
      go_wp2_with fail
      have hd : Below w5.heap.size w5 w5.drew := (Below.refl _ _).drew
      go_region_held3 (fun w' => w'.cell? ⟨q, 0, none⟩ = some (.slice A' m.length cap') ∧ w'.cell? ⟨w.heap.size, 0, none⟩ = some (.string ⟨a1.toArray⟩) ∧ w'.cell? ⟨w.heap.size, 1, none⟩ = some (.int .i64 a2) ∧ w'.cell? ⟨w.heap.size, 2, none⟩ = some (.int .i64 a3))
        (first
          | exact ⟨c0, d0, d1, d2⟩
          | exact ⟨up.out _ k6 _ _ c0, up.out _ k6 _ _ d0, up.out _ k6 _ _ d1, up.out _ k6 _ _ d2⟩
          | exact ⟨up.out _ k5 _ _ c0, up.out _ k5 _ _ d0, up.out _ k5 _ _ d1, up.out _ k5 _ _ d2⟩
          | exact ⟨up.out _ k4 _ _ c0, up.out _ k4 _ _ d0, up.out _ k4 _ _ d1, up.out _ k4 _ _ d2⟩
          | exact ⟨up.out _ k3 _ _ c0, up.out _ k3 _ _ d0, up.out _ k3 _ _ d1, up.out _ k3 _ _ d2⟩
          | exact ⟨up.out _ k2 _ _ c0, up.out _ k2 _ _ d0, up.out _ k2 _ _ d1, up.out _ k2 _ _ d2⟩
          | exact ⟨up.out _ k1 _ _ c0, up.out _ k1 _ _ d0, up.out _ k1 _ _ d1, up.out _ k1 _ _ d2⟩
          | go_keep)
        (first
          | (go_at_call_of 17 (Value.pointer (some ⟨p, 0, none⟩)); refine (HAS.out p b A' cap' _ (HSS.out _ hd).1 (HSS.out _ hd).2.1 (HSS.out _ hd).2.2.2).mono ?_; rintro e v1 ⟨rfl, j1⟩; have k1 := hd.trans j1)
          | (go_at_call_of 17 (Value.pointer (some ⟨q2, 0, none⟩)); refine (HAS.out q2 c2 A' cap' _ (HSS.out _ k1).2.2.1 (HSS.out _ k1).2.1 (HSS.out _ k1).2.2.2).mono ?_; rintro e v2 ⟨rfl, j2⟩; have k2 := k1.trans (j2.mono k1.size))
          | (go_at_call 18; refine (HATM.out _ (HSS.out _ k2).1).mono ?_; rintro e v3 ⟨rfl, j3⟩; have k3 := k2.trans (j3.mono k2.size))
          | (go_at_call 19; refine (HRAM.out _ (HSS.out _ k3).2.1).mono ?_; rintro e v4 ⟨rfl, j4⟩; have k4 := k3.trans (j4.mono k3.size))
          | (go_at_call 20; refine (HOF.out _ (HSS.out _ k4).1).mono ?_; rintro e v5 ⟨rfl, j5⟩; have k5 := k4.trans (j5.mono k4.size))
          | (go_at_call 21; refine (HRO.out _ (HSS.out _ k5).2.1).mono ?_; rintro e v6 ⟨rfl, j6⟩; have k6 := k5.trans (j6.mono k5.size)))
      have HE := Lib.hid (HB5.out.trans (k6.mono HB5.out.size))
      clear k1 k2 k3 k4 k5 k6 j1 j2 j3 j4 j5 j6 hd c0 d0 d1 d2 HAS HATM HRAM HOF HRO HSS up
      go_wp2
      go_ret
      exact ⟨rfl, HE.out⟩
theorem sacts_walk (E : Nat → Addr) (A : Option Addr) (cap : Nat) (xs : List ActV) (pl : PlaceV) (id : ByteArray) (w : World) (hG : SActsG E w) (hX : RowAt encAct 9 w A xs) :
    Calls Tryz.prog 3 #[.slice A xs.length cap, .agg (encPlace pl).toArray, .string id] w fun e w' => e = .returned (.bool true) ∧ Below w.heap.size w w' := by
  have hid : id = ⟨id.data.toList.toArray⟩ := by rw [Array.toArray_toList]
  rw [hid]
  by_cases h : 60 < xs.length ∨ 30 < id.data.toList.length ∨ 30 < pl.1.length
  · exact sacts_out E A xs.length cap pl _ w hG h
  · exact sacts_in E A cap xs pl _ w hG hX (by omega) (by omega) (by omega)
end Go.Proofs.YtmhkcmoepopnoaaGreatDoor
