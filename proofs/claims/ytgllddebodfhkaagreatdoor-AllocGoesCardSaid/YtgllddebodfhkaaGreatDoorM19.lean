/- What a call may turn: the blocks of a list, and what is new; keys that are strings; a stock in memory, whatever its entries' order. The book, plainly: what an entry answers, and makes of it. No program in sight. -/
import Derived.StringKeys
import Derived.Test.YtgllddebodfhkaaGreatDoorM07
import Derived.Test.YtgllddebodfhkaaGreatDoorM15
import Derived.Test.YtgllddebodfhkaaGreatDoorM18
namespace Go.Proofs.YtgllddebodfhkaaGreatDoor
open Go.RowKit Go.Sort Go.Proofs Go.MapKept

/-- Only the blocks of F, and what is new, may have turned. -/
structure ButF (F : List Nat) (w w' : World) : Prop where
  os : w'.os = w.os
  tape : w'.tape = w.tape
  output : w'.output = w.output
  size : w.heap.size ≤ w'.heap.size
  block : ∀ k, k < w.heap.size → k ∉ F → w'.heap[k]? = w.heap[k]?
theorem ButF.refl (F : List Nat) (w : World) : ButF F w w := ⟨rfl, rfl, rfl, Nat.le_refl _, fun _ _ _ => rfl⟩
theorem ButF.of_below {F : List Nat} {w w' : World} (h : Below w.heap.size w w') : ButF F w w' := ⟨h.os, h.tape, h.output, h.size, fun k hk _ => h.block k hk⟩
theorem ButF.of_turned {F : List Nat} {b : Nat} {w w' : World} (h : Turned b w w') (hb : b ∈ F ∨ w.heap.size ≤ b) : ButF F w w' :=
  ⟨h.os, h.tape, h.output, Nat.le_of_eq h.size.symm, fun k hk hf => h.block k fun e => by subst e; rcases hb with hb | hb; exact hf hb; omega⟩
theorem ButF.of_but {F : List Nat} {b : Nat} {w w' : World} (h : But b w w') (hb : b ∈ F ∨ w.heap.size ≤ b) : ButF F w w' :=
  ⟨h.os, h.tape, h.output, h.size, fun k hk hf => h.block k hk fun e => by subst e; rcases hb with hb | hb; exact hf hb; omega⟩
theorem ButF.of_but2 {F : List Nat} {p b : Nat} {w w' : World} (h : But2 p b w w') (hp : p ∈ F ∨ w.heap.size ≤ p) (hb : b ∈ F ∨ w.heap.size ≤ b) : ButF F w w' :=
  ⟨h.os, h.tape, h.output, h.size, fun k hk hf => h.block k hk (fun e => by subst e; rcases hp with hp | hp; exact hf hp; omega) fun e => by subst e; rcases hb with hb | hb; exact hf hb; omega⟩
/-- The second step's blocks are the first one's, or new. -/
theorem ButF.trans {F F' : List Nat} {w1 w2 w3 : World} (h : ButF F w1 w2) (k : ButF F' w2 w3) (hF : ∀ i ∈ F', i ∈ F ∨ w1.heap.size ≤ i) : ButF F w1 w3 :=
  ⟨k.os.trans h.os, k.tape.trans h.tape, k.output.trans h.output, Nat.le_trans h.size k.size, fun i hi hf => (k.block i (Nat.lt_of_lt_of_le hi h.size) fun e => by rcases hF i e with e | e; exact hf e; omega).trans (h.block i hi hf)⟩
theorem ButF.step {F : List Nat} {w1 w2 w3 : World} (h : ButF F w1 w2) (k : ButF F w2 w3) : ButF F w1 w3 := h.trans k fun _ hi => .inl hi
theorem ButF.then_below {F : List Nat} {w1 w2 w3 : World} (h : ButF F w1 w2) (k : Below w2.heap.size w2 w3) : ButF F w1 w3 := h.step (ButF.of_below k)
theorem ButF.mono {F F' : List Nat} {w w' : World} (h : ButF F w w') (hF : ∀ i ∈ F, i ∈ F' ∨ w.heap.size ≤ i) : ButF F' w w' := ⟨h.os, h.tape, h.output, h.size, fun k hk hf => h.block k hk fun e => by rcases hF k e with e | e; exact hf e; omega⟩
theorem ButF.drew {F : List Nat} {w w' : World} (h : ButF F w w') : ButF F w w'.drew := ⟨h.os, h.tape, h.output, h.size, h.block⟩
theorem ButF.below {F : List Nat} {w w' : World} (h : ButF F w w') {B : Nat} (hB : B ≤ w.heap.size) (hF : ∀ i ∈ F, B ≤ i) : Below B w w' := ⟨h.os, h.tape, h.output, h.size, fun k hk => h.block k (by omega) fun e => by have := hF k e; omega⟩
theorem ButF.cell {F : List Nat} {w w' : World} (h : ButF F w w') {a : Addr} {v : Value} (hc : w.cell? a = some v) (hne : a.block ∉ F) : w'.cell? a = some v := (World.cell?_of_block (h.block _ (lt_of_cell hc) hne)).trans hc

/-! Keys that are strings. -/
def eStr (k : List UInt8) : Value := .string ⟨k.toArray⟩
theorem keyStr {P : Program} {kt : TypeId} (hk : P.underlying kt = some .string) : KeyOk P kt eStr where
  inj {a b} h := by
    simp only [eStr, Value.string.injEq, ByteArray.mk.injEq] at h
    simpa using congrArg Array.toList h
  check w em k := run_checkKey hk (d := .string) (k := eStr k) trivial em 9999
  find w x es hes := by
    have hks : ∀ e ∈ es, IsKey .string e.key := fun e he => by
      obtain ⟨y, hy⟩ := hes e he
      rw [hy]
      trivial
    rcases findNow_spec (d := .string) (k := eStr x) trivial es 0 hks with ⟨h1, h2⟩ | ⟨j, e0, h1, h2, h3⟩
    · exact .inl ⟨run_findKey hk h1, h2⟩
    · exact .inr ⟨j, e0, by simpa using run_findKey hk h1, h2, h3⟩
  stays w k := run_keyThatStays (d := .string) (k := eStr k) trivial

/-! A stock in memory, whatever its entries' order. -/
def StkP (w : World) (q c : Nat) (m : StkV) : Prop := ∃ m', StkAt w q c m' ∧ m'.Perm m
theorem StkP.keep {w w' : World} {p b : Nat} {m : StkV} (h : StkP w p b m) (hp : w'.heap[p]? = w.heap[p]?) (hb : w'.heap[b]? = w.heap[b]?) : StkP w' p b m := by
  obtain ⟨m', h1, h2⟩ := h
  exact ⟨m', h1.keep hp hb, h2⟩
theorem StkP.below {w w' : World} {p b : Nat} {m : StkV} (h : StkP w p b m) (hb : Below w.heap.size w w') : StkP w' p b m := by
  obtain ⟨m', h1, h2⟩ := h
  exact ⟨m', h1.below hb, h2⟩
theorem StkP.lt {w : World} {p b : Nat} {m : StkV} (h : StkP w p b m) : p < w.heap.size ∧ b < w.heap.size := by
  obtain ⟨m', h1, h2⟩ := h
  exact h1.lt
theorem StkP.ne {w : World} {p b : Nat} {m : StkV} (h : StkP w p b m) : p ≠ b := by
  obtain ⟨m', h1, h2⟩ := h
  exact h1.ne
theorem StkP.perm {w : World} {p b : Nat} {m m2 : StkV} (h : StkP w p b m) (hp : m.Perm m2) : StkP w p b m2 := by
  obtain ⟨m', h1, h2⟩ := h
  exact ⟨m', h1, h2.trans hp⟩
theorem StkI.perm {m m' : StkV} (h : StkI m) (hp : m.Perm m') : StkI m' :=
  ⟨(hp.map _).nodup_iff.1 h.nodup, ⟨by rw [← hp.length_eq]; exact h.well.few, fun x hx => h.well.well x (hp.mem_iff.2 hx)⟩, fun lot => by rw [← ofM_perm hp]; exact h.few lot⟩
theorem atM_perm {m m' : StkV} (h : StkI m) (hp : m.Perm m') (k : KeyV) : atM m k = atM m' k := by
  unfold atM
  rw [mget_perm h.nodup hp]
theorem mdel_perm {m m' : StkV} (hp : m.Perm m') (k : KeyV) : (mdel m k).Perm (mdel m' k) := hp.filter _
theorem mput_permC {m m' : StkV} (h : StkI m) (hp : m.Perm m') (k : KeyV) (v : Nat) : (mput m k v).Perm (mput m' k v) :=
  (mput_perm k v h.nodup).trans (((mdel_perm hp k).cons _).trans (mput_perm k v (h.perm hp).nodup).symm)
theorem putE_perm {m m' : StkV} (h : StkI m) (hp : m.Perm m') (p : PlaceV) (l : List UInt8) (n : Int) : putE m p l n = putE m' p l n := by
  unfold putE
  rw [ofM_perm hp, mget_perm h.nodup hp, hp.length_eq]
theorem putM_perm {m m' : StkV} (h : StkI m) (hp : m.Perm m') (p : PlaceV) (l : List UInt8) (n : Int) : (putM m p l n).Perm (putM m' p l n) := by
  unfold putM
  rw [putE_perm h hp, atM_perm h hp]
  split
  · exact mput_permC h hp _ _
  · exact hp
theorem takeE_perm {m m' : StkV} (h : StkI m) (hp : m.Perm m') (p : PlaceV) (l : List UInt8) (n : Int) : takeE m p l n = takeE m' p l n := by
  unfold takeE
  rw [atM_perm h hp]
theorem takeM_perm {m m' : StkV} (h : StkI m) (hp : m.Perm m') (p : PlaceV) (l : List UInt8) (n : Int) : (takeM m p l n).Perm (takeM m' p l n) := by
  unfold takeM
  rw [takeE_perm h hp, atM_perm h hp]
  split
  · split
    · rw [mdel_put, mdel_put]
      exact mdel_perm hp _
    · exact mput_permC h hp _ _
  · exact hp
theorem moveE_perm {m m' : StkV} (h : StkI m) (hp : m.Perm m') (p q : PlaceV) (l : List UInt8) (n : Int) : moveE m p q l n = moveE m' p q l n := by
  unfold moveE
  rw [takeE_perm h hp, putE_perm (h.take p l n) (takeM_perm h hp p l n)]
theorem moveM_perm {m m' : StkV} (h : StkI m) (hp : m.Perm m') (p q : PlaceV) (l : List UInt8) (n : Int) : (moveM m p q l n).Perm (moveM m' p q l n) := by
  unfold moveM
  rw [moveE_perm h hp]
  split
  · exact putM_perm (h.take p l n) (takeM_perm h hp p l n) q l n
  · exact hp

/-! The stock's own, at a stock of whatever order. -/
theorem ofStock_P {q c : Nat} {m : StkV} (hI : StkI m) (lot : List UInt8) (w : World) (h : StkP w q c m) :
    Calls Tryz.prog 22 #[.pointer (some ⟨q, 0, none⟩), .string ⟨lot.toArray⟩] w fun e w' => e = .returned (.int .i64 (ofM m lot : Nat)) ∧ Below w.heap.size w w' := by
  obtain ⟨m', h1, h2⟩ := h
  rw [← ofM_perm h2]
  exact ofStock_any q c m' lot w h1 (by have := (hI.perm h2.symm).few lot; omega)
theorem atStock_P {q c : Nat} {m : StkV} (hI : StkI m) (pl : PlaceV) (lot : List UInt8) (w : World) (h : StkP w q c m) :
    Calls Tryz.prog 39 #[.pointer (some ⟨q, 0, none⟩), .agg (encPlace pl).toArray, .string ⟨lot.toArray⟩] w fun e w' => e = .returned (.int .i64 (atM m (pl, lot) : Nat)) ∧ Below w.heap.size w w' := by
  obtain ⟨m', h1, h2⟩ := h
  rw [← atM_perm (hI.perm h2.symm) h2]
  exact atStock_any q c m' pl lot w h1
theorem copyStock_P {q c : Nat} {m : StkV} (w : World) (h : StkP w q c m) :
    Calls Tryz.prog 58 #[.pointer (some ⟨q, 0, none⟩)] w fun e w' => ∃ q' c', e = .returned (.pointer (some ⟨q', 0, none⟩)) ∧ w.heap.size ≤ q' ∧ w.heap.size ≤ c' ∧ StkP w' q' c' m ∧ Below w.heap.size w w' := by
  obtain ⟨m', h1, h2⟩ := h
  refine (copyStock_any q c m' w h1).mono ?_
  rintro e w' ⟨q', c', he, h3, h4, h5, h6⟩
  exact ⟨q', c', he, h3, h4, ⟨m', h5, h2⟩, h6⟩
theorem putStock_P (E : Nat → Addr) {q c : Nat} {m : StkV} (hI : StkI m) (pl : PlaceV) (lot : List UInt8) (n : Int) (w : World) (h : StkP w q c m) (hG : StkG E w) :
    Calls Tryz.prog 81 #[.pointer (some ⟨q, 0, none⟩), .agg (encPlace pl).toArray, .string ⟨lot.toArray⟩, .int .i64 n] w fun e w' => e = .returned (errOf E (putE m pl lot n)) ∧ StkP w' q c (putM m pl lot n) ∧ But c w w' := by
  obtain ⟨m', h1, h2⟩ := h
  have hI' := hI.perm h2.symm
  rw [← putE_perm hI' h2]
  refine (putStock_any E q c m' pl lot n w h1 (hI'.few lot) hG).mono ?_
  rintro e w' ⟨he, h3, h4⟩
  exact ⟨he, ⟨_, h3, putM_perm hI' h2 _ _ _⟩, h4⟩
theorem takeStock_P (E : Nat → Addr) {q c : Nat} {m : StkV} (hI : StkI m) (pl : PlaceV) (lot : List UInt8) (n : Int) (w : World) (h : StkP w q c m) (hG : StkG E w) :
    Calls Tryz.prog 137 #[.pointer (some ⟨q, 0, none⟩), .agg (encPlace pl).toArray, .string ⟨lot.toArray⟩, .int .i64 n] w fun e w' => e = .returned (errOf E (takeE m pl lot n)) ∧ StkP w' q c (takeM m pl lot n) ∧ But c w w' := by
  obtain ⟨m', h1, h2⟩ := h
  have hI' := hI.perm h2.symm
  rw [← takeE_perm hI' h2]
  refine (takeStock_any E q c m' pl lot n w h1 (by have := atM_le m' pl lot; have := hI'.few lot; omega) hG).mono ?_
  rintro e w' ⟨he, h3, h4⟩
  exact ⟨he, ⟨_, h3, takeM_perm hI' h2 _ _ _⟩, h4⟩
theorem moveStock_P (E : Nat → Addr) {q c : Nat} {m : StkV} (hI : StkI m) (pf pt : PlaceV) (lot : List UInt8) (n : Int) (w : World) (h : StkP w q c m) (hG : StkG E w) :
    Calls Tryz.prog 101 #[.pointer (some ⟨q, 0, none⟩), .agg (encPlace pf).toArray, .agg (encPlace pt).toArray, .string ⟨lot.toArray⟩, .int .i64 n] w fun e w' =>
      e = .returned (errOf E (moveE m pf pt lot n)) ∧ (∃ c', StkP w' q c' (moveM m pf pt lot n) ∧ (c' = c ∨ w.heap.size ≤ c')) ∧ But2 q c w w' := by
  obtain ⟨m', h1, h2⟩ := h
  have hI' := hI.perm h2.symm
  rw [← moveE_perm hI' h2]
  refine (moveStock_any E q c m' pf pt lot n w h1 (hI'.few lot) hG).mono ?_
  rintro e w' ⟨he, ⟨c', h3, h4⟩, h5⟩
  exact ⟨he, ⟨c', ⟨_, h3, moveM_perm hI' h2 _ _ _ _⟩, h4⟩, h5⟩
end Go.Proofs.YtgllddebodfhkaaGreatDoor
namespace Go.Proofs.YtgllddebodfhkaaGreatDoor
open Go.RowKit Go.Sort Go.Proofs

/-- Sums of goods: in, out, more, less. Goods with theirs; a lot with what is held; a book: goods by codes, lots by IDs, a stock. -/
abbrev SumsV := Int × Int × Int × Int
abbrev GoS := GoodsV × SumsV
abbrev LoH := LotV × Nat
abbrev BkV := List GoS × List LoH × StkV
def zeroSums : SumsV := (0, 0, 0, 0)
def bk0 : BkV := ([], [], [])
def mostS : Int := 65970697666560

/-- Goods of a code; a lot of an ID. -/
def fG (B : BkV) (c : List UInt8) : Option GoS := B.1.find? fun x => decide (x.1.1 = c)
def fL (B : BkV) (id : List UInt8) : Option LoH := B.2.1.find? fun x => decide (x.1.1 = id)
def sumsOf (B : BkV) (c : List UInt8) : SumsV := match fG B c with | some x => x.2 | none => zeroSums
def heldOf (B : BkV) (id : List UInt8) : Nat := match fL B id with | some x => x.2 | none => 0
/-- Pieces of goods. -/
def hasOf (B : BkV) (c : List UInt8) : Nat := ((B.2.1.filter fun x => decide (x.1.2.1 = c)).map fun x => ofM B.2.2 x.1.1).sum

/-- What an entry of pieces does to the stock. -/
def actE (m : StkV) (x : EntV) : Nat :=
  if x.1 = kIn ∨ x.1 = kMore then putE m x.2.2.2.2.1 x.2.2.1.1 x.2.2.2.2.2 else if x.1 = kOut ∨ x.1 = kLess then takeE m x.2.2.2.1 x.2.2.1.1 x.2.2.2.2.2
  else if x.1 = kMove then moveE m x.2.2.2.1 x.2.2.2.2.1 x.2.2.1.1 x.2.2.2.2.2 else 0
def actM (m : StkV) (x : EntV) : StkV :=
  if x.1 = kIn ∨ x.1 = kMore then putM m x.2.2.2.2.1 x.2.2.1.1 x.2.2.2.2.2 else if x.1 = kOut ∨ x.1 = kLess then takeM m x.2.2.2.1 x.2.2.1.1 x.2.2.2.2.2
  else if x.1 = kMove then moveM m x.2.2.2.1 x.2.2.2.2.1 x.2.2.1.1 x.2.2.2.2.2 else m
def heldN (h : Nat) (x : EntV) : Int := if x.1 = kHold then (h : Int) + x.2.2.2.2.2 else if x.1 = kFree then (h : Int) - x.2.2.2.2.2 else h
def summ (s : SumsV) (x : EntV) : SumsV :=
  if x.1 = kIn then (s.1 + x.2.2.2.2.2, s.2.1, s.2.2.1, s.2.2.2) else if x.1 = kOut then (s.1, s.2.1 + x.2.2.2.2.2, s.2.2.1, s.2.2.2)
  else if x.1 = kMore then (s.1, s.2.1, s.2.2.1 + x.2.2.2.2.2, s.2.2.2) else if x.1 = kLess then (s.1, s.2.1, s.2.2.1, s.2.2.2 + x.2.2.2.2.2) else s
def overS (s : SumsV) : Bool := decide (mostS < s.1) || decide (mostS < s.2.1) || decide (mostS < s.2.2.1) || decide (mostS < s.2.2.2)

/-- The error of an entry of pieces, of one in a book. -/
def pcE (B : BkV) (x : EntV) : Nat :=
  match fL B x.2.2.1.1 with
  | none => 6
  | some y => if actE B.2.2 x ≠ 0 then actE B.2.2 x else if heldN y.2 x < 0 ∨ (ofM (actM B.2.2 x) x.2.2.1.1 : Int) < heldN y.2 x then 9
    else if overS (summ (sumsOf B y.1.2.1) x) = true then 2 else 0
def doE (B : BkV) (x : EntV) : Nat :=
  if entE x ≠ 0 then entE x
  else if x.1 = kGoods then (if (fG B x.2.1.1).isSome = true then 7 else if 30 ≤ B.1.length then 8 else 0)
  else if x.1 = kLot then (if (fL B x.2.2.1.1).isSome = true then 7 else if (fG B x.2.2.1.2.1).isSome = false then 6 else if 60 ≤ B.2.1.length then 8 else 0)
  else pcE B x
/-- Goods, a lot put in where they belong; sums, what is held set. -/
def ltB (a b : List UInt8) : Bool := Op.bytesLess a b
def insG (x : GoS) (l : List GoS) : List GoS := l.takeWhile (fun y => ltB y.1.1 x.1.1) ++ x :: l.dropWhile (fun y => ltB y.1.1 x.1.1)
def insLo (x : LoH) (l : List LoH) : List LoH := l.takeWhile (fun y => ltB y.1.1 x.1.1) ++ x :: l.dropWhile (fun y => ltB y.1.1 x.1.1)
def setG (c : List UInt8) (s : SumsV) (l : List GoS) : List GoS := l.map fun y => if y.1.1 = c then (y.1, s) else y
def setLo (id : List UInt8) (h : Nat) (l : List LoH) : List LoH := l.map fun y => if y.1.1 = id then (y.1, h) else y
def codeLo (B : BkV) (id : List UInt8) : List UInt8 := match fL B id with | some y => y.1.2.1 | none => []
def doP (B : BkV) (x : EntV) : BkV :=
  (setG (codeLo B x.2.2.1.1) (summ (sumsOf B (codeLo B x.2.2.1.1)) x) B.1, setLo x.2.2.1.1 (heldN (heldOf B x.2.2.1.1) x).toNat B.2.1, actM B.2.2 x)
def doB (B : BkV) (x : EntV) : BkV :=
  if doE B x ≠ 0 then B else if x.1 = kGoods then (insG (x.2.1, zeroSums) B.1, B.2.1, B.2.2) else if x.1 = kLot then (B.1, insLo (x.2.2.1, 0) B.2.1, B.2.2) else doP B x
/-- Entries, those with an error gone past; entries up to the first with an error. -/
def doAll (B : BkV) (l : List EntV) : BkV := l.foldl doB B

/-! What holds of a book that entries make. -/
def OkS (s : SumsV) : Prop := 0 ≤ s.1 ∧ s.1 ≤ mostS ∧ 0 ≤ s.2.1 ∧ s.2.1 ≤ mostS ∧ 0 ≤ s.2.2.1 ∧ s.2.2.1 ≤ mostS ∧ 0 ≤ s.2.2.2 ∧ s.2.2.2 ≤ mostS
structure BkI (B : BkV) : Prop where
  gs : B.1.Pairwise fun x y => ltB x.1.1 y.1.1 = true
  gok : ∀ x ∈ B.1, goodsE x.1 = 0 ∧ OkS x.2
  gfew : B.1.length ≤ 30
  ls : B.2.1.Pairwise fun x y => ltB x.1.1 y.1.1 = true
  lok : ∀ y ∈ B.2.1, lotE y.1 = 0 ∧ y.2 ≤ ofM B.2.2 y.1.1 ∧ (fG B y.1.2.1).isSome = true
  lfew : B.2.1.length ≤ 60
  stk : StkI B.2.2
  known : ∀ z ∈ B.2.2, (fL B z.1.2).isSome = true
  pac : ∀ x ∈ B.1, (hasOf B x.1.1 : Int) = x.2.1 - x.2.2.1 + x.2.2.2.1 - x.2.2.2.2

theorem ltB_irrefl (a : List UInt8) : ltB a a = false := by
  unfold ltB
  rw [less_cmp, cmpB_refl]
  rfl
theorem ltB_trans {a b c : List UInt8} (h1 : ltB a b = true) (h2 : ltB b c = true) : ltB a c = true := by
  unfold ltB at *
  rw [less_cmp, decide_eq_true_eq] at *
  exact cmpB_trans a b c h1 h2
theorem ltB_asym {a b : List UInt8} (h : ltB a b = true) : ltB b a = false := by
  cases h2 : ltB b a with
  | false => rfl
  | true => exact absurd (ltB_trans h h2) (by rw [ltB_irrefl]; simp)
theorem ltB_ne {a b : List UInt8} (h : ltB a b = true) : a ≠ b := by
  rintro rfl
  rw [ltB_irrefl] at h
  cases h
theorem ltB_total {a b : List UInt8} (h : ltB a b = false) (hne : a ≠ b) : ltB b a = true := by
  unfold ltB at *
  rw [less_cmp] at *
  have h1 := of_decide_eq_false h
  have h2 : Lib.compareBytes a b ≠ 0 := fun e => hne ((cmpB_eq a b).1 e)
  have h3 := cmpB_swap a b
  exact decide_eq_true (by omega)

section
variable {α : Type} (key : α → List UInt8)
/-- Finding by a key; what is unlike stays. -/
theorem find_mem {l : List α} {c : List UInt8} {x : α} (h : l.find? (fun y => decide (key y = c)) = some x) : x ∈ l ∧ key x = c :=
  ⟨List.mem_of_find?_eq_some h, by simpa using List.find?_some h⟩
theorem find_none {l : List α} {c : List UInt8} (h : l.find? (fun y => decide (key y = c)) = none) : ∀ y ∈ l, key y ≠ c := fun y hy => by
  have := List.find?_eq_none.1 h y hy
  simpa using this
theorem find_is {l : List α} (hs : l.Pairwise fun x y => ltB (key x) (key y) = true) {x : α} (hx : x ∈ l) : l.find? (fun y => decide (key y = key x)) = some x := by
  induction l with
  | nil => simp at hx
  | cons y r ih =>
    have h := List.pairwise_cons.1 hs
    rw [List.find?_cons]
    rcases List.mem_cons.1 hx with rfl | hx
    · simp
    · rw [decide_eq_false (ltB_ne (h.1 x hx))]
      exact ih h.2 hx
def insK (x : α) (l : List α) : List α := l.takeWhile (fun y => ltB (key y) (key x)) ++ x :: l.dropWhile (fun y => ltB (key y) (key x))
theorem insK_perm (x : α) (l : List α) : (insK key x l).Perm (x :: l) := by
  unfold insK
  refine List.perm_middle.trans ?_
  rw [List.takeWhile_append_dropWhile]
theorem insK_sorted (x : α) {l : List α} (hs : l.Pairwise fun x y => ltB (key x) (key y) = true) (hn : ∀ y ∈ l, key y ≠ key x) : (insK key x l).Pairwise fun x y => ltB (key x) (key y) = true := by
  induction l with
  | nil => simp [insK]
  | cons y r ih =>
    have h := List.pairwise_cons.1 hs
    unfold insK
    by_cases hl : ltB (key y) (key x) = true
    · rw [List.takeWhile_cons_of_pos (p := fun y => ltB (key y) (key x)) hl, List.dropWhile_cons_of_pos (p := fun y => ltB (key y) (key x)) hl]
      have ih' := ih h.2 fun z hz => hn z (List.mem_cons_of_mem _ hz)
      refine List.pairwise_cons.2 ⟨fun z hz => ?_, ih'⟩
      rcases List.mem_cons.1 ((insK_perm key x r).mem_iff.1 hz) with rfl | hz
      · exact hl
      · exact h.1 z hz
    · rw [List.takeWhile_cons_of_neg (p := fun y => ltB (key y) (key x)) hl, List.dropWhile_cons_of_neg (p := fun y => ltB (key y) (key x)) hl]
      have hxy := ltB_total (by simpa using hl) (hn y List.mem_cons_self)
      refine List.pairwise_cons.2 ⟨fun z hz => ?_, hs⟩
      rcases List.mem_cons.1 hz with rfl | hz
      · exact hxy
      · exact ltB_trans hxy (h.1 z hz)
theorem find_insK (x : α) {l : List α} (hs : l.Pairwise fun x y => ltB (key x) (key y) = true) (hn : ∀ y ∈ l, key y ≠ key x) (c : List UInt8) :
    (insK key x l).find? (fun y => decide (key y = c)) = if key x = c then some x else l.find? (fun y => decide (key y = c)) := by
  have hs' := insK_sorted key x hs hn
  by_cases h : key x = c
  · rw [if_pos h, ← h]
    exact find_is key hs' ((insK_perm key x l).mem_iff.2 List.mem_cons_self)
  · rw [if_neg h]
    cases hf : l.find? (fun y => decide (key y = c)) with
    | none =>
      refine List.find?_eq_none.2 fun y hy => ?_
      rcases List.mem_cons.1 ((insK_perm key x l).mem_iff.1 hy) with rfl | hy
      · simpa using h
      · simpa using find_none key hf y hy
    | some y =>
      obtain ⟨h1, h2⟩ := find_mem key hf
      rw [← h2]
      exact find_is key hs' ((insK_perm key x l).mem_iff.2 (List.mem_cons_of_mem _ h1))
theorem find_map {l : List α} {f : α → α} (hf : ∀ y, key (f y) = key y) (c : List UInt8) : (l.map f).find? (fun y => decide (key y = c)) = (l.find? (fun y => decide (key y = c))).map f := by
  induction l with
  | nil => rfl
  | cons y r ih =>
    rw [List.map_cons, List.find?_cons, List.find?_cons, hf, ih]
    cases decide (key y = c) <;> rfl
theorem sorted_map {l : List α} {f : α → α} (hf : ∀ y, key (f y) = key y) (hs : l.Pairwise fun x y => ltB (key x) (key y) = true) : (l.map f).Pairwise fun x y => ltB (key x) (key y) = true := by
  rw [List.pairwise_map]
  exact hs.imp fun h => by rw [hf, hf]; exact h
end
theorem insG_eq (x : GoS) (l : List GoS) : insG x l = insK (fun y : GoS => y.1.1) x l := rfl
theorem insLo_eq (x : LoH) (l : List LoH) : insLo x l = insK (fun y : LoH => y.1.1) x l := rfl
end Go.Proofs.YtgllddebodfhkaaGreatDoor
