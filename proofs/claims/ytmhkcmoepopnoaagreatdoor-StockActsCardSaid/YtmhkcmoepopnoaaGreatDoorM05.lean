/- Places: Check; what a compare of well places tells. Equal places. A stock's keys. Stock in memory; New, Of, At, Copy. Stock: At, Copy. Plain facts: three-way compares, one behind the other, and the strict orders that they make. Places: their compare; Ahead. -/
import Derived.Laws.StructEq
import Derived.Shelf.SlMaps.Clone
import Derived.IntWalk
import Derived.Test.YtmhkcmoepopnoaaGreatDoorM01
import Derived.Test.YtmhkcmoepopnoaaGreatDoorM02
import Derived.Test.YtmhkcmoepopnoaaGreatDoorM04
namespace Go.Proofs.YtmhkcmoepopnoaaGreatDoor
open Go.RowKit Go.Sort Go.Proofs

/-- A place: its zone, its row, its bay. -/
abbrev PlaceV := List UInt8 × Int × Int
def encPlace (x : PlaceV) : List Value := [.string ⟨x.1.toArray⟩, .int .i64 x.2.1, .int .i64 x.2.2]
theorem encPlace_len (x : PlaceV) : (encPlace x).length = 3 := rfl
theorem encPlace_one (x : PlaceV) : ∀ v ∈ encPlace x, v.oneCell' = true := fun v hv => by
  simp [encPlace] at hv
  rcases hv with rfl | rfl | rfl <;> rfl

/-- The number of a place's error. -/
def placeE (x : PlaceV) : Nat := if nameB x.1 = false then 5 else if x.2.1 < 1 ∨ 20 < x.2.1 ∨ x.2.2 < 1 ∨ 40 < x.2.2 then 2 else 0
theorem placeE_zero {x : PlaceV} : placeE x = 0 ↔ nameB x.1 = true ∧ 1 ≤ x.2.1 ∧ x.2.1 ≤ 20 ∧ 1 ≤ x.2.2 ∧ x.2.2 ≤ 40 := by
  unfold placeE
  cases hn : nameB x.1
  · simp
  · simp only [Bool.true_eq_false, if_false]
    split
    · simp; omega
    · simp; omega
theorem nameB_len {l : List UInt8} (h : nameB l = true) : 1 ≤ l.length ∧ l.length ≤ 8 := by
  unfold nameB at h
  simp at h
  refine ⟨?_, h.1.2⟩
  cases l with
  | nil => simp at h
  | cons x r => simp

/-- The variables that hold the two errors. -/
structure PlaceG (E : Nat → Addr) (w : World) : Prop where
  name : ErrAt 0 (E 5) w
  bound : ErrAt 1 (E 2) w
  tab : TabG w
theorem PlaceG.below {E : Nat → Addr} {w w' : World} (h : PlaceG E w) (hb : Below w.heap.size w w') : PlaceG E w' := ⟨h.name.below hb, h.bound.below hb, h.tab.below hb⟩

/-- The two errors alone. -/
structure PlaceCG (E : Nat → Addr) (w : World) : Prop where
  name : ErrAt 0 (E 5) w
  bound : ErrAt 1 (E 2) w
theorem PlaceCG.below {E : Nat → Addr} {w w' : World} (h : PlaceCG E w) (hb : Below w.heap.size w w') : PlaceCG E w' := ⟨h.name.below hb, h.bound.below hb⟩
theorem placeE_wi (x : PlaceV) : placeE x = if nameB x.1 = false then 5 else if wiB x.2.1 1 20 = false then 2 else if wiB x.2.2 1 40 = false then 2 else 0 := by
  unfold placeE wiB
  cases nameB x.1
  · rfl
  · simp only [Bool.true_eq_false, if_false, decide_eq_false_iff_not]
    split
    · split
      · rfl
      · rw [if_pos (by omega)]
    · rw [if_neg (by omega), if_neg (by omega)]

set_option maxHeartbeats 400000 in
theorem checkPlace_c (E : Nat → Addr) (x : PlaceV) (w : World) (hG : PlaceCG E w) :
    Calls Tryz.prog 38 #[.agg (encPlace x).toArray] w fun e w' => e = .returned (errOf E (placeE x)) ∧ Below w.heap.size w w' := by
  have HE := Lib.hid (placeE_wi x)
  obtain ⟨a1, a2, a3⟩ := x
  have HN := Lib.hid (fun W => name_wide a1 W)
  have H2 := Lib.hid (within_any a2 1 20)
  have H3 := Lib.hid (within_any a3 1 40)
  have g1 := hG.name
  have g2 := hG.bound
  have l1 := lt_of_cell g1
  have l2 := lt_of_cell g2
  simp only at l1 l2
  unfold ErrAt at g1 g2
  simp only [encPlace] at HE ⊢
  clear hG
  generalize nameB a1 = nm at HN HE
  generalize wiB a2 1 20 = p2 at H2 HE
  generalize wiB a3 1 40 = p3 at H3 HE
  go_enter Tryz.func38, Tryz.ntmps38
  go_wp2_with fail
  refine (HN.out _).mono ?_
  rintro e w1 ⟨rfl, b1⟩
  obtain ⟨hc, hf⟩ := bcell b1
  have B1 : Hid (Below w.heap.size w w1) := ((Below.refl _ _).alloc (Nat.le_refl _) _).trans (b1.mono (by simp))
  clear b1 HN
  cases nm with
  | false =>
    go_wp2_with fail
    go_ret
    rw [HE.out]
    exact ⟨rfl, B1.out⟩
  | true =>
    go_wp2_with fail
    refine (H2.out _).mono ?_
    rintro e w2 ⟨rfl, rfl⟩
    cases p2 with
    | false =>
      go_wp2_with fail
      go_ret
      rw [HE.out]
      exact ⟨rfl, B1.out⟩
    | true =>
      go_wp2_with fail
      refine (H3.out _).mono ?_
      rintro e w2 ⟨rfl, rfl⟩
      cases p3 with
      | false =>
        go_wp2_with fail
        go_ret
        rw [HE.out]
        exact ⟨rfl, B1.out⟩
      | true =>
        go_wp2_with fail
        go_ret
        rw [HE.out]
        exact ⟨rfl, B1.out⟩
theorem checkPlace_any (E : Nat → Addr) (x : PlaceV) (w : World) (hG : PlaceG E w) :
    Calls Tryz.prog 38 #[.agg (encPlace x).toArray] w fun e w' => e = .returned (errOf E (placeE x)) ∧ Below w.heap.size w w' := checkPlace_c E x w ⟨hG.name, hG.bound⟩
end Go.Proofs.YtmhkcmoepopnoaaGreatDoor
namespace Go.Proofs.YtmhkcmoepopnoaaGreatDoor
open Go.RowKit Go.Sort Go.Proofs

theorem eqPlace (x y : PlaceV) (W : World) : (binOp .eql 24 (.agg (encPlace x).toArray) (.agg (encPlace y).toArray)).run Tryz.prog W = .ok (.bool (decide (x = y))) W := by
  have u3 := Tryz.underlying3
  have u9 := Tryz.underlying9
  have hS : Tryz.prog.underlying 24 = some (.struct (Tryz.prog.fieldsOf 24)) := by kernel_rfl
  have hp : Tryz.prog.stoodInHeld 24 = false := by kernel_rfl
  simp only [encPlace]
  rw [run_eql_struct, show (10000 : Nat) = 9999 + 1 from rfl, run_equalIn_agg W 9999 24 _ _ hS hp]
  simp only [Program.fieldsOf, Tryz.underlying24]
  go_simp
  obtain ⟨a1, a2, a3⟩ := x
  obtain ⟨b1, b2, b3⟩ := y
  by_cases h1 : a1 = b1 <;> by_cases h2 : a2 = b2 <;> by_cases h3 : a3 = b3 <;> simp [h1, h2, h3]
theorem eqInPlace (x y : PlaceV) (W : World) : (Op.equalIn 10000 24 (.agg (encPlace x).toArray) (.agg (encPlace y).toArray)).run Tryz.prog W = .ok (decide (x = y)) W := by
  have h := eqPlace x y W
  rw [run_eql_struct] at h
  cases hr : (Op.equalIn 10000 24 (.agg (encPlace x).toArray) (.agg (encPlace y).toArray)).run Tryz.prog W with
  | ok b w' =>
    rw [hr] at h
    simp [Result.andThen] at h
    rw [h.1, h.2]
  | _ => rw [hr] at h; simp [Result.andThen] at h
theorem neqPlace (x y : PlaceV) (W : World) : (binOp .neq 24 (.agg (encPlace x).toArray) (.agg (encPlace y).toArray)).run Tryz.prog W = .ok (.bool (!decide (x = y))) W := by
  rw [run_neq_struct, eqInPlace]
  rfl
end Go.Proofs.YtmhkcmoepopnoaaGreatDoor
namespace Go.Proofs.YtmhkcmoepopnoaaGreatDoor
open Go.RowKit Go.Sort Go.Proofs

/-- A key of a stock: a place, a lot. -/
abbrev KeyV := PlaceV × List UInt8
def encKey (k : KeyV) : List Value := [.string ⟨k.1.1.toArray⟩, .int .i64 k.1.2.1, .int .i64 k.1.2.2, .string ⟨k.2.toArray⟩]
def eKey (k : KeyV) : Value := .agg (encKey k).toArray
def eNat (n : Nat) : Value := .int .i64 (n : Nat)
theorem encKey_one (k : KeyV) : ∀ v ∈ encKey k, v.oneCell' = true := fun v hv => by
  simp [encKey] at hv
  rcases hv with rfl | rfl | rfl | rfl <;> rfl

theorem key_check (w : World) (em : Bool) (k : KeyV) : (Instr.checkKey em 10000 76 (eKey k)).run Tryz.prog w = .ok () w := by
  have u3 := Tryz.underlying3
  have u9 := Tryz.underlying9
  have uK := Tryz.underlying76
  have uP := Tryz.underlying24
  have e3 : ∀ n (v : Int) (w : World), (Instr.checkKey em (n + 1) 3 (.int .i64 v)).run Tryz.prog w = .ok () w := fun n v w => by
    unfold Instr.checkKey
    simp [run_underlying u3, Result.andThen]
  have e9 : ∀ n (v : ByteArray) (w : World), (Instr.checkKey em (n + 1) 9 (.string v)).run Tryz.prog w = .ok () w := fun n v w => by
    unfold Instr.checkKey
    simp [run_underlying u9, Result.andThen]
  have p3 : ∀ (cs : Array Value) (i : Nat) (v : Value) (w : World), cs[i]? = some v → (part 3 cs i).run Tryz.prog w = .ok v w := fun cs i v w h => by
    simp [part, isAgg, run_underlying u3, Result.andThen, h]
  have p9 : ∀ (cs : Array Value) (i : Nat) (v : Value) (w : World), cs[i]? = some v → (part 9 cs i).run Tryz.prog w = .ok v w := fun cs i v w h => by
    simp [part, isAgg, run_underlying u9, Result.andThen, h]
  have eP : ∀ n (a : ByteArray) (b c : Int) (w : World), (Instr.checkKey em (n + 2) 24 (.agg #[.string a, .int .i64 b, .int .i64 c])).run Tryz.prog w = .ok () w := fun n a b c w => by
    unfold Instr.checkKey
    simp [run_underlying uP, Result.andThen, p3 _ 1 (.int .i64 b), p3 _ 2 (.int .i64 c), p9 _ 0 (.string a), e3, e9]
  have pP : ∀ (w : World), (part 24 (encKey k).toArray 0).run Tryz.prog w = .ok (.agg #[.string ⟨k.1.1.toArray⟩, .int .i64 k.1.2.1, .int .i64 k.1.2.2]) w := fun w => by
    have s := Tryz.sizeOf24 w
    simp [part, isAgg, run_underlying uP, Result.andThen, s, encKey]
  unfold eKey
  rw [show (10000 : Nat) = 9997 + 3 from rfl]
  unfold Instr.checkKey
  simp [run_underlying uK, Result.andThen, pP, p9 (encKey k).toArray 3 (.string ⟨k.2.toArray⟩) w rfl, eP, e9]
theorem eqInKey (x y : KeyV) (W : World) : (Op.equalIn 10000 76 (eKey x) (eKey y)).run Tryz.prog W = .ok (decide (x = y)) W := by
  have u3 := Tryz.underlying3
  have u9 := Tryz.underlying9
  have hS : Tryz.prog.underlying 76 = some (.struct (Tryz.prog.fieldsOf 76)) := by kernel_rfl
  have hp : Tryz.prog.stoodInHeld 76 = false := by kernel_rfl
  have pS : Tryz.prog.underlying 24 = some (.struct (Tryz.prog.fieldsOf 24)) := by kernel_rfl
  have pp : Tryz.prog.stoodInHeld 24 = false := by kernel_rfl
  have eP : ∀ (a1 b1 : List UInt8) (a2 a3 b2 b3 : Int) (W : World), (Op.equalIn 9999 24 (.agg #[.string ⟨a1.toArray⟩, .int .i64 a2, .int .i64 a3]) (.agg #[.string ⟨b1.toArray⟩, .int .i64 b2, .int .i64 b3])).run Tryz.prog W = .ok (decide (a1 = b1 ∧ a2 = b2 ∧ a3 = b3)) W := fun a1 b1 a2 a3 b2 b3 W => by
    rw [show (9999 : Nat) = 9998 + 1 from rfl, run_equalIn_agg W 9998 24 _ _ pS pp]
    simp only [Program.fieldsOf, Tryz.underlying24]
    go_simp
    by_cases h1 : a1 = b1 <;> by_cases h2 : a2 = b2 <;> by_cases h3 : a3 = b3 <;> simp [h1, h2, h3]
  unfold eKey
  simp only [encKey]
  rw [show (10000 : Nat) = 9999 + 1 from rfl, run_equalIn_agg W 9999 76 _ _ hS hp]
  clear hS hp pS pp
  simp only [Program.fieldsOf, Tryz.underlying76]
  go_simp
  obtain ⟨⟨a1, a2, a3⟩, a4⟩ := x
  obtain ⟨⟨b1, b2, b3⟩, b4⟩ := y
  by_cases h1 : a1 = b1 <;> by_cases h2 : a2 = b2 <;> by_cases h3 : a3 = b3 <;> by_cases h4 : a4 = b4 <;> simp [h1, h2, h3, h4]
theorem key_bits (k : KeyV) : Instr.sameBits 10000 (eKey k) (eKey k) = true := by
  unfold eKey encKey
  rw [show (10000 : Nat) = 9999 + 1 from rfl]
  simp [Instr.sameBits]
  exact ⟨(MapKept.bytes_beq _ _).2 rfl, (MapKept.bytes_beq _ _).2 rfl⟩
theorem keyOk : KeyOk Tryz.prog 76 eKey :=
  key_struct Tryz.underlying76 (fun a => ⟨_, rfl⟩) (fun {a b} h => by
    obtain ⟨⟨a1, a2, a3⟩, a4⟩ := a
    obtain ⟨⟨b1, b2, b3⟩, b4⟩ := b
    simp [eKey, encKey] at h
    obtain ⟨h1, h2, h3, h4⟩ := h
    simp [h1, h2, h3, h4]) eqInKey key_check key_bits
end Go.Proofs.YtmhkcmoepopnoaaGreatDoor
namespace Go.Proofs.YtmhkcmoepopnoaaGreatDoor
open Go.RowKit Go.Sort Go.Proofs

abbrev StkV := List (KeyV × Nat)
/-- Block p is a stock whose map is block b and holds m. -/
def StkAt (w : World) (p b : Nat) (m : StkV) : Prop := w.heap[p]? = some (.cells #[.map (some b)] 71 (0, 0)) ∧ MapIs eKey eNat w b m
theorem StkAt.lt {w : World} {p b : Nat} {m : StkV} (h : StkAt w p b m) : p < w.heap.size ∧ b < w.heap.size := ⟨(Array.getElem?_eq_some_iff.1 h.1).1, h.2.lt⟩
theorem StkAt.ne {w : World} {p b : Nat} {m : StkV} (h : StkAt w p b m) : p ≠ b := by
  rintro rfl
  obtain ⟨h1, es, c, h2, _⟩ := h
  rw [h1] at h2
  cases h2
theorem StkAt.keep {w w' : World} {p b : Nat} {m : StkV} (h : StkAt w p b m) (hp : w'.heap[p]? = w.heap[p]?) (hb : w'.heap[b]? = w.heap[b]?) : StkAt w' p b m := ⟨hp.trans h.1, h.2.keep hb⟩
theorem StkAt.below {w w' : World} {p b : Nat} {m : StkV} (h : StkAt w p b m) (hb : Below w.heap.size w w') : StkAt w' p b m := h.keep (hb.block _ h.lt.1) (hb.block _ h.lt.2)
theorem StkAt.cell {w : World} {p b : Nat} {m : StkV} (h : StkAt w p b m) : w.cell? ⟨p, 0, none⟩ = some (.map (some b)) := cell_of_row _ _ _ _ _ _ h.1

/-- Pieces of a lot; at a place. -/
def ofM (m : StkV) (lot : List UInt8) : Nat := ((m.filter fun x => decide (x.1.2 = lot)).map (·.2)).sum
theorem ofM_nil (lot : List UInt8) : ofM [] lot = 0 := rfl
theorem ofM_cons (x : KeyV × Nat) (m : StkV) (lot : List UInt8) : ofM (x :: m) lot = (if x.1.2 = lot then x.2 else 0) + ofM m lot := by
  unfold ofM
  by_cases h : x.1.2 = lot
  · rw [List.filter_cons_of_pos (by simpa using h), if_pos h, List.map_cons, List.sum_cons]
  · rw [List.filter_cons_of_neg (by simpa using h), if_neg h, Nat.zero_add]
theorem ofM_app (a b : StkV) (lot : List UInt8) : ofM (a ++ b) lot = ofM a lot + ofM b lot := by
  unfold ofM
  rw [List.filter_append, List.map_append, List.sum_append]
theorem ofM_mid (a b : StkV) (x : KeyV × Nat) (lot : List UInt8) : ofM (a ++ x :: b) lot = (if x.1.2 = lot then x.2 else 0) + ofM (a ++ b) lot := by
  rw [ofM_app, ofM_cons, ofM_app]
  omega
def atM (m : StkV) (k : KeyV) : Nat := (mget m k).getD 0

theorem zeroNat (w : World) : (zeroValue 3).run Tryz.prog w = .ok (eNat 0) w := by kernel_rfl

set_option maxHeartbeats 400000 in
theorem newStock_any (w : World) : Calls Tryz.prog 8 #[] w fun e w' => e = .returned (.pointer (some ⟨w.heap.size + 1, 0, none⟩)) ∧ StkAt w' (w.heap.size + 1) w.heap.size [] ∧ Below w.heap.size w w' := by
  have hmm := @run_makeMap Tryz.prog
  go_enter Tryz.func8, Tryz.ntmps8
  go_wp2
  go_ret
  refine ⟨rfl, ⟨?_, ?_⟩, below_two _ _ _⟩
  · have := heap_alloc_new (w.alloc (.map #[] 0)) (.cells #[.map (some w.heap.size)] 71)
    simpa using this
  · exact (MapIs.made eKey eNat w).below (below_one _ _)

set_option maxHeartbeats 800000 in
set_option maxRecDepth 100000 in
theorem ofStock_any (p b : Nat) (m : StkV) (lot : List UInt8) (w : World) (h : StkAt w p b m) (hs : ofM m lot ≤ 4611686018427387904) :
    Calls Tryz.prog 20 #[.pointer (some ⟨p, 0, none⟩), .string ⟨lot.toArray⟩] w fun e w' => e = .returned (.int .i64 (ofM m lot : Nat)) ∧ Below w.heap.size w w' := by
  have c0 := h.cell
  have hM := h.2
  obtain ⟨T, hT⟩ : ∃ T, T = ofM m lot := ⟨_, rfl⟩
  have HT := Lib.hid hT
  rw [← hT] at hs ⊢
  clear hT h
  go_enter Tryz.func20, Tryz.ntmps20
  go_wp2_with (first | (at_range; refine wpList_range_map _ rfl _ 69 rfl _ _ Tryz.underlying69 b m rfl hM ?_; intro w0 hrg0 hb0 hs0) | go_in)
  go_frame
  go_loopw [5] (fun n wr => ∃ (left : StkV) (a : Nat), Ranging eKey eNat wr b w.heap.size m left ∧ n = .int .i64 (a : Nat) ∧ Hid (a + ofM left lot = T) ∧ Below w.heap.size w wr) (fun _ wr => wr.rangeLeft b w.heap.size)
  case atStart => exact ⟨m, 0, hrg0, rfl, (Nat.zero_add _).trans HT.out.symm, hb0⟩
  case round =>
    obtain ⟨left, a, hrg, rfl, HA, hb⟩ := hrel
    have HB := Lib.hid hb
    have HRG := Lib.hid hrg
    have hal : a ≤ T := by have := HA.out; omega
    clear hb
    go_wp2_with (first | (at_next; refine wpList_next_map _ rfl _ rfl b w.heap.size m left rfl hrg ?_ ?_) | go_in)
    · intro hl0
      have hfin := Lib.hid (show a = T by have := HA.out; rw [hl0, ofM_nil] at this; exact this)
      clear hl0
      go_wp2
      go_ret
      rw [hfin.out]
      exact ⟨rfl, HB.out⟩
    · intro l1 a1 a2 a3 a4 v l2 w1 hl hrg1 ht1 hen
      have HL := Lib.hid hl
      have HS := Lib.hid (ofM_mid l1 l2 (((a1, a2, a3), a4), v) lot)
      have B1 := Lib.hid (HB.out.trans (ht1.below (Nat.le_refl _)))
      have hlen := Lib.hid (show (l1 ++ l2).length < left.length by rw [hl]; simp)
      simp only [eKey, encKey, eNat] at hen
      clear hl ht1 hrg
      by_cases hk : a4 = lot
      · have hkb : (a4 == lot) = true := by simpa using hk
        have hsum : a + v + ofM (l1 ++ l2) lot = T := by
          have h1 := HA.out
          have h2 := HS.out
          rw [← HL.out, if_pos hk] at h2
          omega
        have hle : a + v ≤ T := by omega
        have HSM := Lib.hid hsum
        clear hsum hk
        go_wp2
        go_roundw
        case rel => exact ⟨l1 ++ l2, a + v, hrg1.below (below_one _ _), by go_num, HSM.out, B1.out.alloc B1.out.size _⟩
        case measure => rw [(hrg1.below (below_one _ _)).left_eq, HRG.out.left_eq]; exact hlen.out
      · have hkb : (a4 == lot) = false := by simpa using hk
        have hsum : a + ofM (l1 ++ l2) lot = T := by
          have h1 := HA.out
          have h2 := HS.out
          rw [← HL.out, if_neg hk] at h2
          omega
        have HSM := Lib.hid hsum
        clear hsum hk
        go_wp2
        go_roundw
        case rel => exact ⟨l1 ++ l2, a, hrg1.below (below_one _ _), rfl, HSM.out, B1.out.alloc B1.out.size _⟩
        case measure => rw [(hrg1.below (below_one _ _)).left_eq, HRG.out.left_eq]; exact hlen.out
end Go.Proofs.YtmhkcmoepopnoaaGreatDoor
namespace Go.Proofs.YtmhkcmoepopnoaaGreatDoor
open Go.RowKit Go.Sort Go.Proofs

theorem look_stk {w : World} {p b : Nat} {m : StkV} (h : StkAt w p b m) (pl : PlaceV) (lot : List UInt8) :
    (Instr.lookup 69 (.map (some b)) (.agg #[.string ⟨pl.1.toArray⟩, .int .i64 pl.2.1, .int .i64 pl.2.2, .string ⟨lot.toArray⟩]) false).run Tryz.prog w = .ok (.int .i64 (atM m (pl, lot) : Nat)) w := h.2.look keyOk Tryz.underlying69 (zeroNat _) (pl, lot) false
theorem look_stk2 {w : World} {p b : Nat} {m : StkV} (h : StkAt w p b m) (pl : PlaceV) (lot : List UInt8) :
    (Instr.lookup 69 (.map (some b)) (.agg #[.string ⟨pl.1.toArray⟩, .int .i64 pl.2.1, .int .i64 pl.2.2, .string ⟨lot.toArray⟩]) true).run Tryz.prog w = .ok (.tuple #[.int .i64 (atM m (pl, lot) : Nat), .bool (mget m (pl, lot)).isSome]) w := h.2.look keyOk Tryz.underlying69 (zeroNat _) (pl, lot) true

set_option maxHeartbeats 400000 in
theorem atStock_any (p b : Nat) (m : StkV) (pl : PlaceV) (lot : List UInt8) (w : World) (h : StkAt w p b m) :
    Calls Tryz.prog 18 #[.pointer (some ⟨p, 0, none⟩), .agg (encPlace pl).toArray, .string ⟨lot.toArray⟩] w fun e w' => e = .returned (.int .i64 (atM m (pl, lot) : Nat)) ∧ Below w.heap.size w w' := by
  have B := Lib.hid (below_one w (.cells (encPlace pl).toArray 24))
  have h1 := h.below B.out
  have hl := look_stk (w := (w.alloc (.cells (encPlace pl).toArray 24)).drew) (h1 : StkAt _ p b m) pl lot
  have c0 := h1.cell
  generalize atM m (pl, lot) = a at hl ⊢
  obtain ⟨a1, a2, a3⟩ := pl
  simp only [encPlace] at hl c0 B ⊢
  clear h h1
  go_enter Tryz.func18, Tryz.ntmps18
  go_wp2
  go_region
  all_goals
    go_wp2
    go_ret
    exact ⟨rfl, B.out.drew⟩

set_option maxHeartbeats 1600000 in
set_option maxRecDepth 100000 in
theorem cloneStk_any (b : Nat) (es : Array MapEntry) (clock : Nat) (w : World) (hb : w.heap[b]? = some (.map es clock)) :
    Calls Tryz.prog 42 #[.map (some b)] w fun e w' => e = .returned (.map (some w.heap.size)) ∧ w' = w.alloc (.map es clock) := by
  have hq := fun w => run_eql_map_nil_sl (P := Tryz.prog) w 69 _ _ (some b) Tryz.underlying69
  go_enter Tryz.func42, Tryz.ntmps42
  go_wp2
  rw [run_callFunc_extern Tryz.func82 (by kernel_rfl) (by kernel_rfl) (by kernel_rfl) (e := Extern.MapsClone.clone) (by kernel_rfl), run_maps_clone_sl w 69 hb]
  simp only [Result.andThen]
  rw [Oper.upon_value]
  go_wp2
  rw [run_typeAssert_map_sl _ 69 _ _ _ _ Tryz.underlying69]
  simp only [Result.andThen]
  rw [Oper.upon_value]
  go_wp2
  go_ret
  exact ⟨rfl, rfl⟩

set_option maxHeartbeats 400000 in
theorem copyStock_any (p b : Nat) (m : StkV) (w : World) (h : StkAt w p b m) :
    Calls Tryz.prog 16 #[.pointer (some ⟨p, 0, none⟩)] w fun e w' => ∃ q c, e = .returned (.pointer (some ⟨q, 0, none⟩)) ∧ w.heap.size ≤ q ∧ w.heap.size ≤ c ∧ StkAt w' q c m ∧ Below w.heap.size w w' := by
  have c0 := h.cell
  obtain ⟨-, es, clock, hb, hs, hm⟩ := h
  go_enter Tryz.func16, Tryz.ntmps16
  go_wp2_with fail
  refine (cloneStk_any b es clock w hb).mono ?_
  rintro e w1 ⟨rfl, rfl⟩
  have B1 := below_two w (.map es clock) (.cells #[.map (some w.heap.size)] 71)
  have hm1 : ((w.alloc (.map es clock)).alloc (.cells #[.map (some w.heap.size)] 71)).heap[w.heap.size]? = some (.map es clock) := ((below_one (w.alloc (.map es clock)) _).block _ (by simp)).trans (heap_alloc_new _ _)
  have hp1 := heap_alloc_new (w.alloc (.map es clock)) (.cells #[.map (some w.heap.size)] 71)
  go_wp2_with fail
  go_ret
  exact ⟨_, w.heap.size, rfl, by simp, Nat.le_refl _, ⟨by simpa using hp1, es, clock, hm1, hs, hm⟩, B1⟩
end Go.Proofs.YtmhkcmoepopnoaaGreatDoor
namespace Go.Proofs.YtmhkcmoepopnoaaGreatDoor
open Go.RowKit Go.Sort Go.Proofs

/-- A three-way compare. -/
structure CmpLike {α : Type} (c : α → α → Int) : Prop where
  swap : ∀ x y, c y x < 0 ↔ 0 < c x y
  trans : ∀ x y z, c x y ≤ 0 → c y z ≤ 0 → c x z ≤ 0
theorem CmpLike.zero {α : Type} {c : α → α → Int} (h : CmpLike c) {x y : α} (h0 : c x y = 0) : c y x = 0 := by
  have a := h.swap x y
  have b := h.swap y x
  omega
theorem CmpLike.refl {α : Type} {c : α → α → Int} (h : CmpLike c) (x : α) : c x x = 0 := by
  have a := h.swap x x
  omega
theorem CmpLike.then_ {α : Type} {c d : α → α → Int} (h : CmpLike c) (k : CmpLike d) : CmpLike fun x y => if c x y = 0 then d x y else c x y where
  swap x y := by
    have a := h.swap x y
    have b := h.swap y x
    have p := k.swap x y
    by_cases h0 : c x y = 0
    · rw [if_pos h0, if_pos (h.zero h0)]; exact p
    · rw [if_neg h0, if_neg (by omega)]; exact a
  trans x y z h1 h2 := by
    have t1 : c x y ≤ 0 := by
      by_cases h0 : c x y = 0
      · omega
      · rwa [if_neg h0] at h1
    have t2 : c y z ≤ 0 := by
      by_cases h0 : c y z = 0
      · omega
      · rwa [if_neg h0] at h2
    have t3 := h.trans x y z t1 t2
    by_cases h0 : c x z = 0
    · have h0' := h.zero h0
      have u1 := h.trans y z x t2 (by omega)
      have u2 := h.trans z x y (by omega) t1
      have s1 := h.swap y x
      have s2 := h.swap z y
      have e1 : c x y = 0 := by omega
      have e2 : c y z = 0 := by omega
      rw [if_pos e1] at h1
      rw [if_pos e2] at h2
      rw [if_pos h0]
      exact k.trans x y z h1 h2
    · rw [if_neg h0]; exact t3
theorem CmpLike.swo {α : Type} {c : α → α → Int} (h : CmpLike c) : SWO (ltOf c) where
  irrefl x := by
    have := h.refl x
    unfold ltOf
    simp [this]
  trans x y z h1 h2 := by
    unfold ltOf at *
    rw [decide_eq_true_iff] at *
    have t := h.trans x y z (by omega) (by omega)
    have s := h.swap x y
    have s3 := h.swap x z
    have s3' := h.swap z x
    by_cases h0 : c x z = 0
    · have u := h.trans y z x (by omega) (by have := h.zero h0; omega)
      have s2 := h.swap y x
      omega
    · omega
  ntrans x y z h1 h2 := by
    unfold ltOf at *
    rw [decide_eq_false_iff_not] at *
    have a1 := h.swap x y
    have a2 := h.swap y x
    have b1 := h.swap y z
    have b2 := h.swap z y
    have t := h.trans z y x (by omega) (by omega)
    have c1 := h.swap x z
    have c2 := h.swap z x
    omega
theorem CmpLike.sub {α : Type} (f : α → Int) : CmpLike fun x y => f x - f y where
  swap x y := by constructor <;> intro h <;> omega
  trans x y z h1 h2 := by omega
theorem CmpLike.ints {α : Type} (f : α → Int) : CmpLike fun x y => Lib.compareInt (f x) (f y) where
  swap x y := by
    unfold Lib.compareInt
    by_cases h1 : f x < f y
    · have : ¬ f y < f x := by omega
      simp [h1, this]
    · by_cases h2 : f y < f x <;> simp [h1, h2]
  trans x y z h1 h2 := by
    unfold Lib.compareInt at *
    by_cases a1 : f x < f y <;> by_cases a2 : f y < f x <;> by_cases b1 : f y < f z <;> by_cases b2 : f z < f y <;> simp_all <;> split <;> (try split) <;> omega
theorem CmpLike.bytes {α : Type} (f : α → List UInt8) : CmpLike fun x y => Lib.compareBytes (f x) (f y) where
  swap x y := by rw [cmpB_swap (f x) (f y)]; omega
  trans x y z h1 h2 := by
    by_cases e1 : Lib.compareBytes (f x) (f y) = 0
    · rw [(cmpB_eq _ _).1 e1]; exact h2
    · by_cases e2 : Lib.compareBytes (f y) (f z) = 0
      · rw [← (cmpB_eq _ _).1 e2]; exact h1
      · have := cmpB_trans (f x) (f y) (f z) (by omega) (by omega)
        omega
theorem CmpLike.on {α β : Type} {c : α → α → Int} (h : CmpLike c) (f : β → α) : CmpLike fun x y => c (f x) (f y) where
  swap _ _ := h.swap _ _
  trans _ _ _ := h.trans _ _ _
theorem CmpLike.congr {α : Type} {c d : α → α → Int} (h : CmpLike c) (e : ∀ x y, d x y = c x y) : CmpLike d := by
  have : d = c := funext fun x => funext fun y => e x y
  rw [this]; exact h
end Go.Proofs.YtmhkcmoepopnoaaGreatDoor
namespace Go.Proofs.YtmhkcmoepopnoaaGreatDoor
open Go.RowKit Go.Sort Go.Proofs

/-- The compare of two places, on the way. -/
def cfPlace (x y : PlaceV) : Int := orL [Lib.compareBytes x.1 y.1, x.2.1 - y.2.1, if x.2.1 % 2 = 0 then -(x.2.2 - y.2.2) else x.2.2 - y.2.2]
def sbP (x : PlaceV) : Int := if x.2.1 % 2 = 0 then -x.2.2 else x.2.2
theorem likePlace : CmpLike cfPlace :=
  ((CmpLike.bytes (α := PlaceV) Prod.fst).then_ ((CmpLike.sub (α := PlaceV) (fun x => x.2.1)).then_ (CmpLike.sub sbP))).congr fun x y => by
    unfold cfPlace orL orL orL orL sbP
    by_cases h1 : Lib.compareBytes x.1 y.1 = 0
    · rw [if_pos h1, if_pos h1]
      by_cases h2 : x.2.1 - y.2.1 = 0
      · rw [if_pos h2, if_pos h2]
        have h3 : y.2.1 = x.2.1 := by omega
        rw [h3]
        by_cases h4 : x.2.1 % 2 = 0
        · simp only [if_pos h4]
          split <;> omega
        · simp only [if_neg h4]
          split <;> omega
      · rw [if_neg h2, if_neg h2]
    · rw [if_neg h1, if_neg h1]
theorem cfPlace_zero (x y : PlaceV) : cfPlace x y = 0 ↔ x = y := by
  constructor
  · intro h
    unfold cfPlace orL orL orL orL at h
    by_cases h1 : Lib.compareBytes x.1 y.1 = 0
    · rw [if_pos h1] at h
      by_cases h2 : x.2.1 - y.2.1 = 0
      · rw [if_pos h2] at h
        have e1 := (cmpB_eq _ _).1 h1
        have e2 : x.2.1 = y.2.1 := by omega
        have e3 : x.2.2 = y.2.2 := by
          by_cases h4 : x.2.1 % 2 = 0
          · simp only [if_pos h4] at h
            split at h <;> omega
          · simp only [if_neg h4] at h
            split at h <;> omega
        exact Prod.ext e1 (Prod.ext e2 e3)
      · rw [if_neg h2] at h; exact absurd h h2
    · rw [if_neg h1] at h; exact absurd h h1
  · rintro rfl
    exact likePlace.refl x

/-- Rows and bays of a well place. -/
def InP (x : PlaceV) : Prop := 1 ≤ x.2.1 ∧ x.2.1 ≤ 20 ∧ 1 ≤ x.2.2 ∧ x.2.2 ≤ 40
theorem InP.of {x : PlaceV} (h : placeE x = 0) : InP x := (placeE_zero.1 h).2

set_option maxHeartbeats 1000000 in
theorem cmpPlace_any (x y : PlaceV) (hx : InP x) (hy : InP y) (W : World) : Calls Tryz.prog 95 #[.agg (encPlace x).toArray, .agg (encPlace y).toArray] W fun e w' => e = .returned (.int .i64 (cfPlace x y)) ∧ ∃ q os', w' = grow (W.drewN q) os' := by
  obtain ⟨a1, a2, a3⟩ := x
  obtain ⟨b1, b2, b3⟩ := y
  obtain ⟨ha1, ha2, ha3, ha4⟩ : 1 ≤ a2 ∧ a2 ≤ 20 ∧ 1 ≤ a3 ∧ a3 ≤ 40 := hx
  obtain ⟨hb1, hb2, hb3, hb4⟩ : 1 ≤ b2 ∧ b2 ≤ 20 ∧ 1 ≤ b3 ∧ b3 ≤ 40 := hy
  simp only [encPlace, cfPlace]
  obtain ⟨s, hs⟩ : ∃ s : Int, s = if a2 % 2 = 0 then -(a3 - b3) else a3 - b3 := ⟨_, rfl⟩
  have HSV := Lib.hid hs
  rw [← hs]
  have hor := fun (B : Nat) (W' : World) (h0 : W'.cell? ⟨B, 0, none⟩ = some (.int .i64 (Lib.compareBytes a1 b1))) (h1 : W'.cell? ⟨B, 1, none⟩ = some (.int .i64 (a2 - b2))) (h2 : W'.cell? ⟨B, 2, none⟩ = some (.int .i64 s)) => or_any B [Lib.compareBytes a1 b1, a2 - b2, s] W' (by simp) (fun k hk => by
    have hk' : k < 3 := hk
    rcases (show k = 0 ∨ k = 1 ∨ k = 2 by omega) with rfl | rfl | rfl
    · exact h0
    · exact h1
    · exact h2)
  have HOR := Lib.hid hor
  have hw2 : IntKind.i64.wrap (a2 - b2) = a2 - b2 := IntWalk.i64_in _ (by omega)
  have HW2 := Lib.hid hw2
  clear hor hw2
  by_cases he : a2 % 2 = 0
  all_goals
    first
      | (have heq : (a2 % 2 == 0) = true := by simpa using he
         rw [if_pos he] at hs
         clear he)
      | (have heq : (a2 % 2 == 0) = false := by simpa using he
         rw [if_neg he] at hs
         clear he)
    have HS := Lib.hid hs
    clear hs HSV
    go_enter Tryz.func95, Tryz.ntmps95
    go_wp2_with fail
    rw [← HS.out]
    have hw2 := HW2.out
    go_region_held3 (fun w' => w'.cell? ⟨W.heap.size, 0, none⟩ = some (.string ⟨a1.toArray⟩) ∧ w'.cell? ⟨W.heap.size, 1, none⟩ = some (.int .i64 a2) ∧ w'.cell? ⟨W.heap.size + 1, 0, none⟩ = some (.string ⟨b1.toArray⟩) ∧ w'.cell? ⟨W.heap.size + 1, 1, none⟩ = some (.int .i64 b2))
      (go_keep)
      (first
        | (go_at_call 96; refine (Tryz.strings_Compare _ _ _).mono ?_; rintro e w' ⟨rfl, rfl⟩)
        | (go_at_call 94; refine (HOR.out _ _ (by show (World.alloc _ _).cell? _ = _; rw [World.cell?_alloc_at _ _ _ _ (by simp)]; rfl) (by show (World.alloc _ _).cell? _ = _; rw [World.cell?_alloc_at _ _ _ _ (by simp)]; rfl) (by show (World.alloc _ _).cell? _ = _; rw [World.cell?_alloc_at _ _ _ _ (by simp)]; rfl)).mono ?_; rintro e w' ⟨rfl, rfl⟩))
    all_goals
      clear HOR hw2
      go_wp2_with fail
      go_ret
      refine ⟨rfl, 1, #[.cells #[.string ⟨a1.toArray⟩, .int .i64 a2, .int .i64 a3] 24, .cells #[.string ⟨b1.toArray⟩, .int .i64 b2, .int .i64 b3] 24, .cells #[.int .i64 (Lib.compareBytes a1 b1), .int .i64 (a2 - b2), .int .i64 s] 3], ?_⟩
      rw [alloc_eq_grow, alloc_eq_grow, alloc_eq_grow, grow_grow, grow_grow]; rfl
end Go.Proofs.YtmhkcmoepopnoaaGreatDoor
