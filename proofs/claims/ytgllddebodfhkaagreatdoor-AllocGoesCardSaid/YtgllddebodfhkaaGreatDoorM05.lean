/- A stock's keys. Stock in memory; New, Of, At, Copy. Stock: At, Copy. A result that lies in memory, beside one that doesn't; a struct stored cell by cell. -/
import Derived.Shelf.SlMaps.Clone
import Derived.Laws.ResultCell
import Derived.Laws.Rows
import Derived.Test.YtgllddebodfhkaaGreatDoorM01
import Derived.Test.YtgllddebodfhkaaGreatDoorM02
import Derived.Test.YtgllddebodfhkaaGreatDoorM04
namespace Go.Proofs.YtgllddebodfhkaaGreatDoor
open Go.RowKit Go.Sort Go.Proofs

/-- A key of a stock: a place, a lot. -/
abbrev KeyV := PlaceV × List UInt8
def encKey (k : KeyV) : List Value := [.string ⟨k.1.1.toArray⟩, .int .i64 k.1.2.1, .int .i64 k.1.2.2, .string ⟨k.2.toArray⟩]
def eKey (k : KeyV) : Value := .agg (encKey k).toArray
def eNat (n : Nat) : Value := .int .i64 (n : Nat)
theorem encKey_one (k : KeyV) : ∀ v ∈ encKey k, v.oneCell' = true := fun v hv => by
  simp [encKey] at hv
  rcases hv with rfl | rfl | rfl | rfl <;> rfl

theorem key_check (w : World) (em : Bool) (k : KeyV) : (Instr.checkKey em 10000 126 (eKey k)).run Tryz.prog w = .ok () w := by
  have u3 := Tryz.underlying3
  have u9 := Tryz.underlying9
  have uK := Tryz.underlying126
  have uP := Tryz.underlying40
  have e3 : ∀ n (v : Int) (w : World), (Instr.checkKey em (n + 1) 3 (.int .i64 v)).run Tryz.prog w = .ok () w := fun n v w => by
    unfold Instr.checkKey
    simp [run_underlying u3, Result.andThen]
  have e9 : ∀ n (v : ByteArray) (w : World), (Instr.checkKey em (n + 1) 9 (.string v)).run Tryz.prog w = .ok () w := fun n v w => by
    unfold Instr.checkKey
    simp [run_underlying u9, Result.andThen]
  have p3 : ∀ (cs : Array Value) (i : Nat) (v : Value) (w : World), cs[i]? = some v → (part 3 cs i).run Tryz.prog w = .ok v w := fun cs i v w h => by
    simp [part, isAgg, run_underlying u3, Result.andThen, h]
  have p9 : ∀ (cs : Array Value) (i : Nat) (v : Value) (w : World), cs[i]? = some v → (part 9 cs i).run Tryz.prog w = .ok v w := fun cs i v w h => by
    simp [part, isAgg, run_underlying u9, Result.andThen, h]
  have eP : ∀ n (a : ByteArray) (b c : Int) (w : World), (Instr.checkKey em (n + 2) 40 (.agg #[.string a, .int .i64 b, .int .i64 c])).run Tryz.prog w = .ok () w := fun n a b c w => by
    unfold Instr.checkKey
    simp [run_underlying uP, Result.andThen, p3 _ 1 (.int .i64 b), p3 _ 2 (.int .i64 c), p9 _ 0 (.string a), e3, e9]
  have pP : ∀ (w : World), (part 40 (encKey k).toArray 0).run Tryz.prog w = .ok (.agg #[.string ⟨k.1.1.toArray⟩, .int .i64 k.1.2.1, .int .i64 k.1.2.2]) w := fun w => by
    have s := Tryz.sizeOf40 w
    simp [part, isAgg, run_underlying uP, Result.andThen, s, encKey]
  unfold eKey
  rw [show (10000 : Nat) = 9997 + 3 from rfl]
  unfold Instr.checkKey
  simp [run_underlying uK, Result.andThen, pP, p9 (encKey k).toArray 3 (.string ⟨k.2.toArray⟩) w rfl, eP, e9]
theorem eqInKey (x y : KeyV) (W : World) : (Op.equalIn 10000 126 (eKey x) (eKey y)).run Tryz.prog W = .ok (decide (x = y)) W := by
  have u3 := Tryz.underlying3
  have u9 := Tryz.underlying9
  have hS : Tryz.prog.underlying 126 = some (.struct (Tryz.prog.fieldsOf 126)) := by kernel_rfl
  have hp : Tryz.prog.stoodInHeld 126 = false := by kernel_rfl
  have pS : Tryz.prog.underlying 40 = some (.struct (Tryz.prog.fieldsOf 40)) := by kernel_rfl
  have pp : Tryz.prog.stoodInHeld 40 = false := by kernel_rfl
  have eP : ∀ (a1 b1 : List UInt8) (a2 a3 b2 b3 : Int) (W : World), (Op.equalIn 9999 40 (.agg #[.string ⟨a1.toArray⟩, .int .i64 a2, .int .i64 a3]) (.agg #[.string ⟨b1.toArray⟩, .int .i64 b2, .int .i64 b3])).run Tryz.prog W = .ok (decide (a1 = b1 ∧ a2 = b2 ∧ a3 = b3)) W := fun a1 b1 a2 a3 b2 b3 W => by
    rw [show (9999 : Nat) = 9998 + 1 from rfl, run_equalIn_agg W 9998 40 _ _ pS pp]
    simp only [Program.fieldsOf, Tryz.underlying40]
    go_simp
    by_cases h1 : a1 = b1 <;> by_cases h2 : a2 = b2 <;> by_cases h3 : a3 = b3 <;> simp [h1, h2, h3]
  unfold eKey
  simp only [encKey]
  rw [show (10000 : Nat) = 9999 + 1 from rfl, run_equalIn_agg W 9999 126 _ _ hS hp]
  clear hS hp pS pp
  simp only [Program.fieldsOf, Tryz.underlying126]
  go_simp
  obtain ⟨⟨a1, a2, a3⟩, a4⟩ := x
  obtain ⟨⟨b1, b2, b3⟩, b4⟩ := y
  by_cases h1 : a1 = b1 <;> by_cases h2 : a2 = b2 <;> by_cases h3 : a3 = b3 <;> by_cases h4 : a4 = b4 <;> simp [h1, h2, h3, h4]
theorem key_bits (k : KeyV) : Instr.sameBits 10000 (eKey k) (eKey k) = true := by
  unfold eKey encKey
  rw [show (10000 : Nat) = 9999 + 1 from rfl]
  simp [Instr.sameBits]
  exact ⟨(MapKept.bytes_beq _ _).2 rfl, (MapKept.bytes_beq _ _).2 rfl⟩
theorem keyOk : KeyOk Tryz.prog 126 eKey :=
  key_struct Tryz.underlying126 (fun a => ⟨_, rfl⟩) (fun {a b} h => by
    obtain ⟨⟨a1, a2, a3⟩, a4⟩ := a
    obtain ⟨⟨b1, b2, b3⟩, b4⟩ := b
    simp [eKey, encKey] at h
    obtain ⟨h1, h2, h3, h4⟩ := h
    simp [h1, h2, h3, h4]) eqInKey key_check key_bits
end Go.Proofs.YtgllddebodfhkaaGreatDoor
namespace Go.Proofs.YtgllddebodfhkaaGreatDoor
open Go.RowKit Go.Sort Go.Proofs

abbrev StkV := List (KeyV × Nat)
/-- Block p is a stock whose map is block b and holds m. -/
def StkAt (w : World) (p b : Nat) (m : StkV) : Prop := w.heap[p]? = some (.cells #[.map (some b)] 124 (0, 0)) ∧ MapIs eKey eNat w b m
theorem StkAt.lt {w : World} {p b : Nat} {m : StkV} (h : StkAt w p b m) : p < w.heap.size ∧ b < w.heap.size := ⟨(Array.getElem?_eq_some_iff.1 h.1).1, h.2.lt⟩
theorem StkAt.ne {w : World} {p b : Nat} {m : StkV} (h : StkAt w p b m) : p ≠ b := by
  rintro rfl
  obtain ⟨h1, es, c, h2, _⟩ := h
  rw [h1] at h2
  cases h2
theorem StkAt.keep {w w' : World} {p b : Nat} {m : StkV} (h : StkAt w p b m) (hp : w'.heap[p]? = w.heap[p]?) (hb : w'.heap[b]? = w.heap[b]?) : StkAt w' p b m := ⟨hp.trans h.1, h.2.keep hb⟩
theorem StkAt.below {w w' : World} {p b : Nat} {m : StkV} (h : StkAt w p b m) (hb : Below w.heap.size w w') : StkAt w' p b m := h.keep (hb.block _ h.lt.1) (hb.block _ h.lt.2)
theorem StkAt.cell {w : World} {p b : Nat} {m : StkV} (h : StkAt w p b m) : w.cell? ⟨p, 0, none⟩ = some (.map (some b)) := cell_of_row _ _ _ _ _ _ h.1

/-- Pieces of a lot; at a place. -/
def ofM (m : StkV) (lot : List UInt8) : Nat := ((m.filter fun x => decide (x.1.2 = lot)).map (·.2)).sum
theorem ofM_nil (lot : List UInt8) : ofM [] lot = 0 := rfl
theorem ofM_cons (x : KeyV × Nat) (m : StkV) (lot : List UInt8) : ofM (x :: m) lot = (if x.1.2 = lot then x.2 else 0) + ofM m lot := by
  unfold ofM
  by_cases h : x.1.2 = lot
  · rw [List.filter_cons_of_pos (by simpa using h), if_pos h, List.map_cons, List.sum_cons]
  · rw [List.filter_cons_of_neg (by simpa using h), if_neg h, Nat.zero_add]
theorem ofM_app (a b : StkV) (lot : List UInt8) : ofM (a ++ b) lot = ofM a lot + ofM b lot := by
  unfold ofM
  rw [List.filter_append, List.map_append, List.sum_append]
theorem ofM_mid (a b : StkV) (x : KeyV × Nat) (lot : List UInt8) : ofM (a ++ x :: b) lot = (if x.1.2 = lot then x.2 else 0) + ofM (a ++ b) lot := by
  rw [ofM_app, ofM_cons, ofM_app]
  omega
def atM (m : StkV) (k : KeyV) : Nat := (mget m k).getD 0

theorem zeroNat (w : World) : (zeroValue 3).run Tryz.prog w = .ok (eNat 0) w := by kernel_rfl

set_option maxHeartbeats 400000 in
theorem newStock_any (w : World) : Calls Tryz.prog 78 #[] w fun e w' => e = .returned (.pointer (some ⟨w.heap.size + 1, 0, none⟩)) ∧ StkAt w' (w.heap.size + 1) w.heap.size [] ∧ Below w.heap.size w w' := by
  have hmm := @run_makeMap Tryz.prog
  go_enter Tryz.func78, Tryz.ntmps78
  go_wp2
  go_ret
  refine ⟨rfl, ⟨?_, ?_⟩, below_two _ _ _⟩
  · have := heap_alloc_new (w.alloc (.map #[] 0)) (.cells #[.map (some w.heap.size)] 124)
    simpa using this
  · exact (MapIs.made eKey eNat w).below (below_one _ _)

set_option maxHeartbeats 800000 in
set_option maxRecDepth 100000 in
theorem ofStock_any (p b : Nat) (m : StkV) (lot : List UInt8) (w : World) (h : StkAt w p b m) (hs : ofM m lot ≤ 4611686018427387904) :
    Calls Tryz.prog 22 #[.pointer (some ⟨p, 0, none⟩), .string ⟨lot.toArray⟩] w fun e w' => e = .returned (.int .i64 (ofM m lot : Nat)) ∧ Below w.heap.size w w' := by
  have c0 := h.cell
  have hM := h.2
  obtain ⟨T, hT⟩ : ∃ T, T = ofM m lot := ⟨_, rfl⟩
  have HT := Lib.hid hT
  rw [← hT] at hs ⊢
  clear hT h
  go_enter Tryz.func22, Tryz.ntmps22
  go_wp2_with (first | (at_range; refine wpList_range_map _ rfl _ 122 rfl _ _ Tryz.underlying122 b m rfl hM ?_; intro w0 hrg0 hb0 hs0) | go_in)
  go_frame
  go_loopw [5] (fun n wr => ∃ (left : StkV) (a : Nat), Ranging eKey eNat wr b w.heap.size m left ∧ n = .int .i64 (a : Nat) ∧ Hid (a + ofM left lot = T) ∧ Below w.heap.size w wr) (fun _ wr => wr.rangeLeft b w.heap.size)
  case atStart => exact ⟨m, 0, hrg0, rfl, (Nat.zero_add _).trans HT.out.symm, hb0⟩
  case round =>
    obtain ⟨left, a, hrg, rfl, HA, hb⟩ := hrel
    have HB := Lib.hid hb
    have HRG := Lib.hid hrg
    have hal : a ≤ T := by have := HA.out; omega
    clear hb
    go_wp2_with (first | (at_next; refine wpList_next_map _ rfl _ rfl b w.heap.size m left rfl hrg ?_ ?_) | go_in)
    · intro hl0
      have hfin := Lib.hid (show a = T by have := HA.out; rw [hl0, ofM_nil] at this; exact this)
      clear hl0
      go_wp2
      go_ret
      rw [hfin.out]
      exact ⟨rfl, HB.out⟩
    · intro l1 a1 a2 a3 a4 v l2 w1 hl hrg1 ht1 hen
      have HL := Lib.hid hl
      have HS := Lib.hid (ofM_mid l1 l2 (((a1, a2, a3), a4), v) lot)
      have B1 := Lib.hid (HB.out.trans (ht1.below (Nat.le_refl _)))
      have hlen := Lib.hid (show (l1 ++ l2).length < left.length by rw [hl]; simp)
      simp only [eKey, encKey, eNat] at hen
      clear hl ht1 hrg
      by_cases hk : a4 = lot
      · have hkb : (a4 == lot) = true := by simpa using hk
        have hsum : a + v + ofM (l1 ++ l2) lot = T := by
          have h1 := HA.out
          have h2 := HS.out
          rw [← HL.out, if_pos hk] at h2
          omega
        have hle : a + v ≤ T := by omega
        have HSM := Lib.hid hsum
        clear hsum hk
        go_wp2
        go_roundw
        case rel => exact ⟨l1 ++ l2, a + v, hrg1.below (below_one _ _), by go_num, HSM.out, B1.out.alloc B1.out.size _⟩
        case measure => rw [(hrg1.below (below_one _ _)).left_eq, HRG.out.left_eq]; exact hlen.out
      · have hkb : (a4 == lot) = false := by simpa using hk
        have hsum : a + ofM (l1 ++ l2) lot = T := by
          have h1 := HA.out
          have h2 := HS.out
          rw [← HL.out, if_neg hk] at h2
          omega
        have HSM := Lib.hid hsum
        clear hsum hk
        go_wp2
        go_roundw
        case rel => exact ⟨l1 ++ l2, a, hrg1.below (below_one _ _), rfl, HSM.out, B1.out.alloc B1.out.size _⟩
        case measure => rw [(hrg1.below (below_one _ _)).left_eq, HRG.out.left_eq]; exact hlen.out
end Go.Proofs.YtgllddebodfhkaaGreatDoor
namespace Go.Proofs.YtgllddebodfhkaaGreatDoor
open Go.RowKit Go.Sort Go.Proofs

theorem look_stk {w : World} {p b : Nat} {m : StkV} (h : StkAt w p b m) (pl : PlaceV) (lot : List UInt8) :
    (Instr.lookup 122 (.map (some b)) (.agg #[.string ⟨pl.1.toArray⟩, .int .i64 pl.2.1, .int .i64 pl.2.2, .string ⟨lot.toArray⟩]) false).run Tryz.prog w = .ok (.int .i64 (atM m (pl, lot) : Nat)) w := h.2.look keyOk Tryz.underlying122 (zeroNat _) (pl, lot) false
theorem look_stk2 {w : World} {p b : Nat} {m : StkV} (h : StkAt w p b m) (pl : PlaceV) (lot : List UInt8) :
    (Instr.lookup 122 (.map (some b)) (.agg #[.string ⟨pl.1.toArray⟩, .int .i64 pl.2.1, .int .i64 pl.2.2, .string ⟨lot.toArray⟩]) true).run Tryz.prog w = .ok (.tuple #[.int .i64 (atM m (pl, lot) : Nat), .bool (mget m (pl, lot)).isSome]) w := h.2.look keyOk Tryz.underlying122 (zeroNat _) (pl, lot) true

set_option maxHeartbeats 400000 in
theorem atStock_any (p b : Nat) (m : StkV) (pl : PlaceV) (lot : List UInt8) (w : World) (h : StkAt w p b m) :
    Calls Tryz.prog 39 #[.pointer (some ⟨p, 0, none⟩), .agg (encPlace pl).toArray, .string ⟨lot.toArray⟩] w fun e w' => e = .returned (.int .i64 (atM m (pl, lot) : Nat)) ∧ Below w.heap.size w w' := by
  have B := Lib.hid (below_one w (.cells (encPlace pl).toArray 40))
  have h1 := h.below B.out
  have hl := look_stk (w := (w.alloc (.cells (encPlace pl).toArray 40)).drew) (h1 : StkAt _ p b m) pl lot
  have c0 := h1.cell
  generalize atM m (pl, lot) = a at hl ⊢
  obtain ⟨a1, a2, a3⟩ := pl
  simp only [encPlace] at hl c0 B ⊢
  clear h h1
  go_enter Tryz.func39, Tryz.ntmps39
  go_wp2
  go_region
  all_goals
    go_wp2
    go_ret
    exact ⟨rfl, B.out.drew⟩

set_option maxHeartbeats 1600000 in
set_option maxRecDepth 100000 in
theorem cloneStk_any (b : Nat) (es : Array MapEntry) (clock : Nat) (w : World) (hb : w.heap[b]? = some (.map es clock)) :
    Calls Tryz.prog 95 #[.map (some b)] w fun e w' => e = .returned (.map (some w.heap.size)) ∧ w' = w.alloc (.map es clock) := by
  have hq := fun w => run_eql_map_nil_sl (P := Tryz.prog) w 122 _ _ (some b) Tryz.underlying122
  go_enter Tryz.func95, Tryz.ntmps95
  go_wp2
  rw [run_callFunc_extern Tryz.func94 (by kernel_rfl) (by kernel_rfl) (by kernel_rfl) (e := Extern.MapsClone.clone) (by kernel_rfl), run_maps_clone_sl w 122 hb]
  simp only [Result.andThen]
  rw [Oper.upon_value]
  go_wp2
  rw [run_typeAssert_map_sl _ 122 _ _ _ _ Tryz.underlying122]
  simp only [Result.andThen]
  rw [Oper.upon_value]
  go_wp2
  go_ret
  exact ⟨rfl, rfl⟩

set_option maxHeartbeats 400000 in
theorem copyStock_any (p b : Nat) (m : StkV) (w : World) (h : StkAt w p b m) :
    Calls Tryz.prog 58 #[.pointer (some ⟨p, 0, none⟩)] w fun e w' => ∃ q c, e = .returned (.pointer (some ⟨q, 0, none⟩)) ∧ w.heap.size ≤ q ∧ w.heap.size ≤ c ∧ StkAt w' q c m ∧ Below w.heap.size w w' := by
  have c0 := h.cell
  obtain ⟨-, es, clock, hb, hs, hm⟩ := h
  go_enter Tryz.func58, Tryz.ntmps58
  go_wp2_with fail
  refine (cloneStk_any b es clock w hb).mono ?_
  rintro e w1 ⟨rfl, rfl⟩
  have B1 := below_two w (.map es clock) (.cells #[.map (some w.heap.size)] 124)
  have hm1 : ((w.alloc (.map es clock)).alloc (.cells #[.map (some w.heap.size)] 124)).heap[w.heap.size]? = some (.map es clock) := ((below_one (w.alloc (.map es clock)) _).block _ (by simp)).trans (heap_alloc_new _ _)
  have hp1 := heap_alloc_new (w.alloc (.map es clock)) (.cells #[.map (some w.heap.size)] 124)
  go_wp2_with fail
  go_ret
  exact ⟨_, w.heap.size, rfl, by simp, Nat.le_refl _, ⟨by simpa using hp1, es, clock, hm1, hs, hm⟩, B1⟩
end Go.Proofs.YtgllddebodfhkaaGreatDoor
namespace Go.Proofs.YtgllddebodfhkaaGreatDoor
open Go.RowKit

theorem results_cell_row2 {P : Program} {fn : Func} {p u : Tmp} {ty : TypeId} (h : fn.results = #[.cell p ty, .tmp u]) (tmps : Array Value) (w : World) (g : Nat) (t : TypeId) (cs : Array Value) (fr : Nat × Nat) (d : TypeDesc)
    (hp : tmps.getD p undef = .pointer (some ⟨g, 0, none⟩)) (hg : w.heap[g]? = some (.cells cs t fr))
    (hu : P.underlying ty = some d) (hd : (match d with | .struct _ | .array _ _ => true | _ => false) = true) (hi : (P.info? ty).map (·.size) = some cs.size) :
    (results fn tmps).run P w = .ok (.tuple #[.agg cs, tmps.getD u undef]) w := by
  have hp' : tmps[p]?.getD undef = .pointer (some ⟨g, 0, none⟩) := by simpa using hp
  rw [results_cell_tmp h]
  simp [hp', asAddr, run_loadVar_row w g t ty cs fr d hg hu hd hi, Result.andThen]

theorem row_lt {w : World} {b : Nat} {o : Obj} (h : w.heap[b]? = some o) : b < w.heap.size := by
  rcases Nat.lt_or_ge b w.heap.size with hl | hl
  · exact hl
  · rw [Array.getElem?_eq_none hl] at h; cases h
/-- Cells stored one behind the other. -/
def puts (w : World) (g i : Nat) : List Value → World
  | [] => w
  | v :: r => puts (w.setCell ⟨g, i, none⟩ v) g (i + 1) r
theorem puts_rowAt {g : Nat} {t : TypeId} (vs : List Value) : ∀ (w : World) (pre rest : List Value), rest.length = vs.length → w.heap[g]? = some (.cells (pre ++ rest).toArray t (0, 0)) → (puts w g pre.length vs).heap[g]? = some (.cells (pre ++ vs).toArray t (0, 0)) := by
  induction vs with
  | nil => intro w pre rest hl h; rw [List.eq_nil_of_length_eq_zero hl] at h; exact h
  | cons v r ih =>
    intro w pre rest hl h
    match rest, hl with
    | x :: q, hl =>
      have h2 := heap_setCell_same w g pre.length _ _ v h
      have e : (pre ++ x :: q).toArray.setIfInBounds pre.length v = (pre ++ v :: q).toArray := by
        apply Array.ext'
        simp [List.set_append_right]
      rw [e] at h2
      have h3 := ih (w.setCell ⟨g, pre.length, none⟩ v) (pre ++ [v]) q (by simpa using hl) (by simpa using h2)
      rw [List.length_append, List.length_singleton] at h3
      simpa [puts] using h3
theorem puts_row {w : World} {g : Nat} {t : TypeId} {cs : Array Value} (vs : List Value) (h : w.heap[g]? = some (.cells cs t (0, 0))) (hl : cs.size = vs.length) : (puts w g 0 vs).heap[g]? = some (.cells vs.toArray t (0, 0)) := by
  have := puts_rowAt (g := g) (t := t) vs w [] cs.toList (by simpa using hl) (by simpa using h)
  simpa using this
theorem puts_below {B : Nat} {w0 : World} {g : Nat} (hg : B ≤ g) (vs : List Value) : ∀ (w : World) (i : Nat), Below B w0 w → Below B w0 (puts w g i vs) := by
  induction vs with
  | nil => intro w i h; exact h
  | cons v r ih => intro w i h; exact ih _ _ (h.setCell (p := ⟨g, i, none⟩) hg v)
end Go.Proofs.YtgllddebodfhkaaGreatDoor
