/- Stock in memory; New, Of, At, Copy. Stock: At, Copy. A result that lies in memory, beside one that doesn't; a struct stored cell by cell. Stock: Put. -/
import Derived.Shelf.SlMaps.Clone
import Derived.Laws.ResultCell
import Derived.Laws.Rows
import Derived.Test.YteaalifehokgoaaGreatDoorM01
import Derived.Test.YteaalifehokgoaaGreatDoorM04
namespace Go.Proofs.YteaalifehokgoaaGreatDoor
open Go.RowKit Go.Sort Go.Proofs
abbrev StkV := List (KeyV × Nat)
def StkAt (w : World) (p b : Nat) (m : StkV) : Prop := w.heap[p]? = some (.cells #[.map (some b)] 147 (0, 0)) ∧ MapIs eKey eNat w b m
theorem StkAt.lt {w : World} {p b : Nat} {m : StkV} (h : StkAt w p b m) : p < w.heap.size ∧ b < w.heap.size := ⟨(Array.getElem?_eq_some_iff.1 h.1).1, h.2.lt⟩
theorem StkAt.ne {w : World} {p b : Nat} {m : StkV} (h : StkAt w p b m) : p ≠ b := by
 rintro rfl
 obtain ⟨h1, es, c, h2, _⟩ := h
 rw [h1] at h2
 cases h2
theorem StkAt.keep {w w' : World} {p b : Nat} {m : StkV} (h : StkAt w p b m) (hp : w'.heap[p]? = w.heap[p]?) (hb : w'.heap[b]? = w.heap[b]?) : StkAt w' p b m := ⟨hp.trans h.1, h.2.keep hb⟩
theorem StkAt.below {w w' : World} {p b : Nat} {m : StkV} (h : StkAt w p b m) (hb : Below w.heap.size w w') : StkAt w' p b m := h.keep (hb.block _ h.lt.1) (hb.block _ h.lt.2)
theorem StkAt.cell {w : World} {p b : Nat} {m : StkV} (h : StkAt w p b m) : w.cell? ⟨p, 0, none⟩ = some (.map (some b)) := cell_of_row _ _ _ _ _ _ h.1
def ofM (m : StkV) (lot : List UInt8) : Nat := ((m.filter fun x => decide (x.1.2 = lot)).map (·.2)).sum
theorem ofM_nil (lot : List UInt8) : ofM [] lot = 0 := rfl
theorem ofM_cons (x : KeyV × Nat) (m : StkV) (lot : List UInt8) : ofM (x :: m) lot = (if x.1.2 = lot then x.2 else 0) + ofM m lot := by
 unfold ofM
 by_cases h : x.1.2 = lot
 ·rw [List.filter_cons_of_pos (by simpa using h), if_pos h, List.map_cons, List.sum_cons]
 ·rw [List.filter_cons_of_neg (by simpa using h), if_neg h, Nat.zero_add]
theorem ofM_app (a b : StkV) (lot : List UInt8) : ofM (a ++ b) lot = ofM a lot + ofM b lot := by
 unfold ofM
 rw [List.filter_append, List.map_append, List.sum_append]
theorem ofM_mid (a b : StkV) (x : KeyV × Nat) (lot : List UInt8) : ofM (a ++ x :: b) lot = (if x.1.2 = lot then x.2 else 0) + ofM (a ++ b) lot := by
 rw [ofM_app, ofM_cons, ofM_app]
 omega
def atM (m : StkV) (k : KeyV) : Nat := (mget m k).getD 0
theorem zeroNat (w : World) : (zeroValue 3).run Tryz.prog w = .ok (eNat 0) w := by kernel_rfl
set_option maxHeartbeats 400000 in
theorem newStock_any (w : World) : Calls Tryz.prog 67 #[] w fun e w' => e = .returned (.pointer (some ⟨w.heap.size + 1, 0, none⟩)) ∧ StkAt w' (w.heap.size + 1) w.heap.size [] ∧ Below w.heap.size w w' := by
 have hmm := @run_makeMap Tryz.prog
 go_enter Tryz.func67, Tryz.ntmps67
 go_wp2
 go_ret
 refine ⟨rfl, ⟨?_, ?_⟩, below_two _ _ _⟩
 ·have := heap_alloc_new (w.alloc (.map #[] 0)) (.cells #[.map (some w.heap.size)] 147)
  simpa using this
 ·exact (MapIs.made eKey eNat w).below (below_one _ _)
set_option maxHeartbeats 800000 in
set_option maxRecDepth 100000 in
theorem ofStock_any (p b : Nat) (m : StkV) (lot : List UInt8) (w : World) (h : StkAt w p b m) (hs : ofM m lot ≤ 4611686018427387904) :
  Calls Tryz.prog 98 #[.pointer (some ⟨p, 0, none⟩), .string ⟨lot.toArray⟩] w fun e w' => e = .returned (.int .i64 (ofM m lot : Nat)) ∧ Below w.heap.size w w' := by
 have c0 := h.cell
 have hM := h.2
 obtain ⟨T, hT⟩ : ∃ T, T = ofM m lot := ⟨_, rfl⟩
 have HT := Lib.hid hT
 rw [← hT] at hs ⊢
 clear hT h
 go_enter Tryz.func98, Tryz.ntmps98
 go_wp2_with (first | (at_range; refine wpList_range_map _ rfl _ 145 rfl _ _ Tryz.underlying145 b m rfl hM ?_; intro w0 hrg0 hb0 hs0) | go_in)
 go_frame
 go_loopw [5] (fun n wr => ∃ (left : StkV) (a : Nat), Ranging eKey eNat wr b w.heap.size m left ∧ n = .int .i64 (a : Nat) ∧ Hid (a + ofM left lot = T) ∧ Below w.heap.size w wr) (fun _ wr => wr.rangeLeft b w.heap.size)
 case atStart => exact ⟨m, 0, hrg0, rfl, (Nat.zero_add _).trans HT.out.symm, hb0⟩
 case round =>
  obtain ⟨left, a, hrg, rfl, HA, hb⟩ := hrel
  have HB := Lib.hid hb
  have HRG := Lib.hid hrg
  have hal : a ≤ T := by have := HA.out; omega
  clear hb
  go_wp2_with (first | (at_next; refine wpList_next_map _ rfl _ rfl b w.heap.size m left rfl hrg ?_ ?_) | go_in)
  ·intro hl0
   have hfin := Lib.hid (show a = T by have := HA.out; rw [hl0, ofM_nil] at this; exact this)
   clear hl0
   go_wp2
   go_ret
   rw [hfin.out]
   exact ⟨rfl, HB.out⟩
  ·intro l1 a1 a2 a3 a4 v l2 w1 hl hrg1 ht1 hen
   have HL := Lib.hid hl
   have HS := Lib.hid (ofM_mid l1 l2 (((a1, a2, a3), a4), v) lot)
   have B1 := Lib.hid (HB.out.trans (ht1.below (Nat.le_refl _)))
   have hlen := Lib.hid (show (l1 ++ l2).length < left.length by rw [hl]; simp)
   simp only [eKey, encKey, eNat] at hen
   clear hl ht1 hrg
   by_cases hk : a4 = lot
   ·have hkb : (a4 == lot) = true := by simpa using hk
    have hsum : a + v + ofM (l1 ++ l2) lot = T := by
     have h1 := HA.out
     have h2 := HS.out
     rw [← HL.out, if_pos hk] at h2
     omega
    have hle : a + v ≤ T := by omega
    have HSM := Lib.hid hsum
    clear hsum hk
    go_wp2
    go_roundw
    case rel => exact ⟨l1 ++ l2, a + v, hrg1.below (below_one _ _), by go_num, HSM.out, B1.out.alloc B1.out.size _⟩
    case measure => rw [(hrg1.below (below_one _ _)).left_eq, HRG.out.left_eq]; exact hlen.out
   ·have hkb : (a4 == lot) = false := by simpa using hk
    have hsum : a + ofM (l1 ++ l2) lot = T := by
     have h1 := HA.out
     have h2 := HS.out
     rw [← HL.out, if_neg hk] at h2
     omega
    have HSM := Lib.hid hsum
    clear hsum hk
    go_wp2
    go_roundw
    case rel => exact ⟨l1 ++ l2, a, hrg1.below (below_one _ _), rfl, HSM.out, B1.out.alloc B1.out.size _⟩
    case measure => rw [(hrg1.below (below_one _ _)).left_eq, HRG.out.left_eq]; exact hlen.out
end Go.Proofs.YteaalifehokgoaaGreatDoor
namespace Go.Proofs.YteaalifehokgoaaGreatDoor
open Go.RowKit Go.Sort Go.Proofs
theorem look_stk {w : World} {p b : Nat} {m : StkV} (h : StkAt w p b m) (pl : PlaceV) (lot : List UInt8) :
  (Instr.lookup 145 (.map (some b)) (.agg #[.string ⟨pl.1.toArray⟩, .int .i64 pl.2.1, .int .i64 pl.2.2, .string ⟨lot.toArray⟩]) false).run Tryz.prog w = .ok (.int .i64 (atM m (pl, lot) : Nat)) w := h.2.look keyOk Tryz.underlying145 (zeroNat _) (pl, lot) false
theorem look_stk2 {w : World} {p b : Nat} {m : StkV} (h : StkAt w p b m) (pl : PlaceV) (lot : List UInt8) :
  (Instr.lookup 145 (.map (some b)) (.agg #[.string ⟨pl.1.toArray⟩, .int .i64 pl.2.1, .int .i64 pl.2.2, .string ⟨lot.toArray⟩]) true).run Tryz.prog w = .ok (.tuple #[.int .i64 (atM m (pl, lot) : Nat), .bool (mget m (pl, lot)).isSome]) w := h.2.look keyOk Tryz.underlying145 (zeroNat _) (pl, lot) true
set_option maxHeartbeats 1600000 in
set_option maxRecDepth 100000 in
theorem cloneStk_any (b : Nat) (es : Array MapEntry) (clock : Nat) (w : World) (hb : w.heap[b]? = some (.map es clock)) :
  Calls Tryz.prog 131 #[.map (some b)] w fun e w' => e = .returned (.map (some w.heap.size)) ∧ w' = w.alloc (.map es clock) := by
 have hq := fun w => run_eql_map_nil_sl (P := Tryz.prog) w 145 _ _ (some b) Tryz.underlying145
 go_enter Tryz.func131, Tryz.ntmps131
 go_wp2
 rw [run_callFunc_extern Tryz.func161 (by kernel_rfl) (by kernel_rfl) (by kernel_rfl) (e := Extern.MapsClone.clone) (by kernel_rfl), run_maps_clone_sl w 145 hb]
 simp only [Result.andThen]
 rw [Oper.upon_value]
 go_wp2
 rw [run_typeAssert_map_sl _ 145 _ _ _ _ Tryz.underlying145]
 simp only [Result.andThen]
 rw [Oper.upon_value]
 go_wp2
 go_ret
 exact ⟨rfl, rfl⟩
set_option maxHeartbeats 400000 in
theorem copyStock_any (p b : Nat) (m : StkV) (w : World) (h : StkAt w p b m) :
  Calls Tryz.prog 80 #[.pointer (some ⟨p, 0, none⟩)] w fun e w' => ∃ q c, e = .returned (.pointer (some ⟨q, 0, none⟩)) ∧ w.heap.size ≤ q ∧ w.heap.size ≤ c ∧ StkAt w' q c m ∧ Below w.heap.size w w' := by
 have c0 := h.cell
 obtain ⟨-, es, clock, hb, hs, hm⟩ := h
 go_enter Tryz.func80, Tryz.ntmps80
 go_wp2_with fail
 refine (cloneStk_any b es clock w hb).mono ?_
 rintro e w1 ⟨rfl, rfl⟩
 have B1 := below_two w (.map es clock) (.cells #[.map (some w.heap.size)] 147)
 have hm1 : ((w.alloc (.map es clock)).alloc (.cells #[.map (some w.heap.size)] 147)).heap[w.heap.size]? = some (.map es clock) := ((below_one (w.alloc (.map es clock)) _).block _ (by simp)).trans (heap_alloc_new _ _)
 have hp1 := heap_alloc_new (w.alloc (.map es clock)) (.cells #[.map (some w.heap.size)] 147)
 go_wp2_with fail
 go_ret
 exact ⟨_, w.heap.size, rfl, by simp, Nat.le_refl _, ⟨by simpa using hp1, es, clock, hm1, hs, hm⟩, B1⟩
end Go.Proofs.YteaalifehokgoaaGreatDoor
namespace Go.Proofs.YteaalifehokgoaaGreatDoor
open Go.RowKit
theorem results_cell_row2 {P : Program} {fn : Func} {p u : Tmp} {ty : TypeId} (h : fn.results = #[.cell p ty, .tmp u]) (tmps : Array Value) (w : World) (g : Nat) (t : TypeId) (cs : Array Value) (fr : Nat × Nat) (d : TypeDesc)
  (hp : tmps.getD p undef = .pointer (some ⟨g, 0, none⟩)) (hg : w.heap[g]? = some (.cells cs t fr))
  (hu : P.underlying ty = some d) (hd : (match d with | .struct _ | .array _ _ => true | _ => false) = true) (hi : (P.info? ty).map (·.size) = some cs.size) :
  (results fn tmps).run P w = .ok (.tuple #[.agg cs, tmps.getD u undef]) w := by
 have hp' : tmps[p]?.getD undef = .pointer (some ⟨g, 0, none⟩) := by simpa using hp
 rw [results_cell_tmp h]
 simp [hp', asAddr, run_loadVar_row w g t ty cs fr d hg hu hd hi, Result.andThen]
theorem row_lt {w : World} {b : Nat} {o : Obj} (h : w.heap[b]? = some o) : b < w.heap.size := by
 rcases Nat.lt_or_ge b w.heap.size with hl | hl
 ·exact hl
 ·rw [Array.getElem?_eq_none hl] at h; cases h
def puts (w : World) (g i : Nat) : List Value → World
 |[] => w
 |v :: r => puts (w.setCell ⟨g, i, none⟩ v) g (i + 1) r
theorem puts_rowAt {g : Nat} {t : TypeId} (vs : List Value) : ∀ (w : World) (pre rest : List Value), rest.length = vs.length → w.heap[g]? = some (.cells (pre ++ rest).toArray t (0, 0)) → (puts w g pre.length vs).heap[g]? = some (.cells (pre ++ vs).toArray t (0, 0)) := by
 induction vs with
 |nil => intro w pre rest hl h; rw [List.eq_nil_of_length_eq_zero hl] at h; exact h
 |cons v r ih =>
  intro w pre rest hl h
  match rest, hl with
  |x :: q, hl =>
   have h2 := heap_setCell_same w g pre.length _ _ v h
   have e : (pre ++ x :: q).toArray.setIfInBounds pre.length v = (pre ++ v :: q).toArray := by
    apply Array.ext'
    simp [List.set_append_right]
   rw [e] at h2
   have h3 := ih (w.setCell ⟨g, pre.length, none⟩ v) (pre ++ [v]) q (by simpa using hl) (by simpa using h2)
   rw [List.length_append, List.length_singleton] at h3
   simpa [puts] using h3
theorem puts_row {w : World} {g : Nat} {t : TypeId} {cs : Array Value} (vs : List Value) (h : w.heap[g]? = some (.cells cs t (0, 0))) (hl : cs.size = vs.length) : (puts w g 0 vs).heap[g]? = some (.cells vs.toArray t (0, 0)) := by
 have := puts_rowAt (g := g) (t := t) vs w [] cs.toList (by simpa using hl) (by simpa using h)
 simpa using this
theorem puts_below {B : Nat} {w0 : World} {g : Nat} (hg : B ≤ g) (vs : List Value) : ∀ (w : World) (i : Nat), Below B w0 w → Below B w0 (puts w g i vs) := by
 induction vs with
 |nil => intro w i h; exact h
 |cons v r ih => intro w i h; exact ih _ _ (h.setCell (p := ⟨g, i, none⟩) hg v)
end Go.Proofs.YteaalifehokgoaaGreatDoor
namespace Go.Proofs.YteaalifehokgoaaGreatDoor
open Go.RowKit Go.Sort Go.Proofs
structure But (b : Nat) (w w' : World) : Prop where
 os : w'.os = w.os
 tape : w'.tape = w.tape
 output : w'.output = w.output
 size : w.heap.size ≤ w'.heap.size
 block : ∀ k, k < w.heap.size → k ≠ b → w'.heap[k]? = w.heap[k]?
theorem But.refl (b : Nat) (w : World) : But b w w := ⟨rfl, rfl, rfl, Nat.le_refl _, fun _ _ _ => rfl⟩
theorem But.of_below {b : Nat} {w w' : World} (h : Below w.heap.size w w') : But b w w' := ⟨h.os, h.tape, h.output, h.size, fun k hk _ => h.block k hk⟩
theorem But.of_turned {b : Nat} {w w' : World} (h : Turned b w w') : But b w w' := ⟨h.os, h.tape, h.output, Nat.le_of_eq h.size.symm, fun k _ hk => h.block k hk⟩
theorem But.trans {b : Nat} {w1 w2 w3 : World} (h : But b w1 w2) (k : But b w2 w3) : But b w1 w3 :=
 ⟨k.os.trans h.os, k.tape.trans h.tape, k.output.trans h.output, Nat.le_trans h.size k.size, fun i hi hb => (k.block i (Nat.lt_of_lt_of_le hi h.size) hb).trans (h.block i hi hb)⟩
theorem But.below {B b : Nat} {a w w' : World} (h : Below B a w) (k : But b w w') (hb : B ≤ b) (hB : B ≤ w.heap.size) : Below B a w' :=
 h.trans ⟨k.os, k.tape, k.output, k.size, fun i hi => k.block i (by omega) (by omega)⟩
theorem But.drew {b : Nat} {w w' : World} (h : But b w w') : But b w w'.drew := ⟨h.os, h.tape, h.output, h.size, h.block⟩
structure StkG (E : Nat → Addr) (w : World) : Prop where
 place : PlaceCG E w
 full : ErrAt 7 (E 8) w
 short : ErrAt 8 (E 9) w
 shape : ErrAt 2 (E 3) w
theorem StkG.below {E : Nat → Addr} {w w' : World} (h : StkG E w) (hb : Below w.heap.size w w') : StkG E w' := ⟨h.place.below hb, h.full.below hb, h.short.below hb, h.shape.below hb⟩
def putE (m : StkV) (pl : PlaceV) (lot : List UInt8) (n : Int) : Nat :=
 if placeE pl ≠ 0 then placeE pl else if nameB lot = false then 5 else if wiB n 1 1099511627776 = false then 2 else if 1099511627776 - (ofM m lot : Nat) < n then 2
 else if (mget m (pl, lot)).isSome = false ∧ 200 ≤ m.length then 8 else 0
def putM (m : StkV) (pl : PlaceV) (lot : List UInt8) (n : Int) : StkV := if putE m pl lot n = 0 then mput m (pl, lot) (atM m (pl, lot) + n.toNat) else m
theorem atM_le (m : StkV) (pl : PlaceV) (lot : List UInt8) : atM m (pl, lot) ≤ ofM m lot := by
 unfold atM
 induction m with
 |nil => simp [mget]
 |cons x r ih =>
  rw [ofM_cons]
  unfold mget
  by_cases h : x.1 = (pl, lot)
  ·rw [if_pos h, if_pos (by rw [h])]
   simp
  ·rw [if_neg h]
   omega
theorem wrap_small {x : Int} (h1 : -9223372036854775808 ≤ x) (h2 : x ≤ 9223372036854775807) : IntKind.i64.wrap x = x := by
 rw [IntKind.wrap_i64]
 omega
set_option maxHeartbeats 1600000 in
set_option maxRecDepth 100000 in
theorem putStock_any (E : Nat → Addr) (p b : Nat) (m : StkV) (pl : PlaceV) (lot : List UInt8) (n : Int) (w : World) (h : StkAt w p b m) (hs : ofM m lot ≤ 1099511627776) (hG : StkG E w) :
  Calls Tryz.prog 95 #[.pointer (some ⟨p, 0, none⟩), .agg (encPlace pl).toArray, .string ⟨lot.toArray⟩, .int .i64 n] w fun e w' => e = .returned (errOf E (putE m pl lot n)) ∧ StkAt w' p b (putM m pl lot n) ∧ But b w w' := by
 have HCK := Lib.hid (fun W h => checkPlace_c E pl W h)
 have HN := Lib.hid (fun W => name_wide lot W)
 have HWI := Lib.hid (within_any n 1 1099511627776)
 have HOF := Lib.hid (fun W (h : StkAt W p b m) => ofStock_any p b m lot W h (by omega))
 have HG := Lib.hid (fun W (h : Below w.heap.size w W) => hG.below h)
 have HS := Lib.hid (fun W (hb : Below w.heap.size w W) => h.below hb)
 have hle := atM_le m pl lot
 obtain ⟨r, hr⟩ : ∃ r, r = putE m pl lot n := ⟨_, rfl⟩
 obtain ⟨m', hm'⟩ : ∃ m', m' = putM m pl lot n := ⟨_, rfl⟩
 rw [← hr, ← hm']
 have HR := Lib.hid (show r = if placeE pl ≠ 0 then placeE pl else if nameB lot = false then 5 else if wiB n 1 1099511627776 = false then 2 else if 1099511627776 - (ofM m lot : Nat) < n then 2 else if (mget m (pl, lot)).isSome = false ∧ 200 ≤ m.length then 8 else 0 from hr)
 have HM := Lib.hid (show m' = if r = 0 then mput m (pl, lot) (atM m (pl, lot) + n.toNat) else m by rw [hm', hr]; rfl)
 have HE := Lib.hid (fun W (h : MapIs eKey eNat W b m) => h.entry keyOk Tryz.underlying145 zeroNat (pl, lot))
 have HL := Lib.hid (fun W (h : StkAt W p b m) => look_stk h pl lot)
 have HL2 := Lib.hid (fun W (h : StkAt W p b m) => look_stk2 h pl lot)
 have hlb := h.lt
 have hpb := h.ne
 have b0 := Lib.hid (below_one w (.cells (encPlace pl).toArray 41))
 clear hr hm' h hG
 rw [show (mget m (pl, lot)).getD 0 = atM m (pl, lot) from rfl] at HE
 generalize placeE pl = pe at HCK HR
 generalize atM m (pl, lot) = a at hle HM HE HL HL2
 generalize (mget m (pl, lot)).isSome = is at HR HL2
 generalize nameB lot = nm at HN HR
 generalize ofM m lot = o at HOF HR hs hle
 generalize hwi : wiB n 1 1099511627776 = wi at HWI HR
 obtain ⟨a1, a2, a3⟩ := pl
 simp only [encPlace, eKey, encKey] at HCK HE HL HL2 b0 ⊢
 go_enter Tryz.func95, Tryz.ntmps95
 go_wp2_with fail
 refine (HCK.out _ (HG.out _ b0.out).place).mono ?_
 rintro e w2 ⟨rfl, b2⟩
 have B2 := Lib.hid (b0.out.trans (b2.mono b0.out.size))
 have c0 : w2.cell? ⟨w.heap.size, 0, none⟩ = some (.string ⟨a1.toArray⟩) := (b2.cell (p := ⟨_, _, none⟩) (by simp)).trans (cell_of_row _ _ _ _ _ _ (heap_alloc_new _ _))
 have c1 : w2.cell? ⟨w.heap.size, 1, none⟩ = some (.int .i64 a2) := (b2.cell (p := ⟨_, _, none⟩) (by simp)).trans (cell_of_row _ _ _ _ _ _ (heap_alloc_new _ _))
 have c2 : w2.cell? ⟨w.heap.size, 2, none⟩ = some (.int .i64 a3) := (b2.cell (p := ⟨_, _, none⟩) (by simp)).trans (cell_of_row _ _ _ _ _ _ (heap_alloc_new _ _))
 clear b2 HCK
 by_cases hpe : pe = 0
 ·subst hpe
  rw [errOf_zero]
  have bo := below_one w2 (.cells #[.string ⟨a1.toArray⟩, .int .i64 a2, .int .i64 a3, .string ⟨lot.toArray⟩] 149)
  have B3 := Lib.hid (B2.out.trans (bo.mono B2.out.size))
  have hS3 := HS.out _ B3.out.drew
  have hl3 := HL2.out _ hS3
  have cp := hS3.cell
  have hk3 : (w2.alloc (.cells #[.string ⟨a1.toArray⟩, .int .i64 a2, .int .i64 a3, .string ⟨lot.toArray⟩] 149)).drew.heap[w2.heap.size]? = some (.cells #[.string ⟨a1.toArray⟩, .int .i64 a2, .int .i64 a3, .string ⟨lot.toArray⟩] 149 (0, 0)) := heap_alloc_new _ _
  have hKw : w.heap.size ≤ w2.heap.size := B2.out.size
  have B3 := Lib.hid B3.out.drew
  clear bo hS3
  go_wp2_with fail
  go_region
  all_goals
   clear hl3 cp c0 c1 c2
   go_wp2_with fail
   generalize (w2.alloc (.cells #[.string ⟨a1.toArray⟩, .int .i64 a2, .int .i64 a3, .string ⟨lot.toArray⟩] 149)).drew = W3 at hk3 B3 ⊢
   obtain ⟨kb, hkb⟩ : ∃ kb, kb = w2.heap.size := ⟨_, rfl⟩
   rw [← hkb] at hk3 hKw ⊢
   clear hkb
   refine (HN.out W3).mono ?_
   rintro e w4 ⟨rfl, b4⟩
   have B4 := Lib.hid (B3.out.trans (b4.mono B3.out.size))
   have hk4 := (b4.block kb (row_lt hk3)).trans hk3
   clear b4 hk3 HN B3
   cases nm with
   |false =>
    have HR0 := Lib.hid (show r = 5 from HR.out.trans (by rw [if_neg (by simp), if_pos rfl]))
    have HM0 := Lib.hid (HM.out.trans (if_neg (by rw [HR0.out]; decide)))
    have hn4 := (HG.out _ B4.out).place.name
    unfold ErrAt at hn4
    go_wp2_with fail
    go_ret
    rw [HR0.out, HM0.out]
    exact ⟨rfl, HS.out _ B4.out, But.of_below B4.out⟩
   |true =>
    go_wp2_with fail
    refine (HWI.out w4).mono ?_
    rintro e w5 ⟨rfl, rfl⟩
    have hb4 := (HG.out _ B4.out).place.bound
    unfold ErrAt at hb4
    cases wi with
    |false =>
     have HR0 := Lib.hid (show r = 2 from HR.out.trans (by rw [if_neg (by simp), if_neg (by simp), if_pos rfl]))
     have HM0 := Lib.hid (HM.out.trans (if_neg (by rw [HR0.out]; decide)))
     go_wp2_with fail
     go_ret
     rw [HR0.out, HM0.out]
     exact ⟨rfl, HS.out _ B4.out, But.of_below B4.out⟩
    |true =>
     unfold wiB at hwi
     simp only [decide_eq_true_eq] at hwi
     obtain ⟨hn1, hn2⟩ := hwi
     go_wp2_with fail
     refine (HOF.out w4 (HS.out _ B4.out)).mono ?_
     rintro e w5 ⟨rfl, b5⟩
     have B5 := Lib.hid (B4.out.trans (b5.mono B4.out.size))
     have hk5 := (b5.block kb (row_lt hk4)).trans hk4
     have hb5 := (b5.cell (p := ⟨_, _, none⟩) (lt_of_cell hb4)).trans hb4
     clear b5 hk4 hb4 B4 HOF
     by_cases ho : 1099511627776 - (o : Int) < n
     ·have HR0 := Lib.hid (show r = 2 from HR.out.trans (by rw [if_neg (by simp), if_neg (by simp), if_neg (by simp), if_pos ho]))
      have HM0 := Lib.hid (HM.out.trans (if_neg (by rw [HR0.out]; decide)))
      go_wp2_with fail
      go_ret
      rw [HR0.out, HM0.out]
      exact ⟨rfl, HS.out _ B5.out, But.of_below B5.out⟩
     ·have hS5 := HS.out _ B5.out
      have hM5 := hS5.2
      have cp5 := hS5.cell
      have hf5 := (HG.out _ B5.out).full
      unfold ErrAt at hf5
      cases is with
      |true =>
       have HR0 := Lib.hid (show r = 0 from HR.out.trans (by rw [if_neg (by simp), if_neg (by simp), if_neg (by simp), if_neg ho, if_neg (by simp)]))
       go_wp2_with fail
       have hw : IntKind.i64.wrap ((a : Int) + n) = (a : Int) + n := wrap_small (by omega) (by omega)
       obtain ⟨v1, s, hE, hT1, hL1, hS⟩ := HE.out w5.drew hM5
       obtain ⟨v2, hS2, hM2, hT2⟩ := hS (a + n.toNat)
       have hv : (((a + n.toNat : Nat) : Int)) = (a : Int) + n := by omega
       simp only [eNat] at hE hL1 hS2
       rw [hv] at hS2
       have hLL := hL1 false
       simp only [Bool.false_eq_true, if_false] at hLL
       have hl5 := HL.out w5.drew hS5
       have hkne : kb ≠ b := by have := B2.out.size; omega
       have q0 : w5.cell? ⟨kb, 0, none⟩ = some (.string ⟨a1.toArray⟩) := cell_of_row _ _ _ _ _ _ hk5
       have q1 : w5.cell? ⟨kb, 1, none⟩ = some (.int .i64 a2) := cell_of_row _ _ _ _ _ _ hk5
       have q2 : w5.cell? ⟨kb, 2, none⟩ = some (.int .i64 a3) := cell_of_row _ _ _ _ _ _ hk5
       have q3 : w5.cell? ⟨kb, 3, none⟩ = some (.string ⟨lot.toArray⟩) := cell_of_row _ _ _ _ _ _ hk5
       have z0 : v1.cell? ⟨kb, 0, none⟩ = _ := hT1.cell (w := w5.drew) q0 hkne
       have z1 : v1.cell? ⟨kb, 1, none⟩ = _ := hT1.cell (w := w5.drew) q1 hkne
       have z2 : v1.cell? ⟨kb, 2, none⟩ = _ := hT1.cell (w := w5.drew) q2 hkne
       have z3 : v1.cell? ⟨kb, 3, none⟩ = _ := hT1.cell (w := w5.drew) q3 hkne
       have zp : v1.cell? ⟨p, 0, none⟩ = _ := hT1.cell (w := w5.drew) cp5 hpb
       have HM0 := Lib.hid (HM.out.trans (if_pos HR0.out))
       have HT2 := Lib.hid hT2
       have HM2 := Lib.hid hM2
       have HP5 := Lib.hid hS5.1
       clear hS hT2 hM2 hS5 hM5 hL1 hk5 hT1
       go_region
       all_goals
        go_wp2_with fail
        go_ret
        rw [HR0.out, HM0.out]
        exact ⟨rfl, ⟨HT2.out.heap HP5.out hpb, HM2.out⟩, (But.of_below B5.out).drew.trans (But.of_turned HT2.out)⟩
      |false =>
       have hlen := fun ty => hM5.len (ty := ty) Tryz.underlying145
       by_cases hfl : 200 ≤ m.length
       ·have HR0 := Lib.hid (show r = 8 from HR.out.trans (by rw [if_neg (by simp), if_neg (by simp), if_neg (by simp), if_neg ho, if_pos ⟨rfl, hfl⟩]))
        have HM0 := Lib.hid (HM.out.trans (if_neg (by rw [HR0.out]; decide)))
        go_wp2_with fail
        go_ret
        rw [HR0.out, HM0.out]
        exact ⟨rfl, HS.out _ B5.out, But.of_below B5.out⟩
       ·have HR0 := Lib.hid (show r = 0 from HR.out.trans (by rw [if_neg (by simp), if_neg (by simp), if_neg (by simp), if_neg ho, if_neg (fun h => hfl h.2)]))
        go_wp2_with fail
        clear hlen
        have hw : IntKind.i64.wrap ((a : Int) + n) = (a : Int) + n := wrap_small (by omega) (by omega)
        obtain ⟨v1, s, hE, hT1, hL1, hS⟩ := HE.out w5.drew hM5
        obtain ⟨v2, hS2, hM2, hT2⟩ := hS (a + n.toNat)
        have hv : (((a + n.toNat : Nat) : Int)) = (a : Int) + n := by omega
        simp only [eNat] at hE hL1 hS2
        rw [hv] at hS2
        have hLL := hL1 false
        simp only [Bool.false_eq_true, if_false] at hLL
        have hl5 := HL.out w5.drew hS5
        have hkne : kb ≠ b := by have := B2.out.size; omega
        have q0 : w5.cell? ⟨kb, 0, none⟩ = some (.string ⟨a1.toArray⟩) := cell_of_row _ _ _ _ _ _ hk5
        have q1 : w5.cell? ⟨kb, 1, none⟩ = some (.int .i64 a2) := cell_of_row _ _ _ _ _ _ hk5
        have q2 : w5.cell? ⟨kb, 2, none⟩ = some (.int .i64 a3) := cell_of_row _ _ _ _ _ _ hk5
        have q3 : w5.cell? ⟨kb, 3, none⟩ = some (.string ⟨lot.toArray⟩) := cell_of_row _ _ _ _ _ _ hk5
        have z0 : v1.cell? ⟨kb, 0, none⟩ = _ := hT1.cell (w := w5.drew) q0 hkne
        have z1 : v1.cell? ⟨kb, 1, none⟩ = _ := hT1.cell (w := w5.drew) q1 hkne
        have z2 : v1.cell? ⟨kb, 2, none⟩ = _ := hT1.cell (w := w5.drew) q2 hkne
        have z3 : v1.cell? ⟨kb, 3, none⟩ = _ := hT1.cell (w := w5.drew) q3 hkne
        have zp : v1.cell? ⟨p, 0, none⟩ = _ := hT1.cell (w := w5.drew) cp5 hpb
        have HM0 := Lib.hid (HM.out.trans (if_pos HR0.out))
        have HT2 := Lib.hid hT2
        have HM2 := Lib.hid hM2
        have HP5 := Lib.hid hS5.1
        clear hS hT2 hM2 hS5 hM5 hL1 hk5 hT1
        go_region
        all_goals
         go_wp2_with fail
         go_ret
         rw [HR0.out, HM0.out]
         exact ⟨rfl, ⟨HT2.out.heap HP5.out hpb, HM2.out⟩, (But.of_below B5.out).drew.trans (But.of_turned HT2.out)⟩
 ·rw [errOf_pos _ _ hpe]
  have HR0 := Lib.hid (HR.out.trans (if_pos hpe))
  have HM0 := Lib.hid (HM.out.trans (if_neg (by rw [HR0.out]; exact hpe)))
  go_wp2_with fail
  go_ret
  rw [HR0.out, HM0.out, errOf_pos _ _ hpe]
  exact ⟨rfl, HS.out _ B2.out, But.of_below B2.out⟩
end Go.Proofs.YteaalifehokgoaaGreatDoor
