/- Counts: a line of a sheet. Counts: Check. maps.Clone at the book's maps. Printed by gen/bkclone.py. A stock of the document: Text. -/
import Derived.Deep.CutBlock
import Derived.Shelf.SlMaps.Clone
import Derived.Test.YtchiojiicehpeaaGreatDoorM11
import Derived.Test.YtchiojiicehpeaaGreatDoorM21
import Derived.Test.YtchiojiicehpeaaGreatDoorM23
namespace Go.Proofs.YtchiojiicehpeaaGreatDoor
open Go.RowKit Go.Sort Go.Proofs
theorem fndI_any (l : List LineV) (p : PlaceV) (lot : List UInt8) : (fndI l p lot = -1 ∧ l.any (isAt p lot) = false) ∨ ∃ i : Nat, fndI l p lot = i ∧ l.any (isAt p lot) = true := by
 unfold fndI
 cases hf : l.findIdx? (isAt p lot) with
 |none =>
  refine .inl ⟨rfl, ?_⟩
  rw [List.findIdx?_eq_none_iff] at hf
  exact List.any_eq_false.2 fun x hx => by simpa using hf x hx
 |some i =>
  obtain ⟨h1, h2, -⟩ := List.findIdx?_eq_some_iff_getElem.1 hf
  exact .inr ⟨i, rfl, List.any_eq_true.2 ⟨_, List.getElem_mem h1, h2⟩⟩
set_option maxHeartbeats 800000 in
set_option maxRecDepth 100000 in
theorem containsLine_any (A : Option Addr) (cap : Nat) (l : List LineV) (x : LineV) (b : Nat) (w : World) (hrow : RowAt encLine 5 w A l) (hl : l.length ≤ 100000) (hb : w.heap[b]? = some (.cells (encLine x).toArray 60 (0, 0))) :
  Calls Tryz.prog 121 #[.slice A l.length cap, .func (.func 182) #[] #[.pointer (some ⟨b, 0, none⟩)]] w fun e w' => e = .returned (.bool (l.any (isAt x.1 x.2.1))) ∧ Below w.heap.size w w' := by
 have HX := Lib.hid (idxLine_any A cap l x b w hrow hl hb)
 have HA := Lib.hid (fndI_any l x.1 x.2.1)
 generalize l.any (isAt x.1 x.2.1) = r at HA ⊢
 generalize fndI l x.1 x.2.1 = fi at HA HX
 clear hrow hb
 go_enter Tryz.func121, Tryz.ntmps121
 go_wp2_with fail
 refine HX.out.mono ?_
 rintro e w1 ⟨rfl, b1⟩
 have B1 := Lib.hid b1
 rcases HA.out with ⟨rfl, rfl⟩ | ⟨i, rfl, rfl⟩
 ·clear b1 HX HA
  go_wp2_with fail
  go_ret
  exact ⟨rfl, B1.out⟩
 ·have hp : (0 : Int) ≤ (i : Nat) := by omega
  clear b1 HX HA
  go_wp2_with fail
  go_ret
  exact ⟨by simp, B1.out⟩
set_option maxHeartbeats 1600000 in
set_option maxRecDepth 100000 in
theorem cntLine_any (E : Nat → Addr) (A : Option Addr) (cap : Nat) (l : List LineV) (i : Nat) (hi : i < l.length) (w : World) (hrow : RowAt encLine 5 w A l) (hl : l.length ≤ 100000) (hcap : l.length ≤ cap) (hG : BkG E w) :
  Calls Tryz.prog 120 #[.slice A l.length cap, .int .i64 (i : Nat)] w fun e w' => e = .returned (errOf E (lineE (l.take i) l[i])) ∧ Below w.heap.size w w' := by
 obtain ⟨x, hx⟩ : ∃ x, x = l[i] := ⟨_, rfl⟩
 obtain ⟨r, hr⟩ : ∃ r, r = lineE (l.take i) l[i] := ⟨_, rfl⟩
 rw [← hr]
 rw [← hx] at hr
 unfold lineE at hr
 have HRR := Lib.hid hr
 have hmf : ∀ (fn : Fn) (first cap : Array Value) (w : World), (Instr.makeFunc fn first cap).run Tryz.prog w = .ok (.func fn first cap) w := fun _ _ _ _ => rfl
 obtain ⟨g, o, rfl, lg, cg⟩ := hrow.resolve_left (fun h => by rw [h] at hi; simp at hi)
 have hlies : Lies w g (o + i * 5) (encLine x) := fun j v hv => cg i hi j v (by rw [← hx]; exact hv)
 have hpre : RowAt encLine 5 w (some ⟨g, o, none⟩) (l.take i) := by
  refine .inr ⟨g, o, rfl, lg, fun j hj c v hv => ?_⟩
  rw [List.getElem_take] at hv
  exact cg j (by rw [List.length_take] at hj; omega) c v hv
 have HPRE := Lib.hid (fun W (h : Below w.heap.size w W) => hpre.below h)
 have htl : (l.take i).length = i := by rw [List.length_take]; omega
 have HCF := Lib.hid (fun b W (h1 : RowAt encLine 5 W (some ⟨g, o, none⟩) (l.take i)) h2 => containsLine_any (some ⟨g, o, none⟩) cap (l.take i) x b W h1 (by rw [htl]; omega) h2)
 rw [htl] at HCF
 have HG := Lib.hid (fun W (h : Below w.heap.size w W) => hG.below h)
 have HCK := Lib.hid (fun W h => checkPlace_c E x.1 W h)
 have HNM := Lib.hid (fun W => name_wide x.2.1 W)
 have HWI := Lib.hid (within_any x.2.2 0 1099511627776)
 have HL := Lib.hid hlies
 have h5 : (encLine x).length = 5 := rfl
 have h51 := Lib.hid (show ∀ v ∈ encLine x, v.oneCell' = true from encLine_one x)
 have b0 := Lib.hid (below_one w (.cells #[.string ⟨#[]⟩, .int .i64 0, .int .i64 0, .string ⟨#[]⟩, .int .i64 0] 60))
 have hxp : (encPlace x.1).length = 3 := rfl
 have HLP := Lib.hid (fun (W : World) (b : Nat) (h : Lies W b 0 (encLine x)) => (show Lies W b 0 (encPlace x.1) from fun j v hv => h j v (by
  have hj : j < 3 := (List.getElem?_eq_some_iff.1 hv).1
  match j, hj, hv with | 0, _, hv => exact hv | 1, _, hv => exact hv | 2, _, hv => exact hv)))
 have hc3 : (encLine x)[3]? = some (.string ⟨x.2.1.toArray⟩) := rfl
 have hc4 : (encLine x)[4]? = some (.int .i64 x.2.2) := rfl
 have hi0 : (0 : Int) ≤ (i : Nat) := by omega
 have hi1 : ((i : Nat) : Int) < (l.length : Nat) := by omega
 have hi2 : ((i : Nat) : Int) ≤ (cap : Nat) := by omega
 clear hr hx hG hrow hlies hpre htl cg
 generalize (l.take i).any (isAt x.1 x.2.1) = ca at HCF HRR
 generalize placeE x.1 = pe at HCK HRR
 generalize nameB x.2.1 = nm at HNM HRR
 generalize wiB x.2.2 0 1099511627776 = wi at HWI HRR
 generalize l.take i = T at HCF HPRE
 generalize l.length = N at *
 generalize encPlace x.1 = LP at *
 generalize encLine x = LX at *
 generalize x.2.1 = xl at *
 generalize x.2.2 = xn at *
 go_enter Tryz.func120, Tryz.ntmps120
 go_upto_region 2 with (first | (refine wpList_load_at rfl 60 _ rfl g (o + i * 5) rfl LX HL.out _ Tryz.underlying60 rfl (by rw [h5]; kernel_rfl) ?_) | (refine wpList_store_box rfl 60 _ _ rfl w.heap.size LX rfl rfl _ [.string ⟨#[]⟩, .int .i64 0, .int .i64 0, .string ⟨#[]⟩, .int .i64 0] (heap_alloc_new w _) (by rw [h5]; kernel_rfl) (by rw [h5]; rfl) h51.out ?_; intro w1 h1 tu1))
 have bb1 := b0.out.trans (tu1.below (Nat.le_refl _))
 have B1 := Lib.hid bb1
 have hz1 := row_lt h1
 clear bb1 tu1 b0
 go_wp2_with (refine wpList_load_at rfl 58 _ rfl w.heap.size 0 rfl LP (HLP.out w1 _ (Lies.row _ h1)) _ Tryz.underlying58 rfl (by rw [hxp]; kernel_rfl) ?_)
 refine (HCK.out w1 (HG.out _ B1.out).stk.place).mono ?_
 rintro e w2 ⟨rfl, b2⟩
 have B2 := Lib.hid (B1.out.trans (b2.mono B1.out.size))
 have h2 := (b2.block _ hz1).trans h1
 have e3 : w2.cell? ⟨w.heap.size, 3, none⟩ = some (.string ⟨xl.toArray⟩) := (cell_of_row _ _ _ _ _ _ h2).trans (by simpa using hc3)
 clear b2 h1 B1 HCK
 by_cases hpe : ¬ pe = 0
 ·have HT := Lib.hid (HRR.out.trans (if_pos hpe))
  rw [errOf_pos _ _ hpe]
  have HPE := Lib.hid hpe
  clear hpe
  go_wp2_with fail
  go_ret
  rw [HT.out, errOf_pos _ _ HPE.out]
  exact ⟨rfl, B2.out⟩
 have hpe := Classical.not_not.1 hpe
 have HR1 := Lib.hid (HRR.out.trans (if_neg (fun e => e hpe)))
 rw [hpe, errOf_zero]
 clear hpe HRR
 go_wp2_with fail
 refine (HNM.out w2).mono ?_
 rintro e w3 ⟨rfl, b3⟩
 have B3 := Lib.hid (B2.out.trans (b3.mono B2.out.size))
 have h3 := (b3.block _ (row_lt h2)).trans h2
 have e4 : w3.cell? ⟨w.heap.size, 4, none⟩ = some (.int .i64 xn) := (cell_of_row _ _ _ _ _ _ h3).trans (by simpa using hc4)
 clear b3 h2 e3 B2 HNM
 cases nm with
 |false =>
  have HT := Lib.hid (show r = 5 from HR1.out.trans (if_pos rfl))
  have her := (HG.out _ B3.out).stk.place.name
  unfold ErrAt at her
  go_wp2_with fail
  go_ret
  rw [HT.out]
  exact ⟨rfl, B3.out⟩
 |true =>
  have HR2 := Lib.hid (HR1.out.trans (if_neg (by simp)))
  clear HR1
  go_wp2_with fail
  refine (HWI.out w3).mono ?_
  rintro e w4 ⟨rfl, rfl⟩
  cases wi with
  |false =>
   have HT := Lib.hid (show r = 2 from HR2.out.trans (if_pos rfl))
   have her := (HG.out _ B3.out).stk.place.bound
   unfold ErrAt at her
   go_wp2_with fail
   go_ret
   rw [HT.out]
   exact ⟨rfl, B3.out⟩
  |true =>
   have HR3 := Lib.hid (HR2.out.trans (if_neg (by simp)))
   clear HR2 e4
   go_wp2_with fail
   refine (HCF.out w.heap.size w3 (HPRE.out _ B3.out) h3).mono ?_
   rintro e w5 ⟨rfl, b5⟩
   have B5 := Lib.hid (B3.out.trans (b5.mono B3.out.size))
   clear b5 h3 B3 HCF
   cases ca with
   |true =>
    have HT := Lib.hid (show r = 7 from HR3.out.trans (if_pos rfl))
    have her := (HG.out _ B5.out).exist
    unfold ErrAt at her
    go_wp2_with fail
    go_ret
    rw [HT.out]
    exact ⟨rfl, B5.out⟩
   |false =>
    have HT := Lib.hid (show r = 0 from HR3.out.trans (if_neg (by simp)))
    go_wp2_with fail
    go_ret
    rw [HT.out]
    exact ⟨rfl, B5.out⟩
end Go.Proofs.YtchiojiicehpeaaGreatDoor
namespace Go.Proofs.YtchiojiicehpeaaGreatDoor
open Go.RowKit Go.Sort Go.Proofs
theorem sheet_step (l : List LineV) (k : Nat) (h : k < l.length) : sheetF (l.take k) (l.drop k) = if lineE (l.take k) l[k] ≠ 0 then some (lineE (l.take k) l[k], k) else sheetF (l.take (k + 1)) (l.drop (k + 1)) := by
 rw [List.drop_eq_getElem_cons h, List.take_succ_eq_append_getElem h]
 conv => lhs; unfold sheetF
 rw [List.length_take, Nat.min_eq_left (by omega)]
def FltAt (E : Nat → Addr) (f : Option (Nat × Nat)) (v : Value) (w : World) : Prop :=
 match f with
 |none => v = .nilIface
 |some (k, i) => k ≠ 0 ∧ ∃ b, v = .iface 178 (.pointer (some ⟨b, 0, none⟩)) ∧ w.heap[b]? = some (.cells #[.int .i64 (i : Nat), errOf E k] 182 (0, 0))
set_option maxHeartbeats 1600000 in
set_option maxRecDepth 100000 in
theorem cntCheck_any (E : Nat → Addr) (A : Option Addr) (cap : Nat) (l : List LineV) (w : World) (hrow : RowAt encLine 5 w A l) (hl : l.length ≤ 100000) (hcap : l.length ≤ cap) (hG : BkG E w) :
  Calls Tryz.prog 54 #[.slice A l.length cap] w fun e w' => ∃ v, e = .returned v ∧ FltAt E (sheetF [] l) v w' ∧ Below w.heap.size w w' := by
 have HR := Lib.hid (fun W (h : Below w.heap.size w W) => hrow.below h)
 have HG := Lib.hid (fun W (h : Below w.heap.size w W) => hG.below h)
 have HST := Lib.hid (sheet_step l)
 obtain ⟨r, hr⟩ : ∃ r, r = sheetF [] l := ⟨_, rfl⟩
 have HR0 := Lib.hid hr
 rw [← hr]
 obtain ⟨N, hN⟩ : ∃ N, N = l.length := ⟨_, rfl⟩
 have HN := Lib.hid hN
 have HCL : Hid (∀ k (hk : k < l.length) W, RowAt encLine 5 W A l → BkG E W → Calls Tryz.prog 120 #[.slice A N cap, .int .i64 (k : Nat)] W fun e w' => e = .returned (errOf E (lineE (l.take k) l[k])) ∧ Below W.heap.size W w') := fun k hk W h1 g => by
  rw [hN]
  exact cntLine_any E A cap l k hk W h1 hl hcap g
 rw [← hN] at hl ⊢
 clear hr hrow hG hcap hN
 go_enter Tryz.func54, Tryz.ntmps54
 go_wp2_with fail
 go_loopw [7] (fun i wr => ∃ k : Nat, k ≤ N ∧ i = .int .i64 k ∧ Hid (r = sheetF (l.take k) (l.drop k)) ∧ Hid (Below w.heap.size w wr)) (fun i _ => N - (intOf i).toNat)
 case atStart => exact ⟨0, by omega, rfl, by show _ = _; rw [HR0.out]; rfl, Below.refl _ _⟩
 case round =>
  obtain ⟨k, hk, rfl, HS, HB⟩ := hrel
  by_cases hkN : k < N
  ·have hkx : k < l.length := by rw [← HN.out]; exact hkN
   have HS1 := Lib.hid (HS.out.trans (HST.out k hkx))
   have HC1 := Lib.hid (HCL.out k hkx wr (HR.out _ HB.out) (HG.out _ HB.out))
   obtain ⟨le, hle⟩ : ∃ le, le = lineE (l.take k) l[k] := ⟨_, rfl⟩
   rw [← hle] at HS1 HC1
   clear hle
   go_wp2_with fail
   refine HC1.out.mono ?_
   rintro e w1 ⟨rfl, b1⟩
   have B1 := Lib.hid (HB.out.trans (b1.mono HB.out.size))
   clear b1 HC1
   by_cases h0 : le = 0
   ·have HS2 : Hid (r = sheetF (l.take (k + 1)) (l.drop (k + 1))) := by
     show _ = _
     rw [HS1.out, if_neg (by simpa using h0)]
    rw [h0, errOf_zero]
    clear h0 HS1
    go_wp2_with fail
    go_roundw
    case rel => exact ⟨k + 1, by omega, by go_num, HS2.out, B1.out⟩
    case measure => simp [intOf]; omega
   ·have HS2 : Hid (r = some (le, k)) := by
     show _ = _
     rw [HS1.out, if_pos h0]
    have HZ := Lib.hid h0
    rw [errOf_pos _ _ h0]
    clear h0 HS1
    have hb := Lib.hid (heap_alloc_new w1 (.cells #[.int .i64 (k : Nat), .iface 373 (.pointer (some (E le)))] 182))
    have bb := Lib.hid (below_one w1 (.cells #[.int .i64 (k : Nat), .iface 373 (.pointer (some (E le)))] 182))
    go_wp2_with fail
    go_ret
    refine ⟨_, rfl, ?_, B1.out.trans (bb.out.mono B1.out.size)⟩
    rw [HS2.out]
    exact ⟨HZ.out, _, rfl, by rw [errOf_pos _ _ HZ.out]; exact hb.out⟩
  ·obtain rfl : k = N := by omega
   have HS1 : Hid (r = none) := by
    show _ = _
    rw [HS.out, HN.out, List.drop_length]
    rfl
   go_wp2_with fail
   go_ret
   refine ⟨_, rfl, ?_, HB.out⟩
   rw [HS1.out]
   rfl
end Go.Proofs.YtchiojiicehpeaaGreatDoor
namespace Go.Proofs.YtchiojiicehpeaaGreatDoor
open Go.RowKit Go.Sort Go.Proofs
set_option maxHeartbeats 1600000 in
set_option maxRecDepth 100000 in
theorem cloneGoods_at (b : Nat) (es : Array MapEntry) (clock : Nat) (w : World) (hb : w.heap[b]? = some (.map es clock)) :
  Calls Tryz.prog 58 #[.map (some b)] w fun e w' => e = .returned (.map (some w.heap.size)) ∧ w' = w.alloc (.map es clock) := by
 have hq := fun w => run_eql_map_nil_sl (P := Tryz.prog) w 118 _ _ (some b) Tryz.underlying118
 go_enter Tryz.func58, Tryz.ntmps58
 go_wp2
 rw [run_callFunc_extern Tryz.func124 (by kernel_rfl) (by kernel_rfl) (by kernel_rfl) (e := Extern.MapsClone.clone) (by kernel_rfl), run_maps_clone_sl w 118 hb]
 simp only [Result.andThen]
 rw [Oper.upon_value]
 go_wp2
 rw [run_typeAssert_map_sl _ 118 _ _ _ _ Tryz.underlying118]
 simp only [Result.andThen]
 rw [Oper.upon_value]
 go_wp2
 go_ret
 exact ⟨rfl, rfl⟩
theorem cloneGoods_any (b : Nat) (g : List UInt8 → Option GoodsV) (w : World) (h : MapF eGoods w b g) :
  Calls Tryz.prog 58 #[.map (some b)] w fun e w' => ∃ c, e = .returned (.map (some c)) ∧ w.heap.size ≤ c ∧ MapF eGoods w' c g ∧ Below w.heap.size w w' := by
 obtain ⟨m, ⟨es, clock, hb, hs, hm⟩, hg⟩ := h
 refine (cloneGoods_at b es clock w hb).mono ?_
 rintro e w' ⟨rfl, rfl⟩
 exact ⟨w.heap.size, rfl, Nat.le_refl _, ⟨m, ⟨es, clock, heap_alloc_new w _, hs, hm⟩, hg⟩, below_one w _⟩
set_option maxHeartbeats 1600000 in
set_option maxRecDepth 100000 in
theorem cloneLot_at (b : Nat) (es : Array MapEntry) (clock : Nat) (w : World) (hb : w.heap[b]? = some (.map es clock)) :
  Calls Tryz.prog 59 #[.map (some b)] w fun e w' => e = .returned (.map (some w.heap.size)) ∧ w' = w.alloc (.map es clock) := by
 have hq := fun w => run_eql_map_nil_sl (P := Tryz.prog) w 119 _ _ (some b) Tryz.underlying119
 go_enter Tryz.func59, Tryz.ntmps59
 go_wp2
 rw [run_callFunc_extern Tryz.func124 (by kernel_rfl) (by kernel_rfl) (by kernel_rfl) (e := Extern.MapsClone.clone) (by kernel_rfl), run_maps_clone_sl w 119 hb]
 simp only [Result.andThen]
 rw [Oper.upon_value]
 go_wp2
 rw [run_typeAssert_map_sl _ 119 _ _ _ _ Tryz.underlying119]
 simp only [Result.andThen]
 rw [Oper.upon_value]
 go_wp2
 go_ret
 exact ⟨rfl, rfl⟩
theorem cloneLot_any (b : Nat) (g : List UInt8 → Option LotV) (w : World) (h : MapF eLot w b g) :
  Calls Tryz.prog 59 #[.map (some b)] w fun e w' => ∃ c, e = .returned (.map (some c)) ∧ w.heap.size ≤ c ∧ MapF eLot w' c g ∧ Below w.heap.size w w' := by
 obtain ⟨m, ⟨es, clock, hb, hs, hm⟩, hg⟩ := h
 refine (cloneLot_at b es clock w hb).mono ?_
 rintro e w' ⟨rfl, rfl⟩
 exact ⟨w.heap.size, rfl, Nat.le_refl _, ⟨m, ⟨es, clock, heap_alloc_new w _, hs, hm⟩, hg⟩, below_one w _⟩
set_option maxHeartbeats 1600000 in
set_option maxRecDepth 100000 in
theorem cloneInt_at (b : Nat) (es : Array MapEntry) (clock : Nat) (w : World) (hb : w.heap[b]? = some (.map es clock)) :
  Calls Tryz.prog 60 #[.map (some b)] w fun e w' => e = .returned (.map (some w.heap.size)) ∧ w' = w.alloc (.map es clock) := by
 have hq := fun w => run_eql_map_nil_sl (P := Tryz.prog) w 120 _ _ (some b) Tryz.underlying120
 go_enter Tryz.func60, Tryz.ntmps60
 go_wp2
 rw [run_callFunc_extern Tryz.func124 (by kernel_rfl) (by kernel_rfl) (by kernel_rfl) (e := Extern.MapsClone.clone) (by kernel_rfl), run_maps_clone_sl w 120 hb]
 simp only [Result.andThen]
 rw [Oper.upon_value]
 go_wp2
 rw [run_typeAssert_map_sl _ 120 _ _ _ _ Tryz.underlying120]
 simp only [Result.andThen]
 rw [Oper.upon_value]
 go_wp2
 go_ret
 exact ⟨rfl, rfl⟩
theorem cloneInt_any (b : Nat) (g : List UInt8 → Option Nat) (w : World) (h : MapF eNat w b g) :
  Calls Tryz.prog 60 #[.map (some b)] w fun e w' => ∃ c, e = .returned (.map (some c)) ∧ w.heap.size ≤ c ∧ MapF eNat w' c g ∧ Below w.heap.size w w' := by
 obtain ⟨m, ⟨es, clock, hb, hs, hm⟩, hg⟩ := h
 refine (cloneInt_at b es clock w hb).mono ?_
 rintro e w' ⟨rfl, rfl⟩
 exact ⟨w.heap.size, rfl, Nat.le_refl _, ⟨m, ⟨es, clock, heap_alloc_new w _, hs, hm⟩, hg⟩, below_one w _⟩
set_option maxHeartbeats 1600000 in
set_option maxRecDepth 100000 in
theorem cloneSums_at (b : Nat) (es : Array MapEntry) (clock : Nat) (w : World) (hb : w.heap[b]? = some (.map es clock)) :
  Calls Tryz.prog 61 #[.map (some b)] w fun e w' => e = .returned (.map (some w.heap.size)) ∧ w' = w.alloc (.map es clock) := by
 have hq := fun w => run_eql_map_nil_sl (P := Tryz.prog) w 121 _ _ (some b) Tryz.underlying121
 go_enter Tryz.func61, Tryz.ntmps61
 go_wp2
 rw [run_callFunc_extern Tryz.func124 (by kernel_rfl) (by kernel_rfl) (by kernel_rfl) (e := Extern.MapsClone.clone) (by kernel_rfl), run_maps_clone_sl w 121 hb]
 simp only [Result.andThen]
 rw [Oper.upon_value]
 go_wp2
 rw [run_typeAssert_map_sl _ 121 _ _ _ _ Tryz.underlying121]
 simp only [Result.andThen]
 rw [Oper.upon_value]
 go_wp2
 go_ret
 exact ⟨rfl, rfl⟩
theorem cloneSums_any (b : Nat) (g : List UInt8 → Option SumsV) (w : World) (h : MapF eSums w b g) :
  Calls Tryz.prog 61 #[.map (some b)] w fun e w' => ∃ c, e = .returned (.map (some c)) ∧ w.heap.size ≤ c ∧ MapF eSums w' c g ∧ Below w.heap.size w w' := by
 obtain ⟨m, ⟨es, clock, hb, hs, hm⟩, hg⟩ := h
 refine (cloneSums_at b es clock w hb).mono ?_
 rintro e w' ⟨rfl, rfl⟩
 exact ⟨w.heap.size, rfl, Nat.le_refl _, ⟨m, ⟨es, clock, heap_alloc_new w _, hs, hm⟩, hg⟩, below_one w _⟩
end Go.Proofs.YtchiojiicehpeaaGreatDoor
namespace Go.Proofs.YtchiojiicehpeaaGreatDoor
open Go.RowKit Go.Sort Go.Proofs
set_option maxHeartbeats 1600000 in
set_option maxRecDepth 100000 in
theorem refStkText_any (A : Option Addr) (cap : Nat) (l : List LineV) (w : World) (hrow : RowAt encLine 5 w A l) (hl : l.length ≤ 200) (hW : ∀ x ∈ l, WellL x) :
  Calls Tryz.prog 140 #[.agg #[.slice A l.length cap]] w fun e w' => e = .returned (.string ⟨(linesText l).toArray⟩) ∧ Below w.heap.size w w' := by
 obtain ⟨N, hN⟩ : ∃ N, N = l.length := ⟨_, rfl⟩
 have HN := Lib.hid hN
 have HROW := Lib.hid hrow
 have HW := Lib.hid hW
 have HB0 := Lib.hid (below_one w (.cells #[.slice A l.length cap] 103))
 rw [← hN] at hl HB0 ⊢
 have HC0 := Lib.hid (cell_of_row _ _ 0 _ _ _ (heap_alloc_new w (.cells #[.slice A N cap] 103)))
 clear hN hrow hW
 go_enter Tryz.func140, Tryz.ntmps140
 go_wp2_with fail
 obtain ⟨W0, hW0⟩ : ∃ W0, W0 = w.alloc (.cells #[.slice A N cap] 103) := ⟨_, rfl⟩
 rw [← hW0] at HB0 HC0 ⊢
 have hs0 : W0.heap.size = w.heap.size + 1 := by rw [hW0]; simp
 clear hW0
 go_loopw [3, 4] (fun s n wr => ∃ k : Nat, k ≤ N ∧ n = .int .i64 k ∧ s = .string ⟨(linesText (l.take k)).toArray⟩ ∧ Below W0.heap.size W0 wr) (fun _ n _ => N - (intOf n).toNat)
 case atStart => exact ⟨0, by omega, rfl, rfl, Below.refl _ _⟩
 case round =>
  obtain ⟨k, hk, rfl, rfl, hb⟩ := hrel
  have HB := Lib.hid hb
  have c0 : wr.cell? ⟨w.heap.size, 0, none⟩ = some (.slice A N cap) := (hb.cell (p := ⟨_, 0, none⟩) (by show w.heap.size < _; omega)).trans HC0.out
  clear hb
  by_cases hkN : k < N
  ·have hkx : k < l.length := by rw [← HN.out]; exact hkN
   obtain ⟨g, o, rfl, lg, cg⟩ := HROW.out.resolve_left (fun h => by rw [h] at hkx; simp at hkx)
   obtain ⟨x, hx⟩ : ∃ x, x = l[k] := ⟨_, rfl⟩
   have hwx : WellL x := by rw [hx]; exact HW.out _ (List.getElem_mem hkx)
   have r5 := range5L (x := x) (w := wr) (b := g) (o := o + k * 5) (fun cc v hv => by
    have h1 := cg k hkx cc v (by rw [← hx]; exact hv)
    have h2 := (HB0.out.cell (p := ⟨g, o + k * 5 + cc, none⟩) lg).trans h1
    exact (HB.out.cell (p := ⟨g, o + k * 5 + cc, none⟩) (lt_of_cell h2)).trans h2)
   have HL := Lib.hid (fun W => refLineText_any x W (by have := (nameB_len (placeE_zero.1 hwx.1).1).2; omega) (by have := (nameB_len hwx.2.1).2; omega) (by have := hwx.2.2.1; omega) (by have := hwx.2.2.2; omega))
   have ht := lineText_len hwx
   have hlt : (linesText (l.take k)).length ≤ 20200 := by
    have := linesText_len (l := l.take k) fun y hy => HW.out y (List.mem_of_mem_take hy)
    rw [List.length_take] at this
    omega
   have HTK := Lib.hid (linesText_take l k hkx)
   rw [← hx] at HTK
   generalize linesText (l.take k) = lt0 at HTK hlt ⊢
   generalize lineText x = t at HTK HL ht
   clear hx hwx cg
   obtain ⟨⟨a1, a2, a3⟩, a4, a5⟩ := x
   obtain ⟨e0, e1, e2, e3, e4⟩ := r5
   simp only [encLine] at HL
   simp only at e0 e1 e2 e3 e4
   have v1 : ¬ 9223372036854775807 < lt0.length + t.length := by omega
   have v2 : ¬ 9223372036854775807 < lt0.length + t.length + 1 := by omega
   go_wp2_with fail
   refine (HL.out _).mono ?_
   rintro e w3 ⟨rfl, b3⟩
   have HB3 := Lib.hid (HB.out.trans (b3.mono HB.out.size))
   clear b3 e0 e1 e2 e3 e4 c0
   go_wp2_with fail
   go_roundw
   case rel =>
    refine ⟨k + 1, by omega, by go_num, ?_, HB3.out⟩
    rw [HTK.out]
    show Value.string ((⟨lt0.toArray⟩ : ByteArray) ++ (⟨t.toArray⟩ : ByteArray) ++ (⟨#[10]⟩ : ByteArray)) = _
    rw [show (⟨#[10]⟩ : ByteArray) = ⟨[10].toArray⟩ from rfl, mk_app, mk_app, List.append_assoc]
   case measure => simp [intOf]; omega
  ·obtain rfl : k = N := by omega
   have htk : l.take k = l := List.take_of_length_le (by rw [← HN.out]; exact Nat.le_refl _)
   rw [htk]
   go_wp2_with fail
   go_ret
   exact ⟨rfl, HB0.out.trans (HB.out.mono (by omega))⟩
end Go.Proofs.YtchiojiicehpeaaGreatDoor
