/- Entries: Check. The program's book: newGoods, newLot. Counts: a line of a sheet. Counts: Check. -/
import Derived.Deep.CutBlock
import Derived.Test.YthnpemlmfekkgaaGreatDoorM21
namespace Go.Proofs.YthnpemlmfekkgaaGreatDoor
open Go.RowKit Go.Sort Go.Proofs

/-- What the checks of entries lean on. -/
structure EntCG (E : Nat → Addr) (w : World) : Prop where
  read : LotCG E w
  shape : ErrAt 0 (E 3) w
  kind : ErrAt 2 (E 4) w
theorem EntCG.below {E : Nat → Addr} {w w' : World} (h : EntCG E w) (hb : Below w.heap.size w w') : EntCG E w' := ⟨h.read.below hb, h.shape.below hb, h.kind.below hb⟩
theorem LotG.place {E : Nat → Addr} {w : World} (h : LotG E w) : PlaceG E w := ⟨h.name, h.bound, h.tab⟩
theorem LotCG.place {E : Nat → Addr} {w : World} (h : LotCG E w) : PlaceCG E w := ⟨h.name, h.bound⟩
set_option maxHeartbeats 800000 in
theorem places_any (E : Nat → Addr) (x : EntV) (bF bT bP : Bool) (w : World) (hG : EntCG E w) :
    Calls Tryz.prog 103 #[.agg (encEnt x).toArray, .agg #[.bool bF, .bool bT, .bool bP]] w fun e w' => e = .returned (errOf E (if bF = true ∧ placeE x.2.2.2.1 ≠ 0 then placeE x.2.2.2.1 else if bT = true then placeE x.2.2.2.2.1 else 0)) ∧ Below w.heap.size w w' := by
  have HF := Lib.hid (fun W h => checkPlace_c E x.2.2.2.1 W h)
  have HT := Lib.hid (fun W h => checkPlace_c E x.2.2.2.2.1 W h)
  have hc := fun i v (h : (encEnt x)[i]? = some v) => show ((w.alloc (.cells (encEnt x).toArray 43)).alloc (.cells #[.bool bF, .bool bT, .bool bP] 122)).cell? ⟨w.heap.size, i, none⟩ = some v from ((below_one (w.alloc (.cells (encEnt x).toArray 43)) _).cell (p := ⟨w.heap.size, i, none⟩) (by simp)).trans ((cell_of_row _ _ _ _ _ _ (heap_alloc_new _ _)).trans (by simpa using h))
  have b0 := below_two w (.cells (encEnt x).toArray 43) (.cells #[.bool bF, .bool bT, .bool bP] 122)
  have c7 := hc 7 _ rfl
  have c8 := hc 8 _ rfl
  have c9 := hc 9 _ rfl
  have c10 := hc 10 _ rfl
  have c11 := hc 11 _ rfl
  have c12 := hc 12 _ rfl
  clear hc
  have hfr : ((w.alloc (.cells (encEnt x).toArray 43)).alloc (.cells #[.bool bF, .bool bT, .bool bP] 122)).heap[w.heap.size + 1]? = some (.cells #[.bool bF, .bool bT, .bool bP] 122 (0, 0)) := by
    have := heap_alloc_new (w.alloc (.cells (encEnt x).toArray 43)) (.cells #[.bool bF, .bool bT, .bool bP] 122)
    simpa using this
  have d0 : ((w.alloc (.cells (encEnt x).toArray 43)).alloc (.cells #[.bool bF, .bool bT, .bool bP] 122)).cell? ⟨w.heap.size + 1, 0, none⟩ = some (.bool bF) := cell_of_row _ _ _ _ _ _ hfr
  have d1 : ((w.alloc (.cells (encEnt x).toArray 43)).alloc (.cells #[.bool bF, .bool bT, .bool bP] 122)).cell? ⟨w.heap.size + 1, 1, none⟩ = some (.bool bT) := cell_of_row _ _ _ _ _ _ hfr
  have HG := Lib.hid (fun W (h : Below w.heap.size w W) => (hG.below h).read.place)
  clear hfr hG
  obtain ⟨k, ⟨g1, g2⟩, ⟨l1, l2, l3, l4⟩, ⟨f1, f2, f3⟩, ⟨t1, t2, t3⟩, n⟩ := x
  simp only [encEnt, encPlace] at HF HT b0 c7 c8 c9 c10 c11 c12 d0 d1 ⊢
  generalize placeE (f1, f2, f3) = pf at HF ⊢
  generalize placeE (t1, t2, t3) = pt at HT ⊢
  obtain ⟨r, hr⟩ : ∃ r, r = (if bF = true ∧ pf ≠ 0 then pf else if bT = true then pt else 0) := ⟨_, rfl⟩
  rw [← hr]
  have HR := Lib.hid hr
  clear hr
  cases bF with
  | false =>
    cases bT with
    | false =>
      have HR0 : Hid (r = 0) := by show _ = _; rw [HR.out]; simp
      go_enter Tryz.func103, Tryz.ntmps103
      go_wp2
      go_ret
      rw [HR0.out]
      exact ⟨rfl, b0⟩
    | true =>
      have HR0 : Hid (r = pt) := by show _ = _; rw [HR.out]; simp
      go_enter Tryz.func103, Tryz.ntmps103
      go_wp2_with fail
      refine (HT.out _ (HG.out _ b0)).mono ?_
      rintro e w1 ⟨rfl, b1⟩
      have B1 := Lib.hid (b0.trans (b1.mono b0.size))
      clear b1 b0
      go_wp2
      go_ret
      rw [HR0.out]
      exact ⟨rfl, B1.out⟩
  | true =>
    go_enter Tryz.func103, Tryz.ntmps103
    go_wp2_with fail
    refine (HF.out _ (HG.out _ b0)).mono ?_
    rintro e w1 ⟨rfl, b1⟩
    have g := fun (b o : Nat) (v : Value) (hc : _ = some v) => (b1.cell (p := ⟨b, o, none⟩) (lt_of_cell hc)).trans hc
    have e10 := g _ _ _ c10
    have e11 := g _ _ _ c11
    have e12 := g _ _ _ c12
    have e1 := g _ _ _ d1
    have B1 := Lib.hid (b0.trans (b1.mono b0.size))
    clear b1 b0 g c7 c8 c9 c10 c11 c12 d0 d1
    by_cases h0 : pf = 0
    · subst h0
      rw [errOf_zero]
      cases bT with
      | false =>
        have HR0 : Hid (r = 0) := by show _ = _; rw [HR.out]; simp
        go_wp2
        go_ret
        rw [HR0.out]
        exact ⟨rfl, B1.out⟩
      | true =>
        have HR0 : Hid (r = pt) := by show _ = _; rw [HR.out]; simp
        go_wp2_with fail
        refine (HT.out _ (HG.out _ B1.out)).mono ?_
        rintro e w2 ⟨rfl, b2⟩
        have B2 := Lib.hid (B1.out.trans (b2.mono B1.out.size))
        clear b2
        go_wp2
        go_ret
        rw [HR0.out]
        exact ⟨rfl, B2.out⟩
    · rw [errOf_pos _ _ h0]
      have HR0 : Hid (r = pf) := by show _ = _; rw [HR.out]; simp [h0]
      go_wp2
      go_ret
      rw [HR0.out, errOf_pos _ _ h0]
      exact ⟨rfl, B1.out⟩
end Go.Proofs.YthnpemlmfekkgaaGreatDoor
namespace Go.Proofs.YthnpemlmfekkgaaGreatDoor
open Go.RowKit Go.Sort Go.Proofs

/-- What the walks over a book lean on. -/
structure BkG (E : Nat → Addr) (w : World) : Prop where
  stk : StkG E w
  kind : ErrAt 2 (E 4) w
  none : ErrAt 1 (E 6) w
  exist : ErrAt 3 (E 7) w
theorem BkG.below {E : Nat → Addr} {w w' : World} (h : BkG E w) (hb : Below w.heap.size w w') : BkG E w' := ⟨h.stk.below hb, h.kind.below hb, h.none.below hb, h.exist.below hb⟩
theorem BkG.ent {E : Nat → Addr} {w : World} (h : BkG E w) : EntCG E w := ⟨⟨h.stk.place.name, h.stk.place.bound⟩, h.stk.shape, h.kind⟩

theorem MapF.len {ν : Type} {eV : ν → Value} {w : World} {b : Nat} {f : List UInt8 → Option ν} (h : MapF eV w b f) {N : Nat} (hN : ∀ m : List (List UInt8 × ν), (m.map (·.1)).Nodup → (∀ k, mget m k = f k) → m.length = N)
    {P : Program} {t kt e ty : TypeId} (ht : P.underlying t = some (.map kt e)) : (Builtin.len_ #[t] ty #[.map (some b)]).run P w = .ok (.int .i64 N) w := by
  obtain ⟨m, h1, h2⟩ := h
  have := h1.len (ty := ty) ht
  rwa [hN m h1.nodup h2] at this

theorem zeroGoodsE (w : World) : (zeroValue 37).run Tryz.prog w = .ok (eGoods zeroGoods) w := by kernel_rfl
theorem zeroLotE (w : World) : (zeroValue 39).run Tryz.prog w = .ok (eLot zeroLot) w := by kernel_rfl

set_option maxHeartbeats 400000 in
set_option maxRecDepth 100000 in
theorem newGoods_any (E : Nat → Addr) (p g : Nat) (f : List UInt8 → Option GoodsV) (N : Nat) (x : GoodsV) (w : World) (cp : w.cell? ⟨p, 0, none⟩ = some (.map (some g))) (hf : MapF eGoods w g f)
    (hN : ∀ m : List (List UInt8 × GoodsV), (m.map (·.1)).Nodup → (∀ k, mget m k = f k) → m.length = N) (hG : BkG E w) :
    Calls Tryz.prog 32 #[.pointer (some ⟨p, 0, none⟩), .agg (encGoods x).toArray] w fun e w' => e = .returned (errOf E (if (f x.1).isSome = true then 7 else if 30 ≤ N then 8 else 0)) ∧
      MapF eGoods w' g (if (f x.1).isSome = true ∨ 30 ≤ N then f else fun i => if i = x.1 then some x else f i) ∧ But g w w' := by
  obtain ⟨r, hr⟩ : ∃ r : Nat, r = if (f x.1).isSome = true then 7 else if 30 ≤ N then 8 else 0 := ⟨_, rfl⟩
  obtain ⟨f', hf'⟩ : ∃ f', f' = if (f x.1).isSome = true ∨ 30 ≤ N then f else fun i => if i = x.1 then some x else f i := ⟨_, rfl⟩
  rw [← hr, ← hf']
  have HR := Lib.hid hr
  have HF' := Lib.hid hf'
  have HG := Lib.hid (fun W (h : Below w.heap.size w W) => hG.below h)
  have HM := Lib.hid (fun W (hb : Below w.heap.size w W) => hf.below hb)
  have HL := Lib.hid (fun W (h : MapF eGoods W g f) => h.look (P := Tryz.prog) (t := 80) (kt := 9) (by kernel_rfl) Tryz.underlying80 (zeroGoodsE W) x.1 true)
  have HLN := Lib.hid (fun W (h : MapF eGoods W g f) ty => h.len hN (P := Tryz.prog) (ty := ty) Tryz.underlying80)
  have HS := Lib.hid (fun W (h : MapF eGoods W g f) => h.store (P := Tryz.prog) (t := 80) (kt := 9) (by kernel_rfl) Tryz.underlying80 x.1 x)
  have hgl := hf.lt
  have hpl := lt_of_cell cp
  clear hr hf' hG hf hN
  generalize (f x.1).getD zeroGoods = z at HL
  generalize (f x.1).isSome = is at HL HR HF'
  obtain ⟨x1, x2⟩ := x
  obtain ⟨z1, z2⟩ := z
  simp only [eGoods, encGoods] at HL HS ⊢
  have b0 := Lib.hid (below_one w (.cells #[.string ⟨x1.toArray⟩, .int .i64 x2] 37))
  have hx := heap_alloc_new w (.cells #[.string ⟨x1.toArray⟩, .int .i64 x2] 37)
  have cp0 := (b0.out.cell (p := ⟨p, 0, none⟩) hpl).trans cp
  go_enter Tryz.func32, Tryz.ntmps32
  go_wp2_with fail
  generalize w.alloc (.cells #[.string ⟨x1.toArray⟩, .int .i64 x2] 37) = W0 at b0 hx cp0 ⊢
  have HX := Lib.hid hx
  have bz := below_one W0 (.cells #[.string ⟨#[]⟩, .int .i64 0] 37)
  have b1 := Lib.hid (b0.out.trans (bz.mono b0.out.size)).drew
  have hz : w.heap.size < W0.heap.size := row_lt hx
  have x0 : (W0.alloc (.cells #[.string ⟨#[]⟩, .int .i64 0] 37)).drew.cell? ⟨w.heap.size, 0, none⟩ = some (.string ⟨x1.toArray⟩) := (bz.cell (p := ⟨w.heap.size, 0, none⟩) hz).trans (cell_of_row _ _ 0 _ _ _ hx)
  have cp1 : (W0.alloc (.cells #[.string ⟨#[]⟩, .int .i64 0] 37)).drew.cell? ⟨p, 0, none⟩ = some (.map (some g)) := (bz.cell (p := ⟨p, 0, none⟩) (lt_of_cell cp0)).trans cp0
  have hl := HL.out _ (HM.out _ b1.out)
  have x00 : W0.cell? ⟨w.heap.size, 0, none⟩ = some (.string ⟨x1.toArray⟩) := cell_of_row _ _ 0 _ _ _ hx
  have hl0 := HL.out _ (HM.out _ b0.out.drew)
  clear hx cp
  go_region
  all_goals
    clear hl hl0 x0 x00 cp1 bz b1
    have b2 := Lib.hid ((b0.out.trans ((below_one W0 (.cells #[.string ⟨z1.toArray⟩, .int .i64 z2] 37)).mono b0.out.size)).drew)
    have hx2 : (W0.alloc (.cells #[.string ⟨z1.toArray⟩, .int .i64 z2] 37)).drew.heap[w.heap.size]? = some (.cells #[.string ⟨x1.toArray⟩, .int .i64 x2] 37 (0, 0)) := ((below_one W0 _).block _ hz).trans HX.out
    have cp2 : (W0.alloc (.cells #[.string ⟨z1.toArray⟩, .int .i64 z2] 37)).drew.cell? ⟨p, 0, none⟩ = some (.map (some g)) := ((below_one W0 _).cell (p := ⟨p, 0, none⟩) (lt_of_cell cp0)).trans cp0
    generalize (W0.alloc (.cells #[.string ⟨z1.toArray⟩, .int .i64 z2] 37)).drew = W1 at b2 hx2 cp2 ⊢
    clear cp0 hz HL
    cases is with
    | true =>
      have HR0 := Lib.hid (show r = 7 from HR.out.trans (if_pos rfl))
      have HF0 := Lib.hid (show f' = f from HF'.out.trans (if_pos (.inl rfl)))
      have hex := (HG.out _ b2.out).exist
      unfold ErrAt at hex
      go_wp2_with fail
      go_ret
      rw [HR0.out, HF0.out]
      exact ⟨rfl, HM.out _ b2.out, But.of_below b2.out⟩
    | false =>
      have hlen := fun ty => HLN.out W1 (HM.out _ b2.out) ty
      by_cases hfull : 30 ≤ N
      · have HR0 := Lib.hid (show r = 8 from HR.out.trans ((if_neg (by simp)).trans (if_pos hfull)))
        have HF0 := Lib.hid (show f' = f from HF'.out.trans (if_pos (.inr hfull)))
        have hfl := (HG.out _ b2.out).stk.full
        unfold ErrAt at hfl
        go_wp2_with fail
        go_ret
        rw [HR0.out, HF0.out]
        exact ⟨rfl, HM.out _ b2.out, But.of_below b2.out⟩
      · have HR0 := Lib.hid (show r = 0 from HR.out.trans ((if_neg (by simp)).trans (if_neg hfull)))
        have HF0 := Lib.hid (show f' = fun i => if i = x1 then some (x1, x2) else f i from HF'.out.trans (if_neg (fun e => e.elim (by simp) hfull)))
        have hx0 := cell_of_row _ _ 0 _ _ _ hx2
        have hx1 := cell_of_row _ _ 1 _ _ _ hx2
        simp at hx0 hx1
        obtain ⟨v, hS, hM, hT⟩ := HS.out W1.drew (HM.out _ b2.out.drew)
        have HM3 := Lib.hid hM
        have HT3 := Lib.hid hT
        clear hM hT hx2
        go_wp2_with fail
        go_region
        all_goals
          go_wp2_with fail
          go_ret
          rw [HR0.out, HF0.out]
          exact ⟨rfl, HM3.out, (But.of_below b2.out.drew).trans (But.of_turned HT3.out)⟩
end Go.Proofs.YthnpemlmfekkgaaGreatDoor
namespace Go.Proofs.YthnpemlmfekkgaaGreatDoor
open Go.RowKit Go.Sort Go.Proofs

theorem fndI_any (l : List LineV) (p : PlaceV) (lot : List UInt8) : (fndI l p lot = -1 ∧ l.any (isAt p lot) = false) ∨ ∃ i : Nat, fndI l p lot = i ∧ l.any (isAt p lot) = true := by
  unfold fndI
  cases hf : l.findIdx? (isAt p lot) with
  | none =>
    refine .inl ⟨rfl, ?_⟩
    rw [List.findIdx?_eq_none_iff] at hf
    exact List.any_eq_false.2 fun x hx => by simpa using hf x hx
  | some i =>
    obtain ⟨h1, h2, -⟩ := List.findIdx?_eq_some_iff_getElem.1 hf
    exact .inr ⟨i, rfl, List.any_eq_true.2 ⟨_, List.getElem_mem h1, h2⟩⟩

set_option maxHeartbeats 800000 in
set_option maxRecDepth 100000 in
theorem containsLine_any (A : Option Addr) (cap : Nat) (l : List LineV) (x : LineV) (b : Nat) (w : World) (hrow : RowAt encLine 5 w A l) (hl : l.length ≤ 100000) (hb : w.heap[b]? = some (.cells (encLine x).toArray 48 (0, 0))) :
    Calls Tryz.prog 88 #[.slice A l.length cap, .func (.func 89) #[] #[.pointer (some ⟨b, 0, none⟩)]] w fun e w' => e = .returned (.bool (l.any (isAt x.1 x.2.1))) ∧ Below w.heap.size w w' := by
  have HX := Lib.hid (idxLine_any A cap l x b w hrow hl hb)
  have HA := Lib.hid (fndI_any l x.1 x.2.1)
  generalize l.any (isAt x.1 x.2.1) = r at HA ⊢
  generalize fndI l x.1 x.2.1 = fi at HA HX
  clear hrow hb
  go_enter Tryz.func88, Tryz.ntmps88
  go_wp2_with fail
  refine HX.out.mono ?_
  rintro e w1 ⟨rfl, b1⟩
  have B1 := Lib.hid b1
  rcases HA.out with ⟨rfl, rfl⟩ | ⟨i, rfl, rfl⟩
  · clear b1 HX HA
    go_wp2_with fail
    go_ret
    exact ⟨rfl, B1.out⟩
  · have hp : (0 : Int) ≤ (i : Nat) := by omega
    clear b1 HX HA
    go_wp2_with fail
    go_ret
    exact ⟨by simp, B1.out⟩

set_option maxHeartbeats 1600000 in
set_option maxRecDepth 100000 in
theorem cntLine_any (E : Nat → Addr) (A : Option Addr) (cap : Nat) (l : List LineV) (i : Nat) (hi : i < l.length) (w : World) (hrow : RowAt encLine 5 w A l) (hl : l.length ≤ 100000) (hcap : l.length ≤ cap) (hG : BkG E w) :
    Calls Tryz.prog 51 #[.slice A l.length cap, .int .i64 (i : Nat)] w fun e w' => e = .returned (errOf E (lineE (l.take i) l[i])) ∧ Below w.heap.size w w' := by
  obtain ⟨x, hx⟩ : ∃ x, x = l[i] := ⟨_, rfl⟩
  obtain ⟨r, hr⟩ : ∃ r, r = lineE (l.take i) l[i] := ⟨_, rfl⟩
  rw [← hr]
  rw [← hx] at hr
  unfold lineE at hr
  have HRR := Lib.hid hr
  have hmf : ∀ (fn : Fn) (first cap : Array Value) (w : World), (Instr.makeFunc fn first cap).run Tryz.prog w = .ok (.func fn first cap) w := fun _ _ _ _ => rfl
  obtain ⟨g, o, rfl, lg, cg⟩ := hrow.resolve_left (fun h => by rw [h] at hi; simp at hi)
  have hlies : Lies w g (o + i * 5) (encLine x) := fun j v hv => cg i hi j v (by rw [← hx]; exact hv)
  have hpre : RowAt encLine 5 w (some ⟨g, o, none⟩) (l.take i) := by
    refine .inr ⟨g, o, rfl, lg, fun j hj c v hv => ?_⟩
    rw [List.getElem_take] at hv
    exact cg j (by rw [List.length_take] at hj; omega) c v hv
  have HPRE := Lib.hid (fun W (h : Below w.heap.size w W) => hpre.below h)
  have htl : (l.take i).length = i := by rw [List.length_take]; omega
  have HCF := Lib.hid (fun b W (h1 : RowAt encLine 5 W (some ⟨g, o, none⟩) (l.take i)) h2 => containsLine_any (some ⟨g, o, none⟩) cap (l.take i) x b W h1 (by rw [htl]; omega) h2)
  rw [htl] at HCF
  have HG := Lib.hid (fun W (h : Below w.heap.size w W) => hG.below h)
  have HCK := Lib.hid (fun W h => checkPlace_c E x.1 W h)
  have HNM := Lib.hid (fun W => name_wide x.2.1 W)
  have HWI := Lib.hid (within_any x.2.2 0 1099511627776)
  have HL := Lib.hid hlies
  have h5 : (encLine x).length = 5 := rfl
  have h51 := Lib.hid (show ∀ v ∈ encLine x, v.oneCell' = true from encLine_one x)
  have b0 := Lib.hid (below_one w (.cells #[.string ⟨#[]⟩, .int .i64 0, .int .i64 0, .string ⟨#[]⟩, .int .i64 0] 48))
  have hxp : (encPlace x.1).length = 3 := rfl
  have HLP := Lib.hid (fun (W : World) (b : Nat) (h : Lies W b 0 (encLine x)) => (show Lies W b 0 (encPlace x.1) from fun j v hv => h j v (by
    have hj : j < 3 := (List.getElem?_eq_some_iff.1 hv).1
    match j, hj, hv with | 0, _, hv => exact hv | 1, _, hv => exact hv | 2, _, hv => exact hv)))
  have hc3 : (encLine x)[3]? = some (.string ⟨x.2.1.toArray⟩) := rfl
  have hc4 : (encLine x)[4]? = some (.int .i64 x.2.2) := rfl
  have hi0 : (0 : Int) ≤ (i : Nat) := by omega
  have hi1 : ((i : Nat) : Int) < (l.length : Nat) := by omega
  have hi2 : ((i : Nat) : Int) ≤ (cap : Nat) := by omega
  clear hr hx hG hrow hlies hpre htl cg
  generalize (l.take i).any (isAt x.1 x.2.1) = ca at HCF HRR
  generalize placeE x.1 = pe at HCK HRR
  generalize nameB x.2.1 = nm at HNM HRR
  generalize wiB x.2.2 0 1099511627776 = wi at HWI HRR
  generalize l.take i = T at HCF HPRE
  generalize l.length = N at *
  generalize encPlace x.1 = LP at *
  generalize encLine x = LX at *
  generalize x.2.1 = xl at *
  generalize x.2.2 = xn at *
  go_enter Tryz.func51, Tryz.ntmps51
  go_upto_region 2 with (first | (refine wpList_load_at rfl 48 _ rfl g (o + i * 5) rfl LX HL.out _ Tryz.underlying48 rfl (by rw [h5]; kernel_rfl) ?_) | (refine wpList_store_box rfl 48 _ _ rfl w.heap.size LX rfl rfl _ [.string ⟨#[]⟩, .int .i64 0, .int .i64 0, .string ⟨#[]⟩, .int .i64 0] (heap_alloc_new w _) (by rw [h5]; kernel_rfl) (by rw [h5]; rfl) h51.out ?_; intro w1 h1 tu1))
  have bb1 := b0.out.trans (tu1.below (Nat.le_refl _))
  have B1 := Lib.hid bb1
  have hz1 := row_lt h1
  clear bb1 tu1 b0
  go_wp2_with (refine wpList_load_at rfl 41 _ rfl w.heap.size 0 rfl LP (HLP.out w1 _ (Lies.row _ h1)) _ Tryz.underlying41 rfl (by rw [hxp]; kernel_rfl) ?_)
  refine (HCK.out w1 (HG.out _ B1.out).stk.place).mono ?_
  rintro e w2 ⟨rfl, b2⟩
  have B2 := Lib.hid (B1.out.trans (b2.mono B1.out.size))
  have h2 := (b2.block _ hz1).trans h1
  have e3 : w2.cell? ⟨w.heap.size, 3, none⟩ = some (.string ⟨xl.toArray⟩) := (cell_of_row _ _ _ _ _ _ h2).trans (by simpa using hc3)
  clear b2 h1 B1 HCK
  by_cases hpe : ¬ pe = 0
  · have HT := Lib.hid (HRR.out.trans (if_pos hpe))
    rw [errOf_pos _ _ hpe]
    have HPE := Lib.hid hpe
    clear hpe
    go_wp2_with fail
    go_ret
    rw [HT.out, errOf_pos _ _ HPE.out]
    exact ⟨rfl, B2.out⟩
  have hpe := Classical.not_not.1 hpe
  have HR1 := Lib.hid (HRR.out.trans (if_neg (fun e => e hpe)))
  rw [hpe, errOf_zero]
  clear hpe HRR
  go_wp2_with fail
  refine (HNM.out w2).mono ?_
  rintro e w3 ⟨rfl, b3⟩
  have B3 := Lib.hid (B2.out.trans (b3.mono B2.out.size))
  have h3 := (b3.block _ (row_lt h2)).trans h2
  have e4 : w3.cell? ⟨w.heap.size, 4, none⟩ = some (.int .i64 xn) := (cell_of_row _ _ _ _ _ _ h3).trans (by simpa using hc4)
  clear b3 h2 e3 B2 HNM
  cases nm with
  | false =>
    have HT := Lib.hid (show r = 5 from HR1.out.trans (if_pos rfl))
    have her := (HG.out _ B3.out).stk.place.name
    unfold ErrAt at her
    go_wp2_with fail
    go_ret
    rw [HT.out]
    exact ⟨rfl, B3.out⟩
  | true =>
    have HR2 := Lib.hid (HR1.out.trans (if_neg (by simp)))
    clear HR1
    go_wp2_with fail
    refine (HWI.out w3).mono ?_
    rintro e w4 ⟨rfl, rfl⟩
    cases wi with
    | false =>
      have HT := Lib.hid (show r = 2 from HR2.out.trans (if_pos rfl))
      have her := (HG.out _ B3.out).stk.place.bound
      unfold ErrAt at her
      go_wp2_with fail
      go_ret
      rw [HT.out]
      exact ⟨rfl, B3.out⟩
    | true =>
      have HR3 := Lib.hid (HR2.out.trans (if_neg (by simp)))
      clear HR2 e4
      go_wp2_with fail
      refine (HCF.out w.heap.size w3 (HPRE.out _ B3.out) h3).mono ?_
      rintro e w5 ⟨rfl, b5⟩
      have B5 := Lib.hid (B3.out.trans (b5.mono B3.out.size))
      clear b5 h3 B3 HCF
      cases ca with
      | true =>
        have HT := Lib.hid (show r = 7 from HR3.out.trans (if_pos rfl))
        have her := (HG.out _ B5.out).exist
        unfold ErrAt at her
        go_wp2_with fail
        go_ret
        rw [HT.out]
        exact ⟨rfl, B5.out⟩
      | false =>
        have HT := Lib.hid (show r = 0 from HR3.out.trans (if_neg (by simp)))
        go_wp2_with fail
        go_ret
        rw [HT.out]
        exact ⟨rfl, B5.out⟩
end Go.Proofs.YthnpemlmfekkgaaGreatDoor
namespace Go.Proofs.YthnpemlmfekkgaaGreatDoor
open Go.RowKit Go.Sort Go.Proofs

theorem sheet_step (l : List LineV) (k : Nat) (h : k < l.length) : sheetF (l.take k) (l.drop k) = if lineE (l.take k) l[k] ≠ 0 then some (lineE (l.take k) l[k], k) else sheetF (l.take (k + 1)) (l.drop (k + 1)) := by
  rw [List.drop_eq_getElem_cons h, List.take_succ_eq_append_getElem h]
  conv => lhs; unfold sheetF
  rw [List.length_take, Nat.min_eq_left (by omega)]
/-- An error with a place, in memory. -/
def FltAt (E : Nat → Addr) (f : Option (Nat × Nat)) (v : Value) (w : World) : Prop :=
  match f with
  | none => v = .nilIface
  | some (k, i) => k ≠ 0 ∧ ∃ b, v = .iface 75 (.pointer (some ⟨b, 0, none⟩)) ∧ w.heap[b]? = some (.cells #[.int .i64 (i : Nat), errOf E k] 77 (0, 0))

set_option maxHeartbeats 1600000 in
set_option maxRecDepth 100000 in
theorem cntCheck_any (E : Nat → Addr) (A : Option Addr) (cap : Nat) (l : List LineV) (w : World) (hrow : RowAt encLine 5 w A l) (hl : l.length ≤ 100000) (hcap : l.length ≤ cap) (hG : BkG E w) :
    Calls Tryz.prog 26 #[.slice A l.length cap] w fun e w' => ∃ v, e = .returned v ∧ FltAt E (sheetF [] l) v w' ∧ Below w.heap.size w w' := by
  have HR := Lib.hid (fun W (h : Below w.heap.size w W) => hrow.below h)
  have HG := Lib.hid (fun W (h : Below w.heap.size w W) => hG.below h)
  have HST := Lib.hid (sheet_step l)
  obtain ⟨r, hr⟩ : ∃ r, r = sheetF [] l := ⟨_, rfl⟩
  have HR0 := Lib.hid hr
  rw [← hr]
  obtain ⟨N, hN⟩ : ∃ N, N = l.length := ⟨_, rfl⟩
  have HN := Lib.hid hN
  have HCL : Hid (∀ k (hk : k < l.length) W, RowAt encLine 5 W A l → BkG E W → Calls Tryz.prog 51 #[.slice A N cap, .int .i64 (k : Nat)] W fun e w' => e = .returned (errOf E (lineE (l.take k) l[k])) ∧ Below W.heap.size W w') := fun k hk W h1 g => by
    rw [hN]
    exact cntLine_any E A cap l k hk W h1 hl hcap g
  rw [← hN] at hl ⊢
  clear hr hrow hG hcap hN
  go_enter Tryz.func26, Tryz.ntmps26
  go_wp2_with fail
  go_loopw [7] (fun i wr => ∃ k : Nat, k ≤ N ∧ i = .int .i64 k ∧ Hid (r = sheetF (l.take k) (l.drop k)) ∧ Hid (Below w.heap.size w wr)) (fun i _ => N - (intOf i).toNat)
  case atStart => exact ⟨0, by omega, rfl, by show _ = _; rw [HR0.out]; rfl, Below.refl _ _⟩
  case round =>
    obtain ⟨k, hk, rfl, HS, HB⟩ := hrel
    by_cases hkN : k < N
    · have hkx : k < l.length := by rw [← HN.out]; exact hkN
      have HS1 := Lib.hid (HS.out.trans (HST.out k hkx))
      have HC1 := Lib.hid (HCL.out k hkx wr (HR.out _ HB.out) (HG.out _ HB.out))
      obtain ⟨le, hle⟩ : ∃ le, le = lineE (l.take k) l[k] := ⟨_, rfl⟩
      rw [← hle] at HS1 HC1
      clear hle
      go_wp2_with fail
      refine HC1.out.mono ?_
      rintro e w1 ⟨rfl, b1⟩
      have B1 := Lib.hid (HB.out.trans (b1.mono HB.out.size))
      clear b1 HC1
      by_cases h0 : le = 0
      · have HS2 : Hid (r = sheetF (l.take (k + 1)) (l.drop (k + 1))) := by
          show _ = _
          rw [HS1.out, if_neg (by simpa using h0)]
        rw [h0, errOf_zero]
        clear h0 HS1
        go_wp2_with fail
        go_roundw
        case rel => exact ⟨k + 1, by omega, by go_num, HS2.out, B1.out⟩
        case measure => simp [intOf]; omega
      · have HS2 : Hid (r = some (le, k)) := by
          show _ = _
          rw [HS1.out, if_pos h0]
        have HZ := Lib.hid h0
        rw [errOf_pos _ _ h0]
        clear h0 HS1
        have hb := Lib.hid (heap_alloc_new w1 (.cells #[.int .i64 (k : Nat), .iface 268 (.pointer (some (E le)))] 77))
        have bb := Lib.hid (below_one w1 (.cells #[.int .i64 (k : Nat), .iface 268 (.pointer (some (E le)))] 77))
        go_wp2_with fail
        go_ret
        refine ⟨_, rfl, ?_, B1.out.trans (bb.out.mono B1.out.size)⟩
        rw [HS2.out]
        exact ⟨HZ.out, _, rfl, by rw [errOf_pos _ _ HZ.out]; exact hb.out⟩
    · obtain rfl : k = N := by omega
      have HS1 : Hid (r = none) := by
        show _ = _
        rw [HS.out, HN.out, List.drop_length]
        rfl
      go_wp2_with fail
      go_ret
      refine ⟨_, rfl, ?_, HB.out⟩
      rw [HS1.out]
      rfl
end Go.Proofs.YthnpemlmfekkgaaGreatDoor
