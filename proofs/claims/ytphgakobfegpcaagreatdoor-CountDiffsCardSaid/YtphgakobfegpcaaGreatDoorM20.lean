/- Equal entries. Entries: Check. The program's book: newGoods, newLot. The program's book: Goods. maps.Clone at the book's maps. Printed by gen/bkclone.py. -/
import Derived.Laws.StructEq
import Derived.Deep.CutBlock
import Derived.Shelf.SlMaps.Clone
import Derived.Test.YtphgakobfegpcaaGreatDoorM12
import Derived.Test.YtphgakobfegpcaaGreatDoorM16
import Derived.Test.YtphgakobfegpcaaGreatDoorM19
namespace Go.Proofs.YtphgakobfegpcaaGreatDoor
open Go.RowKit Go.Sort Go.Proofs

set_option maxHeartbeats 1600000 in
set_option maxRecDepth 100000 in
theorem eqInEnt (x y : EntV) (W : World) : (Op.equalIn 10000 69 (.agg (encEnt x).toArray) (.agg (encEnt y).toArray)).run Tryz.prog W = .ok (decide (x = y)) W := by
  have u3 := Tryz.underlying3
  have u9 := Tryz.underlying9
  have hS : Tryz.prog.underlying 69 = some (.struct (Tryz.prog.fieldsOf 69)) := by kernel_rfl
  have hp : Tryz.prog.stoodInHeld 69 = false := by kernel_rfl
  have gS : Tryz.prog.underlying 50 = some (.struct (Tryz.prog.fieldsOf 50)) := by kernel_rfl
  have gp : Tryz.prog.stoodInHeld 50 = false := by kernel_rfl
  have lS : Tryz.prog.underlying 65 = some (.struct (Tryz.prog.fieldsOf 65)) := by kernel_rfl
  have lp : Tryz.prog.stoodInHeld 65 = false := by kernel_rfl
  have pS : Tryz.prog.underlying 67 = some (.struct (Tryz.prog.fieldsOf 67)) := by kernel_rfl
  have pp : Tryz.prog.stoodInHeld 67 = false := by kernel_rfl
  have eP : ∀ (a1 b1 : List UInt8) (a2 a3 b2 b3 : Int) (W : World), (Op.equalIn 9999 67 (.agg #[.string ⟨a1.toArray⟩, .int .i64 a2, .int .i64 a3]) (.agg #[.string ⟨b1.toArray⟩, .int .i64 b2, .int .i64 b3])).run Tryz.prog W = .ok (decide (a1 = b1 ∧ a2 = b2 ∧ a3 = b3)) W := fun a1 b1 a2 a3 b2 b3 W => by
    rw [show (9999 : Nat) = 9998 + 1 from rfl, run_equalIn_agg W 9998 67 _ _ pS pp]
    simp only [Program.fieldsOf, Tryz.underlying67]
    go_simp
    by_cases h1 : a1 = b1 <;> by_cases h2 : a2 = b2 <;> by_cases h3 : a3 = b3 <;> simp [h1, h2, h3]
  have eG : ∀ (a1 b1 : List UInt8) (a2 b2 : Int) (W : World), (Op.equalIn 9999 50 (.agg #[.string ⟨a1.toArray⟩, .int .i64 a2]) (.agg #[.string ⟨b1.toArray⟩, .int .i64 b2])).run Tryz.prog W = .ok (decide (a1 = b1 ∧ a2 = b2)) W := fun a1 b1 a2 b2 W => by
    rw [show (9999 : Nat) = 9998 + 1 from rfl, run_equalIn_agg W 9998 50 _ _ gS gp]
    simp only [Program.fieldsOf, Tryz.underlying50]
    go_simp
    by_cases h1 : a1 = b1 <;> by_cases h2 : a2 = b2 <;> simp [h1, h2]
  have eL : ∀ (a1 a2 b1 b2 : List UInt8) (a3 a4 b3 b4 : Int) (W : World), (Op.equalIn 9999 65 (.agg #[.string ⟨a1.toArray⟩, .string ⟨a2.toArray⟩, .int .i64 a3, .int .i64 a4]) (.agg #[.string ⟨b1.toArray⟩, .string ⟨b2.toArray⟩, .int .i64 b3, .int .i64 b4])).run Tryz.prog W = .ok (decide (a1 = b1 ∧ a2 = b2 ∧ a3 = b3 ∧ a4 = b4)) W := fun a1 a2 b1 b2 a3 a4 b3 b4 W => by
    rw [show (9999 : Nat) = 9998 + 1 from rfl, run_equalIn_agg W 9998 65 _ _ lS lp]
    simp only [Program.fieldsOf, Tryz.underlying65]
    go_simp
    by_cases h1 : a1 = b1 <;> by_cases h2 : a2 = b2 <;> by_cases h3 : a3 = b3 <;> by_cases h4 : a4 = b4 <;> simp [h1, h2, h3, h4]
  simp only [encEnt]
  rw [show (10000 : Nat) = 9999 + 1 from rfl, run_equalIn_agg W 9999 69 _ _ hS hp]
  clear gS gp lS lp pS pp hS hp
  simp only [Program.fieldsOf, Tryz.underlying69]
  go_simp
  clear u3 u9 eP eG eL
  obtain ⟨a0, ⟨g1, g2⟩, ⟨l1, l2, l3, l4⟩, ⟨f1, f2, f3⟩, ⟨t1, t2, t3⟩, n⟩ := x
  obtain ⟨b0, ⟨h1, h2⟩, ⟨m1, m2, m3, m4⟩, ⟨i1, i2, i3⟩, ⟨u1, u2, u3⟩, k⟩ := y
  simp only [Prod.mk.injEq]
  by_cases q0 : a0 = b0
  · by_cases q1 : g1 = h1 ∧ g2 = h2
    · by_cases q2 : l1 = m1 ∧ l2 = m2 ∧ l3 = m3 ∧ l4 = m4
      · by_cases q3 : f1 = i1 ∧ f2 = i2 ∧ f3 = i3
        · by_cases q4 : t1 = u1 ∧ t2 = u2 ∧ t3 = u3
          · by_cases q5 : n = k <;> simp [q0, q1, q2, q3, q4, q5]
          · have q4' : t1 = u1 → t2 = u2 → ¬ t3 = u3 := fun a b c => q4 ⟨a, b, c⟩
            rw [if_pos q0, if_neg (fun e => e q1.1 q1.2), if_neg (fun e => e q2.1 q2.2.1 q2.2.2.1 q2.2.2.2), if_neg (fun e => e q3.1 q3.2.1 q3.2.2), if_pos q4', decide_eq_false (fun e => q4 e.2.2.2.2.1)]
        · have q3' : f1 = i1 → f2 = i2 → ¬ f3 = i3 := fun a b c => q3 ⟨a, b, c⟩
          rw [if_pos q0, if_neg (fun e => e q1.1 q1.2), if_neg (fun e => e q2.1 q2.2.1 q2.2.2.1 q2.2.2.2), if_pos q3', decide_eq_false (fun e => q3 e.2.2.2.1)]
      · have q2' : l1 = m1 → l2 = m2 → l3 = m3 → ¬ l4 = m4 := fun a b c d => q2 ⟨a, b, c, d⟩
        rw [if_pos q0, if_neg (fun e => e q1.1 q1.2), if_pos q2', decide_eq_false (fun e => q2 e.2.2.1)]
    · have q1' : g1 = h1 → ¬ g2 = h2 := fun a b => q1 ⟨a, b⟩
      rw [if_pos q0, if_pos q1', decide_eq_false (fun e => q1 e.2.1)]
  · rw [if_neg q0, decide_eq_false (fun e => q0 e.1)]
theorem neqEnt (x y : EntV) (W : World) : (binOp .neq 69 (.agg (encEnt x).toArray) (.agg (encEnt y).toArray)).run Tryz.prog W = .ok (.bool (!decide (x = y))) W := by
  rw [run_neq_struct, eqInEnt]
  rfl
theorem eqEnt (x y : EntV) (W : World) : (binOp .eql 69 (.agg (encEnt x).toArray) (.agg (encEnt y).toArray)).run Tryz.prog W = .ok (.bool (decide (x = y))) W := by
  rw [run_eql_struct, eqInEnt]
  rfl
end Go.Proofs.YtphgakobfegpcaaGreatDoor
namespace Go.Proofs.YtphgakobfegpcaaGreatDoor
open Go.RowKit Go.Sort Go.Proofs

/-- What the checks of entries lean on. -/
structure EntCG (E : Nat → Addr) (w : World) : Prop where
  read : LotCG E w
  shape : ErrAt 1 (E 3) w
  kind : ErrAt 5 (E 4) w
theorem EntCG.below {E : Nat → Addr} {w w' : World} (h : EntCG E w) (hb : Below w.heap.size w w') : EntCG E w' := ⟨h.read.below hb, h.shape.below hb, h.kind.below hb⟩
theorem LotG.place {E : Nat → Addr} {w : World} (h : LotG E w) : PlaceG E w := ⟨h.name, h.bound, h.tab⟩
theorem LotCG.place {E : Nat → Addr} {w : World} (h : LotCG E w) : PlaceCG E w := ⟨h.name, h.bound⟩
set_option maxHeartbeats 800000 in
theorem places_any (E : Nat → Addr) (x : EntV) (bF bT bP : Bool) (w : World) (hG : EntCG E w) :
    Calls Tryz.prog 174 #[.agg (encEnt x).toArray, .agg #[.bool bF, .bool bT, .bool bP]] w fun e w' => e = .returned (errOf E (if bF = true ∧ placeE x.2.2.2.1 ≠ 0 then placeE x.2.2.2.1 else if bT = true then placeE x.2.2.2.2.1 else 0)) ∧ Below w.heap.size w w' := by
  have HF := Lib.hid (fun W h => checkPlace_c E x.2.2.2.1 W h)
  have HT := Lib.hid (fun W h => checkPlace_c E x.2.2.2.2.1 W h)
  have hc := fun i v (h : (encEnt x)[i]? = some v) => show ((w.alloc (.cells (encEnt x).toArray 69)).alloc (.cells #[.bool bF, .bool bT, .bool bP] 201)).cell? ⟨w.heap.size, i, none⟩ = some v from ((below_one (w.alloc (.cells (encEnt x).toArray 69)) _).cell (p := ⟨w.heap.size, i, none⟩) (by simp)).trans ((cell_of_row _ _ _ _ _ _ (heap_alloc_new _ _)).trans (by simpa using h))
  have b0 := below_two w (.cells (encEnt x).toArray 69) (.cells #[.bool bF, .bool bT, .bool bP] 201)
  have c7 := hc 7 _ rfl
  have c8 := hc 8 _ rfl
  have c9 := hc 9 _ rfl
  have c10 := hc 10 _ rfl
  have c11 := hc 11 _ rfl
  have c12 := hc 12 _ rfl
  clear hc
  have hfr : ((w.alloc (.cells (encEnt x).toArray 69)).alloc (.cells #[.bool bF, .bool bT, .bool bP] 201)).heap[w.heap.size + 1]? = some (.cells #[.bool bF, .bool bT, .bool bP] 201 (0, 0)) := by
    have := heap_alloc_new (w.alloc (.cells (encEnt x).toArray 69)) (.cells #[.bool bF, .bool bT, .bool bP] 201)
    simpa using this
  have d0 : ((w.alloc (.cells (encEnt x).toArray 69)).alloc (.cells #[.bool bF, .bool bT, .bool bP] 201)).cell? ⟨w.heap.size + 1, 0, none⟩ = some (.bool bF) := cell_of_row _ _ _ _ _ _ hfr
  have d1 : ((w.alloc (.cells (encEnt x).toArray 69)).alloc (.cells #[.bool bF, .bool bT, .bool bP] 201)).cell? ⟨w.heap.size + 1, 1, none⟩ = some (.bool bT) := cell_of_row _ _ _ _ _ _ hfr
  have HG := Lib.hid (fun W (h : Below w.heap.size w W) => (hG.below h).read.place)
  clear hfr hG
  obtain ⟨k, ⟨g1, g2⟩, ⟨l1, l2, l3, l4⟩, ⟨f1, f2, f3⟩, ⟨t1, t2, t3⟩, n⟩ := x
  simp only [encEnt, encPlace] at HF HT b0 c7 c8 c9 c10 c11 c12 d0 d1 ⊢
  generalize placeE (f1, f2, f3) = pf at HF ⊢
  generalize placeE (t1, t2, t3) = pt at HT ⊢
  obtain ⟨r, hr⟩ : ∃ r, r = (if bF = true ∧ pf ≠ 0 then pf else if bT = true then pt else 0) := ⟨_, rfl⟩
  rw [← hr]
  have HR := Lib.hid hr
  clear hr
  cases bF with
  | false =>
    cases bT with
    | false =>
      have HR0 : Hid (r = 0) := by show _ = _; rw [HR.out]; simp
      go_enter Tryz.func174, Tryz.ntmps174
      go_wp2
      go_ret
      rw [HR0.out]
      exact ⟨rfl, b0⟩
    | true =>
      have HR0 : Hid (r = pt) := by show _ = _; rw [HR.out]; simp
      go_enter Tryz.func174, Tryz.ntmps174
      go_wp2_with fail
      refine (HT.out _ (HG.out _ b0)).mono ?_
      rintro e w1 ⟨rfl, b1⟩
      have B1 := Lib.hid (b0.trans (b1.mono b0.size))
      clear b1 b0
      go_wp2
      go_ret
      rw [HR0.out]
      exact ⟨rfl, B1.out⟩
  | true =>
    go_enter Tryz.func174, Tryz.ntmps174
    go_wp2_with fail
    refine (HF.out _ (HG.out _ b0)).mono ?_
    rintro e w1 ⟨rfl, b1⟩
    have g := fun (b o : Nat) (v : Value) (hc : _ = some v) => (b1.cell (p := ⟨b, o, none⟩) (lt_of_cell hc)).trans hc
    have e10 := g _ _ _ c10
    have e11 := g _ _ _ c11
    have e12 := g _ _ _ c12
    have e1 := g _ _ _ d1
    have B1 := Lib.hid (b0.trans (b1.mono b0.size))
    clear b1 b0 g c7 c8 c9 c10 c11 c12 d0 d1
    by_cases h0 : pf = 0
    · subst h0
      rw [errOf_zero]
      cases bT with
      | false =>
        have HR0 : Hid (r = 0) := by show _ = _; rw [HR.out]; simp
        go_wp2
        go_ret
        rw [HR0.out]
        exact ⟨rfl, B1.out⟩
      | true =>
        have HR0 : Hid (r = pt) := by show _ = _; rw [HR.out]; simp
        go_wp2_with fail
        refine (HT.out _ (HG.out _ B1.out)).mono ?_
        rintro e w2 ⟨rfl, b2⟩
        have B2 := Lib.hid (B1.out.trans (b2.mono B1.out.size))
        clear b2
        go_wp2
        go_ret
        rw [HR0.out]
        exact ⟨rfl, B2.out⟩
    · rw [errOf_pos _ _ h0]
      have HR0 : Hid (r = pf) := by show _ = _; rw [HR.out]; simp [h0]
      go_wp2
      go_ret
      rw [HR0.out, errOf_pos _ _ h0]
      exact ⟨rfl, B1.out⟩
end Go.Proofs.YtphgakobfegpcaaGreatDoor
namespace Go.Proofs.YtphgakobfegpcaaGreatDoor
open Go.RowKit Go.Sort Go.Proofs

/-- What the walks over a book lean on. -/
structure BkG (E : Nat → Addr) (w : World) : Prop where
  stk : StkG E w
  kind : ErrAt 5 (E 4) w
  none : ErrAt 0 (E 6) w
  exist : ErrAt 7 (E 7) w
theorem BkG.below {E : Nat → Addr} {w w' : World} (h : BkG E w) (hb : Below w.heap.size w w') : BkG E w' := ⟨h.stk.below hb, h.kind.below hb, h.none.below hb, h.exist.below hb⟩
theorem BkG.ent {E : Nat → Addr} {w : World} (h : BkG E w) : EntCG E w := ⟨⟨h.stk.place.name, h.stk.place.bound⟩, h.stk.shape, h.kind⟩

theorem MapF.len {ν : Type} {eV : ν → Value} {w : World} {b : Nat} {f : List UInt8 → Option ν} (h : MapF eV w b f) {N : Nat} (hN : ∀ m : List (List UInt8 × ν), (m.map (·.1)).Nodup → (∀ k, mget m k = f k) → m.length = N)
    {P : Program} {t kt e ty : TypeId} (ht : P.underlying t = some (.map kt e)) : (Builtin.len_ #[t] ty #[.map (some b)]).run P w = .ok (.int .i64 N) w := by
  obtain ⟨m, h1, h2⟩ := h
  have := h1.len (ty := ty) ht
  rwa [hN m h1.nodup h2] at this

theorem zeroGoodsE (w : World) : (zeroValue 50).run Tryz.prog w = .ok (eGoods zeroGoods) w := by kernel_rfl
theorem zeroLotE (w : World) : (zeroValue 65).run Tryz.prog w = .ok (eLot zeroLot) w := by kernel_rfl

set_option maxHeartbeats 400000 in
set_option maxRecDepth 100000 in
theorem newGoods_any (E : Nat → Addr) (p g : Nat) (f : List UInt8 → Option GoodsV) (N : Nat) (x : GoodsV) (w : World) (cp : w.cell? ⟨p, 0, none⟩ = some (.map (some g))) (hf : MapF eGoods w g f)
    (hN : ∀ m : List (List UInt8 × GoodsV), (m.map (·.1)).Nodup → (∀ k, mget m k = f k) → m.length = N) (hG : BkG E w) :
    Calls Tryz.prog 85 #[.pointer (some ⟨p, 0, none⟩), .agg (encGoods x).toArray] w fun e w' => e = .returned (errOf E (if (f x.1).isSome = true then 7 else if 30 ≤ N then 8 else 0)) ∧
      MapF eGoods w' g (if (f x.1).isSome = true ∨ 30 ≤ N then f else fun i => if i = x.1 then some x else f i) ∧ But g w w' := by
  obtain ⟨r, hr⟩ : ∃ r : Nat, r = if (f x.1).isSome = true then 7 else if 30 ≤ N then 8 else 0 := ⟨_, rfl⟩
  obtain ⟨f', hf'⟩ : ∃ f', f' = if (f x.1).isSome = true ∨ 30 ≤ N then f else fun i => if i = x.1 then some x else f i := ⟨_, rfl⟩
  rw [← hr, ← hf']
  have HR := Lib.hid hr
  have HF' := Lib.hid hf'
  have HG := Lib.hid (fun W (h : Below w.heap.size w W) => hG.below h)
  have HM := Lib.hid (fun W (hb : Below w.heap.size w W) => hf.below hb)
  have HL := Lib.hid (fun W (h : MapF eGoods W g f) => h.look (P := Tryz.prog) (t := 133) (kt := 9) (by kernel_rfl) Tryz.underlying133 (zeroGoodsE W) x.1 true)
  have HLN := Lib.hid (fun W (h : MapF eGoods W g f) ty => h.len hN (P := Tryz.prog) (ty := ty) Tryz.underlying133)
  have HS := Lib.hid (fun W (h : MapF eGoods W g f) => h.store (P := Tryz.prog) (t := 133) (kt := 9) (by kernel_rfl) Tryz.underlying133 x.1 x)
  have hgl := hf.lt
  have hpl := lt_of_cell cp
  clear hr hf' hG hf hN
  generalize (f x.1).getD zeroGoods = z at HL
  generalize (f x.1).isSome = is at HL HR HF'
  obtain ⟨x1, x2⟩ := x
  obtain ⟨z1, z2⟩ := z
  simp only [eGoods, encGoods] at HL HS ⊢
  have b0 := Lib.hid (below_one w (.cells #[.string ⟨x1.toArray⟩, .int .i64 x2] 50))
  have hx := heap_alloc_new w (.cells #[.string ⟨x1.toArray⟩, .int .i64 x2] 50)
  have cp0 := (b0.out.cell (p := ⟨p, 0, none⟩) hpl).trans cp
  go_enter Tryz.func85, Tryz.ntmps85
  go_wp2_with fail
  generalize w.alloc (.cells #[.string ⟨x1.toArray⟩, .int .i64 x2] 50) = W0 at b0 hx cp0 ⊢
  have HX := Lib.hid hx
  have bz := below_one W0 (.cells #[.string ⟨#[]⟩, .int .i64 0] 50)
  have b1 := Lib.hid (b0.out.trans (bz.mono b0.out.size)).drew
  have hz : w.heap.size < W0.heap.size := row_lt hx
  have x0 : (W0.alloc (.cells #[.string ⟨#[]⟩, .int .i64 0] 50)).drew.cell? ⟨w.heap.size, 0, none⟩ = some (.string ⟨x1.toArray⟩) := (bz.cell (p := ⟨w.heap.size, 0, none⟩) hz).trans (cell_of_row _ _ 0 _ _ _ hx)
  have cp1 : (W0.alloc (.cells #[.string ⟨#[]⟩, .int .i64 0] 50)).drew.cell? ⟨p, 0, none⟩ = some (.map (some g)) := (bz.cell (p := ⟨p, 0, none⟩) (lt_of_cell cp0)).trans cp0
  have hl := HL.out _ (HM.out _ b1.out)
  have x00 : W0.cell? ⟨w.heap.size, 0, none⟩ = some (.string ⟨x1.toArray⟩) := cell_of_row _ _ 0 _ _ _ hx
  have hl0 := HL.out _ (HM.out _ b0.out.drew)
  clear hx cp
  go_region
  all_goals
    clear hl hl0 x0 x00 cp1 bz b1
    have b2 := Lib.hid ((b0.out.trans ((below_one W0 (.cells #[.string ⟨z1.toArray⟩, .int .i64 z2] 50)).mono b0.out.size)).drew)
    have hx2 : (W0.alloc (.cells #[.string ⟨z1.toArray⟩, .int .i64 z2] 50)).drew.heap[w.heap.size]? = some (.cells #[.string ⟨x1.toArray⟩, .int .i64 x2] 50 (0, 0)) := ((below_one W0 _).block _ hz).trans HX.out
    have cp2 : (W0.alloc (.cells #[.string ⟨z1.toArray⟩, .int .i64 z2] 50)).drew.cell? ⟨p, 0, none⟩ = some (.map (some g)) := ((below_one W0 _).cell (p := ⟨p, 0, none⟩) (lt_of_cell cp0)).trans cp0
    generalize (W0.alloc (.cells #[.string ⟨z1.toArray⟩, .int .i64 z2] 50)).drew = W1 at b2 hx2 cp2 ⊢
    clear cp0 hz HL
    cases is with
    | true =>
      have HR0 := Lib.hid (show r = 7 from HR.out.trans (if_pos rfl))
      have HF0 := Lib.hid (show f' = f from HF'.out.trans (if_pos (.inl rfl)))
      have hex := (HG.out _ b2.out).exist
      unfold ErrAt at hex
      go_wp2_with fail
      go_ret
      rw [HR0.out, HF0.out]
      exact ⟨rfl, HM.out _ b2.out, But.of_below b2.out⟩
    | false =>
      have hlen := fun ty => HLN.out W1 (HM.out _ b2.out) ty
      by_cases hfull : 30 ≤ N
      · have HR0 := Lib.hid (show r = 8 from HR.out.trans ((if_neg (by simp)).trans (if_pos hfull)))
        have HF0 := Lib.hid (show f' = f from HF'.out.trans (if_pos (.inr hfull)))
        have hfl := (HG.out _ b2.out).stk.full
        unfold ErrAt at hfl
        go_wp2_with fail
        go_ret
        rw [HR0.out, HF0.out]
        exact ⟨rfl, HM.out _ b2.out, But.of_below b2.out⟩
      · have HR0 := Lib.hid (show r = 0 from HR.out.trans ((if_neg (by simp)).trans (if_neg hfull)))
        have HF0 := Lib.hid (show f' = fun i => if i = x1 then some (x1, x2) else f i from HF'.out.trans (if_neg (fun e => e.elim (by simp) hfull)))
        have hx0 := cell_of_row _ _ 0 _ _ _ hx2
        have hx1 := cell_of_row _ _ 1 _ _ _ hx2
        simp at hx0 hx1
        obtain ⟨v, hS, hM, hT⟩ := HS.out W1.drew (HM.out _ b2.out.drew)
        have HM3 := Lib.hid hM
        have HT3 := Lib.hid hT
        clear hM hT hx2
        go_wp2_with fail
        go_region
        all_goals
          go_wp2_with fail
          go_ret
          rw [HR0.out, HF0.out]
          exact ⟨rfl, HM3.out, (But.of_below b2.out.drew).trans (But.of_turned HT3.out)⟩
end Go.Proofs.YtphgakobfegpcaaGreatDoor
namespace Go.Proofs.YtphgakobfegpcaaGreatDoor
open Go.RowKit Go.Sort Go.Proofs

theorem goods1Info : (Tryz.prog.info? 50).map (fun i => (i.zero, i.size, i.bytes)) = some (some (.agg #[.string ⟨#[]⟩, .int .i64 0]), 2, 24) := by kernel_rfl
theorem encGoods_len (x : GoodsV) : (encGoods x).length = 2 := rfl
theorem encGoods_one (x : GoodsV) : ∀ v ∈ encGoods x, v.oneCell' = true := fun v hv => by
  simp [encGoods] at hv
  rcases hv with rfl | rfl <;> rfl
theorem keys_goods {B : BkV} (hI : BkI B) : ((B.1.map fun y : GoS => (y.1.1, y.1)).map (·.1)).Nodup := by
  rw [List.map_map]
  refine (List.pairwise_map.2 (hI.gs.imp fun h => ?_))
  exact ltB_ne h
theorem goods_perm {B : BkV} (hI : BkI B) {m : List (List UInt8 × GoodsV)} (hn : (m.map (·.1)).Nodup) (hg : ∀ k, mget m k = goodsF B k) : m.Perm (B.1.map fun y : GoS => (y.1.1, y.1)) :=
  perm_mget hn (keys_goods hI) fun k => by
    rw [hg, mget_find]
    rfl
theorem goods_len {B : BkV} (hI : BkI B) : ∀ x ∈ B.1, x.1.1.length ≤ 8 := fun x hx => by
  have h := (hI.gok x hx).1
  unfold goodsE at h
  split at h
  · cases h
  · rename_i h2
    exact (nameB_len (by simpa using h2)).2

set_option maxHeartbeats 1600000 in
set_option maxRecDepth 100000 in
theorem goodsBk_any {p : Nat} {F : List Nat} {B : BkV} {w : World} (H : BookIs w p F B) (hI : BkI B) :
    Calls Tryz.prog 18 #[.pointer (some ⟨p, 0, none⟩)] w fun e w' => ∃ A cap, e = .returned (.slice A B.1.length cap) ∧ RowAt encGoods 2 w' A (B.1.map (·.1)) ∧ (∀ a, A = some a → w.heap.size ≤ a.block) ∧ Below w.heap.size w w' := by
  obtain ⟨i0, hi, hz0, hz1, hz2⟩ := info_parts goods1Info
  obtain ⟨g, l, h, s, q, c, -, -, hm⟩ := H
  obtain ⟨⟨c0, -, -, -, -⟩, -⟩ := hm.cells
  have HC := Lib.hid (fun W (h : Below w.heap.size w W) => ((BookM.below hm h).cells).1.1)
  have HM := Lib.hid (fun W (h : Below w.heap.size w W) k => (hm.goods.below h).look (P := Tryz.prog) (t := 133) (kt := 9) (by kernel_rfl) Tryz.underlying133 (zeroGoodsE _) k false)
  obtain ⟨m, hM, hget⟩ := hm.goods
  obtain ⟨G, hG⟩ : ∃ G, G = B.1.map (·.1) := ⟨_, rfl⟩
  obtain ⟨ks, hks⟩ : ∃ ks, ks = B.1.map fun x : GoS => x.1.1 := ⟨_, rfl⟩
  have hl : ks.length = G.length := by rw [hks, hG]; simp
  have HG : Hid (∀ i (h : i < G.length) (h' : i < ks.length), goodsF B ks[i] = some G[i]) := fun i h h' => by
    have hi : i < B.1.length := by rw [hG] at h; simpa using h
    have e1 : ks[i] = B.1[i].1.1 := by simp [hks]
    have e2 : G[i] = B.1[i].1 := by simp [hG]
    rw [e1, e2]
    unfold goodsF
    rw [hI.fG_is (List.getElem_mem hi)]
    rfl
  have hp : (m.map (·.1)).Perm ks := by
    have := (goods_perm hI hM.nodup hget).map (·.1)
    rw [hks]
    rw [List.map_map] at this
    exact this
  have hsrt : ks.Pairwise fun x y => ltB x y = true := by rw [hks, List.pairwise_map]; exact hI.gs
  have hfew : ks.length ≤ 30 := by rw [hks, List.length_map]; exact hI.gfew
  have HK := Lib.hid (keysGoods_any hM hp hsrt (fun k hk => by rw [hks] at hk; obtain ⟨x, hx, rfl⟩ := List.mem_map.1 hk; have := goods_len hI x hx; omega) (by omega))
  have hlen : B.1.length = ks.length := by rw [hks]; simp
  rw [hlen]
  rw [← hG]
  obtain ⟨N, hN⟩ : ∃ N, N = ks.length := ⟨_, rfl⟩
  have HN := Lib.hid hN
  have HL : Hid (N = G.length) := hN.trans hl
  rw [← hN] at HK hfew ⊢
  have B0 := Lib.hid (below_one w (.cells #[.map (some g)] 133))
  clear hm hget hp hsrt hlen hl hN hks hG hI hM
  go_enter Tryz.func18, Tryz.ntmps18
  go_wp2_with fail
  refine (mkGoods_any _ _).mono ?_
  rintro e w1 ⟨rfl, rfl⟩
  clear c0
  go_wp2_with fail
  refine HK.out.mono ?_
  rintro e w2 ⟨A, cap, rfl, hst, b2⟩
  have B2 := Lib.hid (B0.out.trans (b2.mono B0.out.size))
  have HST := Lib.hid (fun W (h : Below w2.heap.size w2 W) => hst.below h)
  clear hst b2 HK B0
  go_wp2_with fail
  go_loopw [3, 13] (fun v i wr => ∃ k : Nat, k ≤ N ∧ i = .int .i64 k ∧ Hid (wr.ownsRow w2.heap.size 50 2 v k (flatL encGoods (G.take k))) ∧ Hid (Below w2.heap.size w2 wr)) (fun _ i _ => N - (intOf i).toNat)
  case atStart => exact ⟨0, by omega, rfl, World.ownsRow_nil _ _ _ _, Below.refl _ _⟩
  case round =>
    obtain ⟨k, hk, rfl, HOWN, HB⟩ := hrel
    by_cases hkN : k < N
    · have hkx : k < ks.length := by rw [← HN.out]; exact hkN
      have hkG : k < G.length := by rw [← HL.out]; exact hkN
      have hbw := B2.out.trans (HB.out.mono B2.out.size)
      obtain ⟨bk, o, rfl, lg, cg⟩ := HST.out wr HB.out |>.resolve_left (fun h => by rw [h] at hkx; simp at hkx)
      have ck := cg k hkx
      have hlook := HM.out wr hbw ks[k]
      have c0 := HC.out wr hbw
      rw [HG.out k hkG hkx] at hlook
      have HNX : Hid (flatL encGoods (G.take (k + 1)) = flatL encGoods (G.take k) ++ flatL encGoods [G[k]]) := by
        show _ = _
        rw [List.take_succ_eq_append_getElem hkG, flatL_append]
      obtain ⟨⟨x1, x2⟩, hx⟩ : ∃ x, x = G[k] := ⟨_, rfl⟩
      rw [← hx] at hlook HNX
      simp only [Option.getD_some, eGoods, encGoods, Bool.false_eq_true, if_false] at hlook
      have hsz := HB.out.size
      generalize ks[k] = kk at ck hlook
      clear hx hbw cg
      go_wp2_with (at_builtin; refine wpList_append_rows _ rfl (.tmp 17) (.tmp 24) 42 rfl w2.heap.size 50 i0 _ 24 Tryz.underlying42 hi hz0 hz1 hz2 rfl encGoods_len (by decide) encGoods_one u3 k (flatL encGoods (G.take k)) rfl (own_bl HOWN.out (below_one _ _)) (some ⟨wr.heap.size, 0, none⟩) 1 [(x1, x2)] rfl (row_one (heap_alloc_new _ _)) (by simp; omega) (by decide) (by simp; omega) ?_; intro v3 w3 HO3 hb3; have HB3 := Lib.hid hb3; clear hb3)
      go_roundw
      case rel =>
        refine ⟨k + 1, by omega, by go_num, ?_, (HB.out.trans ((below_one wr _).mono HB.out.size)).trans HB3.out⟩
        show World.ownsRow _ _ _ _ _ _ _
        rw [HNX.out]
        exact HO3.out
      case measure => simp [intOf]; omega
    · obtain rfl : k = N := by omega
      have hT : G.take k = G := List.take_of_length_le (by rw [← HL.out]; exact Nat.le_refl _)
      have ho := HOWN.out
      rw [hT] at ho
      have hkG := HL.out
      rw [hkG] at ho
      obtain ⟨A', c', rfl, hra, hge⟩ := RowAt.of_own encGoods_len ho
      have HRA := Lib.hid hra
      have HGE := Lib.hid hge
      have HKG := Lib.hid hkG
      clear hT hra hge HOWN ho hkG
      go_wp2_with fail
      go_ret
      refine ⟨A', c', by rw [← HKG.out]; rfl, HRA.out, fun a ha => by have := HGE.out a ha; have := B2.out.size; omega, B2.out.trans (HB.out.mono B2.out.size)⟩
end Go.Proofs.YtphgakobfegpcaaGreatDoor
namespace Go.Proofs.YtphgakobfegpcaaGreatDoor
open Go.RowKit Go.Sort Go.Proofs

set_option maxHeartbeats 1600000 in
set_option maxRecDepth 100000 in
theorem cloneGoods_at (b : Nat) (es : Array MapEntry) (clock : Nat) (w : World) (hb : w.heap[b]? = some (.map es clock)) :
    Calls Tryz.prog 79 #[.map (some b)] w fun e w' => e = .returned (.map (some w.heap.size)) ∧ w' = w.alloc (.map es clock) := by
  have hq := fun w => run_eql_map_nil_sl (P := Tryz.prog) w 133 _ _ (some b) Tryz.underlying133
  go_enter Tryz.func79, Tryz.ntmps79
  go_wp2
  rw [run_callFunc_extern Tryz.func127 (by kernel_rfl) (by kernel_rfl) (by kernel_rfl) (e := Extern.MapsClone.clone) (by kernel_rfl), run_maps_clone_sl w 133 hb]
  simp only [Result.andThen]
  rw [Oper.upon_value]
  go_wp2
  rw [run_typeAssert_map_sl _ 133 _ _ _ _ Tryz.underlying133]
  simp only [Result.andThen]
  rw [Oper.upon_value]
  go_wp2
  go_ret
  exact ⟨rfl, rfl⟩
theorem cloneGoods_any (b : Nat) (g : List UInt8 → Option GoodsV) (w : World) (h : MapF eGoods w b g) :
    Calls Tryz.prog 79 #[.map (some b)] w fun e w' => ∃ c, e = .returned (.map (some c)) ∧ w.heap.size ≤ c ∧ MapF eGoods w' c g ∧ Below w.heap.size w w' := by
  obtain ⟨m, ⟨es, clock, hb, hs, hm⟩, hg⟩ := h
  refine (cloneGoods_at b es clock w hb).mono ?_
  rintro e w' ⟨rfl, rfl⟩
  exact ⟨w.heap.size, rfl, Nat.le_refl _, ⟨m, ⟨es, clock, heap_alloc_new w _, hs, hm⟩, hg⟩, below_one w _⟩

set_option maxHeartbeats 1600000 in
set_option maxRecDepth 100000 in
theorem cloneLot_at (b : Nat) (es : Array MapEntry) (clock : Nat) (w : World) (hb : w.heap[b]? = some (.map es clock)) :
    Calls Tryz.prog 80 #[.map (some b)] w fun e w' => e = .returned (.map (some w.heap.size)) ∧ w' = w.alloc (.map es clock) := by
  have hq := fun w => run_eql_map_nil_sl (P := Tryz.prog) w 134 _ _ (some b) Tryz.underlying134
  go_enter Tryz.func80, Tryz.ntmps80
  go_wp2
  rw [run_callFunc_extern Tryz.func127 (by kernel_rfl) (by kernel_rfl) (by kernel_rfl) (e := Extern.MapsClone.clone) (by kernel_rfl), run_maps_clone_sl w 134 hb]
  simp only [Result.andThen]
  rw [Oper.upon_value]
  go_wp2
  rw [run_typeAssert_map_sl _ 134 _ _ _ _ Tryz.underlying134]
  simp only [Result.andThen]
  rw [Oper.upon_value]
  go_wp2
  go_ret
  exact ⟨rfl, rfl⟩
theorem cloneLot_any (b : Nat) (g : List UInt8 → Option LotV) (w : World) (h : MapF eLot w b g) :
    Calls Tryz.prog 80 #[.map (some b)] w fun e w' => ∃ c, e = .returned (.map (some c)) ∧ w.heap.size ≤ c ∧ MapF eLot w' c g ∧ Below w.heap.size w w' := by
  obtain ⟨m, ⟨es, clock, hb, hs, hm⟩, hg⟩ := h
  refine (cloneLot_at b es clock w hb).mono ?_
  rintro e w' ⟨rfl, rfl⟩
  exact ⟨w.heap.size, rfl, Nat.le_refl _, ⟨m, ⟨es, clock, heap_alloc_new w _, hs, hm⟩, hg⟩, below_one w _⟩

set_option maxHeartbeats 1600000 in
set_option maxRecDepth 100000 in
theorem cloneInt_at (b : Nat) (es : Array MapEntry) (clock : Nat) (w : World) (hb : w.heap[b]? = some (.map es clock)) :
    Calls Tryz.prog 81 #[.map (some b)] w fun e w' => e = .returned (.map (some w.heap.size)) ∧ w' = w.alloc (.map es clock) := by
  have hq := fun w => run_eql_map_nil_sl (P := Tryz.prog) w 135 _ _ (some b) Tryz.underlying135
  go_enter Tryz.func81, Tryz.ntmps81
  go_wp2
  rw [run_callFunc_extern Tryz.func127 (by kernel_rfl) (by kernel_rfl) (by kernel_rfl) (e := Extern.MapsClone.clone) (by kernel_rfl), run_maps_clone_sl w 135 hb]
  simp only [Result.andThen]
  rw [Oper.upon_value]
  go_wp2
  rw [run_typeAssert_map_sl _ 135 _ _ _ _ Tryz.underlying135]
  simp only [Result.andThen]
  rw [Oper.upon_value]
  go_wp2
  go_ret
  exact ⟨rfl, rfl⟩
theorem cloneInt_any (b : Nat) (g : List UInt8 → Option Nat) (w : World) (h : MapF eNat w b g) :
    Calls Tryz.prog 81 #[.map (some b)] w fun e w' => ∃ c, e = .returned (.map (some c)) ∧ w.heap.size ≤ c ∧ MapF eNat w' c g ∧ Below w.heap.size w w' := by
  obtain ⟨m, ⟨es, clock, hb, hs, hm⟩, hg⟩ := h
  refine (cloneInt_at b es clock w hb).mono ?_
  rintro e w' ⟨rfl, rfl⟩
  exact ⟨w.heap.size, rfl, Nat.le_refl _, ⟨m, ⟨es, clock, heap_alloc_new w _, hs, hm⟩, hg⟩, below_one w _⟩

set_option maxHeartbeats 1600000 in
set_option maxRecDepth 100000 in
theorem cloneSums_at (b : Nat) (es : Array MapEntry) (clock : Nat) (w : World) (hb : w.heap[b]? = some (.map es clock)) :
    Calls Tryz.prog 82 #[.map (some b)] w fun e w' => e = .returned (.map (some w.heap.size)) ∧ w' = w.alloc (.map es clock) := by
  have hq := fun w => run_eql_map_nil_sl (P := Tryz.prog) w 136 _ _ (some b) Tryz.underlying136
  go_enter Tryz.func82, Tryz.ntmps82
  go_wp2
  rw [run_callFunc_extern Tryz.func127 (by kernel_rfl) (by kernel_rfl) (by kernel_rfl) (e := Extern.MapsClone.clone) (by kernel_rfl), run_maps_clone_sl w 136 hb]
  simp only [Result.andThen]
  rw [Oper.upon_value]
  go_wp2
  rw [run_typeAssert_map_sl _ 136 _ _ _ _ Tryz.underlying136]
  simp only [Result.andThen]
  rw [Oper.upon_value]
  go_wp2
  go_ret
  exact ⟨rfl, rfl⟩
theorem cloneSums_any (b : Nat) (g : List UInt8 → Option SumsV) (w : World) (h : MapF eSums w b g) :
    Calls Tryz.prog 82 #[.map (some b)] w fun e w' => ∃ c, e = .returned (.map (some c)) ∧ w.heap.size ≤ c ∧ MapF eSums w' c g ∧ Below w.heap.size w w' := by
  obtain ⟨m, ⟨es, clock, hb, hs, hm⟩, hg⟩ := h
  refine (cloneSums_at b es clock w hb).mono ?_
  rintro e w' ⟨rfl, rfl⟩
  exact ⟨w.heap.size, rfl, Nat.le_refl _, ⟨m, ⟨es, clock, heap_alloc_new w _, hs, hm⟩, hg⟩, below_one w _⟩
end Go.Proofs.YtphgakobfegpcaaGreatDoor
