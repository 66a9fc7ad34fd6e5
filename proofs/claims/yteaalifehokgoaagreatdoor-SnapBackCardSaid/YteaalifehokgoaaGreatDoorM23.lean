/- The program's book: newLot. Printed by gen/bknewl.py. How many an entry of pieces is of. Entries of pieces: their check. -/
import Derived.Deep.CutBlock
import Derived.Test.YteaalifehokgoaaGreatDoorM04
import Derived.Test.YteaalifehokgoaaGreatDoorM18
import Derived.Test.YteaalifehokgoaaGreatDoorM19
namespace Go.Proofs.YteaalifehokgoaaGreatDoor
open Go.RowKit Go.Sort Go.Proofs
set_option maxHeartbeats 800000 in
set_option maxRecDepth 100000 in
theorem newLot_any (E : Nat → Addr) (p g l : Nat) (fg : List UInt8 → Option GoodsV) (f : List UInt8 → Option LotV) (N : Nat) (x : LotV) (w : World) (cp : w.cell? ⟨p, 0, none⟩ = some (.map (some g))) (cl : w.cell? ⟨p, 1, none⟩ = some (.map (some l))) (hg : MapF eGoods w g fg) (hf : MapF eLot w l f)
  (hN : ∀ m : List (List UInt8 × LotV), (m.map (·.1)).Nodup → (∀ k, mget m k = f k) → m.length = N) (hG : BkG E w) :
  Calls Tryz.prog 47 #[.pointer (some ⟨p, 0, none⟩), .agg (encLot x).toArray] w fun e w' => e = .returned (errOf E (if (f x.1).isSome = true then 7 else if (fg x.2.1).isSome = false then 6 else if 60 ≤ N then 8 else 0)) ∧
   MapF eLot w' l (if (f x.1).isSome = true ∨ (fg x.2.1).isSome = false ∨ 60 ≤ N then f else fun i => if i = x.1 then some x else f i) ∧ But l w w' := by
 obtain ⟨r, hr⟩ : ∃ r : Nat, r = if (f x.1).isSome = true then 7 else if (fg x.2.1).isSome = false then 6 else if 60 ≤ N then 8 else 0 := ⟨_, rfl⟩
 obtain ⟨f', hf'⟩ : ∃ f', f' = if (f x.1).isSome = true ∨ (fg x.2.1).isSome = false ∨ 60 ≤ N then f else fun i => if i = x.1 then some x else f i := ⟨_, rfl⟩
 rw [← hr, ← hf']
 have HR := Lib.hid hr
 have HF' := Lib.hid hf'
 have HG := Lib.hid (fun W (h : Below w.heap.size w W) => hG.below h)
 have HM := Lib.hid (fun W (hb : Below w.heap.size w W) => hf.below hb)
 have HMG := Lib.hid (fun W (hb : Below w.heap.size w W) => hg.below hb)
 have HL := Lib.hid (fun W (h : MapF eLot W l f) => h.look (P := Tryz.prog) (t := 103) (kt := 9) (by kernel_rfl) Tryz.underlying103 (zeroLotE W) x.1 true)
 have HLG := Lib.hid (fun W (h : MapF eGoods W g fg) => h.look (P := Tryz.prog) (t := 102) (kt := 9) (by kernel_rfl) Tryz.underlying102 (zeroGoodsE W) x.2.1 true)
 have HLN := Lib.hid (fun W (h : MapF eLot W l f) ty => h.len hN (P := Tryz.prog) (ty := ty) Tryz.underlying103)
 have HS := Lib.hid (fun W (h : MapF eLot W l f) => h.store (P := Tryz.prog) (t := 103) (kt := 9) (by kernel_rfl) Tryz.underlying103 x.1 x)
 have hpl := lt_of_cell cp
 have HCP := Lib.hid (fun W (hb : Below w.heap.size w W) => (hb.cell (p := ⟨p, 0, none⟩) hpl).trans cp)
 have HCL := Lib.hid (fun W (hb : Below w.heap.size w W) => (hb.cell (p := ⟨p, 1, none⟩) hpl).trans cl)
 clear hr hf' hG hf hN hg cp cl
 generalize (f x.1).getD zeroLot = y at HL
 generalize (f x.1).isSome = is at HL HR HF'
 generalize (fg x.2.1).getD zeroGoods = z at HLG
 generalize (fg x.2.1).isSome = ig at HLG HR HF'
 obtain ⟨x1, x2, x3, x4⟩ := x
 obtain ⟨y1, y2, y3, y4⟩ := y
 obtain ⟨z1, z2⟩ := z
 simp only [eGoods, encGoods, eLot, encLot] at HL HS HLG ⊢
 have b0 := Lib.hid (below_one w (.cells #[.string ⟨x1.toArray⟩, .string ⟨x2.toArray⟩, .int .i64 x3, .int .i64 x4] 39))
 have hx := heap_alloc_new w (.cells #[.string ⟨x1.toArray⟩, .string ⟨x2.toArray⟩, .int .i64 x3, .int .i64 x4] 39)
 go_enter Tryz.func47, Tryz.ntmps47
 go_wp2_with fail
 generalize w.alloc (.cells #[.string ⟨x1.toArray⟩, .string ⟨x2.toArray⟩, .int .i64 x3, .int .i64 x4] 39) = W0 at b0 hx ⊢
 have hz := row_lt hx
 have bz := below_one W0 (.cells #[.string ⟨#[]⟩, .string ⟨#[]⟩, .int .i64 0, .int .i64 0] 39)
 have bb1 := Lib.hid (b0.out.trans (bz.mono b0.out.size)).drew
 have q00 : W0.cell? ⟨w.heap.size, 0, none⟩ = some (.string ⟨x1.toArray⟩) := cell_of_row _ _ 0 _ _ _ hx
 have q10 : (W0.alloc (.cells #[.string ⟨#[]⟩, .string ⟨#[]⟩, .int .i64 0, .int .i64 0] 39)).drew.cell? ⟨w.heap.size, 0, none⟩ = some (.string ⟨x1.toArray⟩) := (bz.cell (p := ⟨w.heap.size, 0, none⟩) hz).trans q00
 have q01 := HCL.out W0 b0.out
 have q11 := HCL.out _ bb1.out
 have hl0 := HL.out _ (HM.out _ b0.out.drew)
 have hl1 := HL.out _ (HM.out _ bb1.out)
 simp only [if_true] at hl0 hl1
 go_region
 all_goals
  clear q00 q10 q01 q11 hl0 hl1 bz bb1
  have b1 := Lib.hid ((b0.out.trans ((below_one W0 (.cells #[.string ⟨y1.toArray⟩, .string ⟨y2.toArray⟩, .int .i64 y3, .int .i64 y4] 39)).mono b0.out.size)).drew)
  have hx1 : (W0.alloc (.cells #[.string ⟨y1.toArray⟩, .string ⟨y2.toArray⟩, .int .i64 y3, .int .i64 y4] 39)).drew.heap[w.heap.size]? = some (.cells #[.string ⟨x1.toArray⟩, .string ⟨x2.toArray⟩, .int .i64 x3, .int .i64 x4] 39 (0, 0)) := ((below_one W0 _).block _ hz).trans hx
  clear hz hx b0
  generalize (W0.alloc (.cells #[.string ⟨y1.toArray⟩, .string ⟨y2.toArray⟩, .int .i64 y3, .int .i64 y4] 39)).drew = W1 at b1 hx1 ⊢
  cases is with
  |true =>
   have HR0 := Lib.hid (show r = 7 from HR.out.trans (by rw [if_pos rfl]))
   have HF0 := Lib.hid (show f' = f from HF'.out.trans (if_pos (.inl rfl)))
   have her := (HG.out _ b1.out).exist
   unfold ErrAt at her
   go_wp2_with fail
   go_ret
   rw [HR0.out, HF0.out]
   exact ⟨rfl, HM.out _ b1.out, But.of_below b1.out⟩
  |false =>
   go_upto_region 4 with fail
   have hz := row_lt hx1
   have bz := below_one W1 (.cells #[.string ⟨#[]⟩, .int .i64 0] 37)
   have bb1 := Lib.hid (b1.out.trans (bz.mono b1.out.size)).drew
   have q00 : W1.cell? ⟨w.heap.size, 1, none⟩ = some (.string ⟨x2.toArray⟩) := cell_of_row _ _ 1 _ _ _ hx1
   have q10 : (W1.alloc (.cells #[.string ⟨#[]⟩, .int .i64 0] 37)).drew.cell? ⟨w.heap.size, 1, none⟩ = some (.string ⟨x2.toArray⟩) := (bz.cell (p := ⟨w.heap.size, 1, none⟩) hz).trans q00
   have q01 := HCP.out W1 b1.out
   have q11 := HCP.out _ bb1.out
   have hl0 := HLG.out _ (HMG.out _ b1.out.drew)
   have hl1 := HLG.out _ (HMG.out _ bb1.out)
   simp only [if_true] at hl0 hl1
   go_region
   all_goals
    clear q00 q10 q01 q11 hl0 hl1 bz bb1
    have b2 := Lib.hid ((b1.out.trans ((below_one W1 (.cells #[.string ⟨z1.toArray⟩, .int .i64 z2] 37)).mono b1.out.size)).drew)
    have hx2 : (W1.alloc (.cells #[.string ⟨z1.toArray⟩, .int .i64 z2] 37)).drew.heap[w.heap.size]? = some (.cells #[.string ⟨x1.toArray⟩, .string ⟨x2.toArray⟩, .int .i64 x3, .int .i64 x4] 39 (0, 0)) := ((below_one W1 _).block _ hz).trans hx1
    clear hz hx1 b1
    generalize (W1.alloc (.cells #[.string ⟨z1.toArray⟩, .int .i64 z2] 37)).drew = W2 at b2 hx2 ⊢
    cases ig with
    |false =>
     have HR0 := Lib.hid (show r = 6 from HR.out.trans (by rw [if_neg (by simp), if_pos rfl]))
     have HF0 := Lib.hid (show f' = f from HF'.out.trans (if_pos (.inr (.inl rfl))))
     have her := (HG.out _ b2.out).none
     unfold ErrAt at her
     go_wp2_with fail
     go_ret
     rw [HR0.out, HF0.out]
     exact ⟨rfl, HM.out _ b2.out, But.of_below b2.out⟩
    |true =>
     have q21 := HCL.out _ b2.out
     have hlen := fun ty => HLN.out W2 (HM.out _ b2.out) ty
     by_cases hfull : 60 ≤ N
     ·have HR0 := Lib.hid (show r = 8 from HR.out.trans (by rw [if_neg (by simp), if_neg (by simp), if_pos hfull]))
      have HF0 := Lib.hid (show f' = f from HF'.out.trans (if_pos (.inr (.inr hfull))))
      have her := (HG.out _ b2.out).stk.full
      unfold ErrAt at her
      go_wp2_with fail
      go_ret
      rw [HR0.out, HF0.out]
      exact ⟨rfl, HM.out _ b2.out, But.of_below b2.out⟩
     ·have HR0 := Lib.hid (show r = 0 from HR.out.trans (by rw [if_neg (by simp), if_neg (by simp), if_neg hfull]))
      have HF0 := Lib.hid (show f' = fun i => if i = x1 then some (x1, x2, x3, x4) else f i from HF'.out.trans (if_neg (fun e => e.elim (by simp) (fun e => e.elim (by simp) hfull))))
      have q0 : W2.cell? ⟨w.heap.size, 0, none⟩ = some (.string ⟨x1.toArray⟩) := cell_of_row _ _ 0 _ _ _ hx2
      have q1 : W2.cell? ⟨w.heap.size, 1, none⟩ = some (.string ⟨x2.toArray⟩) := cell_of_row _ _ 1 _ _ _ hx2
      have q2 : W2.cell? ⟨w.heap.size, 2, none⟩ = some (.int .i64 x3) := cell_of_row _ _ 2 _ _ _ hx2
      have q3 : W2.cell? ⟨w.heap.size, 3, none⟩ = some (.int .i64 x4) := cell_of_row _ _ 3 _ _ _ hx2
      obtain ⟨v, hS, hM, hT⟩ := HS.out W2.drew (HM.out _ b2.out.drew)
      have HM3 := Lib.hid hM
      have HT3 := Lib.hid hT
      clear hM hT hx2
      go_wp2_with fail
      go_region
      all_goals
       go_wp2_with fail
       go_ret
       rw [HR0.out, HF0.out]
       exact ⟨rfl, HM3.out, (But.of_below b2.out.drew).trans (But.of_turned HT3.out)⟩
end Go.Proofs.YteaalifehokgoaaGreatDoor
namespace Go.Proofs.YteaalifehokgoaaGreatDoor
open Go.RowKit Go.Sort Go.Proofs
theorem pieces_n {x : EntV} (h : entE x = 0) (h1 : x.1 ≠ kGoods) (h2 : x.1 ≠ kLot) : 0 ≤ x.2.2.2.2.2 ∧ x.2.2.2.2.2 ≤ 1099511627776 := by
 rcases ent_kinds h with ⟨h3, _⟩ | ⟨h3, _⟩ | ⟨_, _, _, hp⟩
 ·exact absurd h3 h1
 ·exact absurd h3 h2
 ·unfold piecesE at hp
  split at hp
  ·cases hp
  split at hp
  ·rename_i h4; exact absurd hp h4
  split at hp
  ·cases hp
  rename_i h5
  unfold wiB at h5
  simp only [decide_eq_false_iff_not, Classical.not_not] at h5
  omega
end Go.Proofs.YteaalifehokgoaaGreatDoor
namespace Go.Proofs.YteaalifehokgoaaGreatDoor
open Go.RowKit Go.Sort Go.Proofs
def Cells14 (w : World) (b : Nat) (x : EntV) : Prop := ∀ i v, (encEnt x)[i]? = some v → w.cell? ⟨b, i, none⟩ = some v
theorem Cells14.below {w w' : World} {b : Nat} {x : EntV} (h : Cells14 w b x) (hb : Below w.heap.size w w') : Cells14 w' b x := fun i v hv => (hb.cell (p := ⟨b, i, none⟩) (lt_of_cell (h i v hv))).trans (h i v hv)
theorem Cells14.new (w : World) (x : EntV) : Cells14 (w.alloc (.cells (encEnt x).toArray 43)) w.heap.size x := fun i v hv => (cell_of_row _ _ _ _ _ _ (heap_alloc_new _ _)).trans (by simpa using hv)
theorem Cells14.all {w : World} {b : Nat} {x : EntV} (h : Cells14 w b x) : w.cell? ⟨b, 0, none⟩ = some (.string ⟨x.1.toArray⟩) ∧ w.cell? ⟨b, 1, none⟩ = some (.string ⟨x.2.1.1.toArray⟩) ∧ w.cell? ⟨b, 2, none⟩ = some (.int .i64 x.2.1.2) ∧ w.cell? ⟨b, 3, none⟩ = some (.string ⟨x.2.2.1.1.toArray⟩) ∧ w.cell? ⟨b, 4, none⟩ = some (.string ⟨x.2.2.1.2.1.toArray⟩) ∧ w.cell? ⟨b, 5, none⟩ = some (.int .i64 x.2.2.1.2.2.1) ∧ w.cell? ⟨b, 6, none⟩ = some (.int .i64 x.2.2.1.2.2.2) ∧
  w.cell? ⟨b, 7, none⟩ = some (.string ⟨x.2.2.2.1.1.toArray⟩) ∧ w.cell? ⟨b, 8, none⟩ = some (.int .i64 x.2.2.2.1.2.1) ∧ w.cell? ⟨b, 9, none⟩ = some (.int .i64 x.2.2.2.1.2.2) ∧ w.cell? ⟨b, 10, none⟩ = some (.string ⟨x.2.2.2.2.1.1.toArray⟩) ∧ w.cell? ⟨b, 11, none⟩ = some (.int .i64 x.2.2.2.2.1.2.1) ∧ w.cell? ⟨b, 12, none⟩ = some (.int .i64 x.2.2.2.2.1.2.2) ∧ w.cell? ⟨b, 13, none⟩ = some (.int .i64 x.2.2.2.2.2) :=
 ⟨h 0 _ rfl, h 1 _ rfl, h 2 _ rfl, h 3 _ rfl, h 4 _ rfl, h 5 _ rfl, h 6 _ rfl, h 7 _ rfl, h 8 _ rfl, h 9 _ rfl, h 10 _ rfl, h 11 _ rfl, h 12 _ rfl, h 13 _ rfl⟩
set_option maxHeartbeats 3200000 in
set_option maxRecDepth 100000 in
theorem pieces_any (E : Nat → Addr) (x : EntV) (bP : Bool) (w : World) (hG : EntCG E w) :
  Calls Tryz.prog 94 #[.agg (encEnt x).toArray, .agg #[.bool (hasF x.1), .bool (hasT x.1), .bool bP]] w fun e w' => e = .returned (errOf E (piecesE x)) ∧ Below w.heap.size w w' := by
 obtain ⟨r, hr⟩ : ∃ r, r = piecesE x := ⟨_, rfl⟩
 rw [← hr]
 have HPL := Lib.hid (fun W h => places_any E x (hasF x.1) (hasT x.1) bP W h)
 rw [show (if hasF x.1 = true ∧ placeE x.2.2.2.1 ≠ 0 then placeE x.2.2.2.1 else if hasT x.1 = true then placeE x.2.2.2.2.1 else 0) = placesE x from rfl] at HPL
 have HR : Hid (r = if nameB x.2.2.1.1 = false then 5 else if placesE x ≠ 0 then placesE x else if wiB x.2.2.2.2.2 1 1099511627776 = false then 2 else if (x.1 = kMove ∧ x.2.2.2.1 = x.2.2.2.2.1) ∨ x ≠ wantP x then 3 else 0) := hr
 have HN := Lib.hid (fun W => name_wide x.2.2.1.1 W)
 have H2 := Lib.hid (within_any x.2.2.2.2.2 1 1099511627776)
 have hc := (Cells14.new w x).below (below_one _ (.cells #[.bool (hasF x.1), .bool (hasT x.1), .bool bP] 165))
 have b0 := below_two w (.cells (encEnt x).toArray 43) (.cells #[.bool (hasF x.1), .bool (hasT x.1), .bool bP] 165)
 have hfr : ((w.alloc (.cells (encEnt x).toArray 43)).alloc (.cells #[.bool (hasF x.1), .bool (hasT x.1), .bool bP] 165)).heap[w.heap.size + 1]? = some (.cells #[.bool (hasF x.1), .bool (hasT x.1), .bool bP] 165 (0, 0)) := by
  have := heap_alloc_new (w.alloc (.cells (encEnt x).toArray 43)) (.cells #[.bool (hasF x.1), .bool (hasT x.1), .bool bP] 165)
  simpa using this
 have HQ := Lib.hid (fun y W => neqEnt x y W)
 have HQP := Lib.hid (fun W => eqPlace x.2.2.2.1 x.2.2.2.2.1 W)
 have HG := Lib.hid (fun W (h : Below w.heap.size w W) => hG.below h)
 have HWP := Lib.hid (show wantP x = (x.1, zeroGoods, (x.2.2.1.1, [], 0, 0), (if hasF x.1 then x.2.2.2.1 else zeroPlace), (if hasT x.1 then x.2.2.2.2.1 else zeroPlace), x.2.2.2.2.2) from rfl)
 obtain ⟨eb, heb⟩ : ∃ eb, eb = w.heap.size := ⟨_, rfl⟩
 clear hr hG
 obtain ⟨k, ⟨g1, g2⟩, ⟨l1, l2, l3, l4⟩, ⟨f1, f2, f3⟩, ⟨t1, t2, t3⟩, n⟩ := x
 simp only [encEnt, encPlace] at HPL HR HN H2 b0 hc hfr HQ HQP HWP ⊢
 generalize placesE (k, (g1, g2), (l1, l2, l3, l4), (f1, f2, f3), (t1, t2, t3), n) = pl at HPL HR
 generalize nameB l1 = nm at HN HR
 generalize wiB n 1 1099511627776 = wi at H2 HR
 generalize hasF k = bF at HPL b0 hc hfr HWP ⊢
 generalize hasT k = bT at HPL b0 hc hfr HWP ⊢
 go_enter Tryz.func94, Tryz.ntmps94
 go_wp2_with fail
 generalize ((w.alloc (.cells #[.string ⟨k.toArray⟩, .string ⟨g1.toArray⟩, .int .i64 g2, .string ⟨l1.toArray⟩, .string ⟨l2.toArray⟩, .int .i64 l3, .int .i64 l4, .string ⟨f1.toArray⟩, .int .i64 f2, .int .i64 f3, .string ⟨t1.toArray⟩, .int .i64 t2, .int .i64 t3, .int .i64 n] 43)).alloc (.cells #[.bool bF, .bool bT, .bool bP] 165)) = W0 at b0 hc hfr ⊢
 have B0 := Lib.hid b0
 have hbb := b0.size
 refine (HN.out W0).mono ?_
 rintro e w1 ⟨rfl, b1⟩
 have B1 := Lib.hid (b0.trans (b1.mono b0.size))
 have C1 := Lib.hid (hc.below b1)
 have F1 := Lib.hid ((b1.block _ (row_lt hfr)).trans hfr)
 have hn1 := (HG.out w1 B1.out).read.name
 unfold ErrAt at hn1
 clear b1 b0 hc hfr HN B0
 cases nm with
 |false =>
  go_wp2_with fail
  go_ret
  rw [HR.out]
  exact ⟨rfl, B1.out⟩
 |true =>
 obtain ⟨c0, c1, c2, c3, c4, c5, c6, c7, c8, c9, c10, c11, c12, c13⟩ := C1.out.all
 simp only at c0 c1 c2 c3 c4 c5 c6 c7 c8 c9 c10 c11 c12 c13
 have d0 : w1.cell? ⟨w.heap.size + 1, 0, none⟩ = some (.bool bF) := cell_of_row _ _ _ _ _ _ F1.out
 have d1 : w1.cell? ⟨w.heap.size + 1, 1, none⟩ = some (.bool bT) := cell_of_row _ _ _ _ _ _ F1.out
 have d2 : w1.cell? ⟨w.heap.size + 1, 2, none⟩ = some (.bool bP) := cell_of_row _ _ _ _ _ _ F1.out
 go_wp2_with fail
 refine (HPL.out w1 (HG.out w1 B1.out)).mono ?_
 rintro e w2 ⟨rfl, b2⟩
 have B2 := Lib.hid (B1.out.trans (b2.mono B1.out.size))
 have C2 := Lib.hid (C1.out.below b2)
 have F2 := Lib.hid ((b2.block _ (row_lt F1.out)).trans F1.out)
 clear b2 c0 c1 c2 c3 c4 c5 c6 c7 c8 c9 c10 c11 c12 c13 d0 d1 d2 hn1 C1 F1 B1 HPL
 by_cases hpl : pl = 0
 ·subst hpl
  rw [errOf_zero]
  obtain ⟨c0, c1, c2, c3, c4, c5, c6, c7, c8, c9, c10, c11, c12, c13⟩ := C2.out.all
  simp only at c0 c1 c2 c3 c4 c5 c6 c7 c8 c9 c10 c11 c12 c13
  have d0 : w2.cell? ⟨w.heap.size + 1, 0, none⟩ = some (.bool bF) := cell_of_row _ _ _ _ _ _ F2.out
  have d1 : w2.cell? ⟨w.heap.size + 1, 1, none⟩ = some (.bool bT) := cell_of_row _ _ _ _ _ _ F2.out
  have hn2 := (HG.out w2 B2.out).read.bound
  have hn3 := (HG.out w2 B2.out).shape
  unfold ErrAt at hn2 hn3
  go_wp2_with fail
  refine (H2.out _).mono ?_
  rintro e w3 ⟨rfl, rfl⟩
  cases wi with
  |false =>
   go_wp2_with fail
   go_ret
   rw [HR.out]
   exact ⟨rfl, B2.out⟩
  |true =>
   have hes : w.heap.size + 1 < w2.heap.size := row_lt F2.out
   have hO : ∀ o, Below w2.heap.size w2 (w2.alloc o) := fun o => below_one w2 o
   have hn3' : ∀ o, (w2.alloc o).cell? ⟨2, 0, none⟩ = some (.iface 318 (.pointer (some (E 3)))) := fun o => ((hO o).cell (p := ⟨_, 0, none⟩) (lt_of_cell hn3)).trans hn3
   have hd0 : ∀ o, (w2.alloc o).cell? ⟨w.heap.size + 1, 0, none⟩ = some (.bool bF) := fun o => ((hO o).cell (p := ⟨_, 0, none⟩) hes).trans d0
   have hd1 : ∀ o, (w2.alloc o).cell? ⟨w.heap.size + 1, 1, none⟩ = some (.bool bT) := fun o => ((hO o).cell (p := ⟨_, 1, none⟩) hes).trans d1
   have hc0 : ∀ o, (w2.alloc o).cell? ⟨w.heap.size, 0, none⟩ = some (.string ⟨k.toArray⟩) := fun o => ((hO o).cell (p := ⟨_, 0, none⟩) (lt_of_cell c0)).trans c0
   have hc1 : ∀ o, (w2.alloc o).cell? ⟨w.heap.size, 1, none⟩ = some (.string ⟨g1.toArray⟩) := fun o => ((hO o).cell (p := ⟨_, 1, none⟩) (lt_of_cell c1)).trans c1
   have hc2 : ∀ o, (w2.alloc o).cell? ⟨w.heap.size, 2, none⟩ = some (.int .i64 g2) := fun o => ((hO o).cell (p := ⟨_, 2, none⟩) (lt_of_cell c2)).trans c2
   have hc3 : ∀ o, (w2.alloc o).cell? ⟨w.heap.size, 3, none⟩ = some (.string ⟨l1.toArray⟩) := fun o => ((hO o).cell (p := ⟨_, 3, none⟩) (lt_of_cell c3)).trans c3
   have hc4 : ∀ o, (w2.alloc o).cell? ⟨w.heap.size, 4, none⟩ = some (.string ⟨l2.toArray⟩) := fun o => ((hO o).cell (p := ⟨_, 4, none⟩) (lt_of_cell c4)).trans c4
   have hc5 : ∀ o, (w2.alloc o).cell? ⟨w.heap.size, 5, none⟩ = some (.int .i64 l3) := fun o => ((hO o).cell (p := ⟨_, 5, none⟩) (lt_of_cell c5)).trans c5
   have hc6 : ∀ o, (w2.alloc o).cell? ⟨w.heap.size, 6, none⟩ = some (.int .i64 l4) := fun o => ((hO o).cell (p := ⟨_, 6, none⟩) (lt_of_cell c6)).trans c6
   have hc7 : ∀ o, (w2.alloc o).cell? ⟨w.heap.size, 7, none⟩ = some (.string ⟨f1.toArray⟩) := fun o => ((hO o).cell (p := ⟨_, 7, none⟩) (lt_of_cell c7)).trans c7
   have hc8 : ∀ o, (w2.alloc o).cell? ⟨w.heap.size, 8, none⟩ = some (.int .i64 f2) := fun o => ((hO o).cell (p := ⟨_, 8, none⟩) (lt_of_cell c8)).trans c8
   have hc9 : ∀ o, (w2.alloc o).cell? ⟨w.heap.size, 9, none⟩ = some (.int .i64 f3) := fun o => ((hO o).cell (p := ⟨_, 9, none⟩) (lt_of_cell c9)).trans c9
   have hc10 : ∀ o, (w2.alloc o).cell? ⟨w.heap.size, 10, none⟩ = some (.string ⟨t1.toArray⟩) := fun o => ((hO o).cell (p := ⟨_, 10, none⟩) (lt_of_cell c10)).trans c10
   have hc11 : ∀ o, (w2.alloc o).cell? ⟨w.heap.size, 11, none⟩ = some (.int .i64 t2) := fun o => ((hO o).cell (p := ⟨_, 11, none⟩) (lt_of_cell c11)).trans c11
   have hc12 : ∀ o, (w2.alloc o).cell? ⟨w.heap.size, 12, none⟩ = some (.int .i64 t3) := fun o => ((hO o).cell (p := ⟨_, 12, none⟩) (lt_of_cell c12)).trans c12
   have hc13 : ∀ o, (w2.alloc o).cell? ⟨w.heap.size, 13, none⟩ = some (.int .i64 n) := fun o => ((hO o).cell (p := ⟨_, 13, none⟩) (lt_of_cell c13)).trans c13
   have HRR : Hid (r = if (k = kMove ∧ (f1, f2, f3) = (t1, t2, t3)) ∨ (k, (g1, g2), (l1, l2, l3, l4), (f1, f2, f3), (t1, t2, t3), n) ≠ (k, zeroGoods, (l1, [], 0, 0), (if bF = true then (f1, f2, f3) else zeroPlace), (if bT = true then (t1, t2, t3) else zeroPlace), n) then 3 else 0) := by
    show _ = _
    rw [HR.out, HWP.out]
    simp
   have HB := Lib.hid (fun o => B2.out.alloc B2.out.size o)
   have hkm : ((k == [109, 111, 118, 101]) = true ∧ k = kMove) ∨ ((k == [109, 111, 118, 101]) = false ∧ k ≠ kMove) := by
    by_cases h : k = kMove
    ·exact .inl ⟨by rw [h]; rfl, h⟩
    ·exact .inr ⟨beq_eq_false_iff_ne.2 h, h⟩
   have hqp := HQP.out
   have hft : (decide ((f1, f2, f3) = (t1, t2, t3)) = true ∧ (f1, f2, f3) = (t1, t2, t3)) ∨ (decide ((f1, f2, f3) = (t1, t2, t3)) = false ∧ (f1, f2, f3) ≠ (t1, t2, t3)) := by
    by_cases h : (f1, f2, f3) = (t1, t2, t3)
    ·exact .inl ⟨decide_eq_true h, h⟩
    ·exact .inr ⟨decide_eq_false h, h⟩
   have HFT := Lib.hid hft
   obtain ⟨dp, hdp⟩ : ∃ dp, dp = decide ((f1, f2, f3) = (t1, t2, t3)) := ⟨_, rfl⟩
   rw [← hdp] at hqp HFT
   clear hdp hft HR HWP HQP c1 c2 c4 c5 c6 c7 c8 c9 c10 c11 c12 d0 d1 hn2 hn3 C2 F2 hO
   cases bF <;> cases bT
   ·have hq := fun W => HQ.out (k, ([], 0), (l1, [], 0, 0), ([], 0, 0), ([], 0, 0), n) W
    simp only at hq
    have hdq : (decide (((k, (g1, g2), (l1, l2, l3, l4), (f1, f2, f3), (t1, t2, t3), n) : EntV) = (k, ([], 0), (l1, [], 0, 0), ([], 0, 0), ([], 0, 0), n)) = true ∧ ((k, (g1, g2), (l1, l2, l3, l4), (f1, f2, f3), (t1, t2, t3), n) : EntV) = (k, ([], 0), (l1, [], 0, 0), ([], 0, 0), ([], 0, 0), n)) ∨ (decide (((k, (g1, g2), (l1, l2, l3, l4), (f1, f2, f3), (t1, t2, t3), n) : EntV) = (k, ([], 0), (l1, [], 0, 0), ([], 0, 0), ([], 0, 0), n)) = false ∧ ((k, (g1, g2), (l1, l2, l3, l4), (f1, f2, f3), (t1, t2, t3), n) : EntV) ≠ (k, ([], 0), (l1, [], 0, 0), ([], 0, 0), ([], 0, 0), n)) := by
     by_cases h : ((k, (g1, g2), (l1, l2, l3, l4), (f1, f2, f3), (t1, t2, t3), n) : EntV) = (k, ([], 0), (l1, [], 0, 0), ([], 0, 0), ([], 0, 0), n)
     ·exact .inl ⟨decide_eq_true h, h⟩
     ·exact .inr ⟨decide_eq_false h, h⟩
    have HDQ := Lib.hid hdq
    obtain ⟨dq, hdq'⟩ : ∃ dq, dq = decide (((k, (g1, g2), (l1, l2, l3, l4), (f1, f2, f3), (t1, t2, t3), n) : EntV) = (k, ([], 0), (l1, [], 0, 0), ([], 0, 0), ([], 0, 0), n)) := ⟨_, rfl⟩
    rw [← hdq'] at hq HDQ
    have HR3 : Hid ((k = kMove ∧ (f1, f2, f3) = (t1, t2, t3)) ∨ ((k, (g1, g2), (l1, l2, l3, l4), (f1, f2, f3), (t1, t2, t3), n) : EntV) ≠ (k, ([], 0), (l1, [], 0, 0), ([], 0, 0), ([], 0, 0), n) → r = 3) := fun h => HRR.out.trans (if_pos h)
    have HR4 : Hid (¬ ((k = kMove ∧ (f1, f2, f3) = (t1, t2, t3)) ∨ ((k, (g1, g2), (l1, l2, l3, l4), (f1, f2, f3), (t1, t2, t3), n) : EntV) ≠ (k, ([], 0), (l1, [], 0, 0), ([], 0, 0), ([], 0, 0), n)) → r = 0) := fun h => HRR.out.trans (if_neg h)
    clear hdq hdq' HRR HQ
    rcases hkm with ⟨hk1, hk2⟩ | ⟨hk1, hk2⟩
    ·rcases HFT.out with ⟨rfl, h3⟩ | ⟨rfl, h3⟩
     ·have HF3 := Lib.hid (HR3.out (.inl ⟨hk2, h3⟩))
      clear h3 hk2
      go_wp2
      go_ret
      rw [HF3.out]
      exact ⟨rfl, HB.out _⟩
     ·rcases HDQ.out with ⟨rfl, h4⟩ | ⟨rfl, h4⟩
      ·have HF3 := Lib.hid (HR4.out (fun h => by rcases h with h | h; exact h3 h.2; exact h h4))
       clear h3 h4 hk2
       go_wp2
       go_ret
       rw [HF3.out]
       exact ⟨rfl, HB.out _⟩
      ·have HF3 := Lib.hid (HR3.out (.inr h4))
       clear h3 h4 hk2
       go_wp2
       go_ret
       rw [HF3.out]
       exact ⟨rfl, HB.out _⟩
    ·rcases HDQ.out with ⟨rfl, h4⟩ | ⟨rfl, h4⟩
     ·have HF3 := Lib.hid (HR4.out (fun h => by rcases h with h | h; exact hk2 h.1; exact h h4))
      clear h4 hk2
      go_wp2
      go_ret
      rw [HF3.out]
      exact ⟨rfl, HB.out _⟩
     ·have HF3 := Lib.hid (HR3.out (.inr h4))
      clear h4 hk2
      go_wp2
      go_ret
      rw [HF3.out]
      exact ⟨rfl, HB.out _⟩
   ·have hq := fun W => HQ.out (k, ([], 0), (l1, [], 0, 0), ([], 0, 0), (t1, t2, t3), n) W
    simp only at hq
    have hdq : (decide (((k, (g1, g2), (l1, l2, l3, l4), (f1, f2, f3), (t1, t2, t3), n) : EntV) = (k, ([], 0), (l1, [], 0, 0), ([], 0, 0), (t1, t2, t3), n)) = true ∧ ((k, (g1, g2), (l1, l2, l3, l4), (f1, f2, f3), (t1, t2, t3), n) : EntV) = (k, ([], 0), (l1, [], 0, 0), ([], 0, 0), (t1, t2, t3), n)) ∨ (decide (((k, (g1, g2), (l1, l2, l3, l4), (f1, f2, f3), (t1, t2, t3), n) : EntV) = (k, ([], 0), (l1, [], 0, 0), ([], 0, 0), (t1, t2, t3), n)) = false ∧ ((k, (g1, g2), (l1, l2, l3, l4), (f1, f2, f3), (t1, t2, t3), n) : EntV) ≠ (k, ([], 0), (l1, [], 0, 0), ([], 0, 0), (t1, t2, t3), n)) := by
     by_cases h : ((k, (g1, g2), (l1, l2, l3, l4), (f1, f2, f3), (t1, t2, t3), n) : EntV) = (k, ([], 0), (l1, [], 0, 0), ([], 0, 0), (t1, t2, t3), n)
     ·exact .inl ⟨decide_eq_true h, h⟩
     ·exact .inr ⟨decide_eq_false h, h⟩
    have HDQ := Lib.hid hdq
    obtain ⟨dq, hdq'⟩ : ∃ dq, dq = decide (((k, (g1, g2), (l1, l2, l3, l4), (f1, f2, f3), (t1, t2, t3), n) : EntV) = (k, ([], 0), (l1, [], 0, 0), ([], 0, 0), (t1, t2, t3), n)) := ⟨_, rfl⟩
    rw [← hdq'] at hq HDQ
    have HR3 : Hid ((k = kMove ∧ (f1, f2, f3) = (t1, t2, t3)) ∨ ((k, (g1, g2), (l1, l2, l3, l4), (f1, f2, f3), (t1, t2, t3), n) : EntV) ≠ (k, ([], 0), (l1, [], 0, 0), ([], 0, 0), (t1, t2, t3), n) → r = 3) := fun h => HRR.out.trans (if_pos h)
    have HR4 : Hid (¬ ((k = kMove ∧ (f1, f2, f3) = (t1, t2, t3)) ∨ ((k, (g1, g2), (l1, l2, l3, l4), (f1, f2, f3), (t1, t2, t3), n) : EntV) ≠ (k, ([], 0), (l1, [], 0, 0), ([], 0, 0), (t1, t2, t3), n)) → r = 0) := fun h => HRR.out.trans (if_neg h)
    clear hdq hdq' HRR HQ
    rcases hkm with ⟨hk1, hk2⟩ | ⟨hk1, hk2⟩
    ·rcases HFT.out with ⟨rfl, h3⟩ | ⟨rfl, h3⟩
     ·have HF3 := Lib.hid (HR3.out (.inl ⟨hk2, h3⟩))
      clear h3 hk2
      go_wp2
      go_ret
      rw [HF3.out]
      exact ⟨rfl, HB.out _⟩
     ·rcases HDQ.out with ⟨rfl, h4⟩ | ⟨rfl, h4⟩
      ·have HF3 := Lib.hid (HR4.out (fun h => by rcases h with h | h; exact h3 h.2; exact h h4))
       clear h3 h4 hk2
       go_wp2
       go_ret
       rw [HF3.out]
       exact ⟨rfl, HB.out _⟩
      ·have HF3 := Lib.hid (HR3.out (.inr h4))
       clear h3 h4 hk2
       go_wp2
       go_ret
       rw [HF3.out]
       exact ⟨rfl, HB.out _⟩
    ·rcases HDQ.out with ⟨rfl, h4⟩ | ⟨rfl, h4⟩
     ·have HF3 := Lib.hid (HR4.out (fun h => by rcases h with h | h; exact hk2 h.1; exact h h4))
      clear h4 hk2
      go_wp2
      go_ret
      rw [HF3.out]
      exact ⟨rfl, HB.out _⟩
     ·have HF3 := Lib.hid (HR3.out (.inr h4))
      clear h4 hk2
      go_wp2
      go_ret
      rw [HF3.out]
      exact ⟨rfl, HB.out _⟩
   ·have hq := fun W => HQ.out (k, ([], 0), (l1, [], 0, 0), (f1, f2, f3), ([], 0, 0), n) W
    simp only at hq
    have hdq : (decide (((k, (g1, g2), (l1, l2, l3, l4), (f1, f2, f3), (t1, t2, t3), n) : EntV) = (k, ([], 0), (l1, [], 0, 0), (f1, f2, f3), ([], 0, 0), n)) = true ∧ ((k, (g1, g2), (l1, l2, l3, l4), (f1, f2, f3), (t1, t2, t3), n) : EntV) = (k, ([], 0), (l1, [], 0, 0), (f1, f2, f3), ([], 0, 0), n)) ∨ (decide (((k, (g1, g2), (l1, l2, l3, l4), (f1, f2, f3), (t1, t2, t3), n) : EntV) = (k, ([], 0), (l1, [], 0, 0), (f1, f2, f3), ([], 0, 0), n)) = false ∧ ((k, (g1, g2), (l1, l2, l3, l4), (f1, f2, f3), (t1, t2, t3), n) : EntV) ≠ (k, ([], 0), (l1, [], 0, 0), (f1, f2, f3), ([], 0, 0), n)) := by
     by_cases h : ((k, (g1, g2), (l1, l2, l3, l4), (f1, f2, f3), (t1, t2, t3), n) : EntV) = (k, ([], 0), (l1, [], 0, 0), (f1, f2, f3), ([], 0, 0), n)
     ·exact .inl ⟨decide_eq_true h, h⟩
     ·exact .inr ⟨decide_eq_false h, h⟩
    have HDQ := Lib.hid hdq
    obtain ⟨dq, hdq'⟩ : ∃ dq, dq = decide (((k, (g1, g2), (l1, l2, l3, l4), (f1, f2, f3), (t1, t2, t3), n) : EntV) = (k, ([], 0), (l1, [], 0, 0), (f1, f2, f3), ([], 0, 0), n)) := ⟨_, rfl⟩
    rw [← hdq'] at hq HDQ
    have HR3 : Hid ((k = kMove ∧ (f1, f2, f3) = (t1, t2, t3)) ∨ ((k, (g1, g2), (l1, l2, l3, l4), (f1, f2, f3), (t1, t2, t3), n) : EntV) ≠ (k, ([], 0), (l1, [], 0, 0), (f1, f2, f3), ([], 0, 0), n) → r = 3) := fun h => HRR.out.trans (if_pos h)
    have HR4 : Hid (¬ ((k = kMove ∧ (f1, f2, f3) = (t1, t2, t3)) ∨ ((k, (g1, g2), (l1, l2, l3, l4), (f1, f2, f3), (t1, t2, t3), n) : EntV) ≠ (k, ([], 0), (l1, [], 0, 0), (f1, f2, f3), ([], 0, 0), n)) → r = 0) := fun h => HRR.out.trans (if_neg h)
    clear hdq hdq' HRR HQ
    rcases hkm with ⟨hk1, hk2⟩ | ⟨hk1, hk2⟩
    ·rcases HFT.out with ⟨rfl, h3⟩ | ⟨rfl, h3⟩
     ·have HF3 := Lib.hid (HR3.out (.inl ⟨hk2, h3⟩))
      clear h3 hk2
      go_wp2
      go_ret
      rw [HF3.out]
      exact ⟨rfl, HB.out _⟩
     ·rcases HDQ.out with ⟨rfl, h4⟩ | ⟨rfl, h4⟩
      ·have HF3 := Lib.hid (HR4.out (fun h => by rcases h with h | h; exact h3 h.2; exact h h4))
       clear h3 h4 hk2
       go_wp2
       go_ret
       rw [HF3.out]
       exact ⟨rfl, HB.out _⟩
      ·have HF3 := Lib.hid (HR3.out (.inr h4))
       clear h3 h4 hk2
       go_wp2
       go_ret
       rw [HF3.out]
       exact ⟨rfl, HB.out _⟩
    ·rcases HDQ.out with ⟨rfl, h4⟩ | ⟨rfl, h4⟩
     ·have HF3 := Lib.hid (HR4.out (fun h => by rcases h with h | h; exact hk2 h.1; exact h h4))
      clear h4 hk2
      go_wp2
      go_ret
      rw [HF3.out]
      exact ⟨rfl, HB.out _⟩
     ·have HF3 := Lib.hid (HR3.out (.inr h4))
      clear h4 hk2
      go_wp2
      go_ret
      rw [HF3.out]
      exact ⟨rfl, HB.out _⟩
   ·have hq := fun W => HQ.out (k, ([], 0), (l1, [], 0, 0), (f1, f2, f3), (t1, t2, t3), n) W
    simp only at hq
    have hdq : (decide (((k, (g1, g2), (l1, l2, l3, l4), (f1, f2, f3), (t1, t2, t3), n) : EntV) = (k, ([], 0), (l1, [], 0, 0), (f1, f2, f3), (t1, t2, t3), n)) = true ∧ ((k, (g1, g2), (l1, l2, l3, l4), (f1, f2, f3), (t1, t2, t3), n) : EntV) = (k, ([], 0), (l1, [], 0, 0), (f1, f2, f3), (t1, t2, t3), n)) ∨ (decide (((k, (g1, g2), (l1, l2, l3, l4), (f1, f2, f3), (t1, t2, t3), n) : EntV) = (k, ([], 0), (l1, [], 0, 0), (f1, f2, f3), (t1, t2, t3), n)) = false ∧ ((k, (g1, g2), (l1, l2, l3, l4), (f1, f2, f3), (t1, t2, t3), n) : EntV) ≠ (k, ([], 0), (l1, [], 0, 0), (f1, f2, f3), (t1, t2, t3), n)) := by
     by_cases h : ((k, (g1, g2), (l1, l2, l3, l4), (f1, f2, f3), (t1, t2, t3), n) : EntV) = (k, ([], 0), (l1, [], 0, 0), (f1, f2, f3), (t1, t2, t3), n)
     ·exact .inl ⟨decide_eq_true h, h⟩
     ·exact .inr ⟨decide_eq_false h, h⟩
    have HDQ := Lib.hid hdq
    obtain ⟨dq, hdq'⟩ : ∃ dq, dq = decide (((k, (g1, g2), (l1, l2, l3, l4), (f1, f2, f3), (t1, t2, t3), n) : EntV) = (k, ([], 0), (l1, [], 0, 0), (f1, f2, f3), (t1, t2, t3), n)) := ⟨_, rfl⟩
    rw [← hdq'] at hq HDQ
    have HR3 : Hid ((k = kMove ∧ (f1, f2, f3) = (t1, t2, t3)) ∨ ((k, (g1, g2), (l1, l2, l3, l4), (f1, f2, f3), (t1, t2, t3), n) : EntV) ≠ (k, ([], 0), (l1, [], 0, 0), (f1, f2, f3), (t1, t2, t3), n) → r = 3) := fun h => HRR.out.trans (if_pos h)
    have HR4 : Hid (¬ ((k = kMove ∧ (f1, f2, f3) = (t1, t2, t3)) ∨ ((k, (g1, g2), (l1, l2, l3, l4), (f1, f2, f3), (t1, t2, t3), n) : EntV) ≠ (k, ([], 0), (l1, [], 0, 0), (f1, f2, f3), (t1, t2, t3), n)) → r = 0) := fun h => HRR.out.trans (if_neg h)
    clear hdq hdq' HRR HQ
    rcases hkm with ⟨hk1, hk2⟩ | ⟨hk1, hk2⟩
    ·rcases HFT.out with ⟨rfl, h3⟩ | ⟨rfl, h3⟩
     ·have HF3 := Lib.hid (HR3.out (.inl ⟨hk2, h3⟩))
      clear h3 hk2
      go_wp2
      go_ret
      rw [HF3.out]
      exact ⟨rfl, HB.out _⟩
     ·rcases HDQ.out with ⟨rfl, h4⟩ | ⟨rfl, h4⟩
      ·have HF3 := Lib.hid (HR4.out (fun h => by rcases h with h | h; exact h3 h.2; exact h h4))
       clear h3 h4 hk2
       go_wp2
       go_ret
       rw [HF3.out]
       exact ⟨rfl, HB.out _⟩
      ·have HF3 := Lib.hid (HR3.out (.inr h4))
       clear h3 h4 hk2
       go_wp2
       go_ret
       rw [HF3.out]
       exact ⟨rfl, HB.out _⟩
    ·rcases HDQ.out with ⟨rfl, h4⟩ | ⟨rfl, h4⟩
     ·have HF3 := Lib.hid (HR4.out (fun h => by rcases h with h | h; exact hk2 h.1; exact h h4))
      clear h4 hk2
      go_wp2
      go_ret
      rw [HF3.out]
      exact ⟨rfl, HB.out _⟩
     ·have HF3 := Lib.hid (HR3.out (.inr h4))
      clear h4 hk2
      go_wp2
      go_ret
      rw [HF3.out]
      exact ⟨rfl, HB.out _⟩
 ·rw [errOf_pos _ _ hpl]
  go_wp2_with fail
  go_ret
  rw [HR.out]
  simp only [Bool.true_eq_false, if_false]
  rw [if_pos hpl, errOf_pos _ _ hpl]
  exact ⟨rfl, B2.out⟩
end Go.Proofs.YteaalifehokgoaaGreatDoor
