/- The program's book: newGoods, newLot. The program's book: Goods. maps.Clone at the book's maps. Printed by gen/bkclone.py. A stock of the document: Text. -/
import Derived.Deep.CutBlock
import Derived.Shelf.SlMaps.Clone
import Derived.Test.YtgllddebodfhkaaGreatDoorM12
import Derived.Test.YtgllddebodfhkaaGreatDoorM13
import Derived.Test.YtgllddebodfhkaaGreatDoorM20
import Derived.Test.YtgllddebodfhkaaGreatDoorM21
namespace Go.Proofs.YtgllddebodfhkaaGreatDoor
open Go.RowKit Go.Sort Go.Proofs

/-- What the walks over a book lean on. -/
structure BkG (E : Nat → Addr) (w : World) : Prop where
  stk : StkG E w
  kind : ErrAt 6 (E 4) w
  none : ErrAt 2 (E 6) w
  exist : ErrAt 7 (E 7) w
theorem BkG.below {E : Nat → Addr} {w w' : World} (h : BkG E w) (hb : Below w.heap.size w w') : BkG E w' := ⟨h.stk.below hb, h.kind.below hb, h.none.below hb, h.exist.below hb⟩
theorem BkG.ent {E : Nat → Addr} {w : World} (h : BkG E w) : EntCG E w := ⟨⟨h.stk.place.name, h.stk.place.bound⟩, h.stk.shape, h.kind⟩

theorem MapF.len {ν : Type} {eV : ν → Value} {w : World} {b : Nat} {f : List UInt8 → Option ν} (h : MapF eV w b f) {N : Nat} (hN : ∀ m : List (List UInt8 × ν), (m.map (·.1)).Nodup → (∀ k, mget m k = f k) → m.length = N)
    {P : Program} {t kt e ty : TypeId} (ht : P.underlying t = some (.map kt e)) : (Builtin.len_ #[t] ty #[.map (some b)]).run P w = .ok (.int .i64 N) w := by
  obtain ⟨m, h1, h2⟩ := h
  have := h1.len (ty := ty) ht
  rwa [hN m h1.nodup h2] at this

theorem zeroGoodsE (w : World) : (zeroValue 45).run Tryz.prog w = .ok (eGoods zeroGoods) w := by kernel_rfl
theorem zeroLotE (w : World) : (zeroValue 47).run Tryz.prog w = .ok (eLot zeroLot) w := by kernel_rfl

set_option maxHeartbeats 400000 in
set_option maxRecDepth 100000 in
theorem newGoods_any (E : Nat → Addr) (p g : Nat) (f : List UInt8 → Option GoodsV) (N : Nat) (x : GoodsV) (w : World) (cp : w.cell? ⟨p, 0, none⟩ = some (.map (some g))) (hf : MapF eGoods w g f)
    (hN : ∀ m : List (List UInt8 × GoodsV), (m.map (·.1)).Nodup → (∀ k, mget m k = f k) → m.length = N) (hG : BkG E w) :
    Calls Tryz.prog 60 #[.pointer (some ⟨p, 0, none⟩), .agg (encGoods x).toArray] w fun e w' => e = .returned (errOf E (if (f x.1).isSome = true then 7 else if 30 ≤ N then 8 else 0)) ∧
      MapF eGoods w' g (if (f x.1).isSome = true ∨ 30 ≤ N then f else fun i => if i = x.1 then some x else f i) ∧ But g w w' := by
  obtain ⟨r, hr⟩ : ∃ r : Nat, r = if (f x.1).isSome = true then 7 else if 30 ≤ N then 8 else 0 := ⟨_, rfl⟩
  obtain ⟨f', hf'⟩ : ∃ f', f' = if (f x.1).isSome = true ∨ 30 ≤ N then f else fun i => if i = x.1 then some x else f i := ⟨_, rfl⟩
  rw [← hr, ← hf']
  have HR := Lib.hid hr
  have HF' := Lib.hid hf'
  have HG := Lib.hid (fun W (h : Below w.heap.size w W) => hG.below h)
  have HM := Lib.hid (fun W (hb : Below w.heap.size w W) => hf.below hb)
  have HL := Lib.hid (fun W (h : MapF eGoods W g f) => h.look (P := Tryz.prog) (t := 108) (kt := 9) (by kernel_rfl) Tryz.underlying108 (zeroGoodsE W) x.1 true)
  have HLN := Lib.hid (fun W (h : MapF eGoods W g f) ty => h.len hN (P := Tryz.prog) (ty := ty) Tryz.underlying108)
  have HS := Lib.hid (fun W (h : MapF eGoods W g f) => h.store (P := Tryz.prog) (t := 108) (kt := 9) (by kernel_rfl) Tryz.underlying108 x.1 x)
  have hgl := hf.lt
  have hpl := lt_of_cell cp
  clear hr hf' hG hf hN
  generalize (f x.1).getD zeroGoods = z at HL
  generalize (f x.1).isSome = is at HL HR HF'
  obtain ⟨x1, x2⟩ := x
  obtain ⟨z1, z2⟩ := z
  simp only [eGoods, encGoods] at HL HS ⊢
  have b0 := Lib.hid (below_one w (.cells #[.string ⟨x1.toArray⟩, .int .i64 x2] 45))
  have hx := heap_alloc_new w (.cells #[.string ⟨x1.toArray⟩, .int .i64 x2] 45)
  have cp0 := (b0.out.cell (p := ⟨p, 0, none⟩) hpl).trans cp
  go_enter Tryz.func60, Tryz.ntmps60
  go_wp2_with fail
  generalize w.alloc (.cells #[.string ⟨x1.toArray⟩, .int .i64 x2] 45) = W0 at b0 hx cp0 ⊢
  have HX := Lib.hid hx
  have bz := below_one W0 (.cells #[.string ⟨#[]⟩, .int .i64 0] 45)
  have b1 := Lib.hid (b0.out.trans (bz.mono b0.out.size)).drew
  have hz : w.heap.size < W0.heap.size := row_lt hx
  have x0 : (W0.alloc (.cells #[.string ⟨#[]⟩, .int .i64 0] 45)).drew.cell? ⟨w.heap.size, 0, none⟩ = some (.string ⟨x1.toArray⟩) := (bz.cell (p := ⟨w.heap.size, 0, none⟩) hz).trans (cell_of_row _ _ 0 _ _ _ hx)
  have cp1 : (W0.alloc (.cells #[.string ⟨#[]⟩, .int .i64 0] 45)).drew.cell? ⟨p, 0, none⟩ = some (.map (some g)) := (bz.cell (p := ⟨p, 0, none⟩) (lt_of_cell cp0)).trans cp0
  have hl := HL.out _ (HM.out _ b1.out)
  have x00 : W0.cell? ⟨w.heap.size, 0, none⟩ = some (.string ⟨x1.toArray⟩) := cell_of_row _ _ 0 _ _ _ hx
  have hl0 := HL.out _ (HM.out _ b0.out.drew)
  clear hx cp
  go_region
  all_goals
    clear hl hl0 x0 x00 cp1 bz b1
    have b2 := Lib.hid ((b0.out.trans ((below_one W0 (.cells #[.string ⟨z1.toArray⟩, .int .i64 z2] 45)).mono b0.out.size)).drew)
    have hx2 : (W0.alloc (.cells #[.string ⟨z1.toArray⟩, .int .i64 z2] 45)).drew.heap[w.heap.size]? = some (.cells #[.string ⟨x1.toArray⟩, .int .i64 x2] 45 (0, 0)) := ((below_one W0 _).block _ hz).trans HX.out
    have cp2 : (W0.alloc (.cells #[.string ⟨z1.toArray⟩, .int .i64 z2] 45)).drew.cell? ⟨p, 0, none⟩ = some (.map (some g)) := ((below_one W0 _).cell (p := ⟨p, 0, none⟩) (lt_of_cell cp0)).trans cp0
    generalize (W0.alloc (.cells #[.string ⟨z1.toArray⟩, .int .i64 z2] 45)).drew = W1 at b2 hx2 cp2 ⊢
    clear cp0 hz HL
    cases is with
    | true =>
      have HR0 := Lib.hid (show r = 7 from HR.out.trans (if_pos rfl))
      have HF0 := Lib.hid (show f' = f from HF'.out.trans (if_pos (.inl rfl)))
      have hex := (HG.out _ b2.out).exist
      unfold ErrAt at hex
      go_wp2_with fail
      go_ret
      rw [HR0.out, HF0.out]
      exact ⟨rfl, HM.out _ b2.out, But.of_below b2.out⟩
    | false =>
      have hlen := fun ty => HLN.out W1 (HM.out _ b2.out) ty
      by_cases hfull : 30 ≤ N
      · have HR0 := Lib.hid (show r = 8 from HR.out.trans ((if_neg (by simp)).trans (if_pos hfull)))
        have HF0 := Lib.hid (show f' = f from HF'.out.trans (if_pos (.inr hfull)))
        have hfl := (HG.out _ b2.out).stk.full
        unfold ErrAt at hfl
        go_wp2_with fail
        go_ret
        rw [HR0.out, HF0.out]
        exact ⟨rfl, HM.out _ b2.out, But.of_below b2.out⟩
      · have HR0 := Lib.hid (show r = 0 from HR.out.trans ((if_neg (by simp)).trans (if_neg hfull)))
        have HF0 := Lib.hid (show f' = fun i => if i = x1 then some (x1, x2) else f i from HF'.out.trans (if_neg (fun e => e.elim (by simp) hfull)))
        have hx0 := cell_of_row _ _ 0 _ _ _ hx2
        have hx1 := cell_of_row _ _ 1 _ _ _ hx2
        simp at hx0 hx1
        obtain ⟨v, hS, hM, hT⟩ := HS.out W1.drew (HM.out _ b2.out.drew)
        have HM3 := Lib.hid hM
        have HT3 := Lib.hid hT
        clear hM hT hx2
        go_wp2_with fail
        go_region
        all_goals
          go_wp2_with fail
          go_ret
          rw [HR0.out, HF0.out]
          exact ⟨rfl, HM3.out, (But.of_below b2.out.drew).trans (But.of_turned HT3.out)⟩
end Go.Proofs.YtgllddebodfhkaaGreatDoor
namespace Go.Proofs.YtgllddebodfhkaaGreatDoor
open Go.RowKit Go.Sort Go.Proofs

theorem goods1Info : (Tryz.prog.info? 45).map (fun i => (i.zero, i.size, i.bytes)) = some (some (.agg #[.string ⟨#[]⟩, .int .i64 0]), 2, 24) := by kernel_rfl
theorem encGoods_len (x : GoodsV) : (encGoods x).length = 2 := rfl
theorem encGoods_one (x : GoodsV) : ∀ v ∈ encGoods x, v.oneCell' = true := fun v hv => by
  simp [encGoods] at hv
  rcases hv with rfl | rfl <;> rfl
theorem keys_goods {B : BkV} (hI : BkI B) : ((B.1.map fun y : GoS => (y.1.1, y.1)).map (·.1)).Nodup := by
  rw [List.map_map]
  refine (List.pairwise_map.2 (hI.gs.imp fun h => ?_))
  exact ltB_ne h
theorem goods_perm {B : BkV} (hI : BkI B) {m : List (List UInt8 × GoodsV)} (hn : (m.map (·.1)).Nodup) (hg : ∀ k, mget m k = goodsF B k) : m.Perm (B.1.map fun y : GoS => (y.1.1, y.1)) :=
  perm_mget hn (keys_goods hI) fun k => by
    rw [hg, mget_find]
    rfl
theorem goods_len {B : BkV} (hI : BkI B) : ∀ x ∈ B.1, x.1.1.length ≤ 8 := fun x hx => by
  have h := (hI.gok x hx).1
  unfold goodsE at h
  split at h
  · cases h
  · rename_i h2
    exact (nameB_len (by simpa using h2)).2

set_option maxHeartbeats 1600000 in
set_option maxRecDepth 100000 in
theorem goodsBk_any {p : Nat} {F : List Nat} {B : BkV} {w : World} (H : BookIs w p F B) (hI : BkI B) :
    Calls Tryz.prog 38 #[.pointer (some ⟨p, 0, none⟩)] w fun e w' => ∃ A cap, e = .returned (.slice A B.1.length cap) ∧ RowAt encGoods 2 w' A (B.1.map (·.1)) ∧ (∀ a, A = some a → w.heap.size ≤ a.block) ∧ Below w.heap.size w w' := by
  obtain ⟨i0, hi, hz0, hz1, hz2⟩ := info_parts goods1Info
  obtain ⟨g, l, h, s, q, c, -, -, hm⟩ := H
  obtain ⟨⟨c0, -, -, -, -⟩, -⟩ := hm.cells
  have HC := Lib.hid (fun W (h : Below w.heap.size w W) => ((BookM.below hm h).cells).1.1)
  have HM := Lib.hid (fun W (h : Below w.heap.size w W) k => (hm.goods.below h).look (P := Tryz.prog) (t := 108) (kt := 9) (by kernel_rfl) Tryz.underlying108 (zeroGoodsE _) k false)
  obtain ⟨m, hM, hget⟩ := hm.goods
  obtain ⟨G, hG⟩ : ∃ G, G = B.1.map (·.1) := ⟨_, rfl⟩
  obtain ⟨ks, hks⟩ : ∃ ks, ks = B.1.map fun x : GoS => x.1.1 := ⟨_, rfl⟩
  have hl : ks.length = G.length := by rw [hks, hG]; simp
  have HG : Hid (∀ i (h : i < G.length) (h' : i < ks.length), goodsF B ks[i] = some G[i]) := fun i h h' => by
    have hi : i < B.1.length := by rw [hG] at h; simpa using h
    have e1 : ks[i] = B.1[i].1.1 := by simp [hks]
    have e2 : G[i] = B.1[i].1 := by simp [hG]
    rw [e1, e2]
    unfold goodsF
    rw [hI.fG_is (List.getElem_mem hi)]
    rfl
  have hp : (m.map (·.1)).Perm ks := by
    have := (goods_perm hI hM.nodup hget).map (·.1)
    rw [hks]
    rw [List.map_map] at this
    exact this
  have hsrt : ks.Pairwise fun x y => ltB x y = true := by rw [hks, List.pairwise_map]; exact hI.gs
  have hfew : ks.length ≤ 30 := by rw [hks, List.length_map]; exact hI.gfew
  have HK := Lib.hid (keysGoods_any hM hp hsrt (fun k hk => by rw [hks] at hk; obtain ⟨x, hx, rfl⟩ := List.mem_map.1 hk; have := goods_len hI x hx; omega) (by omega))
  have hlen : B.1.length = ks.length := by rw [hks]; simp
  rw [hlen]
  rw [← hG]
  obtain ⟨N, hN⟩ : ∃ N, N = ks.length := ⟨_, rfl⟩
  have HN := Lib.hid hN
  have HL : Hid (N = G.length) := hN.trans hl
  rw [← hN] at HK hfew ⊢
  have B0 := Lib.hid (below_one w (.cells #[.map (some g)] 108))
  clear hm hget hp hsrt hlen hl hN hks hG hI hM
  go_enter Tryz.func38, Tryz.ntmps38
  go_wp2_with fail
  refine (mkGoods_any _ _).mono ?_
  rintro e w1 ⟨rfl, rfl⟩
  clear c0
  go_wp2_with fail
  refine HK.out.mono ?_
  rintro e w2 ⟨A, cap, rfl, hst, b2⟩
  have B2 := Lib.hid (B0.out.trans (b2.mono B0.out.size))
  have HST := Lib.hid (fun W (h : Below w2.heap.size w2 W) => hst.below h)
  clear hst b2 HK B0
  go_wp2_with fail
  go_loopw [3, 13] (fun v i wr => ∃ k : Nat, k ≤ N ∧ i = .int .i64 k ∧ Hid (wr.ownsRow w2.heap.size 45 2 v k (flatL encGoods (G.take k))) ∧ Hid (Below w2.heap.size w2 wr)) (fun _ i _ => N - (intOf i).toNat)
  case atStart => exact ⟨0, by omega, rfl, World.ownsRow_nil _ _ _ _, Below.refl _ _⟩
  case round =>
    obtain ⟨k, hk, rfl, HOWN, HB⟩ := hrel
    by_cases hkN : k < N
    · have hkx : k < ks.length := by rw [← HN.out]; exact hkN
      have hkG : k < G.length := by rw [← HL.out]; exact hkN
      have hbw := B2.out.trans (HB.out.mono B2.out.size)
      obtain ⟨bk, o, rfl, lg, cg⟩ := HST.out wr HB.out |>.resolve_left (fun h => by rw [h] at hkx; simp at hkx)
      have ck := cg k hkx
      have hlook := HM.out wr hbw ks[k]
      have c0 := HC.out wr hbw
      rw [HG.out k hkG hkx] at hlook
      have HNX : Hid (flatL encGoods (G.take (k + 1)) = flatL encGoods (G.take k) ++ flatL encGoods [G[k]]) := by
        show _ = _
        rw [List.take_succ_eq_append_getElem hkG, flatL_append]
      obtain ⟨⟨x1, x2⟩, hx⟩ : ∃ x, x = G[k] := ⟨_, rfl⟩
      rw [← hx] at hlook HNX
      simp only [Option.getD_some, eGoods, encGoods, Bool.false_eq_true, if_false] at hlook
      have hsz := HB.out.size
      generalize ks[k] = kk at ck hlook
      clear hx hbw cg
      go_wp2_with (at_builtin; refine wpList_append_rows _ rfl (.tmp 17) (.tmp 24) 80 rfl w2.heap.size 45 i0 _ 24 Tryz.underlying80 hi hz0 hz1 hz2 rfl encGoods_len (by decide) encGoods_one u3 k (flatL encGoods (G.take k)) rfl (own_bl HOWN.out (below_one _ _)) (some ⟨wr.heap.size, 0, none⟩) 1 [(x1, x2)] rfl (row_one (heap_alloc_new _ _)) (by simp; omega) (by decide) (by simp; omega) ?_; intro v3 w3 HO3 hb3; have HB3 := Lib.hid hb3; clear hb3)
      go_roundw
      case rel =>
        refine ⟨k + 1, by omega, by go_num, ?_, (HB.out.trans ((below_one wr _).mono HB.out.size)).trans HB3.out⟩
        show World.ownsRow _ _ _ _ _ _ _
        rw [HNX.out]
        exact HO3.out
      case measure => simp [intOf]; omega
    · obtain rfl : k = N := by omega
      have hT : G.take k = G := List.take_of_length_le (by rw [← HL.out]; exact Nat.le_refl _)
      have ho := HOWN.out
      rw [hT] at ho
      have hkG := HL.out
      rw [hkG] at ho
      obtain ⟨A', c', rfl, hra, hge⟩ := RowAt.of_own encGoods_len ho
      have HRA := Lib.hid hra
      have HGE := Lib.hid hge
      have HKG := Lib.hid hkG
      clear hT hra hge HOWN ho hkG
      go_wp2_with fail
      go_ret
      refine ⟨A', c', by rw [← HKG.out]; rfl, HRA.out, fun a ha => by have := HGE.out a ha; have := B2.out.size; omega, B2.out.trans (HB.out.mono B2.out.size)⟩
end Go.Proofs.YtgllddebodfhkaaGreatDoor
namespace Go.Proofs.YtgllddebodfhkaaGreatDoor
open Go.RowKit Go.Sort Go.Proofs

set_option maxHeartbeats 1600000 in
set_option maxRecDepth 100000 in
theorem cloneGoods_at (b : Nat) (es : Array MapEntry) (clock : Nat) (w : World) (hb : w.heap[b]? = some (.map es clock)) :
    Calls Tryz.prog 54 #[.map (some b)] w fun e w' => e = .returned (.map (some w.heap.size)) ∧ w' = w.alloc (.map es clock) := by
  have hq := fun w => run_eql_map_nil_sl (P := Tryz.prog) w 108 _ _ (some b) Tryz.underlying108
  go_enter Tryz.func54, Tryz.ntmps54
  go_wp2
  rw [run_callFunc_extern Tryz.func94 (by kernel_rfl) (by kernel_rfl) (by kernel_rfl) (e := Extern.MapsClone.clone) (by kernel_rfl), run_maps_clone_sl w 108 hb]
  simp only [Result.andThen]
  rw [Oper.upon_value]
  go_wp2
  rw [run_typeAssert_map_sl _ 108 _ _ _ _ Tryz.underlying108]
  simp only [Result.andThen]
  rw [Oper.upon_value]
  go_wp2
  go_ret
  exact ⟨rfl, rfl⟩
theorem cloneGoods_any (b : Nat) (g : List UInt8 → Option GoodsV) (w : World) (h : MapF eGoods w b g) :
    Calls Tryz.prog 54 #[.map (some b)] w fun e w' => ∃ c, e = .returned (.map (some c)) ∧ w.heap.size ≤ c ∧ MapF eGoods w' c g ∧ Below w.heap.size w w' := by
  obtain ⟨m, ⟨es, clock, hb, hs, hm⟩, hg⟩ := h
  refine (cloneGoods_at b es clock w hb).mono ?_
  rintro e w' ⟨rfl, rfl⟩
  exact ⟨w.heap.size, rfl, Nat.le_refl _, ⟨m, ⟨es, clock, heap_alloc_new w _, hs, hm⟩, hg⟩, below_one w _⟩

set_option maxHeartbeats 1600000 in
set_option maxRecDepth 100000 in
theorem cloneLot_at (b : Nat) (es : Array MapEntry) (clock : Nat) (w : World) (hb : w.heap[b]? = some (.map es clock)) :
    Calls Tryz.prog 55 #[.map (some b)] w fun e w' => e = .returned (.map (some w.heap.size)) ∧ w' = w.alloc (.map es clock) := by
  have hq := fun w => run_eql_map_nil_sl (P := Tryz.prog) w 107 _ _ (some b) Tryz.underlying107
  go_enter Tryz.func55, Tryz.ntmps55
  go_wp2
  rw [run_callFunc_extern Tryz.func94 (by kernel_rfl) (by kernel_rfl) (by kernel_rfl) (e := Extern.MapsClone.clone) (by kernel_rfl), run_maps_clone_sl w 107 hb]
  simp only [Result.andThen]
  rw [Oper.upon_value]
  go_wp2
  rw [run_typeAssert_map_sl _ 107 _ _ _ _ Tryz.underlying107]
  simp only [Result.andThen]
  rw [Oper.upon_value]
  go_wp2
  go_ret
  exact ⟨rfl, rfl⟩
theorem cloneLot_any (b : Nat) (g : List UInt8 → Option LotV) (w : World) (h : MapF eLot w b g) :
    Calls Tryz.prog 55 #[.map (some b)] w fun e w' => ∃ c, e = .returned (.map (some c)) ∧ w.heap.size ≤ c ∧ MapF eLot w' c g ∧ Below w.heap.size w w' := by
  obtain ⟨m, ⟨es, clock, hb, hs, hm⟩, hg⟩ := h
  refine (cloneLot_at b es clock w hb).mono ?_
  rintro e w' ⟨rfl, rfl⟩
  exact ⟨w.heap.size, rfl, Nat.le_refl _, ⟨m, ⟨es, clock, heap_alloc_new w _, hs, hm⟩, hg⟩, below_one w _⟩

set_option maxHeartbeats 1600000 in
set_option maxRecDepth 100000 in
theorem cloneInt_at (b : Nat) (es : Array MapEntry) (clock : Nat) (w : World) (hb : w.heap[b]? = some (.map es clock)) :
    Calls Tryz.prog 56 #[.map (some b)] w fun e w' => e = .returned (.map (some w.heap.size)) ∧ w' = w.alloc (.map es clock) := by
  have hq := fun w => run_eql_map_nil_sl (P := Tryz.prog) w 109 _ _ (some b) Tryz.underlying109
  go_enter Tryz.func56, Tryz.ntmps56
  go_wp2
  rw [run_callFunc_extern Tryz.func94 (by kernel_rfl) (by kernel_rfl) (by kernel_rfl) (e := Extern.MapsClone.clone) (by kernel_rfl), run_maps_clone_sl w 109 hb]
  simp only [Result.andThen]
  rw [Oper.upon_value]
  go_wp2
  rw [run_typeAssert_map_sl _ 109 _ _ _ _ Tryz.underlying109]
  simp only [Result.andThen]
  rw [Oper.upon_value]
  go_wp2
  go_ret
  exact ⟨rfl, rfl⟩
theorem cloneInt_any (b : Nat) (g : List UInt8 → Option Nat) (w : World) (h : MapF eNat w b g) :
    Calls Tryz.prog 56 #[.map (some b)] w fun e w' => ∃ c, e = .returned (.map (some c)) ∧ w.heap.size ≤ c ∧ MapF eNat w' c g ∧ Below w.heap.size w w' := by
  obtain ⟨m, ⟨es, clock, hb, hs, hm⟩, hg⟩ := h
  refine (cloneInt_at b es clock w hb).mono ?_
  rintro e w' ⟨rfl, rfl⟩
  exact ⟨w.heap.size, rfl, Nat.le_refl _, ⟨m, ⟨es, clock, heap_alloc_new w _, hs, hm⟩, hg⟩, below_one w _⟩

set_option maxHeartbeats 1600000 in
set_option maxRecDepth 100000 in
theorem cloneSums_at (b : Nat) (es : Array MapEntry) (clock : Nat) (w : World) (hb : w.heap[b]? = some (.map es clock)) :
    Calls Tryz.prog 57 #[.map (some b)] w fun e w' => e = .returned (.map (some w.heap.size)) ∧ w' = w.alloc (.map es clock) := by
  have hq := fun w => run_eql_map_nil_sl (P := Tryz.prog) w 110 _ _ (some b) Tryz.underlying110
  go_enter Tryz.func57, Tryz.ntmps57
  go_wp2
  rw [run_callFunc_extern Tryz.func94 (by kernel_rfl) (by kernel_rfl) (by kernel_rfl) (e := Extern.MapsClone.clone) (by kernel_rfl), run_maps_clone_sl w 110 hb]
  simp only [Result.andThen]
  rw [Oper.upon_value]
  go_wp2
  rw [run_typeAssert_map_sl _ 110 _ _ _ _ Tryz.underlying110]
  simp only [Result.andThen]
  rw [Oper.upon_value]
  go_wp2
  go_ret
  exact ⟨rfl, rfl⟩
theorem cloneSums_any (b : Nat) (g : List UInt8 → Option SumsV) (w : World) (h : MapF eSums w b g) :
    Calls Tryz.prog 57 #[.map (some b)] w fun e w' => ∃ c, e = .returned (.map (some c)) ∧ w.heap.size ≤ c ∧ MapF eSums w' c g ∧ Below w.heap.size w w' := by
  obtain ⟨m, ⟨es, clock, hb, hs, hm⟩, hg⟩ := h
  refine (cloneSums_at b es clock w hb).mono ?_
  rintro e w' ⟨rfl, rfl⟩
  exact ⟨w.heap.size, rfl, Nat.le_refl _, ⟨m, ⟨es, clock, heap_alloc_new w _, hs, hm⟩, hg⟩, below_one w _⟩
end Go.Proofs.YtgllddebodfhkaaGreatDoor
namespace Go.Proofs.YtgllddebodfhkaaGreatDoor
open Go.RowKit Go.Sort Go.Proofs

set_option maxHeartbeats 1600000 in
set_option maxRecDepth 100000 in
theorem refStkText_any (A : Option Addr) (cap : Nat) (l : List LineV) (w : World) (hrow : RowAt encLine 5 w A l) (hl : l.length ≤ 200) (hW : ∀ x ∈ l, WellL x) :
    Calls Tryz.prog 107 #[.agg #[.slice A l.length cap]] w fun e w' => e = .returned (.string ⟨(linesText l).toArray⟩) ∧ Below w.heap.size w w' := by
  obtain ⟨N, hN⟩ : ∃ N, N = l.length := ⟨_, rfl⟩
  have HN := Lib.hid hN
  have HROW := Lib.hid hrow
  have HW := Lib.hid hW
  have HB0 := Lib.hid (below_one w (.cells #[.slice A l.length cap] 94))
  rw [← hN] at hl HB0 ⊢
  have HC0 := Lib.hid (cell_of_row _ _ 0 _ _ _ (heap_alloc_new w (.cells #[.slice A N cap] 94)))
  clear hN hrow hW
  go_enter Tryz.func107, Tryz.ntmps107
  go_wp2_with fail
  obtain ⟨W0, hW0⟩ : ∃ W0, W0 = w.alloc (.cells #[.slice A N cap] 94) := ⟨_, rfl⟩
  rw [← hW0] at HB0 HC0 ⊢
  have hs0 : W0.heap.size = w.heap.size + 1 := by rw [hW0]; simp
  clear hW0
  go_loopw [3, 4] (fun s n wr => ∃ k : Nat, k ≤ N ∧ n = .int .i64 k ∧ s = .string ⟨(linesText (l.take k)).toArray⟩ ∧ Below W0.heap.size W0 wr) (fun _ n _ => N - (intOf n).toNat)
  case atStart => exact ⟨0, by omega, rfl, rfl, Below.refl _ _⟩
  case round =>
    obtain ⟨k, hk, rfl, rfl, hb⟩ := hrel
    have HB := Lib.hid hb
    have c0 : wr.cell? ⟨w.heap.size, 0, none⟩ = some (.slice A N cap) := (hb.cell (p := ⟨_, 0, none⟩) (by show w.heap.size < _; omega)).trans HC0.out
    clear hb
    by_cases hkN : k < N
    · have hkx : k < l.length := by rw [← HN.out]; exact hkN
      obtain ⟨g, o, rfl, lg, cg⟩ := HROW.out.resolve_left (fun h => by rw [h] at hkx; simp at hkx)
      obtain ⟨x, hx⟩ : ∃ x, x = l[k] := ⟨_, rfl⟩
      have hwx : WellL x := by rw [hx]; exact HW.out _ (List.getElem_mem hkx)
      have r5 := range5L (x := x) (w := wr) (b := g) (o := o + k * 5) (fun cc v hv => by
        have h1 := cg k hkx cc v (by rw [← hx]; exact hv)
        have h2 := (HB0.out.cell (p := ⟨g, o + k * 5 + cc, none⟩) lg).trans h1
        exact (HB.out.cell (p := ⟨g, o + k * 5 + cc, none⟩) (lt_of_cell h2)).trans h2)
      have HL := Lib.hid (fun W => refLineText_any x W (by have := (nameB_len (placeE_zero.1 hwx.1).1).2; omega) (by have := (nameB_len hwx.2.1).2; omega) (by have := hwx.2.2.1; omega) (by have := hwx.2.2.2; omega))
      have ht := lineText_len hwx
      have hlt : (linesText (l.take k)).length ≤ 20200 := by
        have := linesText_len (l := l.take k) fun y hy => HW.out y (List.mem_of_mem_take hy)
        rw [List.length_take] at this
        omega
      have HTK := Lib.hid (linesText_take l k hkx)
      rw [← hx] at HTK
      generalize linesText (l.take k) = lt0 at HTK hlt ⊢
      generalize lineText x = t at HTK HL ht
      clear hx hwx cg
      obtain ⟨⟨a1, a2, a3⟩, a4, a5⟩ := x
      obtain ⟨e0, e1, e2, e3, e4⟩ := r5
      simp only [encLine] at HL
      simp only at e0 e1 e2 e3 e4
      have v1 : ¬ 9223372036854775807 < lt0.length + t.length := by omega
      have v2 : ¬ 9223372036854775807 < lt0.length + t.length + 1 := by omega
      go_wp2_with fail
      refine (HL.out _).mono ?_
      rintro e w3 ⟨rfl, b3⟩
      have HB3 := Lib.hid (HB.out.trans (b3.mono HB.out.size))
      clear b3 e0 e1 e2 e3 e4 c0
      go_wp2_with fail
      go_roundw
      case rel =>
        refine ⟨k + 1, by omega, by go_num, ?_, HB3.out⟩
        rw [HTK.out]
        show Value.string ((⟨lt0.toArray⟩ : ByteArray) ++ (⟨t.toArray⟩ : ByteArray) ++ (⟨#[10]⟩ : ByteArray)) = _
        rw [show (⟨#[10]⟩ : ByteArray) = ⟨[10].toArray⟩ from rfl, mk_app, mk_app, List.append_assoc]
      case measure => simp [intOf]; omega
    · obtain rfl : k = N := by omega
      have htk : l.take k = l := List.take_of_length_le (by rw [← HN.out]; exact Nat.le_refl _)
      rw [htk]
      go_wp2_with fail
      go_ret
      exact ⟨rfl, HB0.out.trans (HB.out.mono (by omega))⟩
end Go.Proofs.YtgllddebodfhkaaGreatDoor
