/- The program's book: newLot. Printed by gen/bknewl.py. How many an entry of pieces is of. -/
import Derived.Deep.CutBlock
import Derived.Test.YtgllddebodfhkaaGreatDoorM20
import Derived.Test.YtgllddebodfhkaaGreatDoorM22
namespace Go.Proofs.YtgllddebodfhkaaGreatDoor
open Go.RowKit Go.Sort Go.Proofs

set_option maxHeartbeats 800000 in
set_option maxRecDepth 100000 in
theorem newLot_any (E : Nat → Addr) (p g l : Nat) (fg : List UInt8 → Option GoodsV) (f : List UInt8 → Option LotV) (N : Nat) (x : LotV) (w : World) (cp : w.cell? ⟨p, 0, none⟩ = some (.map (some g))) (cl : w.cell? ⟨p, 1, none⟩ = some (.map (some l))) (hg : MapF eGoods w g fg) (hf : MapF eLot w l f)
    (hN : ∀ m : List (List UInt8 × LotV), (m.map (·.1)).Nodup → (∀ k, mget m k = f k) → m.length = N) (hG : BkG E w) :
    Calls Tryz.prog 61 #[.pointer (some ⟨p, 0, none⟩), .agg (encLot x).toArray] w fun e w' => e = .returned (errOf E (if (f x.1).isSome = true then 7 else if (fg x.2.1).isSome = false then 6 else if 60 ≤ N then 8 else 0)) ∧
      MapF eLot w' l (if (f x.1).isSome = true ∨ (fg x.2.1).isSome = false ∨ 60 ≤ N then f else fun i => if i = x.1 then some x else f i) ∧ But l w w' := by
  obtain ⟨r, hr⟩ : ∃ r : Nat, r = if (f x.1).isSome = true then 7 else if (fg x.2.1).isSome = false then 6 else if 60 ≤ N then 8 else 0 := ⟨_, rfl⟩
  obtain ⟨f', hf'⟩ : ∃ f', f' = if (f x.1).isSome = true ∨ (fg x.2.1).isSome = false ∨ 60 ≤ N then f else fun i => if i = x.1 then some x else f i := ⟨_, rfl⟩
  rw [← hr, ← hf']
  have HR := Lib.hid hr
  have HF' := Lib.hid hf'
  have HG := Lib.hid (fun W (h : Below w.heap.size w W) => hG.below h)
  have HM := Lib.hid (fun W (hb : Below w.heap.size w W) => hf.below hb)
  have HMG := Lib.hid (fun W (hb : Below w.heap.size w W) => hg.below hb)
  have HL := Lib.hid (fun W (h : MapF eLot W l f) => h.look (P := Tryz.prog) (t := 107) (kt := 9) (by kernel_rfl) Tryz.underlying107 (zeroLotE W) x.1 true)
  have HLG := Lib.hid (fun W (h : MapF eGoods W g fg) => h.look (P := Tryz.prog) (t := 108) (kt := 9) (by kernel_rfl) Tryz.underlying108 (zeroGoodsE W) x.2.1 true)
  have HLN := Lib.hid (fun W (h : MapF eLot W l f) ty => h.len hN (P := Tryz.prog) (ty := ty) Tryz.underlying107)
  have HS := Lib.hid (fun W (h : MapF eLot W l f) => h.store (P := Tryz.prog) (t := 107) (kt := 9) (by kernel_rfl) Tryz.underlying107 x.1 x)
  have hpl := lt_of_cell cp
  have HCP := Lib.hid (fun W (hb : Below w.heap.size w W) => (hb.cell (p := ⟨p, 0, none⟩) hpl).trans cp)
  have HCL := Lib.hid (fun W (hb : Below w.heap.size w W) => (hb.cell (p := ⟨p, 1, none⟩) hpl).trans cl)
  clear hr hf' hG hf hN hg cp cl
  generalize (f x.1).getD zeroLot = y at HL
  generalize (f x.1).isSome = is at HL HR HF'
  generalize (fg x.2.1).getD zeroGoods = z at HLG
  generalize (fg x.2.1).isSome = ig at HLG HR HF'
  obtain ⟨x1, x2, x3, x4⟩ := x
  obtain ⟨y1, y2, y3, y4⟩ := y
  obtain ⟨z1, z2⟩ := z
  simp only [eGoods, encGoods, eLot, encLot] at HL HS HLG ⊢
  have b0 := Lib.hid (below_one w (.cells #[.string ⟨x1.toArray⟩, .string ⟨x2.toArray⟩, .int .i64 x3, .int .i64 x4] 47))
  have hx := heap_alloc_new w (.cells #[.string ⟨x1.toArray⟩, .string ⟨x2.toArray⟩, .int .i64 x3, .int .i64 x4] 47)
  go_enter Tryz.func61, Tryz.ntmps61
  go_wp2_with fail
  generalize w.alloc (.cells #[.string ⟨x1.toArray⟩, .string ⟨x2.toArray⟩, .int .i64 x3, .int .i64 x4] 47) = W0 at b0 hx ⊢
  have hz := row_lt hx
  have bz := below_one W0 (.cells #[.string ⟨#[]⟩, .string ⟨#[]⟩, .int .i64 0, .int .i64 0] 47)
  have bb1 := Lib.hid (b0.out.trans (bz.mono b0.out.size)).drew
  have q00 : W0.cell? ⟨w.heap.size, 0, none⟩ = some (.string ⟨x1.toArray⟩) := cell_of_row _ _ 0 _ _ _ hx
  have q10 : (W0.alloc (.cells #[.string ⟨#[]⟩, .string ⟨#[]⟩, .int .i64 0, .int .i64 0] 47)).drew.cell? ⟨w.heap.size, 0, none⟩ = some (.string ⟨x1.toArray⟩) := (bz.cell (p := ⟨w.heap.size, 0, none⟩) hz).trans q00
  have q01 := HCL.out W0 b0.out
  have q11 := HCL.out _ bb1.out
  have hl0 := HL.out _ (HM.out _ b0.out.drew)
  have hl1 := HL.out _ (HM.out _ bb1.out)
  simp only [if_true] at hl0 hl1
  go_region
  all_goals
    clear q00 q10 q01 q11 hl0 hl1 bz bb1
    have b1 := Lib.hid ((b0.out.trans ((below_one W0 (.cells #[.string ⟨y1.toArray⟩, .string ⟨y2.toArray⟩, .int .i64 y3, .int .i64 y4] 47)).mono b0.out.size)).drew)
    have hx1 : (W0.alloc (.cells #[.string ⟨y1.toArray⟩, .string ⟨y2.toArray⟩, .int .i64 y3, .int .i64 y4] 47)).drew.heap[w.heap.size]? = some (.cells #[.string ⟨x1.toArray⟩, .string ⟨x2.toArray⟩, .int .i64 x3, .int .i64 x4] 47 (0, 0)) := ((below_one W0 _).block _ hz).trans hx
    clear hz hx b0
    generalize (W0.alloc (.cells #[.string ⟨y1.toArray⟩, .string ⟨y2.toArray⟩, .int .i64 y3, .int .i64 y4] 47)).drew = W1 at b1 hx1 ⊢
    cases is with
    | true =>
      have HR0 := Lib.hid (show r = 7 from HR.out.trans (by rw [if_pos rfl]))
      have HF0 := Lib.hid (show f' = f from HF'.out.trans (if_pos (.inl rfl)))
      have her := (HG.out _ b1.out).exist
      unfold ErrAt at her
      go_wp2_with fail
      go_ret
      rw [HR0.out, HF0.out]
      exact ⟨rfl, HM.out _ b1.out, But.of_below b1.out⟩
    | false =>
      go_upto_region 4 with fail
      have hz := row_lt hx1
      have bz := below_one W1 (.cells #[.string ⟨#[]⟩, .int .i64 0] 45)
      have bb1 := Lib.hid (b1.out.trans (bz.mono b1.out.size)).drew
      have q00 : W1.cell? ⟨w.heap.size, 1, none⟩ = some (.string ⟨x2.toArray⟩) := cell_of_row _ _ 1 _ _ _ hx1
      have q10 : (W1.alloc (.cells #[.string ⟨#[]⟩, .int .i64 0] 45)).drew.cell? ⟨w.heap.size, 1, none⟩ = some (.string ⟨x2.toArray⟩) := (bz.cell (p := ⟨w.heap.size, 1, none⟩) hz).trans q00
      have q01 := HCP.out W1 b1.out
      have q11 := HCP.out _ bb1.out
      have hl0 := HLG.out _ (HMG.out _ b1.out.drew)
      have hl1 := HLG.out _ (HMG.out _ bb1.out)
      simp only [if_true] at hl0 hl1
      go_region
      all_goals
        clear q00 q10 q01 q11 hl0 hl1 bz bb1
        have b2 := Lib.hid ((b1.out.trans ((below_one W1 (.cells #[.string ⟨z1.toArray⟩, .int .i64 z2] 45)).mono b1.out.size)).drew)
        have hx2 : (W1.alloc (.cells #[.string ⟨z1.toArray⟩, .int .i64 z2] 45)).drew.heap[w.heap.size]? = some (.cells #[.string ⟨x1.toArray⟩, .string ⟨x2.toArray⟩, .int .i64 x3, .int .i64 x4] 47 (0, 0)) := ((below_one W1 _).block _ hz).trans hx1
        clear hz hx1 b1
        generalize (W1.alloc (.cells #[.string ⟨z1.toArray⟩, .int .i64 z2] 45)).drew = W2 at b2 hx2 ⊢
        cases ig with
        | false =>
          have HR0 := Lib.hid (show r = 6 from HR.out.trans (by rw [if_neg (by simp), if_pos rfl]))
          have HF0 := Lib.hid (show f' = f from HF'.out.trans (if_pos (.inr (.inl rfl))))
          have her := (HG.out _ b2.out).none
          unfold ErrAt at her
          go_wp2_with fail
          go_ret
          rw [HR0.out, HF0.out]
          exact ⟨rfl, HM.out _ b2.out, But.of_below b2.out⟩
        | true =>
          have q21 := HCL.out _ b2.out
          have hlen := fun ty => HLN.out W2 (HM.out _ b2.out) ty
          by_cases hfull : 60 ≤ N
          · have HR0 := Lib.hid (show r = 8 from HR.out.trans (by rw [if_neg (by simp), if_neg (by simp), if_pos hfull]))
            have HF0 := Lib.hid (show f' = f from HF'.out.trans (if_pos (.inr (.inr hfull))))
            have her := (HG.out _ b2.out).stk.full
            unfold ErrAt at her
            go_wp2_with fail
            go_ret
            rw [HR0.out, HF0.out]
            exact ⟨rfl, HM.out _ b2.out, But.of_below b2.out⟩
          · have HR0 := Lib.hid (show r = 0 from HR.out.trans (by rw [if_neg (by simp), if_neg (by simp), if_neg hfull]))
            have HF0 := Lib.hid (show f' = fun i => if i = x1 then some (x1, x2, x3, x4) else f i from HF'.out.trans (if_neg (fun e => e.elim (by simp) (fun e => e.elim (by simp) hfull))))
            have q0 : W2.cell? ⟨w.heap.size, 0, none⟩ = some (.string ⟨x1.toArray⟩) := cell_of_row _ _ 0 _ _ _ hx2
            have q1 : W2.cell? ⟨w.heap.size, 1, none⟩ = some (.string ⟨x2.toArray⟩) := cell_of_row _ _ 1 _ _ _ hx2
            have q2 : W2.cell? ⟨w.heap.size, 2, none⟩ = some (.int .i64 x3) := cell_of_row _ _ 2 _ _ _ hx2
            have q3 : W2.cell? ⟨w.heap.size, 3, none⟩ = some (.int .i64 x4) := cell_of_row _ _ 3 _ _ _ hx2
            obtain ⟨v, hS, hM, hT⟩ := HS.out W2.drew (HM.out _ b2.out.drew)
            have HM3 := Lib.hid hM
            have HT3 := Lib.hid hT
            clear hM hT hx2
            go_wp2_with fail
            go_region
            all_goals
              go_wp2_with fail
              go_ret
              rw [HR0.out, HF0.out]
              exact ⟨rfl, HM3.out, (But.of_below b2.out.drew).trans (But.of_turned HT3.out)⟩
end Go.Proofs.YtgllddebodfhkaaGreatDoor
namespace Go.Proofs.YtgllddebodfhkaaGreatDoor
open Go.RowKit Go.Sort Go.Proofs

theorem pieces_n {x : EntV} (h : entE x = 0) (h1 : x.1 ≠ kGoods) (h2 : x.1 ≠ kLot) : 0 ≤ x.2.2.2.2.2 ∧ x.2.2.2.2.2 ≤ 1099511627776 := by
  rcases ent_kinds h with ⟨h3, _⟩ | ⟨h3, _⟩ | ⟨_, _, _, hp⟩
  · exact absurd h3 h1
  · exact absurd h3 h2
  · unfold piecesE at hp
    split at hp
    · cases hp
    split at hp
    · rename_i h4; exact absurd hp h4
    split at hp
    · cases hp
    rename_i h5
    unfold wiB at h5
    simp only [decide_eq_false_iff_not, Classical.not_not] at h5
    omega
end Go.Proofs.YtgllddebodfhkaaGreatDoor
