/- maps.Equal at the book's maps. Printed by gen/bkequal.py. The program's book: Same of two books that hold the same. (Cut out of BkSame, that a claim which asks no more be small.) -/
import Derived.Test.YtchiojiicehpeaaGreatDoorM09
import Derived.Test.YtchiojiicehpeaaGreatDoorM21
import Derived.Test.YtchiojiicehpeaaGreatDoorM22
import Derived.Test.YtchiojiicehpeaaGreatDoorM23
import Derived.Test.YtchiojiicehpeaaGreatDoorM35
import Derived.Test.YtchiojiicehpeaaGreatDoorM39
namespace Go.Proofs.YtchiojiicehpeaaGreatDoor
open Go.RowKit Go.Sort Go.Proofs
section
variable {κ ν : Type} [DecidableEq κ]
open Classical in
theorem perm_sub {α : Type} : ∀ (m L : List α), m.Nodup → m ⊆ L → L.length ≤ m.length → m.Perm L
 |[], L, _, _, hl => by rw [List.eq_nil_of_length_eq_zero (Nat.le_zero.1 hl)]
 |x :: r, L, hn, hs, hl => by
  have hx : x ∈ L := hs List.mem_cons_self
  have hn' := List.nodup_cons.1 hn
  have h1 := List.perm_cons_erase hx
  have h2 := h1.length_eq
  refine List.Perm.trans ?_ h1.symm
  refine (perm_sub r (L.erase x) hn'.2 (fun y hy => (List.mem_erase_of_ne (fun e => hn'.1 (by rw [← e]; exact hy))).2 (hs (List.mem_cons_of_mem _ hy))) (by simp at h2 hl ⊢; omega)).cons x
theorem maps_alike {m L : List (κ × ν)} (hn : (m.map (·.1)).Nodup) (_ : (L.map (·.1)).Nodup) (hl : m.length = L.length) (h : ∀ p ∈ m, mget L p.1 = some p.2) : ∀ k, mget m k = mget L k := by
 have hsub : m ⊆ L := fun p hp => mget_mem (h p hp)
 have hp : m.Perm L := perm_sub m L (nodup_of_keys hn) hsub (by omega)
 intro k
 cases hk : mget m k with
 |some v => exact (h (k, v) (mget_mem hk)).symm
 |none =>
  cases hk2 : mget L k with
  |none => rfl
  |some v =>
   have := (mem_mget hn).1 (hp.mem_iff.2 (mget_mem hk2))
   rw [hk] at this
   cases this
end
set_option maxHeartbeats 3200000 in
set_option maxRecDepth 100000 in
theorem equalGoods_is {b1 b2 : Nat} {f g : List UInt8 → Option GoodsV} {w : World} (h1 : MapF eGoods w b1 f) (h2 : MapF eGoods w b2 g) (r : Bool) (hr : r = true ↔ ∀ k, f k = g k) :
  Calls Tryz.prog 63 #[.map (some b1), .map (some b2)] w fun e w' => e = .returned (.bool r) ∧ Below w.heap.size w w' := by
 obtain ⟨m1, M1, hf⟩ := h1
 obtain ⟨m2, M2, hg⟩ := h2
 have hn1 := M1.nodup
 have hn2 := M2.nodup
 have lb2 := M2.lt
 have l1 := fun ty => M1.len (ty := ty) Tryz.underlying118
 have l2 := fun ty => M2.len (ty := ty) Tryz.underlying118
 have HFG := Lib.hid (show (∀ k, f k = g k) ↔ ∀ k, mget m1 k = mget m2 k from ⟨fun h k => by rw [hf, hg, h], fun h k => by rw [← hf, ← hg, h]⟩)
 have HR := Lib.hid hr
 have HLOOK := Lib.hid (fun W (h : MapIs eStr eGoods W b2 m2) k => MapF.look (eV := eGoods) (f := mget m2) (b := b2) (w := W) ⟨m2, h, fun _ => rfl⟩ (P := Tryz.prog) (kt := 9) (t := 118) (by kernel_rfl) Tryz.underlying118 (z := zeroGoods) (by kernel_rfl) k true)
 have HOK := Lib.hid (fun hl h => maps_alike hn1 hn2 hl h)
 clear hf hg hr
 by_cases hlen : m1.length = m2.length
 ·have HLEN := Lib.hid hlen
  have hlI : ((m1.length : Int) == (m2.length : Int)) = true := by simp; omega
  clear hlen
  go_enter Tryz.func63, Tryz.ntmps63
  go_wp2_with (first | (at_range; refine wpList_range_map _ rfl _ 118 rfl _ _ Tryz.underlying118 b1 m1 rfl M1 ?_; intro w0 hrg0 hb0 hs0) | go_in)
  (try go_frame)
  have HM0 := Lib.hid (M2.below hb0)
  clear l1 l2 M2 hlI
  go_loopw [5] (fun _ wr => ∃ left : List (List UInt8 × GoodsV), Ranging eStr eGoods wr b1 w.heap.size m1 left ∧ Hid (MapIs eStr eGoods wr b2 m2) ∧ Hid (∀ p ∈ m1, p ∈ left ∨ mget m2 p.1 = some p.2) ∧ Hid (∀ p ∈ left, p ∈ m1) ∧ Below w.heap.size w wr) (fun _ wr => wr.rangeLeft b1 w.heap.size)
  case atStart => exact ⟨m1, hrg0, HM0.out, fun p hp => .inl hp, fun p hp => hp, hb0⟩
  case round =>
   obtain ⟨left, hrg, HM, HG, HS, hb⟩ := hrel
   have HB := Lib.hid hb
   have HRG := Lib.hid hrg
   clear hb
   go_wp2_with (first | (at_next; refine wpList_next_map _ rfl _ rfl b1 w.heap.size m1 left rfl hrg ?_ ?_) | go_in)
   ·intro hl0
    have HT := Lib.hid (HR.out.2 (HFG.out.2 (HOK.out HLEN.out fun p hp => (HG.out p hp).resolve_left (by rw [hl0]; simp))))
    clear hl0 hrg
    go_wp2
    go_ret
    rw [HT.out]
    exact ⟨rfl, HB.out⟩
   ·intro ll k a1 a2 lr w1 hl hrg1 ht1 hen
    have hm1 := HM.out.keep (ht1.block b2 (by omega))
    have hb1 := HB.out.trans (ht1.below (Nat.le_refl _))
    have HMEM := Lib.hid (show (k, (a1, a2)) ∈ m1 from HS.out _ (by rw [hl]; simp))
    have HL := Lib.hid hl
    have HS1 : Hid (∀ p ∈ ll ++ lr, p ∈ m1) := fun p hp => HS.out p (by rw [hl]; rcases List.mem_append.1 hp with h | h; exact List.mem_append_left _ h; exact List.mem_append_right _ (List.mem_cons_of_mem _ h))
    have hlen2 := Lib.hid (show (ll ++ lr).length < left.length by rw [hl]; simp)
    have bx := below_one w1 (.cells #[.string ⟨a1.toArray⟩, .int .i64 a2] 63)
    have hm2 := hm1.below bx
    have hlk := HLOOK.out _ hm2 k
    simp only [eStr, eGoods, encGoods] at hlk hen
    have HM2 := Lib.hid hm2
    have B2 := Lib.hid (hb1.trans (bx.mono hb1.size))
    have hrg2 := Lib.hid (hrg1.below bx)
    clear hl ht1 hrg hm1 hm2 hb1 bx hrg1
    cases hc : mget m2 k with
    |none =>
     have HF : Hid (r = false) := by
      show _ = _
      cases hr' : r with
      |false => rfl
      |true =>
       have := HFG.out.1 (HR.out.1 hr') k
       rw [hc, (mem_mget hn1).1 HMEM.out] at this
       cases this
     rw [hc] at hlk
     simp only [Option.isSome_none, Option.getD_none, if_true, zeroGoods] at hlk
     clear hc
     go_wp2
     go_ret
     rw [HF.out]
     exact ⟨rfl, B2.out.alloc B2.out.size _⟩
    |some c =>
     rw [hc] at hlk
     obtain ⟨c1, c2⟩ := c
     simp only [Option.isSome_some, Option.getD_some, if_true] at hlk
     have b3 := below_one (w1.alloc (.cells #[.string ⟨a1.toArray⟩, .int .i64 a2] 63)) (.cells #[.string ⟨c1.toArray⟩, .int .i64 c2] 63)
     have B3 := Lib.hid (B2.out.trans (b3.mono B2.out.size))
     have hrg3 := Lib.hid (hrg2.out.below b3)
     have HM3 := Lib.hid (HM2.out.below b3)
     clear b3
     by_cases huc : (a1, a2) = (c1, c2)
     ·have HNEXT : Hid (∀ p ∈ m1, p ∈ ll ++ lr ∨ mget m2 p.1 = some p.2) := fun p hp => by
       rcases HG.out p hp with h | h
       ·rw [HL.out] at h
        rcases List.mem_append.1 h with h | h
        ·exact .inl (List.mem_append_left _ h)
        ·rcases List.mem_cons.1 h with rfl | h
         ·exact .inr (by rw [huc]; exact hc)
         ·exact .inl (List.mem_append_right _ h)
       ·exact .inr h
      have hq : ∀ W, (binOp .neq 63 (.agg #[.string ⟨a1.toArray⟩, .int .i64 a2]) (.agg #[.string ⟨c1.toArray⟩, .int .i64 c2])).run Tryz.prog W = .ok (.bool false) W := fun W => by have := neqGoods (a1, a2) (c1, c2) W; rw [decide_eq_true huc] at this; exact this
      clear hc huc
      go_wp2
      go_roundw
      case rel => exact ⟨ll ++ lr, hrg3.out, HM3.out, HNEXT.out, HS1.out, B3.out⟩
      case measure => rw [hrg3.out.left_eq, HRG.out.left_eq]; exact hlen2.out
     ·have HF : Hid (r = false) := by
       show _ = _
       cases hr' : r with
       |false => rfl
       |true =>
        have := HFG.out.1 (HR.out.1 hr') k
        rw [hc, (mem_mget hn1).1 HMEM.out] at this
        exact absurd (Option.some.inj this) huc
      have hq : ∀ W, (binOp .neq 63 (.agg #[.string ⟨a1.toArray⟩, .int .i64 a2]) (.agg #[.string ⟨c1.toArray⟩, .int .i64 c2])).run Tryz.prog W = .ok (.bool true) W := fun W => by have := neqGoods (a1, a2) (c1, c2) W; rw [decide_eq_false huc] at this; exact this
      clear hc huc
      go_wp2
      go_ret
      rw [HF.out]
      exact ⟨rfl, B3.out⟩
 ·have HF : Hid (r = false) := by
   show _ = _
   cases hr' : r with
   |false => rfl
   |true => exact absurd (perm_mget hn1 hn2 (HFG.out.1 (HR.out.1 hr'))).length_eq hlen
  have hlI : ((m1.length : Int) == (m2.length : Int)) = false := by simp; omega
  clear hlen
  go_enter Tryz.func63, Tryz.ntmps63
  go_wp2
  go_ret
  rw [HF.out]
  exact ⟨rfl, Below.refl _ _⟩
set_option maxHeartbeats 3200000 in
set_option maxRecDepth 100000 in
theorem equalLot_is {b1 b2 : Nat} {f g : List UInt8 → Option LotV} {w : World} (h1 : MapF eLot w b1 f) (h2 : MapF eLot w b2 g) (r : Bool) (hr : r = true ↔ ∀ k, f k = g k) :
  Calls Tryz.prog 64 #[.map (some b1), .map (some b2)] w fun e w' => e = .returned (.bool r) ∧ Below w.heap.size w w' := by
 obtain ⟨m1, M1, hf⟩ := h1
 obtain ⟨m2, M2, hg⟩ := h2
 have hn1 := M1.nodup
 have hn2 := M2.nodup
 have lb2 := M2.lt
 have l1 := fun ty => M1.len (ty := ty) Tryz.underlying119
 have l2 := fun ty => M2.len (ty := ty) Tryz.underlying119
 have HFG := Lib.hid (show (∀ k, f k = g k) ↔ ∀ k, mget m1 k = mget m2 k from ⟨fun h k => by rw [hf, hg, h], fun h k => by rw [← hf, ← hg, h]⟩)
 have HR := Lib.hid hr
 have HLOOK := Lib.hid (fun W (h : MapIs eStr eLot W b2 m2) k => MapF.look (eV := eLot) (f := mget m2) (b := b2) (w := W) ⟨m2, h, fun _ => rfl⟩ (P := Tryz.prog) (kt := 9) (t := 119) (by kernel_rfl) Tryz.underlying119 (z := zeroLot) (by kernel_rfl) k true)
 have HOK := Lib.hid (fun hl h => maps_alike hn1 hn2 hl h)
 clear hf hg hr
 by_cases hlen : m1.length = m2.length
 ·have HLEN := Lib.hid hlen
  have hlI : ((m1.length : Int) == (m2.length : Int)) = true := by simp; omega
  clear hlen
  go_enter Tryz.func64, Tryz.ntmps64
  go_wp2_with (first | (at_range; refine wpList_range_map _ rfl _ 119 rfl _ _ Tryz.underlying119 b1 m1 rfl M1 ?_; intro w0 hrg0 hb0 hs0) | go_in)
  (try go_frame)
  have HM0 := Lib.hid (M2.below hb0)
  clear l1 l2 M2 hlI
  go_loopw [5] (fun _ wr => ∃ left : List (List UInt8 × LotV), Ranging eStr eLot wr b1 w.heap.size m1 left ∧ Hid (MapIs eStr eLot wr b2 m2) ∧ Hid (∀ p ∈ m1, p ∈ left ∨ mget m2 p.1 = some p.2) ∧ Hid (∀ p ∈ left, p ∈ m1) ∧ Below w.heap.size w wr) (fun _ wr => wr.rangeLeft b1 w.heap.size)
  case atStart => exact ⟨m1, hrg0, HM0.out, fun p hp => .inl hp, fun p hp => hp, hb0⟩
  case round =>
   obtain ⟨left, hrg, HM, HG, HS, hb⟩ := hrel
   have HB := Lib.hid hb
   have HRG := Lib.hid hrg
   clear hb
   go_wp2_with (first | (at_next; refine wpList_next_map _ rfl _ rfl b1 w.heap.size m1 left rfl hrg ?_ ?_) | go_in)
   ·intro hl0
    have HT := Lib.hid (HR.out.2 (HFG.out.2 (HOK.out HLEN.out fun p hp => (HG.out p hp).resolve_left (by rw [hl0]; simp))))
    clear hl0 hrg
    go_wp2
    go_ret
    rw [HT.out]
    exact ⟨rfl, HB.out⟩
   ·intro ll k a1 a2 a3 a4 lr w1 hl hrg1 ht1 hen
    have hm1 := HM.out.keep (ht1.block b2 (by omega))
    have hb1 := HB.out.trans (ht1.below (Nat.le_refl _))
    have HMEM := Lib.hid (show (k, (a1, a2, a3, a4)) ∈ m1 from HS.out _ (by rw [hl]; simp))
    have HL := Lib.hid hl
    have HS1 : Hid (∀ p ∈ ll ++ lr, p ∈ m1) := fun p hp => HS.out p (by rw [hl]; rcases List.mem_append.1 hp with h | h; exact List.mem_append_left _ h; exact List.mem_append_right _ (List.mem_cons_of_mem _ h))
    have hlen2 := Lib.hid (show (ll ++ lr).length < left.length by rw [hl]; simp)
    have bx := below_one w1 (.cells #[.string ⟨a1.toArray⟩, .string ⟨a2.toArray⟩, .int .i64 a3, .int .i64 a4] 65)
    have hm2 := hm1.below bx
    have hlk := HLOOK.out _ hm2 k
    simp only [eStr, eLot, encLot] at hlk hen
    have HM2 := Lib.hid hm2
    have B2 := Lib.hid (hb1.trans (bx.mono hb1.size))
    have hrg2 := Lib.hid (hrg1.below bx)
    clear hl ht1 hrg hm1 hm2 hb1 bx hrg1
    cases hc : mget m2 k with
    |none =>
     have HF : Hid (r = false) := by
      show _ = _
      cases hr' : r with
      |false => rfl
      |true =>
       have := HFG.out.1 (HR.out.1 hr') k
       rw [hc, (mem_mget hn1).1 HMEM.out] at this
       cases this
     rw [hc] at hlk
     simp only [Option.isSome_none, Option.getD_none, if_true, zeroLot] at hlk
     clear hc
     go_wp2
     go_ret
     rw [HF.out]
     exact ⟨rfl, B2.out.alloc B2.out.size _⟩
    |some c =>
     rw [hc] at hlk
     obtain ⟨c1, c2, c3, c4⟩ := c
     simp only [Option.isSome_some, Option.getD_some, if_true] at hlk
     have b3 := below_one (w1.alloc (.cells #[.string ⟨a1.toArray⟩, .string ⟨a2.toArray⟩, .int .i64 a3, .int .i64 a4] 65)) (.cells #[.string ⟨c1.toArray⟩, .string ⟨c2.toArray⟩, .int .i64 c3, .int .i64 c4] 65)
     have B3 := Lib.hid (B2.out.trans (b3.mono B2.out.size))
     have hrg3 := Lib.hid (hrg2.out.below b3)
     have HM3 := Lib.hid (HM2.out.below b3)
     clear b3
     by_cases huc : (a1, a2, a3, a4) = (c1, c2, c3, c4)
     ·have HNEXT : Hid (∀ p ∈ m1, p ∈ ll ++ lr ∨ mget m2 p.1 = some p.2) := fun p hp => by
       rcases HG.out p hp with h | h
       ·rw [HL.out] at h
        rcases List.mem_append.1 h with h | h
        ·exact .inl (List.mem_append_left _ h)
        ·rcases List.mem_cons.1 h with rfl | h
         ·exact .inr (by rw [huc]; exact hc)
         ·exact .inl (List.mem_append_right _ h)
       ·exact .inr h
      have hq : ∀ W, (binOp .neq 65 (.agg #[.string ⟨a1.toArray⟩, .string ⟨a2.toArray⟩, .int .i64 a3, .int .i64 a4]) (.agg #[.string ⟨c1.toArray⟩, .string ⟨c2.toArray⟩, .int .i64 c3, .int .i64 c4])).run Tryz.prog W = .ok (.bool false) W := fun W => by have := neqLotV (a1, a2, a3, a4) (c1, c2, c3, c4) W; rw [decide_eq_true huc] at this; exact this
      clear hc huc
      go_wp2
      go_roundw
      case rel => exact ⟨ll ++ lr, hrg3.out, HM3.out, HNEXT.out, HS1.out, B3.out⟩
      case measure => rw [hrg3.out.left_eq, HRG.out.left_eq]; exact hlen2.out
     ·have HF : Hid (r = false) := by
       show _ = _
       cases hr' : r with
       |false => rfl
       |true =>
        have := HFG.out.1 (HR.out.1 hr') k
        rw [hc, (mem_mget hn1).1 HMEM.out] at this
        exact absurd (Option.some.inj this) huc
      have hq : ∀ W, (binOp .neq 65 (.agg #[.string ⟨a1.toArray⟩, .string ⟨a2.toArray⟩, .int .i64 a3, .int .i64 a4]) (.agg #[.string ⟨c1.toArray⟩, .string ⟨c2.toArray⟩, .int .i64 c3, .int .i64 c4])).run Tryz.prog W = .ok (.bool true) W := fun W => by have := neqLotV (a1, a2, a3, a4) (c1, c2, c3, c4) W; rw [decide_eq_false huc] at this; exact this
      clear hc huc
      go_wp2
      go_ret
      rw [HF.out]
      exact ⟨rfl, B3.out⟩
 ·have HF : Hid (r = false) := by
   show _ = _
   cases hr' : r with
   |false => rfl
   |true => exact absurd (perm_mget hn1 hn2 (HFG.out.1 (HR.out.1 hr'))).length_eq hlen
  have hlI : ((m1.length : Int) == (m2.length : Int)) = false := by simp; omega
  clear hlen
  go_enter Tryz.func64, Tryz.ntmps64
  go_wp2
  go_ret
  rw [HF.out]
  exact ⟨rfl, Below.refl _ _⟩
set_option maxHeartbeats 3200000 in
set_option maxRecDepth 100000 in
theorem equalInt_is {b1 b2 : Nat} {f g : List UInt8 → Option Nat} {w : World} (h1 : MapF eNat w b1 f) (h2 : MapF eNat w b2 g) (r : Bool) (hr : r = true ↔ ∀ k, f k = g k) :
  Calls Tryz.prog 65 #[.map (some b1), .map (some b2)] w fun e w' => e = .returned (.bool r) ∧ Below w.heap.size w w' := by
 obtain ⟨m1, M1, hf⟩ := h1
 obtain ⟨m2, M2, hg⟩ := h2
 have hn1 := M1.nodup
 have hn2 := M2.nodup
 have lb2 := M2.lt
 have l1 := fun ty => M1.len (ty := ty) Tryz.underlying120
 have l2 := fun ty => M2.len (ty := ty) Tryz.underlying120
 have HFG := Lib.hid (show (∀ k, f k = g k) ↔ ∀ k, mget m1 k = mget m2 k from ⟨fun h k => by rw [hf, hg, h], fun h k => by rw [← hf, ← hg, h]⟩)
 have HR := Lib.hid hr
 have HLOOK := Lib.hid (fun W (h : MapIs eStr eNat W b2 m2) k => MapF.look (eV := eNat) (f := mget m2) (b := b2) (w := W) ⟨m2, h, fun _ => rfl⟩ (P := Tryz.prog) (kt := 9) (t := 120) (by kernel_rfl) Tryz.underlying120 (z := 0) (by kernel_rfl) k true)
 have HOK := Lib.hid (fun hl h => maps_alike hn1 hn2 hl h)
 clear hf hg hr
 by_cases hlen : m1.length = m2.length
 ·have HLEN := Lib.hid hlen
  have hlI : ((m1.length : Int) == (m2.length : Int)) = true := by simp; omega
  clear hlen
  go_enter Tryz.func65, Tryz.ntmps65
  go_wp2_with (first | (at_range; refine wpList_range_map _ rfl _ 120 rfl _ _ Tryz.underlying120 b1 m1 rfl M1 ?_; intro w0 hrg0 hb0 hs0) | go_in)
  (try go_frame)
  have HM0 := Lib.hid (M2.below hb0)
  clear l1 l2 M2 hlI
  go_loopw [5] (fun _ wr => ∃ left : List (List UInt8 × Nat), Ranging eStr eNat wr b1 w.heap.size m1 left ∧ Hid (MapIs eStr eNat wr b2 m2) ∧ Hid (∀ p ∈ m1, p ∈ left ∨ mget m2 p.1 = some p.2) ∧ Hid (∀ p ∈ left, p ∈ m1) ∧ Below w.heap.size w wr) (fun _ wr => wr.rangeLeft b1 w.heap.size)
  case atStart => exact ⟨m1, hrg0, HM0.out, fun p hp => .inl hp, fun p hp => hp, hb0⟩
  case round =>
   obtain ⟨left, hrg, HM, HG, HS, hb⟩ := hrel
   have HB := Lib.hid hb
   have HRG := Lib.hid hrg
   clear hb
   go_wp2_with (first | (at_next; refine wpList_next_map _ rfl _ rfl b1 w.heap.size m1 left rfl hrg ?_ ?_) | go_in)
   ·intro hl0
    have HT := Lib.hid (HR.out.2 (HFG.out.2 (HOK.out HLEN.out fun p hp => (HG.out p hp).resolve_left (by rw [hl0]; simp))))
    clear hl0 hrg
    go_wp2
    go_ret
    rw [HT.out]
    exact ⟨rfl, HB.out⟩
   ·intro ll k a1 lr w1 hl hrg1 ht1 hen
    have hm1 := HM.out.keep (ht1.block b2 (by omega))
    have hb1 := HB.out.trans (ht1.below (Nat.le_refl _))
    have HMEM := Lib.hid (show (k, a1) ∈ m1 from HS.out _ (by rw [hl]; simp))
    have HL := Lib.hid hl
    have HS1 : Hid (∀ p ∈ ll ++ lr, p ∈ m1) := fun p hp => HS.out p (by rw [hl]; rcases List.mem_append.1 hp with h | h; exact List.mem_append_left _ h; exact List.mem_append_right _ (List.mem_cons_of_mem _ h))
    have hlen2 := Lib.hid (show (ll ++ lr).length < left.length by rw [hl]; simp)
    have bx := Below.refl w1.heap.size w1
    have hm2 := hm1.below bx
    have hlk := HLOOK.out _ hm2 k
    simp only [eStr, eNat] at hlk hen
    have HM2 := Lib.hid hm2
    have B2 := Lib.hid (hb1.trans (bx.mono hb1.size))
    have hrg2 := Lib.hid (hrg1.below bx)
    clear hl ht1 hrg hm1 hm2 hb1 bx hrg1
    cases hc : mget m2 k with
    |none =>
     have HF : Hid (r = false) := by
      show _ = _
      cases hr' : r with
      |false => rfl
      |true =>
       have := HFG.out.1 (HR.out.1 hr') k
       rw [hc, (mem_mget hn1).1 HMEM.out] at this
       cases this
     rw [hc] at hlk
     simp only [Option.isSome_none, Option.getD_none, if_true] at hlk
     clear hc
     go_wp2
     go_ret
     rw [HF.out]
     exact ⟨rfl, B2.out⟩
    |some c =>
     rw [hc] at hlk
     obtain ⟨c1, rfl⟩ : ∃ c1, c1 = c := ⟨_, rfl⟩
     simp only [Option.isSome_some, Option.getD_some, if_true] at hlk
     have b3 := Below.refl w1.heap.size w1
     have B3 := Lib.hid (B2.out.trans (b3.mono B2.out.size))
     have hrg3 := Lib.hid (hrg2.out.below b3)
     have HM3 := Lib.hid (HM2.out.below b3)
     clear b3
     by_cases huc : a1 = c1
     ·have HNEXT : Hid (∀ p ∈ m1, p ∈ ll ++ lr ∨ mget m2 p.1 = some p.2) := fun p hp => by
       rcases HG.out p hp with h | h
       ·rw [HL.out] at h
        rcases List.mem_append.1 h with h | h
        ·exact .inl (List.mem_append_left _ h)
        ·rcases List.mem_cons.1 h with rfl | h
         ·exact .inr (by rw [huc]; exact hc)
         ·exact .inl (List.mem_append_right _ h)
       ·exact .inr h
      have hq : (((a1 : Nat) : Int) == ((c1 : Nat) : Int)) = true := by simp; omega
      clear hc huc
      go_wp2
      go_roundw
      case rel => exact ⟨ll ++ lr, hrg3.out, HM3.out, HNEXT.out, HS1.out, B3.out⟩
      case measure => rw [hrg3.out.left_eq, HRG.out.left_eq]; exact hlen2.out
     ·have HF : Hid (r = false) := by
       show _ = _
       cases hr' : r with
       |false => rfl
       |true =>
        have := HFG.out.1 (HR.out.1 hr') k
        rw [hc, (mem_mget hn1).1 HMEM.out] at this
        exact absurd (Option.some.inj this) huc
      have hq : (((a1 : Nat) : Int) == ((c1 : Nat) : Int)) = false := by simp; omega
      clear hc huc
      go_wp2
      go_ret
      rw [HF.out]
      exact ⟨rfl, B3.out⟩
 ·have HF : Hid (r = false) := by
   show _ = _
   cases hr' : r with
   |false => rfl
   |true => exact absurd (perm_mget hn1 hn2 (HFG.out.1 (HR.out.1 hr'))).length_eq hlen
  have hlI : ((m1.length : Int) == (m2.length : Int)) = false := by simp; omega
  clear hlen
  go_enter Tryz.func65, Tryz.ntmps65
  go_wp2
  go_ret
  rw [HF.out]
  exact ⟨rfl, Below.refl _ _⟩
set_option maxHeartbeats 3200000 in
set_option maxRecDepth 100000 in
theorem equalSums_is {b1 b2 : Nat} {f g : List UInt8 → Option SumsV} {w : World} (h1 : MapF eSums w b1 f) (h2 : MapF eSums w b2 g) (r : Bool) (hr : r = true ↔ ∀ k, f k = g k) :
  Calls Tryz.prog 66 #[.map (some b1), .map (some b2)] w fun e w' => e = .returned (.bool r) ∧ Below w.heap.size w w' := by
 obtain ⟨m1, M1, hf⟩ := h1
 obtain ⟨m2, M2, hg⟩ := h2
 have hn1 := M1.nodup
 have hn2 := M2.nodup
 have lb2 := M2.lt
 have l1 := fun ty => M1.len (ty := ty) Tryz.underlying121
 have l2 := fun ty => M2.len (ty := ty) Tryz.underlying121
 have HFG := Lib.hid (show (∀ k, f k = g k) ↔ ∀ k, mget m1 k = mget m2 k from ⟨fun h k => by rw [hf, hg, h], fun h k => by rw [← hf, ← hg, h]⟩)
 have HR := Lib.hid hr
 have HLOOK := Lib.hid (fun W (h : MapIs eStr eSums W b2 m2) k => MapF.look (eV := eSums) (f := mget m2) (b := b2) (w := W) ⟨m2, h, fun _ => rfl⟩ (P := Tryz.prog) (kt := 9) (t := 121) (by kernel_rfl) Tryz.underlying121 (z := zeroSums) (by kernel_rfl) k true)
 have HOK := Lib.hid (fun hl h => maps_alike hn1 hn2 hl h)
 clear hf hg hr
 by_cases hlen : m1.length = m2.length
 ·have HLEN := Lib.hid hlen
  have hlI : ((m1.length : Int) == (m2.length : Int)) = true := by simp; omega
  clear hlen
  go_enter Tryz.func66, Tryz.ntmps66
  go_wp2_with (first | (at_range; refine wpList_range_map _ rfl _ 121 rfl _ _ Tryz.underlying121 b1 m1 rfl M1 ?_; intro w0 hrg0 hb0 hs0) | go_in)
  (try go_frame)
  have HM0 := Lib.hid (M2.below hb0)
  clear l1 l2 M2 hlI
  go_loopw [5] (fun _ wr => ∃ left : List (List UInt8 × SumsV), Ranging eStr eSums wr b1 w.heap.size m1 left ∧ Hid (MapIs eStr eSums wr b2 m2) ∧ Hid (∀ p ∈ m1, p ∈ left ∨ mget m2 p.1 = some p.2) ∧ Hid (∀ p ∈ left, p ∈ m1) ∧ Below w.heap.size w wr) (fun _ wr => wr.rangeLeft b1 w.heap.size)
  case atStart => exact ⟨m1, hrg0, HM0.out, fun p hp => .inl hp, fun p hp => hp, hb0⟩
  case round =>
   obtain ⟨left, hrg, HM, HG, HS, hb⟩ := hrel
   have HB := Lib.hid hb
   have HRG := Lib.hid hrg
   clear hb
   go_wp2_with (first | (at_next; refine wpList_next_map _ rfl _ rfl b1 w.heap.size m1 left rfl hrg ?_ ?_) | go_in)
   ·intro hl0
    have HT := Lib.hid (HR.out.2 (HFG.out.2 (HOK.out HLEN.out fun p hp => (HG.out p hp).resolve_left (by rw [hl0]; simp))))
    clear hl0 hrg
    go_wp2
    go_ret
    rw [HT.out]
    exact ⟨rfl, HB.out⟩
   ·intro ll k a1 a2 a3 a4 lr w1 hl hrg1 ht1 hen
    have hm1 := HM.out.keep (ht1.block b2 (by omega))
    have hb1 := HB.out.trans (ht1.below (Nat.le_refl _))
    have HMEM := Lib.hid (show (k, (a1, a2, a3, a4)) ∈ m1 from HS.out _ (by rw [hl]; simp))
    have HL := Lib.hid hl
    have HS1 : Hid (∀ p ∈ ll ++ lr, p ∈ m1) := fun p hp => HS.out p (by rw [hl]; rcases List.mem_append.1 hp with h | h; exact List.mem_append_left _ h; exact List.mem_append_right _ (List.mem_cons_of_mem _ h))
    have hlen2 := Lib.hid (show (ll ++ lr).length < left.length by rw [hl]; simp)
    have bx := below_one w1 (.cells #[.int .i64 a1, .int .i64 a2, .int .i64 a3, .int .i64 a4] 129)
    have hm2 := hm1.below bx
    have hlk := HLOOK.out _ hm2 k
    simp only [eStr, eSums, encSums] at hlk hen
    have HM2 := Lib.hid hm2
    have B2 := Lib.hid (hb1.trans (bx.mono hb1.size))
    have hrg2 := Lib.hid (hrg1.below bx)
    clear hl ht1 hrg hm1 hm2 hb1 bx hrg1
    cases hc : mget m2 k with
    |none =>
     have HF : Hid (r = false) := by
      show _ = _
      cases hr' : r with
      |false => rfl
      |true =>
       have := HFG.out.1 (HR.out.1 hr') k
       rw [hc, (mem_mget hn1).1 HMEM.out] at this
       cases this
     rw [hc] at hlk
     simp only [Option.isSome_none, Option.getD_none, if_true, zeroSums] at hlk
     clear hc
     go_wp2
     go_ret
     rw [HF.out]
     exact ⟨rfl, B2.out.alloc B2.out.size _⟩
    |some c =>
     rw [hc] at hlk
     obtain ⟨c1, c2, c3, c4⟩ := c
     simp only [Option.isSome_some, Option.getD_some, if_true] at hlk
     have b3 := below_one (w1.alloc (.cells #[.int .i64 a1, .int .i64 a2, .int .i64 a3, .int .i64 a4] 129)) (.cells #[.int .i64 c1, .int .i64 c2, .int .i64 c3, .int .i64 c4] 129)
     have B3 := Lib.hid (B2.out.trans (b3.mono B2.out.size))
     have hrg3 := Lib.hid (hrg2.out.below b3)
     have HM3 := Lib.hid (HM2.out.below b3)
     clear b3
     by_cases huc : (a1, a2, a3, a4) = (c1, c2, c3, c4)
     ·have HNEXT : Hid (∀ p ∈ m1, p ∈ ll ++ lr ∨ mget m2 p.1 = some p.2) := fun p hp => by
       rcases HG.out p hp with h | h
       ·rw [HL.out] at h
        rcases List.mem_append.1 h with h | h
        ·exact .inl (List.mem_append_left _ h)
        ·rcases List.mem_cons.1 h with rfl | h
         ·exact .inr (by rw [huc]; exact hc)
         ·exact .inl (List.mem_append_right _ h)
       ·exact .inr h
      have hq : ∀ W, (binOp .neq 129 (.agg #[.int .i64 a1, .int .i64 a2, .int .i64 a3, .int .i64 a4]) (.agg #[.int .i64 c1, .int .i64 c2, .int .i64 c3, .int .i64 c4])).run Tryz.prog W = .ok (.bool false) W := fun W => by have := neqSums (a1, a2, a3, a4) (c1, c2, c3, c4) W; rw [decide_eq_true huc] at this; exact this
      clear hc huc
      go_wp2
      go_roundw
      case rel => exact ⟨ll ++ lr, hrg3.out, HM3.out, HNEXT.out, HS1.out, B3.out⟩
      case measure => rw [hrg3.out.left_eq, HRG.out.left_eq]; exact hlen2.out
     ·have HF : Hid (r = false) := by
       show _ = _
       cases hr' : r with
       |false => rfl
       |true =>
        have := HFG.out.1 (HR.out.1 hr') k
        rw [hc, (mem_mget hn1).1 HMEM.out] at this
        exact absurd (Option.some.inj this) huc
      have hq : ∀ W, (binOp .neq 129 (.agg #[.int .i64 a1, .int .i64 a2, .int .i64 a3, .int .i64 a4]) (.agg #[.int .i64 c1, .int .i64 c2, .int .i64 c3, .int .i64 c4])).run Tryz.prog W = .ok (.bool true) W := fun W => by have := neqSums (a1, a2, a3, a4) (c1, c2, c3, c4) W; rw [decide_eq_false huc] at this; exact this
      clear hc huc
      go_wp2
      go_ret
      rw [HF.out]
      exact ⟨rfl, B3.out⟩
 ·have HF : Hid (r = false) := by
   show _ = _
   cases hr' : r with
   |false => rfl
   |true => exact absurd (perm_mget hn1 hn2 (HFG.out.1 (HR.out.1 hr'))).length_eq hlen
  have hlI : ((m1.length : Int) == (m2.length : Int)) = false := by simp; omega
  clear hlen
  go_enter Tryz.func66, Tryz.ntmps66
  go_wp2
  go_ret
  rw [HF.out]
  exact ⟨rfl, Below.refl _ _⟩
end Go.Proofs.YtchiojiicehpeaaGreatDoor
namespace Go.Proofs.YtchiojiicehpeaaGreatDoor
open Go.RowKit Go.Sort Go.Proofs
theorem textStk_P (E : Nat → Addr) {q c : Nat} {m : StkV} (hI : StkI m) (w : World) (h : StkP w q c m) (hG : PlaceG E w) :
  Calls Tryz.prog 67 #[.pointer (some ⟨q, 0, none⟩)] w fun e w' => e = .returned (.string ⟨(textM m).toArray⟩) ∧ Below w.heap.size w w' := by
 obtain ⟨m', h1, h2⟩ := h
 have e : textM m = textM m' := by
  unfold textM
  rw [lines_permE (hI.perm h2.symm) h2]
 rw [e]
 exact textStock_any E q c m' w h1 (hI.perm h2.symm).well hG
set_option maxHeartbeats 3200000 in
set_option maxRecDepth 100000 in
theorem sameM_any (E : Nat → Addr) {p p2 g l h s q c g2 l2 h2 s2 q2 c2 : Nat} {B C : BkV} {w : World} (hm : BookM w p g l h s q c B) (hm2 : BookM w p2 g2 l2 h2 s2 q2 c2 C) (hI : BkI B) (hI2 : BkI C) (hG : PlaceG E w) (e0 : ∀ i, goodsF B i = goodsF C i) (e1 : ∀ i, lotsF B i = lotsF C i) (e2 : ∀ i, heldF B i = heldF C i) (e3 : ∀ i, sumsF B i = sumsF C i) (e4 : textM B.2.2 = textM C.2.2) :
  Calls Tryz.prog 23 #[.pointer (some ⟨p, 0, none⟩), .pointer (some ⟨p2, 0, none⟩)] w fun e w' => e = .returned (.bool true) ∧ Below w.heap.size w w' := by
 have HE0 := Lib.hid (fun W (hb : Below w.heap.size w W) => equalGoods_is (hm.goods.below hb) (hm2.goods.below hb) true ⟨fun _ => e0, fun _ => rfl⟩)
 have HE1 := Lib.hid (fun W (hb : Below w.heap.size w W) => equalLot_is (hm.lots.below hb) (hm2.lots.below hb) true ⟨fun _ => e1, fun _ => rfl⟩)
 have HE2 := Lib.hid (fun W (hb : Below w.heap.size w W) => equalInt_is (hm.held.below hb) (hm2.held.below hb) true ⟨fun _ => e2, fun _ => rfl⟩)
 have HE3 := Lib.hid (fun W (hb : Below w.heap.size w W) => equalSums_is (hm.sums.below hb) (hm2.sums.below hb) true ⟨fun _ => e3, fun _ => rfl⟩)
 have HT1 := Lib.hid (fun W (hb : Below w.heap.size w W) => textStk_P E hI.stk W (hm.stk.below hb) (hG.below hb))
 have HT2 := Lib.hid (fun W (hb : Below w.heap.size w W) => textStk_P E hI2.stk W (hm2.stk.below hb) (hG.below hb))
 rw [← e4] at HT2
 generalize textM B.2.2 = T1 at *
 have HUP : Hid (∀ W : World, Below w.heap.size w W → W.cell? ⟨p, 0, none⟩ = some (.map (some g)) ∧ W.cell? ⟨p, 1, none⟩ = some (.map (some l)) ∧ W.cell? ⟨p, 2, none⟩ = some (.map (some h)) ∧ W.cell? ⟨p, 3, none⟩ = some (.map (some s)) ∧ W.cell? ⟨p, 4, none⟩ = some (.pointer (some ⟨q, 0, none⟩)) ∧ W.cell? ⟨p2, 0, none⟩ = some (.map (some g2)) ∧ W.cell? ⟨p2, 1, none⟩ = some (.map (some l2)) ∧ W.cell? ⟨p2, 2, none⟩ = some (.map (some h2)) ∧ W.cell? ⟨p2, 3, none⟩ = some (.map (some s2)) ∧ W.cell? ⟨p2, 4, none⟩ = some (.pointer (some ⟨q2, 0, none⟩))) := fun W hb => by
  obtain ⟨⟨x0, x1, x2, x3, x4⟩, -⟩ := (BookM.below hm hb).cells
  obtain ⟨⟨y0, y1, y2, y3, y4⟩, -⟩ := (BookM.below hm2 hb).cells
  exact ⟨x0, x1, x2, x3, x4, y0, y1, y2, y3, y4⟩
 have hd := (Below.refl w.heap.size w).drew
 clear hm hm2 hI hI2 hG e0 e1 e2 e3 e4
 go_enter Tryz.func23, Tryz.ntmps23
 go_wp2_with fail
 go_region_held3 (fun W => W.cell? ⟨p, 0, none⟩ = some (.map (some g)) ∧ W.cell? ⟨p, 1, none⟩ = some (.map (some l)) ∧ W.cell? ⟨p, 2, none⟩ = some (.map (some h)) ∧ W.cell? ⟨p, 3, none⟩ = some (.map (some s)) ∧ W.cell? ⟨p, 4, none⟩ = some (.pointer (some ⟨q, 0, none⟩)) ∧ W.cell? ⟨p2, 0, none⟩ = some (.map (some g2)) ∧ W.cell? ⟨p2, 1, none⟩ = some (.map (some l2)) ∧ W.cell? ⟨p2, 2, none⟩ = some (.map (some h2)) ∧ W.cell? ⟨p2, 3, none⟩ = some (.map (some s2)) ∧ W.cell? ⟨p2, 4, none⟩ = some (.pointer (some ⟨q2, 0, none⟩)))
  (first | exact HUP.out _ hd | exact HUP.out _ k1 | exact HUP.out _ k2 | exact HUP.out _ k3 | exact HUP.out _ k4 | exact HUP.out _ k5 | exact HUP.out _ k6 | go_keep)
  (first
   |(go_at_call 63; refine (HE0.out _ hd).mono ?_; rintro e v1 ⟨rfl, bb1⟩; have k1 := hd.trans (bb1.mono hd.size))
   |(go_at_call 64; refine (HE1.out _ k1).mono ?_; rintro e v2 ⟨rfl, bb2⟩; have k2 := k1.trans (bb2.mono k1.size))
   |(go_at_call 65; refine (HE2.out _ k2).mono ?_; rintro e v3 ⟨rfl, bb3⟩; have k3 := k2.trans (bb3.mono k2.size))
   |(go_at_call 66; refine (HE3.out _ k3).mono ?_; rintro e v4 ⟨rfl, bb4⟩; have k4 := k3.trans (bb4.mono k3.size))
   |(go_at_call 67; (with_reducible refine (HT1.out _ k4).mono ?_); rintro e v5 ⟨rfl, bb5⟩; have k5 := k4.trans (bb5.mono k4.size))
   |(go_at_call 67; (with_reducible refine (HT2.out _ k5).mono ?_); rintro e v6 ⟨rfl, bb6⟩; have k6 := k5.trans (bb6.mono k5.size)))
 all_goals
  have K := Lib.hid k6
  clear hd k1 bb1 k2 bb2 k3 bb3 k4 bb4 k5 bb5 k6 bb6
  go_wp2_with fail
  go_ret
  exact ⟨rfl, K.out⟩
end Go.Proofs.YtchiojiicehpeaaGreatDoor
