/- maps.Equal at the book's maps. Printed by gen/bkequal.py. -/
import Derived.Test.YteaalifehokgoaaGreatDoorM18
import Derived.Test.YteaalifehokgoaaGreatDoorM20
import Derived.Test.YteaalifehokgoaaGreatDoorM26
namespace Go.Proofs.YteaalifehokgoaaGreatDoor
open Go.RowKit Go.Sort Go.Proofs
section
variable {κ ν : Type} [DecidableEq κ]
open Classical in
theorem perm_sub {α : Type} : ∀ (m L : List α), m.Nodup → m ⊆ L → L.length ≤ m.length → m.Perm L
 |[], L, _, _, hl => by rw [List.eq_nil_of_length_eq_zero (Nat.le_zero.1 hl)]
 |x :: r, L, hn, hs, hl => by
  have hx : x ∈ L := hs List.mem_cons_self
  have hn' := List.nodup_cons.1 hn
  have h1 := List.perm_cons_erase hx
  have h2 := h1.length_eq
  refine List.Perm.trans ?_ h1.symm
  refine (perm_sub r (L.erase x) hn'.2 (fun y hy => (List.mem_erase_of_ne (fun e => hn'.1 (by rw [← e]; exact hy))).2 (hs (List.mem_cons_of_mem _ hy))) (by simp at h2 hl ⊢; omega)).cons x
theorem maps_alike {m L : List (κ × ν)} (hn : (m.map (·.1)).Nodup) (_ : (L.map (·.1)).Nodup) (hl : m.length = L.length) (h : ∀ p ∈ m, mget L p.1 = some p.2) : ∀ k, mget m k = mget L k := by
 have hsub : m ⊆ L := fun p hp => mget_mem (h p hp)
 have hp : m.Perm L := perm_sub m L (nodup_of_keys hn) hsub (by omega)
 intro k
 cases hk : mget m k with
 |some v => exact (h (k, v) (mget_mem hk)).symm
 |none =>
  cases hk2 : mget L k with
  |none => rfl
  |some v =>
   have := (mem_mget hn).1 (hp.mem_iff.2 (mget_mem hk2))
   rw [hk] at this
   cases this
end
set_option maxHeartbeats 3200000 in
set_option maxRecDepth 100000 in
theorem equalGoods_is {b1 b2 : Nat} {f g : List UInt8 → Option GoodsV} {w : World} (h1 : MapF eGoods w b1 f) (h2 : MapF eGoods w b2 g) (r : Bool) (hr : r = true ↔ ∀ k, f k = g k) :
  Calls Tryz.prog 40 #[.map (some b1), .map (some b2)] w fun e w' => e = .returned (.bool r) ∧ Below w.heap.size w w' := by
 obtain ⟨m1, M1, hf⟩ := h1
 obtain ⟨m2, M2, hg⟩ := h2
 have hn1 := M1.nodup
 have hn2 := M2.nodup
 have lb2 := M2.lt
 have l1 := fun ty => M1.len (ty := ty) Tryz.underlying102
 have l2 := fun ty => M2.len (ty := ty) Tryz.underlying102
 have HFG := Lib.hid (show (∀ k, f k = g k) ↔ ∀ k, mget m1 k = mget m2 k from ⟨fun h k => by rw [hf, hg, h], fun h k => by rw [← hf, ← hg, h]⟩)
 have HR := Lib.hid hr
 have HLOOK := Lib.hid (fun W (h : MapIs eStr eGoods W b2 m2) k => MapF.look (eV := eGoods) (f := mget m2) (b := b2) (w := W) ⟨m2, h, fun _ => rfl⟩ (P := Tryz.prog) (kt := 9) (t := 102) (by kernel_rfl) Tryz.underlying102 (z := zeroGoods) (by kernel_rfl) k true)
 have HOK := Lib.hid (fun hl h => maps_alike hn1 hn2 hl h)
 clear hf hg hr
 by_cases hlen : m1.length = m2.length
 ·have HLEN := Lib.hid hlen
  have hlI : ((m1.length : Int) == (m2.length : Int)) = true := by simp; omega
  clear hlen
  go_enter Tryz.func40, Tryz.ntmps40
  go_wp2_with (first | (at_range; refine wpList_range_map _ rfl _ 102 rfl _ _ Tryz.underlying102 b1 m1 rfl M1 ?_; intro w0 hrg0 hb0 hs0) | go_in)
  (try go_frame)
  have HM0 := Lib.hid (M2.below hb0)
  clear l1 l2 M2 hlI
  go_loopw [5] (fun _ wr => ∃ left : List (List UInt8 × GoodsV), Ranging eStr eGoods wr b1 w.heap.size m1 left ∧ Hid (MapIs eStr eGoods wr b2 m2) ∧ Hid (∀ p ∈ m1, p ∈ left ∨ mget m2 p.1 = some p.2) ∧ Hid (∀ p ∈ left, p ∈ m1) ∧ Below w.heap.size w wr) (fun _ wr => wr.rangeLeft b1 w.heap.size)
  case atStart => exact ⟨m1, hrg0, HM0.out, fun p hp => .inl hp, fun p hp => hp, hb0⟩
  case round =>
   obtain ⟨left, hrg, HM, HG, HS, hb⟩ := hrel
   have HB := Lib.hid hb
   have HRG := Lib.hid hrg
   clear hb
   go_wp2_with (first | (at_next; refine wpList_next_map _ rfl _ rfl b1 w.heap.size m1 left rfl hrg ?_ ?_) | go_in)
   ·intro hl0
    have HT := Lib.hid (HR.out.2 (HFG.out.2 (HOK.out HLEN.out fun p hp => (HG.out p hp).resolve_left (by rw [hl0]; simp))))
    clear hl0 hrg
    go_wp2
    go_ret
    rw [HT.out]
    exact ⟨rfl, HB.out⟩
   ·intro ll k a1 a2 lr w1 hl hrg1 ht1 hen
    have hm1 := HM.out.keep (ht1.block b2 (by omega))
    have hb1 := HB.out.trans (ht1.below (Nat.le_refl _))
    have HMEM := Lib.hid (show (k, (a1, a2)) ∈ m1 from HS.out _ (by rw [hl]; simp))
    have HL := Lib.hid hl
    have HS1 : Hid (∀ p ∈ ll ++ lr, p ∈ m1) := fun p hp => HS.out p (by rw [hl]; rcases List.mem_append.1 hp with h | h; exact List.mem_append_left _ h; exact List.mem_append_right _ (List.mem_cons_of_mem _ h))
    have hlen2 := Lib.hid (show (ll ++ lr).length < left.length by rw [hl]; simp)
    have bx := below_one w1 (.cells #[.string ⟨a1.toArray⟩, .int .i64 a2] 37)
    have hm2 := hm1.below bx
    have hlk := HLOOK.out _ hm2 k
    simp only [eStr, eGoods, encGoods] at hlk hen
    have HM2 := Lib.hid hm2
    have B2 := Lib.hid (hb1.trans (bx.mono hb1.size))
    have hrg2 := Lib.hid (hrg1.below bx)
    clear hl ht1 hrg hm1 hm2 hb1 bx hrg1
    cases hc : mget m2 k with
    |none =>
     have HF : Hid (r = false) := by
      show _ = _
      cases hr' : r with
      |false => rfl
      |true =>
       have := HFG.out.1 (HR.out.1 hr') k
       rw [hc, (mem_mget hn1).1 HMEM.out] at this
       cases this
     rw [hc] at hlk
     simp only [Option.isSome_none, Option.getD_none, if_true, zeroGoods] at hlk
     clear hc
     go_wp2
     go_ret
     rw [HF.out]
     exact ⟨rfl, B2.out.alloc B2.out.size _⟩
    |some c =>
     rw [hc] at hlk
     obtain ⟨c1, c2⟩ := c
     simp only [Option.isSome_some, Option.getD_some, if_true] at hlk
     have b3 := below_one (w1.alloc (.cells #[.string ⟨a1.toArray⟩, .int .i64 a2] 37)) (.cells #[.string ⟨c1.toArray⟩, .int .i64 c2] 37)
     have B3 := Lib.hid (B2.out.trans (b3.mono B2.out.size))
     have hrg3 := Lib.hid (hrg2.out.below b3)
     have HM3 := Lib.hid (HM2.out.below b3)
     clear b3
     by_cases huc : (a1, a2) = (c1, c2)
     ·have HNEXT : Hid (∀ p ∈ m1, p ∈ ll ++ lr ∨ mget m2 p.1 = some p.2) := fun p hp => by
       rcases HG.out p hp with h | h
       ·rw [HL.out] at h
        rcases List.mem_append.1 h with h | h
        ·exact .inl (List.mem_append_left _ h)
        ·rcases List.mem_cons.1 h with rfl | h
         ·exact .inr (by rw [huc]; exact hc)
         ·exact .inl (List.mem_append_right _ h)
       ·exact .inr h
      have hq : ∀ W, (binOp .neq 37 (.agg #[.string ⟨a1.toArray⟩, .int .i64 a2]) (.agg #[.string ⟨c1.toArray⟩, .int .i64 c2])).run Tryz.prog W = .ok (.bool false) W := fun W => by have := neqGoods (a1, a2) (c1, c2) W; rw [decide_eq_true huc] at this; exact this
      clear hc huc
      go_wp2
      go_roundw
      case rel => exact ⟨ll ++ lr, hrg3.out, HM3.out, HNEXT.out, HS1.out, B3.out⟩
      case measure => rw [hrg3.out.left_eq, HRG.out.left_eq]; exact hlen2.out
     ·have HF : Hid (r = false) := by
       show _ = _
       cases hr' : r with
       |false => rfl
       |true =>
        have := HFG.out.1 (HR.out.1 hr') k
        rw [hc, (mem_mget hn1).1 HMEM.out] at this
        exact absurd (Option.some.inj this) huc
      have hq : ∀ W, (binOp .neq 37 (.agg #[.string ⟨a1.toArray⟩, .int .i64 a2]) (.agg #[.string ⟨c1.toArray⟩, .int .i64 c2])).run Tryz.prog W = .ok (.bool true) W := fun W => by have := neqGoods (a1, a2) (c1, c2) W; rw [decide_eq_false huc] at this; exact this
      clear hc huc
      go_wp2
      go_ret
      rw [HF.out]
      exact ⟨rfl, B3.out⟩
 ·have HF : Hid (r = false) := by
   show _ = _
   cases hr' : r with
   |false => rfl
   |true => exact absurd (perm_mget hn1 hn2 (HFG.out.1 (HR.out.1 hr'))).length_eq hlen
  have hlI : ((m1.length : Int) == (m2.length : Int)) = false := by simp; omega
  clear hlen
  go_enter Tryz.func40, Tryz.ntmps40
  go_wp2
  go_ret
  rw [HF.out]
  exact ⟨rfl, Below.refl _ _⟩
set_option maxHeartbeats 3200000 in
set_option maxRecDepth 100000 in
theorem equalLot_is {b1 b2 : Nat} {f g : List UInt8 → Option LotV} {w : World} (h1 : MapF eLot w b1 f) (h2 : MapF eLot w b2 g) (r : Bool) (hr : r = true ↔ ∀ k, f k = g k) :
  Calls Tryz.prog 41 #[.map (some b1), .map (some b2)] w fun e w' => e = .returned (.bool r) ∧ Below w.heap.size w w' := by
 obtain ⟨m1, M1, hf⟩ := h1
 obtain ⟨m2, M2, hg⟩ := h2
 have hn1 := M1.nodup
 have hn2 := M2.nodup
 have lb2 := M2.lt
 have l1 := fun ty => M1.len (ty := ty) Tryz.underlying103
 have l2 := fun ty => M2.len (ty := ty) Tryz.underlying103
 have HFG := Lib.hid (show (∀ k, f k = g k) ↔ ∀ k, mget m1 k = mget m2 k from ⟨fun h k => by rw [hf, hg, h], fun h k => by rw [← hf, ← hg, h]⟩)
 have HR := Lib.hid hr
 have HLOOK := Lib.hid (fun W (h : MapIs eStr eLot W b2 m2) k => MapF.look (eV := eLot) (f := mget m2) (b := b2) (w := W) ⟨m2, h, fun _ => rfl⟩ (P := Tryz.prog) (kt := 9) (t := 103) (by kernel_rfl) Tryz.underlying103 (z := zeroLot) (by kernel_rfl) k true)
 have HOK := Lib.hid (fun hl h => maps_alike hn1 hn2 hl h)
 clear hf hg hr
 by_cases hlen : m1.length = m2.length
 ·have HLEN := Lib.hid hlen
  have hlI : ((m1.length : Int) == (m2.length : Int)) = true := by simp; omega
  clear hlen
  go_enter Tryz.func41, Tryz.ntmps41
  go_wp2_with (first | (at_range; refine wpList_range_map _ rfl _ 103 rfl _ _ Tryz.underlying103 b1 m1 rfl M1 ?_; intro w0 hrg0 hb0 hs0) | go_in)
  (try go_frame)
  have HM0 := Lib.hid (M2.below hb0)
  clear l1 l2 M2 hlI
  go_loopw [5] (fun _ wr => ∃ left : List (List UInt8 × LotV), Ranging eStr eLot wr b1 w.heap.size m1 left ∧ Hid (MapIs eStr eLot wr b2 m2) ∧ Hid (∀ p ∈ m1, p ∈ left ∨ mget m2 p.1 = some p.2) ∧ Hid (∀ p ∈ left, p ∈ m1) ∧ Below w.heap.size w wr) (fun _ wr => wr.rangeLeft b1 w.heap.size)
  case atStart => exact ⟨m1, hrg0, HM0.out, fun p hp => .inl hp, fun p hp => hp, hb0⟩
  case round =>
   obtain ⟨left, hrg, HM, HG, HS, hb⟩ := hrel
   have HB := Lib.hid hb
   have HRG := Lib.hid hrg
   clear hb
   go_wp2_with (first | (at_next; refine wpList_next_map _ rfl _ rfl b1 w.heap.size m1 left rfl hrg ?_ ?_) | go_in)
   ·intro hl0
    have HT := Lib.hid (HR.out.2 (HFG.out.2 (HOK.out HLEN.out fun p hp => (HG.out p hp).resolve_left (by rw [hl0]; simp))))
    clear hl0 hrg
    go_wp2
    go_ret
    rw [HT.out]
    exact ⟨rfl, HB.out⟩
   ·intro ll k a1 a2 a3 a4 lr w1 hl hrg1 ht1 hen
    have hm1 := HM.out.keep (ht1.block b2 (by omega))
    have hb1 := HB.out.trans (ht1.below (Nat.le_refl _))
    have HMEM := Lib.hid (show (k, (a1, a2, a3, a4)) ∈ m1 from HS.out _ (by rw [hl]; simp))
    have HL := Lib.hid hl
    have HS1 : Hid (∀ p ∈ ll ++ lr, p ∈ m1) := fun p hp => HS.out p (by rw [hl]; rcases List.mem_append.1 hp with h | h; exact List.mem_append_left _ h; exact List.mem_append_right _ (List.mem_cons_of_mem _ h))
    have hlen2 := Lib.hid (show (ll ++ lr).length < left.length by rw [hl]; simp)
    have bx := below_one w1 (.cells #[.string ⟨a1.toArray⟩, .string ⟨a2.toArray⟩, .int .i64 a3, .int .i64 a4] 39)
    have hm2 := hm1.below bx
    have hlk := HLOOK.out _ hm2 k
    simp only [eStr, eLot, encLot] at hlk hen
    have HM2 := Lib.hid hm2
    have B2 := Lib.hid (hb1.trans (bx.mono hb1.size))
    have hrg2 := Lib.hid (hrg1.below bx)
    clear hl ht1 hrg hm1 hm2 hb1 bx hrg1
    cases hc : mget m2 k with
    |none =>
     have HF : Hid (r = false) := by
      show _ = _
      cases hr' : r with
      |false => rfl
      |true =>
       have := HFG.out.1 (HR.out.1 hr') k
       rw [hc, (mem_mget hn1).1 HMEM.out] at this
       cases this
     rw [hc] at hlk
     simp only [Option.isSome_none, Option.getD_none, if_true, zeroLot] at hlk
     clear hc
     go_wp2
     go_ret
     rw [HF.out]
     exact ⟨rfl, B2.out.alloc B2.out.size _⟩
    |some c =>
     rw [hc] at hlk
     obtain ⟨c1, c2, c3, c4⟩ := c
     simp only [Option.isSome_some, Option.getD_some, if_true] at hlk
     have b3 := below_one (w1.alloc (.cells #[.string ⟨a1.toArray⟩, .string ⟨a2.toArray⟩, .int .i64 a3, .int .i64 a4] 39)) (.cells #[.string ⟨c1.toArray⟩, .string ⟨c2.toArray⟩, .int .i64 c3, .int .i64 c4] 39)
     have B3 := Lib.hid (B2.out.trans (b3.mono B2.out.size))
     have hrg3 := Lib.hid (hrg2.out.below b3)
     have HM3 := Lib.hid (HM2.out.below b3)
     clear b3
     by_cases huc : (a1, a2, a3, a4) = (c1, c2, c3, c4)
     ·have HNEXT : Hid (∀ p ∈ m1, p ∈ ll ++ lr ∨ mget m2 p.1 = some p.2) := fun p hp => by
       rcases HG.out p hp with h | h
       ·rw [HL.out] at h
        rcases List.mem_append.1 h with h | h
        ·exact .inl (List.mem_append_left _ h)
        ·rcases List.mem_cons.1 h with rfl | h
         ·exact .inr (by rw [huc]; exact hc)
         ·exact .inl (List.mem_append_right _ h)
       ·exact .inr h
      have hq : ∀ W, (binOp .neq 39 (.agg #[.string ⟨a1.toArray⟩, .string ⟨a2.toArray⟩, .int .i64 a3, .int .i64 a4]) (.agg #[.string ⟨c1.toArray⟩, .string ⟨c2.toArray⟩, .int .i64 c3, .int .i64 c4])).run Tryz.prog W = .ok (.bool false) W := fun W => by have := neqLotV (a1, a2, a3, a4) (c1, c2, c3, c4) W; rw [decide_eq_true huc] at this; exact this
      clear hc huc
      go_wp2
      go_roundw
      case rel => exact ⟨ll ++ lr, hrg3.out, HM3.out, HNEXT.out, HS1.out, B3.out⟩
      case measure => rw [hrg3.out.left_eq, HRG.out.left_eq]; exact hlen2.out
     ·have HF : Hid (r = false) := by
       show _ = _
       cases hr' : r with
       |false => rfl
       |true =>
        have := HFG.out.1 (HR.out.1 hr') k
        rw [hc, (mem_mget hn1).1 HMEM.out] at this
        exact absurd (Option.some.inj this) huc
      have hq : ∀ W, (binOp .neq 39 (.agg #[.string ⟨a1.toArray⟩, .string ⟨a2.toArray⟩, .int .i64 a3, .int .i64 a4]) (.agg #[.string ⟨c1.toArray⟩, .string ⟨c2.toArray⟩, .int .i64 c3, .int .i64 c4])).run Tryz.prog W = .ok (.bool true) W := fun W => by have := neqLotV (a1, a2, a3, a4) (c1, c2, c3, c4) W; rw [decide_eq_false huc] at this; exact this
      clear hc huc
      go_wp2
      go_ret
      rw [HF.out]
      exact ⟨rfl, B3.out⟩
 ·have HF : Hid (r = false) := by
   show _ = _
   cases hr' : r with
   |false => rfl
   |true => exact absurd (perm_mget hn1 hn2 (HFG.out.1 (HR.out.1 hr'))).length_eq hlen
  have hlI : ((m1.length : Int) == (m2.length : Int)) = false := by simp; omega
  clear hlen
  go_enter Tryz.func41, Tryz.ntmps41
  go_wp2
  go_ret
  rw [HF.out]
  exact ⟨rfl, Below.refl _ _⟩
set_option maxHeartbeats 3200000 in
set_option maxRecDepth 100000 in
theorem equalInt_is {b1 b2 : Nat} {f g : List UInt8 → Option Nat} {w : World} (h1 : MapF eNat w b1 f) (h2 : MapF eNat w b2 g) (r : Bool) (hr : r = true ↔ ∀ k, f k = g k) :
  Calls Tryz.prog 42 #[.map (some b1), .map (some b2)] w fun e w' => e = .returned (.bool r) ∧ Below w.heap.size w w' := by
 obtain ⟨m1, M1, hf⟩ := h1
 obtain ⟨m2, M2, hg⟩ := h2
 have hn1 := M1.nodup
 have hn2 := M2.nodup
 have lb2 := M2.lt
 have l1 := fun ty => M1.len (ty := ty) Tryz.underlying104
 have l2 := fun ty => M2.len (ty := ty) Tryz.underlying104
 have HFG := Lib.hid (show (∀ k, f k = g k) ↔ ∀ k, mget m1 k = mget m2 k from ⟨fun h k => by rw [hf, hg, h], fun h k => by rw [← hf, ← hg, h]⟩)
 have HR := Lib.hid hr
 have HLOOK := Lib.hid (fun W (h : MapIs eStr eNat W b2 m2) k => MapF.look (eV := eNat) (f := mget m2) (b := b2) (w := W) ⟨m2, h, fun _ => rfl⟩ (P := Tryz.prog) (kt := 9) (t := 104) (by kernel_rfl) Tryz.underlying104 (z := 0) (by kernel_rfl) k true)
 have HOK := Lib.hid (fun hl h => maps_alike hn1 hn2 hl h)
 clear hf hg hr
 by_cases hlen : m1.length = m2.length
 ·have HLEN := Lib.hid hlen
  have hlI : ((m1.length : Int) == (m2.length : Int)) = true := by simp; omega
  clear hlen
  go_enter Tryz.func42, Tryz.ntmps42
  go_wp2_with (first | (at_range; refine wpList_range_map _ rfl _ 104 rfl _ _ Tryz.underlying104 b1 m1 rfl M1 ?_; intro w0 hrg0 hb0 hs0) | go_in)
  (try go_frame)
  have HM0 := Lib.hid (M2.below hb0)
  clear l1 l2 M2 hlI
  go_loopw [5] (fun _ wr => ∃ left : List (List UInt8 × Nat), Ranging eStr eNat wr b1 w.heap.size m1 left ∧ Hid (MapIs eStr eNat wr b2 m2) ∧ Hid (∀ p ∈ m1, p ∈ left ∨ mget m2 p.1 = some p.2) ∧ Hid (∀ p ∈ left, p ∈ m1) ∧ Below w.heap.size w wr) (fun _ wr => wr.rangeLeft b1 w.heap.size)
  case atStart => exact ⟨m1, hrg0, HM0.out, fun p hp => .inl hp, fun p hp => hp, hb0⟩
  case round =>
   obtain ⟨left, hrg, HM, HG, HS, hb⟩ := hrel
   have HB := Lib.hid hb
   have HRG := Lib.hid hrg
   clear hb
   go_wp2_with (first | (at_next; refine wpList_next_map _ rfl _ rfl b1 w.heap.size m1 left rfl hrg ?_ ?_) | go_in)
   ·intro hl0
    have HT := Lib.hid (HR.out.2 (HFG.out.2 (HOK.out HLEN.out fun p hp => (HG.out p hp).resolve_left (by rw [hl0]; simp))))
    clear hl0 hrg
    go_wp2
    go_ret
    rw [HT.out]
    exact ⟨rfl, HB.out⟩
   ·intro ll k a1 lr w1 hl hrg1 ht1 hen
    have hm1 := HM.out.keep (ht1.block b2 (by omega))
    have hb1 := HB.out.trans (ht1.below (Nat.le_refl _))
    have HMEM := Lib.hid (show (k, a1) ∈ m1 from HS.out _ (by rw [hl]; simp))
    have HL := Lib.hid hl
    have HS1 : Hid (∀ p ∈ ll ++ lr, p ∈ m1) := fun p hp => HS.out p (by rw [hl]; rcases List.mem_append.1 hp with h | h; exact List.mem_append_left _ h; exact List.mem_append_right _ (List.mem_cons_of_mem _ h))
    have hlen2 := Lib.hid (show (ll ++ lr).length < left.length by rw [hl]; simp)
    have bx := Below.refl w1.heap.size w1
    have hm2 := hm1.below bx
    have hlk := HLOOK.out _ hm2 k
    simp only [eStr, eNat] at hlk hen
    have HM2 := Lib.hid hm2
    have B2 := Lib.hid (hb1.trans (bx.mono hb1.size))
    have hrg2 := Lib.hid (hrg1.below bx)
    clear hl ht1 hrg hm1 hm2 hb1 bx hrg1
    cases hc : mget m2 k with
    |none =>
     have HF : Hid (r = false) := by
      show _ = _
      cases hr' : r with
      |false => rfl
      |true =>
       have := HFG.out.1 (HR.out.1 hr') k
       rw [hc, (mem_mget hn1).1 HMEM.out] at this
       cases this
     rw [hc] at hlk
     simp only [Option.isSome_none, Option.getD_none, if_true] at hlk
     clear hc
     go_wp2
     go_ret
     rw [HF.out]
     exact ⟨rfl, B2.out⟩
    |some c =>
     rw [hc] at hlk
     obtain ⟨c1, rfl⟩ : ∃ c1, c1 = c := ⟨_, rfl⟩
     simp only [Option.isSome_some, Option.getD_some, if_true] at hlk
     have b3 := Below.refl w1.heap.size w1
     have B3 := Lib.hid (B2.out.trans (b3.mono B2.out.size))
     have hrg3 := Lib.hid (hrg2.out.below b3)
     have HM3 := Lib.hid (HM2.out.below b3)
     clear b3
     by_cases huc : a1 = c1
     ·have HNEXT : Hid (∀ p ∈ m1, p ∈ ll ++ lr ∨ mget m2 p.1 = some p.2) := fun p hp => by
       rcases HG.out p hp with h | h
       ·rw [HL.out] at h
        rcases List.mem_append.1 h with h | h
        ·exact .inl (List.mem_append_left _ h)
        ·rcases List.mem_cons.1 h with rfl | h
         ·exact .inr (by rw [huc]; exact hc)
         ·exact .inl (List.mem_append_right _ h)
       ·exact .inr h
      have hq : (((a1 : Nat) : Int) == ((c1 : Nat) : Int)) = true := by simp; omega
      clear hc huc
      go_wp2
      go_roundw
      case rel => exact ⟨ll ++ lr, hrg3.out, HM3.out, HNEXT.out, HS1.out, B3.out⟩
      case measure => rw [hrg3.out.left_eq, HRG.out.left_eq]; exact hlen2.out
     ·have HF : Hid (r = false) := by
       show _ = _
       cases hr' : r with
       |false => rfl
       |true =>
        have := HFG.out.1 (HR.out.1 hr') k
        rw [hc, (mem_mget hn1).1 HMEM.out] at this
        exact absurd (Option.some.inj this) huc
      have hq : (((a1 : Nat) : Int) == ((c1 : Nat) : Int)) = false := by simp; omega
      clear hc huc
      go_wp2
      go_ret
      rw [HF.out]
      exact ⟨rfl, B3.out⟩
 ·have HF : Hid (r = false) := by
   show _ = _
   cases hr' : r with
   |false => rfl
   |true => exact absurd (perm_mget hn1 hn2 (HFG.out.1 (HR.out.1 hr'))).length_eq hlen
  have hlI : ((m1.length : Int) == (m2.length : Int)) = false := by simp; omega
  clear hlen
  go_enter Tryz.func42, Tryz.ntmps42
  go_wp2
  go_ret
  rw [HF.out]
  exact ⟨rfl, Below.refl _ _⟩
set_option maxHeartbeats 3200000 in
set_option maxRecDepth 100000 in
theorem equalSums_is {b1 b2 : Nat} {f g : List UInt8 → Option SumsV} {w : World} (h1 : MapF eSums w b1 f) (h2 : MapF eSums w b2 g) (r : Bool) (hr : r = true ↔ ∀ k, f k = g k) :
  Calls Tryz.prog 43 #[.map (some b1), .map (some b2)] w fun e w' => e = .returned (.bool r) ∧ Below w.heap.size w w' := by
 obtain ⟨m1, M1, hf⟩ := h1
 obtain ⟨m2, M2, hg⟩ := h2
 have hn1 := M1.nodup
 have hn2 := M2.nodup
 have lb2 := M2.lt
 have l1 := fun ty => M1.len (ty := ty) Tryz.underlying93
 have l2 := fun ty => M2.len (ty := ty) Tryz.underlying93
 have HFG := Lib.hid (show (∀ k, f k = g k) ↔ ∀ k, mget m1 k = mget m2 k from ⟨fun h k => by rw [hf, hg, h], fun h k => by rw [← hf, ← hg, h]⟩)
 have HR := Lib.hid hr
 have HLOOK := Lib.hid (fun W (h : MapIs eStr eSums W b2 m2) k => MapF.look (eV := eSums) (f := mget m2) (b := b2) (w := W) ⟨m2, h, fun _ => rfl⟩ (P := Tryz.prog) (kt := 9) (t := 93) (by kernel_rfl) Tryz.underlying93 (z := zeroSums) (by kernel_rfl) k true)
 have HOK := Lib.hid (fun hl h => maps_alike hn1 hn2 hl h)
 clear hf hg hr
 by_cases hlen : m1.length = m2.length
 ·have HLEN := Lib.hid hlen
  have hlI : ((m1.length : Int) == (m2.length : Int)) = true := by simp; omega
  clear hlen
  go_enter Tryz.func43, Tryz.ntmps43
  go_wp2_with (first | (at_range; refine wpList_range_map _ rfl _ 93 rfl _ _ Tryz.underlying93 b1 m1 rfl M1 ?_; intro w0 hrg0 hb0 hs0) | go_in)
  (try go_frame)
  have HM0 := Lib.hid (M2.below hb0)
  clear l1 l2 M2 hlI
  go_loopw [5] (fun _ wr => ∃ left : List (List UInt8 × SumsV), Ranging eStr eSums wr b1 w.heap.size m1 left ∧ Hid (MapIs eStr eSums wr b2 m2) ∧ Hid (∀ p ∈ m1, p ∈ left ∨ mget m2 p.1 = some p.2) ∧ Hid (∀ p ∈ left, p ∈ m1) ∧ Below w.heap.size w wr) (fun _ wr => wr.rangeLeft b1 w.heap.size)
  case atStart => exact ⟨m1, hrg0, HM0.out, fun p hp => .inl hp, fun p hp => hp, hb0⟩
  case round =>
   obtain ⟨left, hrg, HM, HG, HS, hb⟩ := hrel
   have HB := Lib.hid hb
   have HRG := Lib.hid hrg
   clear hb
   go_wp2_with (first | (at_next; refine wpList_next_map _ rfl _ rfl b1 w.heap.size m1 left rfl hrg ?_ ?_) | go_in)
   ·intro hl0
    have HT := Lib.hid (HR.out.2 (HFG.out.2 (HOK.out HLEN.out fun p hp => (HG.out p hp).resolve_left (by rw [hl0]; simp))))
    clear hl0 hrg
    go_wp2
    go_ret
    rw [HT.out]
    exact ⟨rfl, HB.out⟩
   ·intro ll k a1 a2 a3 a4 lr w1 hl hrg1 ht1 hen
    have hm1 := HM.out.keep (ht1.block b2 (by omega))
    have hb1 := HB.out.trans (ht1.below (Nat.le_refl _))
    have HMEM := Lib.hid (show (k, (a1, a2, a3, a4)) ∈ m1 from HS.out _ (by rw [hl]; simp))
    have HL := Lib.hid hl
    have HS1 : Hid (∀ p ∈ ll ++ lr, p ∈ m1) := fun p hp => HS.out p (by rw [hl]; rcases List.mem_append.1 hp with h | h; exact List.mem_append_left _ h; exact List.mem_append_right _ (List.mem_cons_of_mem _ h))
    have hlen2 := Lib.hid (show (ll ++ lr).length < left.length by rw [hl]; simp)
    have bx := below_one w1 (.cells #[.int .i64 a1, .int .i64 a2, .int .i64 a3, .int .i64 a4] 77)
    have hm2 := hm1.below bx
    have hlk := HLOOK.out _ hm2 k
    simp only [eStr, eSums, encSums] at hlk hen
    have HM2 := Lib.hid hm2
    have B2 := Lib.hid (hb1.trans (bx.mono hb1.size))
    have hrg2 := Lib.hid (hrg1.below bx)
    clear hl ht1 hrg hm1 hm2 hb1 bx hrg1
    cases hc : mget m2 k with
    |none =>
     have HF : Hid (r = false) := by
      show _ = _
      cases hr' : r with
      |false => rfl
      |true =>
       have := HFG.out.1 (HR.out.1 hr') k
       rw [hc, (mem_mget hn1).1 HMEM.out] at this
       cases this
     rw [hc] at hlk
     simp only [Option.isSome_none, Option.getD_none, if_true, zeroSums] at hlk
     clear hc
     go_wp2
     go_ret
     rw [HF.out]
     exact ⟨rfl, B2.out.alloc B2.out.size _⟩
    |some c =>
     rw [hc] at hlk
     obtain ⟨c1, c2, c3, c4⟩ := c
     simp only [Option.isSome_some, Option.getD_some, if_true] at hlk
     have b3 := below_one (w1.alloc (.cells #[.int .i64 a1, .int .i64 a2, .int .i64 a3, .int .i64 a4] 77)) (.cells #[.int .i64 c1, .int .i64 c2, .int .i64 c3, .int .i64 c4] 77)
     have B3 := Lib.hid (B2.out.trans (b3.mono B2.out.size))
     have hrg3 := Lib.hid (hrg2.out.below b3)
     have HM3 := Lib.hid (HM2.out.below b3)
     clear b3
     by_cases huc : (a1, a2, a3, a4) = (c1, c2, c3, c4)
     ·have HNEXT : Hid (∀ p ∈ m1, p ∈ ll ++ lr ∨ mget m2 p.1 = some p.2) := fun p hp => by
       rcases HG.out p hp with h | h
       ·rw [HL.out] at h
        rcases List.mem_append.1 h with h | h
        ·exact .inl (List.mem_append_left _ h)
        ·rcases List.mem_cons.1 h with rfl | h
         ·exact .inr (by rw [huc]; exact hc)
         ·exact .inl (List.mem_append_right _ h)
       ·exact .inr h
      have hq : ∀ W, (binOp .neq 77 (.agg #[.int .i64 a1, .int .i64 a2, .int .i64 a3, .int .i64 a4]) (.agg #[.int .i64 c1, .int .i64 c2, .int .i64 c3, .int .i64 c4])).run Tryz.prog W = .ok (.bool false) W := fun W => by have := neqSums (a1, a2, a3, a4) (c1, c2, c3, c4) W; rw [decide_eq_true huc] at this; exact this
      clear hc huc
      go_wp2
      go_roundw
      case rel => exact ⟨ll ++ lr, hrg3.out, HM3.out, HNEXT.out, HS1.out, B3.out⟩
      case measure => rw [hrg3.out.left_eq, HRG.out.left_eq]; exact hlen2.out
     ·have HF : Hid (r = false) := by
       show _ = _
       cases hr' : r with
       |false => rfl
       |true =>
        have := HFG.out.1 (HR.out.1 hr') k
        rw [hc, (mem_mget hn1).1 HMEM.out] at this
        exact absurd (Option.some.inj this) huc
      have hq : ∀ W, (binOp .neq 77 (.agg #[.int .i64 a1, .int .i64 a2, .int .i64 a3, .int .i64 a4]) (.agg #[.int .i64 c1, .int .i64 c2, .int .i64 c3, .int .i64 c4])).run Tryz.prog W = .ok (.bool true) W := fun W => by have := neqSums (a1, a2, a3, a4) (c1, c2, c3, c4) W; rw [decide_eq_false huc] at this; exact this
      clear hc huc
      go_wp2
      go_ret
      rw [HF.out]
      exact ⟨rfl, B3.out⟩
 ·have HF : Hid (r = false) := by
   show _ = _
   cases hr' : r with
   |false => rfl
   |true => exact absurd (perm_mget hn1 hn2 (HFG.out.1 (HR.out.1 hr'))).length_eq hlen
  have hlI : ((m1.length : Int) == (m2.length : Int)) = false := by simp; omega
  clear hlen
  go_enter Tryz.func43, Tryz.ntmps43
  go_wp2
  go_ret
  rw [HF.out]
  exact ⟨rfl, Below.refl _ _⟩
end Go.Proofs.YteaalifehokgoaaGreatDoor
