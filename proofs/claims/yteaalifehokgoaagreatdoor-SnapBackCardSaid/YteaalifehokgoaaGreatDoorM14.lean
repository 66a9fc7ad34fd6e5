/- Lots: Check, Text; the closed fact. Plain facts: a text cut at one byte; pieces are read as they were written. No program in sight but what goods.Text and goods.Read compute. Parts of a text, plainly. Texts cut by a byte, plainly: strings.Split's answer and the document's. Slices of strings, as a walk reads them; the same texts? strings.Split at one byte, walked. -/
import Derived.Lib.ItoaLen
import Derived.Lib.IndexLaws
import Derived.Lib.SplitLaws
import Derived.Laws.AppendOwn
import Derived.Deep.AppendLies
import Derived.Test.YteaalifehokgoaaGreatDoorM01
import Derived.Test.YteaalifehokgoaaGreatDoorM03
import Derived.Test.YteaalifehokgoaaGreatDoorM08
import Derived.Test.YteaalifehokgoaaGreatDoorM09
import Derived.Test.YteaalifehokgoaaGreatDoorM13
namespace Go.Proofs.YteaalifehokgoaaGreatDoor
open Go.RowKit Go.Sort Go.Proofs
def lotE (x : LotV) : Nat := if (nameB x.1 && nameB x.2.1) = false then 5 else if x.2.2.1 < 0 ∨ 100000 < x.2.2.1 ∨ x.2.2.2 < 0 ∨ 1048576 < x.2.2.2 then 2 else 0
def lotText (x : LotV) : List UInt8 := if lotE x = 0 then x.1 ++ [32] ++ x.2.1 ++ [32] ++ Lib.itoa x.2.2.1 ++ [32] ++ Lib.itoa x.2.2.2 else []
structure LotG (E : Nat → Addr) (w : World) : Prop where
 name : ErrAt 4 (E 5) w
 bound : ErrAt 0 (E 2) w
 tab : TabG w
theorem LotG.below {E : Nat → Addr} {w w' : World} (h : LotG E w) (hb : Below w.heap.size w w') : LotG E w' := ⟨h.name.below hb, h.bound.below hb, h.tab.below hb⟩
structure LotCG (E : Nat → Addr) (w : World) : Prop where
 name : ErrAt 4 (E 5) w
 bound : ErrAt 0 (E 2) w
theorem LotCG.below {E : Nat → Addr} {w w' : World} (h : LotCG E w) (hb : Below w.heap.size w w') : LotCG E w' := ⟨h.name.below hb, h.bound.below hb⟩
set_option maxHeartbeats 800000 in
theorem checkLot_c (E : Nat → Addr) (x : LotV) (h1 : x.1.length ≤ 1000000000) (h2 : x.2.1.length ≤ 1000000000) (w : World) (hG : LotCG E w) :
  Calls Tryz.prog 79 #[.agg (encLot x).toArray] w fun e w' => e = .returned (errOf E (lotE x)) ∧ Below w.heap.size w w' := by
 obtain ⟨a1, a2, a3, a4⟩ := x
 simp only [encLot]
 have h1 : a1.length ≤ 1000000000 := h1
 have h2 : a2.length ≤ 1000000000 := h2
 have HE := Lib.hid (show lotE (a1, a2, a3, a4) = if (nameB a1 && nameB a2) = false then 5 else if a3 < 0 ∨ 100000 < a3 ∨ a4 < 0 ∨ 1048576 < a4 then 2 else 0 from rfl)
 have HN1 := Lib.hid (fun W => name_any a1 h1 W)
 have HN2 := Lib.hid (fun W => name_any a2 h2 W)
 have HG := Lib.hid hG
 clear hG
 have b0 : Below w.heap.size w (w.alloc (.cells #[.string ⟨a1.toArray⟩, .string ⟨a2.toArray⟩, .int .i64 a3, .int .i64 a4] 39)) := (Below.refl _ _).alloc (Nat.le_refl _) _
 have c0 : (w.alloc (.cells #[.string ⟨a1.toArray⟩, .string ⟨a2.toArray⟩, .int .i64 a3, .int .i64 a4] 39)).heap[w.heap.size]? = some (.cells #[.string ⟨a1.toArray⟩, .string ⟨a2.toArray⟩, .int .i64 a3, .int .i64 a4] 39 (0, 0)) := heap_alloc_new _ _
 have l0 : w.heap.size < (w.alloc (.cells #[.string ⟨a1.toArray⟩, .string ⟨a2.toArray⟩, .int .i64 a3, .int .i64 a4] 39)).heap.size := by simp
 have B0 := Lib.hid b0
 have C0 := Lib.hid c0
 have L0 := Lib.hid l0
 clear b0 c0 l0
 have cells : ∀ W', Below (w.alloc (.cells #[.string ⟨a1.toArray⟩, .string ⟨a2.toArray⟩, .int .i64 a3, .int .i64 a4] 39)).heap.size (w.alloc (.cells #[.string ⟨a1.toArray⟩, .string ⟨a2.toArray⟩, .int .i64 a3, .int .i64 a4] 39)) W' →
   Below w.heap.size w W' ∧ W'.cell? ⟨w.heap.size, 1, none⟩ = some (.string ⟨a2.toArray⟩) ∧ W'.cell? ⟨w.heap.size, 2, none⟩ = some (.int .i64 a3) ∧ W'.cell? ⟨w.heap.size, 3, none⟩ = some (.int .i64 a4) ∧ LotCG E W' := fun W' hb => by
  have hh := (hb.block _ L0.out).trans C0.out
  have hw := B0.out.trans (hb.mono (by simp))
  exact ⟨hw, by rw [cell_of_row W' _ _ _ _ _ hh]; rfl, by rw [cell_of_row W' _ _ _ _ _ hh]; rfl, by rw [cell_of_row W' _ _ _ _ _ hh]; rfl, HG.out.below hw⟩
 have CL := Lib.hid cells
 clear cells
 cases hn1 : nameB a1 with
 |false =>
  rw [hn1] at HN1 HE
  go_enter Tryz.func79, Tryz.ntmps79
  go_wp2_with fail
  refine (HN1.out _).mono ?_
  rintro e w1 ⟨rfl, b1⟩
  obtain ⟨bw, c1, c2, c3, G1⟩ := CL.out w1 b1
  have hE := G1.name
  unfold ErrAt at hE
  have BW := Lib.hid bw
  clear b1 bw c1 c2 c3 G1
  go_wp2_with fail
  go_ret
  rw [HE.out, if_pos (by simp)]
  exact ⟨rfl, BW.out⟩
 |true =>
  cases hn2 : nameB a2 with
  |false =>
   rw [hn1] at HN1 HE
   rw [hn2] at HN2 HE
   clear hn1 hn2
   go_enter Tryz.func79, Tryz.ntmps79
   go_wp2_with fail
   refine (HN1.out _).mono ?_
   rintro e w1 ⟨rfl, b1⟩
   obtain ⟨bw, c1, c2, c3, G1⟩ := CL.out w1 b1
   have B1 := Lib.hid b1
   clear b1 bw c2 c3 G1
   go_wp2_with fail
   refine (HN2.out _).mono ?_
   rintro e w2 ⟨rfl, b2⟩
   obtain ⟨bw, c1, c2, c3, G1⟩ := CL.out w2 (B1.out.trans (b2.mono B1.out.size))
   have hE := G1.name
   unfold ErrAt at hE
   have BW := Lib.hid bw
   clear b2 bw c1 c2 c3 G1
   go_wp2_with fail
   go_ret
   rw [HE.out, if_pos (by simp)]
   exact ⟨rfl, BW.out⟩
  |true =>
   rw [hn1] at HN1 HE
   rw [hn2] at HN2 HE
   clear hn1 hn2
   by_cases h3 : a3 < 0 ∨ 100000 < a3
   ·have h4 : a3 < 0 ∨ 100000 < a3 ∨ a4 < 0 ∨ 1048576 < a4 := by omega
    have H4 := Lib.hid h4
    have H3 := Lib.hid h3
    clear h3 h4
    go_enter Tryz.func79, Tryz.ntmps79
    go_wp2_with fail
    refine (HN1.out _).mono ?_
    rintro e w1 ⟨rfl, b1⟩
    obtain ⟨bw, c1, c2, c3, G1⟩ := CL.out w1 b1
    have B1 := Lib.hid b1
    clear b1 bw c2 c3 G1
    go_wp2_with fail
    refine (HN2.out _).mono ?_
    rintro e w2 ⟨rfl, b2⟩
    obtain ⟨bw, c1, c2, c3, G1⟩ := CL.out w2 (B1.out.trans (b2.mono B1.out.size))
    have hE := G1.bound
    unfold ErrAt at hE
    have BW := Lib.hid bw
    clear b2 bw c1 c3 G1
    go_wp2_with fail
    refine (within_no a3 0 100000 _ H3.out).mono ?_
    rintro e w3 ⟨rfl, rfl⟩
    go_wp2_with fail
    go_ret
    rw [HE.out, if_neg (by simp), if_pos H4.out]
    exact ⟨rfl, BW.out⟩
   ·by_cases h4 : a4 < 0 ∨ 1048576 < a4
    ·have H5 := Lib.hid (show a3 < 0 ∨ 100000 < a3 ∨ a4 < 0 ∨ 1048576 < a4 by omega)
     have H4 := Lib.hid h4
     have H3 := Lib.hid (show 0 ≤ a3 ∧ a3 ≤ 100000 by omega)
     clear h3 h4
     go_enter Tryz.func79, Tryz.ntmps79
     go_wp2_with fail
     refine (HN1.out _).mono ?_
     rintro e w1 ⟨rfl, b1⟩
     obtain ⟨bw, c1, c2, c3, G1⟩ := CL.out w1 b1
     have B1 := Lib.hid b1
     clear b1 bw c2 c3 G1
     go_wp2_with fail
     refine (HN2.out _).mono ?_
     rintro e w2 ⟨rfl, b2⟩
     obtain ⟨bw, c1, c2, c3, G1⟩ := CL.out w2 (B1.out.trans (b2.mono B1.out.size))
     have hE := G1.bound
     unfold ErrAt at hE
     have BW := Lib.hid bw
     clear b2 bw c1 G1
     go_wp2_with fail
     refine (within_yes a3 0 100000 _ H3.out.1 H3.out.2).mono ?_
     rintro e w3 ⟨rfl, rfl⟩
     go_wp2_with fail
     refine (within_no a4 0 1048576 _ H4.out).mono ?_
     rintro e w3 ⟨rfl, rfl⟩
     go_wp2_with fail
     go_ret
     rw [HE.out, if_neg (by simp), if_pos H5.out]
     exact ⟨rfl, BW.out⟩
    ·have H5 := Lib.hid (show ¬ (a3 < 0 ∨ 100000 < a3 ∨ a4 < 0 ∨ 1048576 < a4) by omega)
     have H4 := Lib.hid (show 0 ≤ a4 ∧ a4 ≤ 1048576 by omega)
     have H3 := Lib.hid (show 0 ≤ a3 ∧ a3 ≤ 100000 by omega)
     clear h3 h4
     go_enter Tryz.func79, Tryz.ntmps79
     go_wp2_with fail
     refine (HN1.out _).mono ?_
     rintro e w1 ⟨rfl, b1⟩
     obtain ⟨bw, c1, c2, c3, G1⟩ := CL.out w1 b1
     have B1 := Lib.hid b1
     clear b1 bw c2 c3 G1
     go_wp2_with fail
     refine (HN2.out _).mono ?_
     rintro e w2 ⟨rfl, b2⟩
     obtain ⟨bw, c1, c2, c3, G1⟩ := CL.out w2 (B1.out.trans (b2.mono B1.out.size))
     have BW := Lib.hid bw
     clear b2 bw c1 G1
     go_wp2_with fail
     refine (within_yes a3 0 100000 _ H3.out.1 H3.out.2).mono ?_
     rintro e w3 ⟨rfl, rfl⟩
     go_wp2_with fail
     refine (within_yes a4 0 1048576 _ H4.out.1 H4.out.2).mono ?_
     rintro e w3 ⟨rfl, rfl⟩
     go_wp2_with fail
     go_ret
     rw [HE.out, if_neg (by simp), if_neg H5.out]
     exact ⟨rfl, BW.out⟩
theorem checkLot_any (E : Nat → Addr) (x : LotV) (h1 : x.1.length ≤ 1000000000) (h2 : x.2.1.length ≤ 1000000000) (w : World) (hG : LotG E w) :
  Calls Tryz.prog 79 #[.agg (encLot x).toArray] w fun e w' => e = .returned (errOf E (lotE x)) ∧ Below w.heap.size w w' := checkLot_c E x h1 h2 w ⟨hG.name, hG.bound⟩
set_option maxHeartbeats 800000 in
theorem textLot_any (E : Nat → Addr) (x : LotV) (h1 : x.1.length ≤ 1000000000) (h2 : x.2.1.length ≤ 1000000000) (w : World) (hG : LotG E w) :
  Calls Tryz.prog 30 #[.agg (encLot x).toArray] w fun e w' => e = .returned (.string ⟨(lotText x).toArray⟩) ∧ Below w.heap.size w w' := by
 have HCK := Lib.hid (fun W h => checkLot_any E x h1 h2 W h)
 by_cases hE : lotE x = 0
 ·have hx : 0 ≤ x.2.2.1 ∧ x.2.2.1 ≤ 100000 ∧ 0 ≤ x.2.2.2 ∧ x.2.2.2 ≤ 1048576 ∧ nameB x.1 = true ∧ nameB x.2.1 = true := by
   unfold lotE at hE
   split at hE
   ·omega
   ·split at hE
    ·omega
    ·rename_i q1 q2
     have : nameB x.1 = true ∧ nameB x.2.1 = true := by simpa using q1
     exact ⟨by omega, by omega, by omega, by omega, this.1, this.2⟩
  have hl8 : ∀ l, nameB l = true → l.length ≤ 8 := fun l h => by
   unfold nameB at h
   simp at h
   exact h.1.2
  have l1 := hl8 _ hx.2.2.2.2.1
  have l2 := hl8 _ hx.2.2.2.2.2
  have HTX := Lib.hid (show lotText x = x.1 ++ [32] ++ x.2.1 ++ [32] ++ Lib.itoa x.2.2.1 ++ [32] ++ Lib.itoa x.2.2.2 by unfold lotText; rw [if_pos hE])
  have HCK' := Lib.hid (show ∀ W, LotG E W → Calls Tryz.prog 79 #[.agg (encLot x).toArray] W fun e w' => e = .returned .nilIface ∧ Below W.heap.size W w' from fun W h => by have := HCK.out W h; rw [hE] at this; exact this)
  obtain ⟨a1, a2, a3, a4⟩ := x
  simp only [encLot] at HCK' HTX ⊢
  simp only at hx l1 l2
  obtain ⟨x1, x2, x3, x4, -, -⟩ := hx
  have HG := Lib.hid hG
  clear hG HCK hE hl8
  have n3 := Lib.itoa_length_le a3 (by omega) (by omega)
  have n4 := Lib.itoa_length_le a4 (by omega) (by omega)
  go_enter Tryz.func30, Tryz.ntmps30
  go_wp2_with fail
  have b0 : Below w.heap.size w (w.alloc (.cells #[.string ⟨a1.toArray⟩, .string ⟨a2.toArray⟩, .int .i64 a3, .int .i64 a4] 39)) := (Below.refl _ _).alloc (Nat.le_refl _) _
  have hh0 : (w.alloc (.cells #[.string ⟨a1.toArray⟩, .string ⟨a2.toArray⟩, .int .i64 a3, .int .i64 a4] 39)).heap[w.heap.size]? = some (.cells #[.string ⟨a1.toArray⟩, .string ⟨a2.toArray⟩, .int .i64 a3, .int .i64 a4] 39 (0, 0)) := heap_alloc_new _ _
  have l0 : w.heap.size < (w.alloc (.cells #[.string ⟨a1.toArray⟩, .string ⟨a2.toArray⟩, .int .i64 a3, .int .i64 a4] 39)).heap.size := by simp
  refine (HCK'.out _ (HG.out.below b0)).mono ?_
  rintro e w1 ⟨rfl, bb1⟩
  have hh := (bb1.block _ l0).trans hh0
  have b1 := b0.trans (bb1.mono (by simp))
  have c0 : w1.cell? ⟨w.heap.size, 0, none⟩ = some (.string ⟨a1.toArray⟩) := by rw [cell_of_row w1 _ _ _ _ _ hh]; rfl
  have c1 : w1.cell? ⟨w.heap.size, 1, none⟩ = some (.string ⟨a2.toArray⟩) := by rw [cell_of_row w1 _ _ _ _ _ hh]; rfl
  have c2 : w1.cell? ⟨w.heap.size, 2, none⟩ = some (.int .i64 a3) := by rw [cell_of_row w1 _ _ _ _ _ hh]; rfl
  have c3 : w1.cell? ⟨w.heap.size, 3, none⟩ = some (.int .i64 a4) := by rw [cell_of_row w1 _ _ _ _ _ hh]; rfl
  have lw : w.heap.size < w1.heap.size := Nat.lt_of_lt_of_le l0 bb1.size
  clear hh0 hh l0 b0 bb1
  go_wp2_with fail
  have hd : Below w.heap.size w w1.drew := b1.drew
  have HT := Lib.hid (show ∀ W, Below w.heap.size w W → TabG W from fun W h => (HG.out.below h).tab)
  have s1 : (⟨a1.toArray⟩ : ByteArray).size = a1.length := by simp [ByteArray.size]
  have s2 : (⟨a2.toArray⟩ : ByteArray).size = a2.length := by simp [ByteArray.size]
  have v1 : ¬ 9223372036854775807 < a1.length + 1 := by omega
  have v2 : ¬ 9223372036854775807 < a1.length + 1 + a2.length := by omega
  have v3 : ¬ 9223372036854775807 < a1.length + 1 + a2.length + 1 := by omega
  have v4 : ¬ 9223372036854775807 < a1.length + 1 + a2.length + 1 + (Lib.itoa a3).length := by omega
  have v5 : ¬ 9223372036854775807 < a1.length + 1 + a2.length + 1 + (Lib.itoa a3).length + 1 := by omega
  have v6 : ¬ 9223372036854775807 < a1.length + 1 + a2.length + 1 + (Lib.itoa a3).length + 1 + (Lib.itoa a4).length := by omega
  go_region_held3 (fun w' => w'.cell? ⟨w.heap.size, 0, none⟩ = some (.string ⟨a1.toArray⟩) ∧ w'.cell? ⟨w.heap.size, 1, none⟩ = some (.string ⟨a2.toArray⟩) ∧ w'.cell? ⟨w.heap.size, 2, none⟩ = some (.int .i64 a3) ∧ w'.cell? ⟨w.heap.size, 3, none⟩ = some (.int .i64 a4) ∧ Below w.heap.size w w')
   (first | exact ⟨c0, c1, c2, c3, hd⟩ | exact ⟨(q4.cell lw).trans c0, (q4.cell lw).trans c1, (q4.cell lw).trans c2, (q4.cell lw).trans c3, b4⟩ | exact ⟨(q3.cell lw).trans c0, (q3.cell lw).trans c1, (q3.cell lw).trans c2, (q3.cell lw).trans c3, b3⟩ | go_keep)
   (first
    |(go_at_call_of 77 (Value.int .i64 a3); refine (itoa_any a3 (by omega) (by omega) _ (HT.out _ hd)).mono ?_; rintro e w3 ⟨rfl, bb3⟩; have q3 : Below w1.heap.size w1 w3 := (Below.refl w1.heap.size w1).drew.trans bb3; have b3 := b1.trans (q3.mono b1.size))
    |(go_at_call_of 77 (Value.int .i64 a4); refine (itoa_any a4 (by omega) (by omega) _ (HT.out _ b3)).mono ?_; rintro e w4 ⟨rfl, bb4⟩; have q4 := q3.trans (bb4.mono q3.size); have b4 := b1.trans (q4.mono b1.size)))
  all_goals
   have B4 := Lib.hid b4
   clear b4 q4 q3 b3 bb3 bb4 hd b1 c0 c1 c2 c3
   go_wp2_with fail
   go_ret
   refine ⟨?_, B4.out⟩
   rw [HTX.out]
   show Ending.returned (.string ((⟨a1.toArray⟩ : ByteArray) ++ (⟨#[32]⟩ : ByteArray) ++ (⟨a2.toArray⟩ : ByteArray) ++ (⟨#[32]⟩ : ByteArray) ++ (⟨(Lib.itoa a3).toArray⟩ : ByteArray) ++ (⟨#[32]⟩ : ByteArray) ++ (⟨(Lib.itoa a4).toArray⟩ : ByteArray))) = _
   rw [show (⟨#[32]⟩ : ByteArray) = ⟨[32].toArray⟩ from rfl, mk_app, mk_app, mk_app, mk_app, mk_app, mk_app]
 ·have HTX := Lib.hid (show lotText x = [] by unfold lotText; rw [if_neg hE])
  have HCK' := Lib.hid (show ∀ W, LotG E W → Calls Tryz.prog 79 #[.agg (encLot x).toArray] W fun e w' => e = .returned (.iface 318 (.pointer (some (E (lotE x))))) ∧ Below W.heap.size W w' from fun W h => by have := HCK.out W h; rw [errOf_pos _ _ hE] at this; exact this)
  generalize lotE x = k at HCK'
  obtain ⟨a1, a2, a3, a4⟩ := x
  simp only [encLot] at HCK' ⊢
  have HG := Lib.hid hG
  clear hG HCK hE
  go_enter Tryz.func30, Tryz.ntmps30
  go_wp2_with fail
  have b0 : Below w.heap.size w (w.alloc (.cells #[.string ⟨a1.toArray⟩, .string ⟨a2.toArray⟩, .int .i64 a3, .int .i64 a4] 39)) := (Below.refl _ _).alloc (Nat.le_refl _) _
  refine (HCK'.out _ (HG.out.below b0)).mono ?_
  rintro e w1 ⟨rfl, bb1⟩
  have b1 := b0.trans (bb1.mono (by simp))
  clear b0 bb1
  go_wp2_with fail
  go_ret
  rw [HTX.out]
  exact ⟨rfl, b1⟩
end Go.Proofs.YteaalifehokgoaaGreatDoor
namespace Go.Proofs.YteaalifehokgoaaGreatDoor
theorem occ_one (l : List UInt8) (c : UInt8) (i : Nat) : Lib.occAt l [c] i = true ↔ l[i]? = some c := by
 unfold Lib.occAt
 rw [← List.head?_drop]
 cases l.drop i with
 |nil => simp
 |cons x r =>
  simp [List.isPrefixOf]
  exact ⟨fun h => h.symm, fun h => h.symm⟩
end Go.Proofs.YteaalifehokgoaaGreatDoor
namespace Go.Proofs.YteaalifehokgoaaGreatDoor
open Go.RowKit
end Go.Proofs.YteaalifehokgoaaGreatDoor
namespace Go.Proofs.YteaalifehokgoaaGreatDoor
open Go.RowKit
def splitL (c : UInt8) : List UInt8 → List (List UInt8)
 |[] => [[]]
 |x :: r => if x = c then [] :: splitL c r else match splitL c r with
  |[] => [[x]]
  |p :: q => (x :: p) :: q
theorem splitL_ne (c : UInt8) (l : List UInt8) : splitL c l ≠ [] := by
 cases l with
 |nil => simp [splitL]
 |cons x r =>
  rw [splitL]
  split
  ·simp
  ·split <;> simp
theorem splitL_none {c : UInt8} {l : List UInt8} (h : c ∉ l) : splitL c l = [l] := by
 induction l with
 |nil => rfl
 |cons x r ih =>
  rw [splitL, if_neg (fun e => h (by rw [e]; exact List.mem_cons_self)), ih (fun e => h (List.mem_cons_of_mem _ e))]
theorem splitL_at {c : UInt8} (a b : List UInt8) (h : c ∉ a) : splitL c (a ++ c :: b) = a :: splitL c b := by
 induction a with
 |nil => rw [List.nil_append, splitL, if_pos rfl]
 |cons x r ih =>
  rw [List.cons_append, splitL, if_neg (fun e => h (by rw [e]; exact List.mem_cons_self)), ih (fun e => h (List.mem_cons_of_mem _ e))]
theorem index_hit {a b : List UInt8} {c : UInt8} (h : c ∉ a) : Lib.index (a ++ c :: b) [c] = (a.length : Nat) := Lib.index_first (by simp) ((occ_one _ _ _).2 (by simp)) (fun j hj => by
 rw [← Bool.not_eq_true, occ_one]
 intro hh
 rw [List.getElem?_append_left hj] at hh
 exact h (List.mem_of_getElem? hh))
theorem splitK_is (c : UInt8) (n : Nat) : ∀ l : List UInt8, l.length ≤ n → Lib.splitK [c] 0 (l.count c) l = splitL c l := by
 induction n with
 |zero =>
  intro l hl
  obtain rfl := List.eq_nil_of_length_eq_zero (Nat.le_zero.1 hl)
  rfl
 |succ n ih =>
  intro l hl
  by_cases h : c ∈ l
  ·obtain ⟨a, b, rfl, ha⟩ := List.eq_append_cons_of_mem h
   have hcount : (a ++ c :: b).count c = b.count c + 1 := by
    rw [List.count_append, List.count_cons_self, List.count_eq_zero.2 ha, Nat.zero_add]
   rw [hcount, Lib.splitK, index_hit ha, if_neg (by simp), splitL_at a b ha]
   have h1 : ((a.length : Nat) : Int).toNat = a.length := by omega
   rw [h1, Nat.add_zero, List.take_left]
   have h2 : (a ++ c :: b).drop (a.length + [c].length) = b := by
    rw [← List.drop_drop, List.drop_left]; rfl
   rw [h2, ih b (by simp at hl; omega)]
  ·rw [List.count_eq_zero.2 h, splitL_none h]; rfl
theorem splitB_is (s : ByteArray) (c : UInt8) : (Lib.splitB ⟨#[c]⟩ 0 (Lib.countB s ⟨#[c]⟩) s).map (·.data.toList) = splitL c (bts s) := by
 rw [Lib.splitB_data]
 have : Lib.countB s ⟨#[c]⟩ = (bts s).count c := by
  show Lib.count s.data.toList [c] = _
  rw [Lib.count_one]; rfl
 rw [this]
 exact splitK_is c _ (bts s) (Nat.le_refl _)
end Go.Proofs.YteaalifehokgoaaGreatDoor
namespace Go.Proofs.YteaalifehokgoaaGreatDoor
open Go.RowKit
def StrsAt (w : World) (A : Option Addr) (xs : List (List UInt8)) : Prop :=
 xs = [] ∨ ∃ b o, A = some ⟨b, o, none⟩ ∧ b < w.heap.size ∧ ∀ i (h : i < xs.length), w.cell? ⟨b, o + i, none⟩ = some (.string ⟨xs[i].toArray⟩)
theorem StrsAt.below {w w' : World} {A : Option Addr} {xs : List (List UInt8)} (h : StrsAt w A xs) (hb : Below w.heap.size w w') : StrsAt w' A xs := by
 rcases h with h | ⟨b, o, h1, h2, h3⟩
 ·exact .inl h
 ·exact .inr ⟨b, o, h1, Nat.lt_of_lt_of_le h2 hb.size, fun i hi => (hb.cell h2).trans (h3 i hi)⟩
def strVals (xs : List (List UInt8)) : List Value := xs.map fun x => .string ⟨x.toArray⟩
theorem StrsAt.of_own {w : World} {B : Nat} {v : Value} {xs : List (List UInt8)} (h : w.ownsRow B 9 1 v xs.length (strVals xs)) : ∃ A cap, v = .slice A xs.length cap ∧ StrsAt w A xs ∧ ∀ a, A = some a → B ≤ a.block := by
 rcases h.2 with ⟨rfl, h0⟩ | ⟨g, cap, cur, rfl, hB, hg, _, _, _, ht⟩
 ·obtain rfl := List.eq_nil_of_length_eq_zero h0
  exact ⟨_, _, rfl, .inl rfl, fun a ha => by cases ha⟩
 ·refine ⟨_, _, rfl, .inr ⟨g, 0, rfl, ?_, fun i hi => ?_⟩, fun a ha => by cases ha; exact hB⟩
  ·rcases Nat.lt_or_ge g w.heap.size with hl | hl
   ·exact hl
   ·rw [Array.getElem?_eq_none hl] at hg; cases hg
  ·rw [cell_of_row w g _ cur _ _ hg, Nat.zero_add, ← Array.getElem?_toList, ← List.getElem?_take_of_lt (l := cur.toList) (show i < xs.length * 1 by omega), ht]
   simp [strVals, List.getElem?_eq_getElem hi]
end Go.Proofs.YteaalifehokgoaaGreatDoor
namespace Go.Proofs.YteaalifehokgoaaGreatDoor
open Go.RowKit
def TextsEnds (xs : List (List UInt8)) (w : World) (e : Ending) (w' : World) : Prop :=
 ∃ A cap, e = .returned (.slice A xs.length cap) ∧ StrsAt w' A xs ∧ (∀ a, A = some a → w.heap.size ≤ a.block) ∧ Below w.heap.size w w'
theorem split_any (s : ByteArray) (c : UInt8) (w : World) (hs : s.size ≤ 1000000000) (hM : MaxG w) :
  Calls Tryz.prog 86 #[.string s, .string ⟨#[c]⟩] w (TextsEnds (splitL c (bts s)) w) := by
 obtain ⟨m, hm⟩ := hM
 refine (Tryz.strings_Split s ⟨#[c]⟩ m w (by omega) hm (by show 1 ≤ (#[c] : Array UInt8).size; simp)).mono ?_
 rintro e w' ⟨rfl, rfl⟩
 have hsp := splitB_is s c
 have hl : Lib.countB s ⟨#[c]⟩ + 1 = (splitL c (bts s)).length := by
  rw [← hsp, List.length_map, Lib.splitB_all ⟨#[c]⟩ (by show 1 ≤ (#[c] : Array UInt8).size; simp) 0 _ s rfl]
 refine ⟨some ⟨w.heap.size, 0, none⟩, Lib.countB s ⟨#[c]⟩ + 1, by rw [hl], .inr ⟨w.heap.size, 0, rfl, by simp, fun i hi => ?_⟩, fun a ha => by cases ha; exact Nat.le_refl _, (Below.refl _ _).alloc (Nat.le_refl _) _⟩
 rw [cell_of_row _ _ _ _ _ _ (heap_alloc_new _ _), Nat.zero_add]
 have h2 : i < (Lib.splitB ⟨#[c]⟩ 0 (Lib.countB s ⟨#[c]⟩) s).length := by rw [← hsp, List.length_map] at hi; exact hi
 simp only [List.getElem?_toArray, List.getElem?_map, List.getElem?_eq_getElem h2, Option.map_some]
 have h3 : (splitL c (bts s))[i] = ((Lib.splitB ⟨#[c]⟩ 0 (Lib.countB s ⟨#[c]⟩) s)[i]).data.toList := by
  simp only [← hsp, List.getElem_map]
 rw [h3]
end Go.Proofs.YteaalifehokgoaaGreatDoor
