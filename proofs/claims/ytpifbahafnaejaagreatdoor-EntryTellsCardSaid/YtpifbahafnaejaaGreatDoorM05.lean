/- Lots: their compare. Lots: Sooner. Lots: the document's error, text, order; Good. Goods: the document's error of them. Structs in memory: loads and stores of whole ones, laws at the operations of a walk. Entries of the document: EntryError. Entries of the document: EntryError at entries of pieces. Printed by gen/rente.py. -/
import Derived.Laws.CopyRow
import Derived.Laws.Rows
import Derived.Test.YtpifbahafnaejaaGreatDoorM01
import Derived.Test.YtpifbahafnaejaaGreatDoorM02
import Derived.Test.YtpifbahafnaejaaGreatDoorM03
import Derived.Test.YtpifbahafnaejaaGreatDoorM04
namespace Go.Proofs.YtpifbahafnaejaaGreatDoor
open Go.RowKit Go.Sort Go.Proofs

/-- The compare of two lots. -/
def cfLot (x y : LotV) : Int := orL [Lib.compareInt x.2.2.1 y.2.2.1, Lib.compareBytes x.1 y.1]
theorem cmpI_lt (x y : Int) : Lib.compareInt x y < 0 ↔ x < y := by
  unfold Lib.compareInt
  by_cases h1 : x < y
  · simp [h1]
  · by_cases h2 : y < x <;> simp [h1, h2]
theorem cmpI_zero (x y : Int) : Lib.compareInt x y = 0 ↔ x = y := by
  unfold Lib.compareInt
  by_cases h1 : x < y
  · simp [h1]; omega
  · by_cases h2 : y < x
    · simp [h1, h2]; omega
    · simp [h1, h2]; omega
theorem ltLot (x y : LotV) : ltOf cfLot x y = decide (x.2.2.1 < y.2.2.1 ∨ (x.2.2.1 = y.2.2.1 ∧ Lib.compareBytes x.1 y.1 < 0)) := by
  unfold ltOf cfLot
  rw [Bool.eq_iff_iff, decide_eq_true_iff, decide_eq_true_iff]
  by_cases h : Lib.compareInt x.2.2.1 y.2.2.1 = 0
  · have h' := (cmpI_zero _ _).1 h
    simp only [orL, h, if_pos]
    by_cases h2 : Lib.compareBytes x.1 y.1 = 0
    · rw [if_pos h2, h2]; omega
    · rw [if_neg h2]; omega
  · have h' : x.2.2.1 ≠ y.2.2.1 := fun e => h ((cmpI_zero _ _).2 e)
    simp only [orL, if_neg h]
    rw [cmpI_lt]; omega
theorem swoLot : SWO (ltOf cfLot) where
  irrefl x := by rw [ltLot, cmpB_refl]; simp
  trans x y z h1 h2 := by
    rw [ltLot, decide_eq_true_iff] at *
    rcases h1 with h1 | ⟨h1, h1'⟩ <;> rcases h2 with h2 | ⟨h2, h2'⟩
    · exact .inl (by omega)
    · exact .inl (by omega)
    · exact .inl (by omega)
    · exact .inr ⟨by omega, cmpB_trans _ _ _ h1' h2'⟩
  ntrans x y z h1 h2 := by
    rw [ltLot, decide_eq_false_iff_not] at *
    rintro (h3 | ⟨h3, h3'⟩)
    · exact h1 (.inl (by have : ¬ y.2.2.1 < z.2.2.1 := fun h => h2 (.inl h); omega))
    · have a1 : ¬ x.2.2.1 < y.2.2.1 := fun h => h1 (.inl h)
      have a2 : ¬ y.2.2.1 < z.2.2.1 := fun h => h2 (.inl h)
      have b1 : ¬ Lib.compareBytes x.1 y.1 < 0 := fun h => h1 (.inr ⟨by omega, h⟩)
      have b2 : ¬ Lib.compareBytes y.1 z.1 < 0 := fun h => h2 (.inr ⟨by omega, h⟩)
      have s1 := cmpB_swap x.1 y.1
      have s2 := cmpB_swap y.1 z.1
      by_cases e1 : Lib.compareBytes x.1 y.1 = 0
      · rw [(cmpB_eq _ _).1 e1] at h3'; exact b2 h3'
      · by_cases e2 : Lib.compareBytes y.1 z.1 = 0
        · rw [← (cmpB_eq _ _).1 e2] at h3'; exact b1 h3'
        · have := cmpB_trans z.1 y.1 x.1 (by omega) (by omega)
          have s3 := cmpB_swap x.1 z.1
          omega

end Go.Proofs.YtpifbahafnaejaaGreatDoor
namespace Go.Proofs.YtpifbahafnaejaaGreatDoor
open Go.RowKit Go.Sort Go.Proofs

end Go.Proofs.YtpifbahafnaejaaGreatDoor
namespace Go.Proofs.YtpifbahafnaejaaGreatDoor
open Go.RowKit Go.Sort Go.Proofs

set_option maxHeartbeats 800000 in
theorem refLotE_any (x : LotV) (h1 : x.1.length ≤ 1000000000) (h2 : x.2.1.length ≤ 1000000000) (w : World) :
    Calls Tryz.prog 31 #[.agg (encLot x).toArray] w fun e w' => e = .returned (.int .i64 (lotE x : Nat)) ∧ Below w.heap.size w w' := by
  have HE := Lib.hid (show lotE x = if (nameB x.1 && nameB x.2.1) = false then 5 else if x.2.2.1 < 0 ∨ 100000 < x.2.2.1 ∨ x.2.2.2 < 0 ∨ 1048576 < x.2.2.2 then 2 else 0 from rfl)
  obtain ⟨a1, a2, a3, a4⟩ := x
  have HN1 := Lib.hid (fun W => isName_any a1 h1 W)
  have HN2 := Lib.hid (fun W => isName_any a2 h2 W)
  simp only [encLot] at HE ⊢
  have B1 := Lib.hid (below_one w (.cells #[.string ⟨a1.toArray⟩, .string ⟨a2.toArray⟩, .int .i64 a3, .int .i64 a4] 25))
  generalize nameB a1 = n1 at HN1 HE
  generalize nameB a2 = n2 at HN2 HE
  have hcase : (n1 = false) ∨ (n1 = true ∧ n2 = false) ∨ (n1 = true ∧ n2 = true ∧ a3 < 0) ∨ (n1 = true ∧ n2 = true ∧ ¬ a3 < 0 ∧ 100000 < a3) ∨ (n1 = true ∧ n2 = true ∧ ¬ a3 < 0 ∧ ¬ 100000 < a3 ∧ a4 < 0) ∨ (n1 = true ∧ n2 = true ∧ ¬ a3 < 0 ∧ ¬ 100000 < a3 ∧ ¬ a4 < 0 ∧ 1048576 < a4) ∨ (n1 = true ∧ n2 = true ∧ ¬ a3 < 0 ∧ ¬ 100000 < a3 ∧ ¬ a4 < 0 ∧ ¬ 1048576 < a4) := by
    cases n1
    · exact .inl rfl
    · cases n2
      · exact .inr (.inl ⟨rfl, rfl⟩)
      · simp only [true_and, Bool.true_eq_false, false_or]
        omega
  go_enter Tryz.func31, Tryz.ntmps31
  go_wp2_with fail
  refine (HN1.out _).mono ?_
  rintro e w1 ⟨rfl, rfl⟩
  go_wp2_with fail
  refine (HN2.out _).mono ?_
  rintro e w1 ⟨rfl, rfl⟩
  rcases hcase with rfl | ⟨rfl, rfl⟩ | ⟨rfl, rfl, q1⟩ | ⟨rfl, rfl, q1, q2⟩ | ⟨rfl, rfl, q1, q2, q3⟩ | ⟨rfl, rfl, q1, q2, q3, q4⟩ | ⟨rfl, rfl, q1, q2, q3, q4⟩
  · go_wp2
    go_ret
    rw [HE.out, if_pos (by simp)]
    exact ⟨rfl, B1.out⟩
  · go_wp2
    go_ret
    rw [HE.out, if_pos (by simp)]
    exact ⟨rfl, B1.out⟩
  · go_wp2
    go_ret
    rw [HE.out, if_neg (by simp), if_pos (by omega)]
    exact ⟨rfl, B1.out⟩
  · go_wp2
    go_ret
    rw [HE.out, if_neg (by simp), if_pos (by omega)]
    exact ⟨rfl, B1.out⟩
  · go_wp2
    go_ret
    rw [HE.out, if_neg (by simp), if_pos (by omega)]
    exact ⟨rfl, B1.out⟩
  · go_wp2
    go_ret
    rw [HE.out, if_neg (by simp), if_pos (by omega)]
    exact ⟨rfl, B1.out⟩
  · go_wp2
    go_ret
    rw [HE.out, if_neg (by simp), if_neg (by omega)]
    exact ⟨rfl, B1.out⟩

theorem lotE_zero {x : LotV} (h : lotE x = 0) : nameB x.1 = true ∧ nameB x.2.1 = true ∧ 0 ≤ x.2.2.1 ∧ x.2.2.1 ≤ 100000 ∧ 0 ≤ x.2.2.2 ∧ x.2.2.2 ≤ 1048576 := by
  unfold lotE at h
  split at h
  · cases h
  · rename_i h1
    split at h
    · cases h
    · rename_i h2
      simp at h1
      refine ⟨h1.1, h1.2, ?_⟩
      omega

set_option maxHeartbeats 800000 in
theorem refLotText_any (x : LotV) (h1 : x.1.length ≤ 1000000000) (h2 : x.2.1.length ≤ 1000000000) (w : World) :
    Calls Tryz.prog 38 #[.agg (encLot x).toArray] w fun e w' => e = .returned (.string ⟨(lotText x).toArray⟩) ∧ Below w.heap.size w w' := by
  have HCK := Lib.hid (fun W => refLotE_any x h1 h2 W)
  by_cases hE : lotE x = 0
  · have hx := lotE_zero hE
    have HTX := Lib.hid (show lotText x = x.1 ++ [32] ++ x.2.1 ++ [32] ++ Lib.itoa x.2.2.1 ++ [32] ++ Lib.itoa x.2.2.2 by unfold lotText; rw [if_pos hE])
    rw [hE] at HCK
    obtain ⟨a1, a2, a3, a4⟩ := x
    simp only at hx
    obtain ⟨x1, x2, x3, x4, x5, x6⟩ := hx
    obtain ⟨u, rfl⟩ : ∃ u : Nat, a3 = (u : Int) := ⟨a3.toNat, by omega⟩
    obtain ⟨v, rfl⟩ : ∃ v : Nat, a4 = (v : Int) := ⟨a4.toNat, by omega⟩
    simp only [encLot] at HCK HTX ⊢
    have hl8 : ∀ l, nameB l = true → l.length ≤ 8 := fun l h => by
      unfold nameB at h
      simp at h
      exact h.1.2
    have l1 := hl8 _ x1
    have l2 := hl8 _ x2
    have n3 := Lib.itoa_length_le (u : Int) (by omega) (by omega)
    have n4 := Lib.itoa_length_le (v : Int) (by omega) (by omega)
    have HD1 := Lib.hid (fun W => decimal_nat u (by omega) W)
    have HD2 := Lib.hid (fun W => decimal_nat v (by omega) W)
    clear hE hl8 x1 x2 h1 h2
    go_enter Tryz.func38, Tryz.ntmps38
    go_wp2_with fail
    refine (HCK.out _).mono ?_
    rintro e w1 ⟨rfl, bb1⟩
    have hh := (bb1.block w.heap.size (by simp)).trans (heap_alloc_new w (.cells #[.string ⟨a1.toArray⟩, .string ⟨a2.toArray⟩, .int .i64 (u : Int), .int .i64 (v : Int)] 25))
    have lw := heap_two bb1
    have b1 := (below_one w (.cells #[.string ⟨a1.toArray⟩, .string ⟨a2.toArray⟩, .int .i64 (u : Int), .int .i64 (v : Int)] 25)).trans (bb1.mono (by simp))
    have c0 : w1.cell? ⟨w.heap.size, 0, none⟩ = some (.string ⟨a1.toArray⟩) := by rw [cell_of_row w1 _ _ _ _ _ hh]; rfl
    have c1 : w1.cell? ⟨w.heap.size, 1, none⟩ = some (.string ⟨a2.toArray⟩) := by rw [cell_of_row w1 _ _ _ _ _ hh]; rfl
    have c2 : w1.cell? ⟨w.heap.size, 2, none⟩ = some (.int .i64 (u : Int)) := by rw [cell_of_row w1 _ _ _ _ _ hh]; rfl
    have c3 : w1.cell? ⟨w.heap.size, 3, none⟩ = some (.int .i64 (v : Int)) := by rw [cell_of_row w1 _ _ _ _ _ hh]; rfl
    clear hh bb1 HCK
    go_wp2_with fail
    have hd : Below w.heap.size w w1.drew := b1.drew
    have s1 : (⟨a1.toArray⟩ : ByteArray).size = a1.length := by simp [ByteArray.size]
    have s2 : (⟨a2.toArray⟩ : ByteArray).size = a2.length := by simp [ByteArray.size]
    have v1 : ¬ 9223372036854775807 < a1.length + 1 := by omega
    have v2 : ¬ 9223372036854775807 < a1.length + 1 + a2.length := by omega
    have v3 : ¬ 9223372036854775807 < a1.length + 1 + a2.length + 1 := by omega
    have v4 : ¬ 9223372036854775807 < a1.length + 1 + a2.length + 1 + (Lib.itoa (u : Int)).length := by omega
    have v5 : ¬ 9223372036854775807 < a1.length + 1 + a2.length + 1 + (Lib.itoa (u : Int)).length + 1 := by omega
    have v6 : ¬ 9223372036854775807 < a1.length + 1 + a2.length + 1 + (Lib.itoa (u : Int)).length + 1 + (Lib.itoa (v : Int)).length := by omega
    go_region_held3 (fun w' => w'.cell? ⟨w.heap.size, 0, none⟩ = some (.string ⟨a1.toArray⟩) ∧ w'.cell? ⟨w.heap.size, 1, none⟩ = some (.string ⟨a2.toArray⟩) ∧ w'.cell? ⟨w.heap.size, 2, none⟩ = some (.int .i64 (u : Int)) ∧ w'.cell? ⟨w.heap.size, 3, none⟩ = some (.int .i64 (v : Int)) ∧ Below w.heap.size w w')
      (first | exact ⟨c0, c1, c2, c3, hd⟩ | exact ⟨(q4.cell lw).trans c0, (q4.cell lw).trans c1, (q4.cell lw).trans c2, (q4.cell lw).trans c3, b4⟩ | exact ⟨(q3.cell lw).trans c0, (q3.cell lw).trans c1, (q3.cell lw).trans c2, (q3.cell lw).trans c3, b3⟩ | go_keep)
      (first
        | (go_at_call_of 37 (Value.int .i64 (u : Int)); refine (HD1.out _).mono ?_; rintro e w3 ⟨rfl, bb3⟩; have q3 : Below w1.heap.size w1 w3 := (Below.refl w1.heap.size w1).drew.trans bb3; have b3 := b1.trans (q3.mono b1.size))
        | (go_at_call_of 37 (Value.int .i64 (v : Int)); refine (HD2.out _).mono ?_; rintro e w4 ⟨rfl, bb4⟩; have q4 := q3.trans (bb4.mono q3.size); have b4 := b1.trans (q4.mono b1.size)))
    all_goals
      have B4 := Lib.hid b4
      clear b4 q4 q3 b3 bb3 bb4 hd b1 c0 c1 c2 c3
      go_wp2_with fail
      go_ret
      refine ⟨?_, B4.out⟩
      rw [HTX.out]
      show Ending.returned (.string ((⟨a1.toArray⟩ : ByteArray) ++ (⟨#[32]⟩ : ByteArray) ++ (⟨a2.toArray⟩ : ByteArray) ++ (⟨#[32]⟩ : ByteArray) ++ (⟨(Lib.itoa (u : Int)).toArray⟩ : ByteArray) ++ (⟨#[32]⟩ : ByteArray) ++ (⟨(Lib.itoa (v : Int)).toArray⟩ : ByteArray))) = _
      rw [show (⟨#[32]⟩ : ByteArray) = ⟨[32].toArray⟩ from rfl, mk_app, mk_app, mk_app, mk_app, mk_app, mk_app]
  · have HTX := Lib.hid (show lotText x = [] by unfold lotText; rw [if_neg hE])
    have hpos : 0 < lotE x := Nat.pos_of_ne_zero hE
    generalize lotE x = k at HCK hpos
    have hpi : 0 < (k : Int) := by omega
    obtain ⟨a1, a2, a3, a4⟩ := x
    simp only [encLot] at HCK ⊢
    clear hE
    go_enter Tryz.func38, Tryz.ntmps38
    go_wp2_with fail
    refine (HCK.out _).mono ?_
    rintro e w1 ⟨rfl, bb1⟩
    have B1 := Lib.hid ((below_one w (.cells #[.string ⟨a1.toArray⟩, .string ⟨a2.toArray⟩, .int .i64 a3, .int .i64 a4] 25)).trans (bb1.mono (by simp)))
    clear bb1
    go_wp2_with fail
    go_ret
    rw [HTX.out]
    exact ⟨rfl, B1.out⟩

end Go.Proofs.YtpifbahafnaejaaGreatDoor
namespace Go.Proofs.YtpifbahafnaejaaGreatDoor
open Go.RowKit

set_option maxHeartbeats 400000 in
theorem refGoods_any (x : GoodsV) (hl : x.1.length ≤ 1000000000) (w : World) :
    Calls Tryz.prog 30 #[.agg (encGoods x).toArray] w fun e w' => e = .returned (.int .i64 (goodsE x : Nat)) ∧ Below w.heap.size w w' := by
  have HE := Lib.hid (show goodsE x = if nameB x.1 = false then 5 else if wiB x.2 1 1000 = false then 2 else 0 from rfl)
  obtain ⟨a1, a2⟩ := x
  have HN := Lib.hid (fun W => isName_any a1 hl W)
  have HW := Lib.hid (show wiB a2 1 1000 = decide (1 ≤ a2 ∧ a2 ≤ 1000) from rfl)
  simp only [encGoods] at HE ⊢
  clear hl
  generalize nameB a1 = nm at HN HE
  have b1 := below_one w (.cells #[.string ⟨a1.toArray⟩, .int .i64 a2] 23)
  have B1 := Lib.hid b1
  clear b1
  cases nm with
  | false =>
    go_enter Tryz.func30, Tryz.ntmps30
    go_wp2_with fail
    refine (HN.out _).mono ?_
    rintro e w1 ⟨rfl, rfl⟩
    go_wp2_with fail
    go_ret
    rw [HE.out]
    exact ⟨rfl, B1.out⟩
  | true =>
    by_cases h1 : a2 < 1
    · have HE' := Lib.hid (show goodsE (a1, a2) = 2 by rw [HE.out, if_neg (by simp), HW.out, if_pos (by simp; omega)])
      go_enter Tryz.func30, Tryz.ntmps30
      go_wp2_with fail
      refine (HN.out _).mono ?_
      rintro e w1 ⟨rfl, rfl⟩
      go_wp2_with fail
      go_ret
      rw [HE'.out]
      exact ⟨rfl, B1.out⟩
    · by_cases h2 : 1000 < a2
      · have HE' := Lib.hid (show goodsE (a1, a2) = 2 by rw [HE.out, if_neg (by simp), HW.out, if_pos (by simp; omega)])
        go_enter Tryz.func30, Tryz.ntmps30
        go_wp2_with fail
        refine (HN.out _).mono ?_
        rintro e w1 ⟨rfl, rfl⟩
        go_wp2_with fail
        go_ret
        rw [HE'.out]
        exact ⟨rfl, B1.out⟩
      · have HE' := Lib.hid (show goodsE (a1, a2) = 0 by rw [HE.out, if_neg (by simp), HW.out, if_neg (by simp; omega)])
        go_enter Tryz.func30, Tryz.ntmps30
        go_wp2_with fail
        refine (HN.out _).mono ?_
        rintro e w1 ⟨rfl, rfl⟩
        go_wp2_with fail
        go_ret
        rw [HE'.out]
        exact ⟨rfl, B1.out⟩

end Go.Proofs.YtpifbahafnaejaaGreatDoor
namespace Go.Proofs.YtpifbahafnaejaaGreatDoor
open Go.RowKit

/-- Nothing but block b has turned, and no block is new. -/
structure Turned (b : Nat) (w w' : World) : Prop where
  os : w'.os = w.os
  tape : w'.tape = w.tape
  output : w'.output = w.output
  size : w'.heap.size = w.heap.size
  block : ∀ k, k ≠ b → w'.heap[k]? = w.heap[k]?
theorem Turned.refl (b : Nat) (w : World) : Turned b w w := ⟨rfl, rfl, rfl, rfl, fun _ _ => rfl⟩
theorem Turned.trans {b : Nat} {w1 w2 w3 : World} (h : Turned b w1 w2) (k : Turned b w2 w3) : Turned b w1 w3 := ⟨k.os.trans h.os, k.tape.trans h.tape, k.output.trans h.output, k.size.trans h.size, fun i hi => (k.block i hi).trans (h.block i hi)⟩
theorem Turned.drew {b : Nat} {w w' : World} (h : Turned b w w') : Turned b w w'.drew := ⟨h.os, h.tape, h.output, h.size, h.block⟩
theorem Turned.cell {b : Nat} {w w' : World} (h : Turned b w w') {a : Addr} {v : Value} (hc : w.cell? a = some v) (hne : a.block ≠ b) : w'.cell? a = some v := (World.cell?_of_block (h.block _ hne)).trans hc
theorem Turned.below {b : Nat} {w w' : World} (h : Turned b w w') {B : Nat} (hB : B ≤ b) : Below B w w' := ⟨h.os, h.tape, h.output, Nat.le_of_eq h.size.symm, fun k hk => h.block k (by omega)⟩
theorem Turned.heap {b : Nat} {w w' : World} (h : Turned b w w') {k : Nat} {o : Obj} (hc : w.heap[k]? = some o) (hne : k ≠ b) : w'.heap[k]? = some o := (h.block _ hne).trans hc

variable {P : Program} {ops : Array Oper} {rest : List Oper} {o : Oper} {a : Act} {w : World} {Q : Exit → Act → World → Prop}
/-- A struct that lies in cells one behind the other. -/
def Lies (w : World) (b off : Nat) (vs : List Value) : Prop := ∀ j v, vs[j]? = some v → w.cell? ⟨b, off + j, none⟩ = some v
theorem Lies.row {w : World} {b : Nat} {t : TypeId} {fr : Nat × Nat} (L : List Value) (h : w.heap[b]? = some (.cells L.toArray t fr)) : Lies w b 0 L := fun j v hv => by
  rw [cell_of_row _ _ _ _ _ _ h]
  simpa using hv
theorem Lies.sub {w : World} {b : Nat} {t : TypeId} {fr : Nat × Nat} (L : List Value) (h : w.heap[b]? = some (.cells L.toArray t fr)) (off : Nat) (vs : List Value) (hs : ∀ j v, vs[j]? = some v → L[off + j]? = some v) : Lies w b off vs := fun j v hv => by
  rw [cell_of_row _ _ _ _ _ _ h]
  simpa using hs j v hv
theorem Lies.below {w w' : World} {b off : Nat} {vs : List Value} (h : Lies w b off vs) (hb : Below w.heap.size w w') : Lies w' b off vs := fun j v hv => (hb.cell (p := ⟨b, off + j, none⟩) (lt_of_cell (h j v hv))).trans (h j v hv)
theorem Lies.turned {w w' : World} {b off c : Nat} {vs : List Value} (h : Lies w b off vs) (ht : Turned c w w') (hne : b ≠ c) : Lies w' b off vs := fun j v hv => ht.cell (h j v hv) hne

theorem run_loadVar_at (ty : TypeId) (b off : Nat) (vs : List Value) (hc : Lies w b off vs) (d : TypeDesc)
    (hu : P.underlying ty = some d) (hd : (match d with | .struct _ | .array _ _ => true | _ => false) = true) (hi : (P.info? ty).map (·.size) = some vs.length) :
    (loadVar ty ⟨b, off, none⟩).run P w = .ok (.agg vs.toArray) w := by
  have hl : (loadCells ⟨b, off, none⟩ vs.length).run P w = .ok vs.toArray w :=
    run_loadCells_list (P := P) w ⟨b, off, none⟩ vs (fun j v hv => by
      have hadd : (⟨b, off, none⟩ : Addr).add j = ⟨b, off + j, none⟩ := by unfold Addr.add; split <;> simp_all
      rw [hadd]
      exact hc j v hv)
  cases hq : P.info? ty with
  | none => simp [hq] at hi
  | some i =>
    have hs : i.size = vs.length := by simpa [hq] using hi
    have hagg : (isAgg ty).run P w = .ok true w := by
      unfold isAgg
      rw [Sem.run_bind, run_underlying hu w]
      cases d <;> simp_all
    simp [loadVar, Sem.run_bind, hagg, sizeOf, typeInfo, hq, hs, hl]
theorem wpList_load_at (hgd : o.guard = none) (ty : TypeId) (x : Operand) (ho : o.op = .load ty x) (b off : Nat) (hx : a.eval x = .pointer (some ⟨b, off, none⟩)) (vs : List Value)
    (hc : Lies w b off vs) (d : TypeDesc) (hu : P.underlying ty = some d) (hd : (match d with | .struct _ | .array _ _ => true | _ => false) = true)
    (hi : (P.info? ty).map (·.size) = some vs.length) (h : wpList P ops Q rest (a.put o.dst (.agg vs.toArray)) w) : wpList P ops Q (o :: rest) a w :=
  wpList_plain hgd fun _ hK => by
    unfold Oper.wp execOp
    simp only [ho, hx, Instr.loadAt, Instr.sureAddr, Sem.run_bind, Sem.run_pure, Result.andThen_ok, run_loadVar_at ty b off vs hc d hu hd hi]
    exact hK _ _ h
theorem run_storeVar_at (ty : TypeId) (b off : Nat) (vs : List Value) (t : TypeId) (L : List Value) (hb : w.heap[b]? = some (.cells L.toArray t (0, 0)))
    (hi : (P.info? ty).map (·.size) = some vs.length) (hl : off + vs.length ≤ L.length) (h1 : ∀ v ∈ vs, v.oneCell' = true) :
    ∃ w', (storeVar ty ⟨b, off, none⟩ (.agg vs.toArray)).run P w = .ok () w' ∧ w'.heap[b]? = some (.cells (L.take off ++ vs ++ L.drop (off + vs.length)).toArray t (0, 0)) ∧ Turned b w w' := by
  have hr := run_storeCells_at (P := P) b off t vs 0 L.toArray w hb (by simpa using hl) h1
  refine ⟨_, ?_, setRow_heap w b L.toArray _ t _ hb, ⟨rfl, rfl, rfl, ?_, fun k hk => ?_⟩⟩
  · cases hq : P.info? ty with
    | none => simp [hq] at hi
    | some i =>
      have hs : vs.length = i.size := by simp [hq] at hi; omega
      simp [storeVar, sizeOf, typeInfo, hq, Value.cells, hs]
      simpa [hs] using hr
  · simp [World.setRow]
  · simp only [World.setRow, Array.getElem?_modify]
    rw [if_neg (fun e => hk e.symm)]
theorem wpList_store_at (hgd : o.guard = none) (ty : TypeId) (x y : Operand) (ho : o.op = .store ty x y) (b off : Nat) (vs : List Value) (hx : a.eval x = .pointer (some ⟨b, off, none⟩)) (hy : a.eval y = .agg vs.toArray)
    (t : TypeId) (L : List Value) (hb : w.heap[b]? = some (.cells L.toArray t (0, 0))) (hi : (P.info? ty).map (·.size) = some vs.length) (hl : off + vs.length ≤ L.length) (h1 : ∀ v ∈ vs, v.oneCell' = true)
    (h : ∀ w', w'.heap[b]? = some (.cells (L.take off ++ vs ++ L.drop (off + vs.length)).toArray t (0, 0)) → Turned b w w' → wpList P ops Q rest (a.put o.dst undef) w') : wpList P ops Q (o :: rest) a w :=
  wpList_plain hgd fun _ hK => by
    obtain ⟨w', hr, r1, r2⟩ := run_storeVar_at (P := P) ty b off vs t L hb hi hl h1
    unfold Oper.wp execOp
    simp only [ho, hx, hy, Instr.storeAt, Instr.sureAddr, Sem.run_bind, Sem.run_pure, Result.andThen_ok, hr]
    exact hK _ _ (h w' r1 r2)
theorem run_storeVar_val (ty : TypeId) (b off : Nat) (u : Value) (vs : List Value) (hu : u.cells = vs.toArray) (t : TypeId) (L : List Value) (hb : w.heap[b]? = some (.cells L.toArray t (0, 0)))
    (hi : (P.info? ty).map (·.size) = some vs.length) (hl : off + vs.length ≤ L.length) (h1 : ∀ v ∈ vs, v.oneCell' = true) :
    ∃ w', (storeVar ty ⟨b, off, none⟩ u).run P w = .ok () w' ∧ w'.heap[b]? = some (.cells (L.take off ++ vs ++ L.drop (off + vs.length)).toArray t (0, 0)) ∧ Turned b w w' := by
  obtain ⟨w', hr, h⟩ := run_storeVar_at (P := P) ty b off vs t L hb hi hl h1
  refine ⟨w', ?_, h⟩
  unfold storeVar at hr ⊢
  rw [hu]
  exact hr
/-- A value of one cell stored. -/
theorem wpList_store_val (hgd : o.guard = none) (ty : TypeId) (x y : Operand) (ho : o.op = .store ty x y) (b off : Nat) (u : Value) (hx : a.eval x = .pointer (some ⟨b, off, none⟩)) (hy : a.eval y = u) (hu : u.cells = #[u])
    (t : TypeId) (L : List Value) (hb : w.heap[b]? = some (.cells L.toArray t (0, 0))) (hi : (P.info? ty).map (·.size) = some 1) (hl : off < L.length) (h1 : u.oneCell' = true)
    (h : ∀ w', w'.heap[b]? = some (.cells (L.take off ++ [u] ++ L.drop (off + 1)).toArray t (0, 0)) → Turned b w w' → wpList P ops Q rest (a.put o.dst undef) w') : wpList P ops Q (o :: rest) a w :=
  wpList_plain hgd fun _ hK => by
    obtain ⟨w', hr, r1, r2⟩ := run_storeVar_val (P := P) ty b off u [u] hu t L hb hi (show off + 1 ≤ L.length from hl) (fun v hv => by rw [List.mem_singleton.1 hv]; exact h1)
    unfold Oper.wp execOp
    simp only [ho, hx, hy, Instr.storeAt, Instr.sureAddr, Sem.run_bind, Sem.run_pure, Result.andThen_ok, hr]
    exact hK _ _ (h w' r1 r2)
end Go.Proofs.YtpifbahafnaejaaGreatDoor
namespace Go.Proofs.YtpifbahafnaejaaGreatDoor
open Go.RowKit Go.Sort Go.Proofs

theorem neqLotV (x y : LotV) (W : World) : (binOp .neq 25 (.agg (encLot x).toArray) (.agg (encLot y).toArray)).run Tryz.prog W = .ok (.bool (!decide (x = y))) W := by
  rw [run_neq_struct, eqInLotV]
  rfl
theorem eqInGoods (x y : GoodsV) (W : World) : (Op.equalIn 10000 23 (.agg (encGoods x).toArray) (.agg (encGoods y).toArray)).run Tryz.prog W = .ok (decide (x = y)) W := by
  have u3 := Tryz.underlying3
  have u9 := Tryz.underlying9
  have hS : Tryz.prog.underlying 23 = some (.struct (Tryz.prog.fieldsOf 23)) := by kernel_rfl
  have hp : Tryz.prog.stoodInHeld 23 = false := by kernel_rfl
  simp only [encGoods]
  rw [show (10000 : Nat) = 9999 + 1 from rfl, run_equalIn_agg W 9999 23 _ _ hS hp]
  simp only [Program.fieldsOf, Tryz.underlying23]
  go_simp
  obtain ⟨a1, a2⟩ := x
  obtain ⟨b1, b2⟩ := y
  by_cases h1 : a1 = b1 <;> by_cases h2 : a2 = b2 <;> simp [h1, h2]
theorem neqGoods (x y : GoodsV) (W : World) : (binOp .neq 23 (.agg (encGoods x).toArray) (.agg (encGoods y).toArray)).run Tryz.prog W = .ok (.bool (!decide (x = y))) W := by
  rw [run_neq_struct, eqInGoods]
  rfl

/-- The error of an entry of pieces, by its parts. -/
theorem piecesE_parts (x : EntV) : piecesE x = if nameB x.2.2.1.1 = false then 5 else if hasF x.1 = true ∧ placeE x.2.2.2.1 ≠ 0 then placeE x.2.2.2.1 else if hasT x.1 = true ∧ placeE x.2.2.2.2.1 ≠ 0 then placeE x.2.2.2.2.1
    else if wiB x.2.2.2.2.2 1 1099511627776 = false then 2 else if x.1 = kMove ∧ x.2.2.2.1 = x.2.2.2.2.1 then 3
    else if hasF x.1 = false ∧ x.2.2.2.1 ≠ zeroPlace then 3 else if hasT x.1 = false ∧ x.2.2.2.2.1 ≠ zeroPlace then 3 else if x.2.1 ≠ zeroGoods then 3 else if x.2.2.1.2.1 ≠ [] then 3 else if x.2.2.1.2.2.1 ≠ 0 then 3 else if x.2.2.1.2.2.2 ≠ 0 then 3 else 0 := by
  obtain ⟨k, g, ⟨l1, l2, l3, l4⟩, f, t, n⟩ := x
  unfold piecesE placesE wantP
  simp only
  by_cases h0 : nameB l1 = false
  · rw [if_pos h0, if_pos h0]
  rw [if_neg h0, if_neg h0]
  by_cases h1 : hasF k = true ∧ placeE f ≠ 0
  · rw [if_pos h1, if_pos h1, if_pos h1.2]
  rw [if_neg h1, if_neg h1]
  by_cases h2 : hasT k = true ∧ placeE t ≠ 0
  · rw [if_pos h2.1, if_pos h2, if_pos h2.2]
  rw [if_neg h2, if_neg (fun h => by split at h; exact h2 ⟨‹_›, h⟩; exact h rfl)]
  by_cases h3 : wiB n 1 1099511627776 = false
  · rw [if_pos h3, if_pos h3]
  rw [if_neg h3, if_neg h3]
  by_cases h4 : k = kMove ∧ f = t
  · rw [if_pos (.inl h4), if_pos h4]
  rw [if_neg h4]
  simp only [h4, false_or]
  clear h4
  cases hF : hasF k <;> cases hT : hasT k <;> by_cases hf : f = zeroPlace <;> by_cases ht : t = zeroPlace <;> by_cases hg : g = zeroGoods <;> by_cases e2 : l2 = [] <;> by_cases e3 : l3 = 0 <;> by_cases e4 : l4 = 0 <;> simp [hf, ht, hg, e2, e3, e4]

set_option maxHeartbeats 3200000 in
set_option maxRecDepth 100000 in
theorem refEntE_none (x : EntV) (w : World) (hk : isKB x.1 = false) :
    Calls Tryz.prog 10 #[.agg (encEnt x).toArray] w fun e w' => e = .returned (.int .i64 4) ∧ Below w.heap.size w w' := by
  have b0 := Lib.hid (below_two w (.cells (encEnt x).toArray 29) (.cells (encPlace zeroPlace).toArray 27))
  have hc := (Cells14.new w x).below (below_one _ (.cells (encPlace zeroPlace).toArray 27))
  have HK := Lib.hid (fun W => isKind_any x.1 W)
  rw [hk] at HK
  obtain ⟨k, ⟨g1, g2⟩, ⟨l1, l2, l3, l4⟩, ⟨f1, f2, f3⟩, ⟨t1, t2, t3⟩, n⟩ := x
  obtain ⟨c0, -⟩ := hc.all
  simp only [encEnt, encPlace, zeroPlace] at *
  clear hc hk
  go_enter Tryz.func10, Tryz.ntmps10
  go_wp2_with fail
  refine (HK.out _).mono ?_
  rintro e w1 ⟨rfl, rfl⟩
  go_wp2
  go_ret
  exact ⟨rfl, b0.out⟩

/-- The boxes of an entry and of an empty place, read. -/
structure EB (x : EntV) (b : Nat) (W : World) : Prop where
  own : W.heap[b]? = some (.cells (encEnt x).toArray 29 (0, 0))
  none_ : W.heap[b + 1]? = some (.cells #[.string ⟨#[]⟩, .int .i64 0, .int .i64 0] 27 (0, 0))
theorem EB.below {x : EntV} {b : Nat} {W W' : World} (h : EB x b W) (hb : Below W.heap.size W W') : EB x b W' :=
  ⟨(hb.block _ (row_lt h.own)).trans h.own, (hb.block _ (row_lt h.none_)).trans h.none_⟩
theorem EB.start (x : EntV) (w : World) : EB x w.heap.size ((w.alloc (.cells (encEnt x).toArray 29)).alloc (.cells #[.string ⟨#[]⟩, .int .i64 0, .int .i64 0] 27)) := by
  refine ⟨((below_one (w.alloc (.cells (encEnt x).toArray 29)) _).block _ (by simp)).trans (heap_alloc_new _ _), ?_⟩
  have := heap_alloc_new (w.alloc (.cells (encEnt x).toArray 29)) (.cells #[.string ⟨#[]⟩, .int .i64 0, .int .i64 0] 27)
  simpa using this
section
variable {x : EntV} {b : Nat} {W : World} (h : EB x b W)
include h
theorem EB.at_ (i : Nat) (v : Value) (hv : (encEnt x)[i]? = some v) : W.cell? ⟨b, i, none⟩ = some v := by
  rw [cell_of_row _ _ _ _ _ _ h.own]
  simpa using hv
theorem EB.goods : Lies W b 1 (encGoods x.2.1) := Lies.sub _ h.own 1 _ fun j v hv => by
  match j, hv with
  | 0, hv => simpa [encGoods, encEnt] using hv
  | 1, hv => simpa [encGoods, encEnt] using hv
theorem EB.lot : Lies W b 3 (encLot x.2.2.1) := Lies.sub _ h.own 3 _ fun j v hv => by
  match j, hv with
  | 0, hv => simpa [encLot, encEnt] using hv
  | 1, hv => simpa [encLot, encEnt] using hv
  | 2, hv => simpa [encLot, encEnt] using hv
  | 3, hv => simpa [encLot, encEnt] using hv
theorem EB.from_ : Lies W b 7 (encPlace x.2.2.2.1) := Lies.sub _ h.own 7 _ fun j v hv => by
  match j, hv with
  | 0, hv => simpa [encPlace, encEnt] using hv
  | 1, hv => simpa [encPlace, encEnt] using hv
  | 2, hv => simpa [encPlace, encEnt] using hv
theorem EB.to_ : Lies W b 10 (encPlace x.2.2.2.2.1) := Lies.sub _ h.own 10 _ fun j v hv => by
  match j, hv with
  | 0, hv => simpa [encPlace, encEnt] using hv
  | 1, hv => simpa [encPlace, encEnt] using hv
  | 2, hv => simpa [encPlace, encEnt] using hv
theorem EB.all : W.cell? ⟨b, 0, none⟩ = some (.string ⟨x.1.toArray⟩) ∧ W.cell? ⟨b, 1, none⟩ = some (.string ⟨x.2.1.1.toArray⟩) ∧ W.cell? ⟨b, 2, none⟩ = some (.int .i64 x.2.1.2) ∧ W.cell? ⟨b, 3, none⟩ = some (.string ⟨x.2.2.1.1.toArray⟩) ∧ W.cell? ⟨b, 4, none⟩ = some (.string ⟨x.2.2.1.2.1.toArray⟩) ∧ W.cell? ⟨b, 5, none⟩ = some (.int .i64 x.2.2.1.2.2.1) ∧ W.cell? ⟨b, 6, none⟩ = some (.int .i64 x.2.2.1.2.2.2) ∧
    W.cell? ⟨b, 7, none⟩ = some (.string ⟨x.2.2.2.1.1.toArray⟩) ∧ W.cell? ⟨b, 8, none⟩ = some (.int .i64 x.2.2.2.1.2.1) ∧ W.cell? ⟨b, 9, none⟩ = some (.int .i64 x.2.2.2.1.2.2) ∧ W.cell? ⟨b, 10, none⟩ = some (.string ⟨x.2.2.2.2.1.1.toArray⟩) ∧ W.cell? ⟨b, 11, none⟩ = some (.int .i64 x.2.2.2.2.1.2.1) ∧ W.cell? ⟨b, 12, none⟩ = some (.int .i64 x.2.2.2.2.1.2.2) ∧ W.cell? ⟨b, 13, none⟩ = some (.int .i64 x.2.2.2.2.2) :=
  ⟨h.at_ 0 _ rfl, h.at_ 1 _ rfl, h.at_ 2 _ rfl, h.at_ 3 _ rfl, h.at_ 4 _ rfl, h.at_ 5 _ rfl, h.at_ 6 _ rfl, h.at_ 7 _ rfl, h.at_ 8 _ rfl, h.at_ 9 _ rfl, h.at_ 10 _ rfl, h.at_ 11 _ rfl, h.at_ 12 _ rfl, h.at_ 13 _ rfl⟩
theorem EB.zeros : W.cell? ⟨b + 1, 0, none⟩ = some (.string ⟨#[]⟩) ∧ W.cell? ⟨b + 1, 1, none⟩ = some (.int .i64 0) ∧ W.cell? ⟨b + 1, 2, none⟩ = some (.int .i64 0) := ⟨cell_of_row _ _ _ _ _ _ h.none_, cell_of_row _ _ _ _ _ _ h.none_, cell_of_row _ _ _ _ _ _ h.none_⟩
theorem EB.zero : Lies W (b + 1) 0 [.string ⟨#[]⟩, .int .i64 0, .int .i64 0] := Lies.row [.string ⟨#[]⟩, .int .i64 0, .int .i64 0] h.none_
end

set_option maxHeartbeats 3200000 in
set_option maxRecDepth 100000 in
theorem refEntE_goods (x : EntV) (w : World) (hk : x.1 = kGoods) (hg : x.2.1.1.length ≤ 1000000000) :
    Calls Tryz.prog 10 #[.agg (encEnt x).toArray] w fun e w' => e = .returned (.int .i64 (entE x : Nat)) ∧ Below w.heap.size w w' := by
  have hE : entE x = if goodsE x.2.1 ≠ 0 then goodsE x.2.1 else if decide (x.2.2.1 = zeroLot) = false then 3 else if decide (x.2.2.2.1 = zeroPlace) = false then 3 else if decide (x.2.2.2.2.1 = zeroPlace) = false then 3 else if x.2.2.2.2.2 ≠ 0 then 3 else 0 := by
    obtain ⟨k, g, l, f, t, n⟩ := x
    unfold entE
    simp only at hk ⊢
    rw [if_pos hk]
    by_cases h0 : goodsE g ≠ 0
    · rw [if_pos h0, if_pos h0]
    rw [if_neg h0, if_neg h0]
    by_cases h1 : l = zeroLot <;> by_cases h2 : f = zeroPlace <;> by_cases h3 : t = zeroPlace <;> by_cases h4 : n = 0 <;> simp [h1, h2, h3, h4]
  have HE := Lib.hid hE
  have b0 := Lib.hid (below_two w (.cells (encEnt x).toArray 29) (.cells #[.string ⟨#[]⟩, .int .i64 0, .int .i64 0] 27))
  have h0 := EB.start x w
  have HK := Lib.hid (fun W => isKind_any x.1 W)
  have HGE := Lib.hid (fun W => refGoods_any x.2.1 hg W)
  rw [hk, show isKB kGoods = true from by decide] at HK
  have hql := fun W => neqLotV x.2.2.1 zeroLot W
  have hqf := fun W => neqPlace x.2.2.2.1 zeroPlace W
  have hqt := fun W => neqPlace x.2.2.2.2.1 zeroPlace W
  generalize decide (x.2.2.1 = zeroLot) = dl at HE hql
  generalize decide (x.2.2.2.1 = zeroPlace) = df at HE hqf
  generalize decide (x.2.2.2.2.1 = zeroPlace) = dt at HE hqt
  generalize goodsE x.2.1 = ge at HE HGE
  have H0 := Lib.hid h0
  have c0 := h0.at_ 0 _ rfl
  rw [hk] at c0
  simp only [encLot, encPlace, zeroLot, zeroPlace, kGoods] at hql hqf hqt c0 HK
  have HQ := Lib.hid (And.intro hql (And.intro hqf hqt))
  have hlen : (encEnt x).length = 14 := rfl
  have HL := Lib.hid (show (∀ W, EB x w.heap.size W → W.heap[w.heap.size]? = some (.cells (encEnt x).toArray 29 (0, 0))) from fun W h => h.own)
  clear hE hql hqf hqt h0 hk hg
  obtain ⟨r, hr⟩ : ∃ r, r = entE x := ⟨_, rfl⟩
  rw [← hr] at HE ⊢
  clear hr
  obtain ⟨L, hLL⟩ : ∃ L, L = encEnt x := ⟨_, rfl⟩
  have HLL := Lib.hid hLL
  rw [← hLL] at c0 b0 ⊢
  clear hLL hlen HL
  go_enter Tryz.func10, Tryz.ntmps10
  go_wp2_with fail
  refine (HK.out _).mono ?_
  rintro e w1 ⟨rfl, rfl⟩
  have h0 := H0.out
  rw [← HLL.out] at h0
  have lg := h0.goods
  generalize (w.alloc (.cells L.toArray 29)).alloc (.cells #[.string ⟨#[]⟩, .int .i64 0, .int .i64 0] 27) = W at *
  have H0 := Lib.hid h0
  clear h0
  go_wp2_with (refine wpList_load_at rfl 23 (.tmp 21) rfl w.heap.size 1 rfl (encGoods x.2.1) lg _ Tryz.underlying23 rfl (by kernel_rfl) ?_)
  refine (HGE.out _).mono ?_
  rintro e w1 ⟨rfl, bb1⟩
  have h1 := H0.out.below bb1
  have B1 := Lib.hid (b0.out.trans (bb1.mono b0.out.size))
  clear bb1 c0 lg
  by_cases hge : ge = 0
  · subst hge
    obtain ⟨c0, c1, c2, c3, c4, c5, c6, c7, c8, c9, c10, c11, c12, c13⟩ := h1.all
    obtain ⟨z0, z1, z2⟩ := h1.zeros
    obtain ⟨k, ⟨g1, g2⟩, ⟨l1, l2, l3, l4⟩, ⟨f1, f2, f3⟩, ⟨t1, t2, t3⟩, n⟩ := x
    simp only at c0 c1 c2 c3 c4 c5 c6 c7 c8 c9 c10 c11 c12 c13 HE HQ
    obtain ⟨hql, hqf, hqt⟩ := HQ.out
    clear h1 c0
    cases dl with
    | false =>
      have HE3 := Lib.hid (show r = 3 by rw [HE.out]; simp)
      go_wp2_with fail
      go_ret
      rw [HE3.out]
      exact ⟨rfl, B1.out⟩
    | true =>
      cases df with
      | false =>
        have HE3 := Lib.hid (show r = 3 by rw [HE.out]; simp)
        go_wp2_with fail
        go_ret
        rw [HE3.out]
        exact ⟨rfl, B1.out⟩
      | true =>
        cases dt with
        | false =>
          have HE3 := Lib.hid (show r = 3 by rw [HE.out]; simp)
          go_wp2_with fail
          go_ret
          rw [HE3.out]
          exact ⟨rfl, B1.out⟩
        | true =>
          by_cases hn : n = 0
          · have HE3 := Lib.hid (show r = 0 by rw [HE.out]; simp [hn])
            subst hn
            go_wp2_with fail
            go_ret
            rw [HE3.out]
            exact ⟨rfl, B1.out⟩
          · have HE3 := Lib.hid (show r = 3 by rw [HE.out]; simp [hn])
            have hnb : (n == 0) = false := by simpa using hn
            go_wp2_with fail
            go_ret
            rw [HE3.out]
            exact ⟨rfl, B1.out⟩
  · have hpos : 0 < (ge : Int) := by omega
    have HE3 := Lib.hid (show r = ge by rw [HE.out, if_pos hge])
    go_wp2_with fail
    go_ret
    rw [HE3.out]
    exact ⟨rfl, B1.out⟩
set_option maxHeartbeats 3200000 in
set_option maxRecDepth 100000 in
theorem refEntE_lot (x : EntV) (w : World) (hk : x.1 = kLot) (hg : x.2.2.1.1.length ≤ 1000000000 ∧ x.2.2.1.2.1.length ≤ 1000000000) :
    Calls Tryz.prog 10 #[.agg (encEnt x).toArray] w fun e w' => e = .returned (.int .i64 (entE x : Nat)) ∧ Below w.heap.size w w' := by
  have hE : entE x = if lotE x.2.2.1 ≠ 0 then lotE x.2.2.1 else if decide (x.2.1 = zeroGoods) = false then 3 else if decide (x.2.2.2.1 = zeroPlace) = false then 3 else if decide (x.2.2.2.2.1 = zeroPlace) = false then 3 else if x.2.2.2.2.2 ≠ 0 then 3 else 0 := by
    obtain ⟨k, g, l, f, t, n⟩ := x
    unfold entE
    simp only at hk ⊢
    rw [if_neg (by rw [hk]; decide), if_pos hk]
    by_cases h0 : lotE l ≠ 0
    · rw [if_pos h0, if_pos h0]
    rw [if_neg h0, if_neg h0]
    by_cases h1 : g = zeroGoods <;> by_cases h2 : f = zeroPlace <;> by_cases h3 : t = zeroPlace <;> by_cases h4 : n = 0 <;> simp [h1, h2, h3, h4]
  have HE := Lib.hid hE
  have b0 := Lib.hid (below_two w (.cells (encEnt x).toArray 29) (.cells #[.string ⟨#[]⟩, .int .i64 0, .int .i64 0] 27))
  have h0 := EB.start x w
  have HK := Lib.hid (fun W => isKind_any x.1 W)
  have HGE := Lib.hid (fun W => refLotE_any x.2.2.1 hg.1 hg.2 W)
  rw [hk, show isKB kLot = true from by decide] at HK
  have hql := fun W => neqGoods x.2.1 zeroGoods W
  have hqf := fun W => neqPlace x.2.2.2.1 zeroPlace W
  have hqt := fun W => neqPlace x.2.2.2.2.1 zeroPlace W
  generalize decide (x.2.1 = zeroGoods) = dl at HE hql
  generalize decide (x.2.2.2.1 = zeroPlace) = df at HE hqf
  generalize decide (x.2.2.2.2.1 = zeroPlace) = dt at HE hqt
  generalize lotE x.2.2.1 = ge at HE HGE
  have H0 := Lib.hid h0
  have c0 := h0.at_ 0 _ rfl
  rw [hk] at c0
  simp only [encGoods, encPlace, zeroGoods, zeroPlace, kLot] at hql hqf hqt c0 HK
  have HQ := Lib.hid (And.intro hql (And.intro hqf hqt))
  have hlen : (encEnt x).length = 14 := rfl
  have HL := Lib.hid (show (∀ W, EB x w.heap.size W → W.heap[w.heap.size]? = some (.cells (encEnt x).toArray 29 (0, 0))) from fun W h => h.own)
  clear hE hql hqf hqt h0 hk hg
  obtain ⟨r, hr⟩ : ∃ r, r = entE x := ⟨_, rfl⟩
  rw [← hr] at HE ⊢
  clear hr
  obtain ⟨L, hLL⟩ : ∃ L, L = encEnt x := ⟨_, rfl⟩
  have HLL := Lib.hid hLL
  rw [← hLL] at c0 b0 ⊢
  clear hLL hlen HL
  go_enter Tryz.func10, Tryz.ntmps10
  go_wp2_with fail
  refine (HK.out _).mono ?_
  rintro e w1 ⟨rfl, rfl⟩
  have h0 := H0.out
  rw [← HLL.out] at h0
  have lg := h0.lot
  generalize (w.alloc (.cells L.toArray 29)).alloc (.cells #[.string ⟨#[]⟩, .int .i64 0, .int .i64 0] 27) = W at *
  have H0 := Lib.hid h0
  clear h0
  go_wp2_with (refine wpList_load_at rfl 25 (.tmp 51) rfl w.heap.size 3 rfl (encLot x.2.2.1) lg _ Tryz.underlying25 rfl (by kernel_rfl) ?_)
  refine (HGE.out _).mono ?_
  rintro e w1 ⟨rfl, bb1⟩
  have h1 := H0.out.below bb1
  have B1 := Lib.hid (b0.out.trans (bb1.mono b0.out.size))
  clear bb1 c0 lg
  by_cases hge : ge = 0
  · subst hge
    obtain ⟨c0, c1, c2, c3, c4, c5, c6, c7, c8, c9, c10, c11, c12, c13⟩ := h1.all
    obtain ⟨z0, z1, z2⟩ := h1.zeros
    obtain ⟨k, ⟨g1, g2⟩, ⟨l1, l2, l3, l4⟩, ⟨f1, f2, f3⟩, ⟨t1, t2, t3⟩, n⟩ := x
    simp only at c0 c1 c2 c3 c4 c5 c6 c7 c8 c9 c10 c11 c12 c13 HE HQ
    obtain ⟨hql, hqf, hqt⟩ := HQ.out
    clear h1 c0
    cases dl with
    | false =>
      have HE3 := Lib.hid (show r = 3 by rw [HE.out]; simp)
      go_wp2_with fail
      go_ret
      rw [HE3.out]
      exact ⟨rfl, B1.out⟩
    | true =>
      cases df with
      | false =>
        have HE3 := Lib.hid (show r = 3 by rw [HE.out]; simp)
        go_wp2_with fail
        go_ret
        rw [HE3.out]
        exact ⟨rfl, B1.out⟩
      | true =>
        cases dt with
        | false =>
          have HE3 := Lib.hid (show r = 3 by rw [HE.out]; simp)
          go_wp2_with fail
          go_ret
          rw [HE3.out]
          exact ⟨rfl, B1.out⟩
        | true =>
          by_cases hn : n = 0
          · have HE3 := Lib.hid (show r = 0 by rw [HE.out]; simp [hn])
            subst hn
            go_wp2_with fail
            go_ret
            rw [HE3.out]
            exact ⟨rfl, B1.out⟩
          · have HE3 := Lib.hid (show r = 3 by rw [HE.out]; simp [hn])
            have hnb : (n == 0) = false := by simpa using hn
            go_wp2_with fail
            go_ret
            rw [HE3.out]
            exact ⟨rfl, B1.out⟩
  · have hpos : 0 < (ge : Int) := by omega
    have HE3 := Lib.hid (show r = ge by rw [HE.out, if_pos hge])
    go_wp2_with fail
    go_ret
    rw [HE3.out]
    exact ⟨rfl, B1.out⟩
end Go.Proofs.YtpifbahafnaejaaGreatDoor
namespace Go.Proofs.YtpifbahafnaejaaGreatDoor
open Go.RowKit Go.Sort Go.Proofs

theorem piecesE_b (x : EntV) : piecesE x = if nameB x.2.2.1.1 = false then 5 else if hasF x.1 = true ∧ placeE x.2.2.2.1 ≠ 0 then placeE x.2.2.2.1 else if hasT x.1 = true ∧ placeE x.2.2.2.2.1 ≠ 0 then placeE x.2.2.2.2.1
    else if wiB x.2.2.2.2.2 1 1099511627776 = false then 2 else if decide (x.1 = kMove) = true ∧ decide (x.2.2.2.1 = x.2.2.2.2.1) = true then 3
    else if hasF x.1 = false ∧ decide (x.2.2.2.1 = zeroPlace) = false then 3 else if hasT x.1 = false ∧ decide (x.2.2.2.2.1 = zeroPlace) = false then 3 else if decide (x.2.1 = zeroGoods) = false then 3
    else if decide (x.2.2.1.2.1 = []) = false then 3 else if x.2.2.1.2.2.1 ≠ 0 then 3 else if x.2.2.1.2.2.2 ≠ 0 then 3 else 0 := by
  rw [piecesE_parts]
  simp only [decide_eq_true_eq, decide_eq_false_iff_not]
theorem move_both (k : List UInt8) : decide (k = kMove) = (hasF k && hasT k) := by
  by_cases h : k = kMove
  · subst h; decide
  · rw [decide_eq_false h]
    unfold hasF hasT
    by_cases h1 : k = kOut ∨ k = kLess
    · rcases h1 with rfl | rfl <;> decide
    · have e1 : ¬ (k = kOut ∨ k = kLess ∨ k = kMove) := fun e => by
        rcases e with e | e | e
        · exact h1 (.inl e)
        · exact h1 (.inr e)
        · exact h e
      rw [decide_eq_false e1]
      rfl

set_option maxHeartbeats 12800000 in
set_option maxRecDepth 100000 in
theorem refEntE_pieces (x : EntV) (w : World) (hk1 : x.1 ≠ kGoods) (hk2 : x.1 ≠ kLot) (hk3 : isP x.1 = true) (hid : x.2.2.1.1.length ≤ 1000000000) (hf : x.2.2.2.1.1.length ≤ 1000000000) (ht : x.2.2.2.2.1.1.length ≤ 1000000000) :
    Calls Tryz.prog 10 #[.agg (encEnt x).toArray] w fun e w' => e = .returned (.int .i64 (piecesE x : Nat)) ∧ Below w.heap.size w w' := by
  have HE := Lib.hid (piecesE_b x)
  have b0 := Lib.hid (below_two w (.cells (encEnt x).toArray 29) (.cells #[.string ⟨#[]⟩, .int .i64 0, .int .i64 0] 27))
  have h0 := EB.start x w
  have HK := Lib.hid (fun W => isKind_any x.1 W)
  rw [show isKB x.1 = true by unfold isKB; rw [hk3]; simp] at HK
  have HN := Lib.hid (fun W => isName_any x.2.2.1.1 hid W)
  have HF := Lib.hid (fun W => hasFrom_any x.1 W)
  have HT := Lib.hid (fun W => hasTo_any x.1 W)
  have HPF := Lib.hid (fun W => refPlaceE_any x.2.2.2.1 hf W)
  have HPT := Lib.hid (fun W => refPlaceE_any x.2.2.2.2.1 ht W)
  have hqd := fun W => eqPlace x.2.2.2.1 x.2.2.2.2.1 W
  have hqf := fun W => neqPlace x.2.2.2.1 zeroPlace W
  have hqt := fun W => neqPlace x.2.2.2.2.1 zeroPlace W
  have hqg := fun W => neqGoods x.2.1 zeroGoods W
  have hkg : (x.1 == [103, 111, 111, 100, 115]) = false := beq_eq_false_iff_ne.2 hk1
  have hkl : (x.1 == [108, 111, 116]) = false := beq_eq_false_iff_ne.2 hk2
  have hkm : (x.1 == [109, 111, 118, 101]) = (hasF x.1 && hasT x.1) := by rw [← move_both]; exact (by by_cases h : x.1 = kMove; rw [decide_eq_true h, h]; rfl; rw [decide_eq_false h]; exact beq_eq_false_iff_ne.2 h)
  rw [move_both] at HE
  generalize decide (x.2.2.2.1 = x.2.2.2.2.1) = dq at HE hqd
  generalize decide (x.2.2.2.1 = zeroPlace) = df at HE hqf
  generalize decide (x.2.2.2.2.1 = zeroPlace) = dt at HE hqt
  generalize decide (x.2.1 = zeroGoods) = dg at HE hqg
  generalize placeE x.2.2.2.1 = pf at HE HPF
  generalize placeE x.2.2.2.2.1 = pt at HE HPT
  generalize nameB x.2.2.1.1 = nm at HE HN
  generalize hasF x.1 = bF at HE HF hkm
  generalize hasT x.1 = bT at HE HT hkm
  have H0 := Lib.hid h0
  have c0 := h0.at_ 0 _ rfl
  simp only [encGoods, zeroGoods, zeroPlace] at hqf hqt hqg
  have HQ := Lib.hid (And.intro hqd (And.intro hqf (And.intro hqt hqg)))
  clear hqd hqf hqt hqg h0 hk1 hk2 hk3 hid hf ht
  obtain ⟨r, hr⟩ : ∃ r, r = piecesE x := ⟨_, rfl⟩
  rw [← hr] at HE ⊢
  clear hr
  obtain ⟨L, hLL⟩ : ∃ L, L = encEnt x := ⟨_, rfl⟩
  have HLL := Lib.hid hLL
  rw [← hLL] at c0 b0 ⊢
  clear hLL
  have HKM := Lib.hid hkm
  clear hkm
  go_enter Tryz.func10, Tryz.ntmps10
  go_wp2_with fail
  refine (HK.out _).mono ?_
  rintro e w1 ⟨rfl, rfl⟩
  have h0 := H0.out
  rw [← HLL.out] at h0
  have lf := h0.from_
  have c3 := h0.at_ 3 _ rfl
  generalize (w.alloc (.cells L.toArray 29)).alloc (.cells #[.string ⟨#[]⟩, .int .i64 0, .int .i64 0] 27) = W at *
  have H0 := Lib.hid h0
  clear h0
  go_wp2_with fail
  refine (HN.out _).mono ?_
  rintro e w1 ⟨rfl, rfl⟩
  cases nm with
  | false =>
    have HE3 := Lib.hid (show r = 5 by rw [HE.out]; simp)
    go_wp2_with fail
    go_ret
    rw [HE3.out]
    exact ⟨rfl, b0.out⟩
  | true =>
  have HE := Lib.hid (HE.out.trans (if_neg (by simp)))
  go_wp2_with fail
  refine (HF.out _).mono ?_
  rintro e w1 ⟨rfl, rfl⟩
  go_wp2_with fail
  refine (HT.out _).mono ?_
  rintro e w1 ⟨rfl, rfl⟩
  cases bF with
  | false =>
    cases bT with
    | false =>
      clear c0 c3 lf
      have h1 := H0.out
      obtain ⟨c0, c1, c2, c3, c4, c5, c6, c7, c8, c9, c10, c11, c12, c13⟩ := h1.all
      obtain ⟨z0, z1, z2⟩ := h1.zeros
      obtain ⟨k, ⟨g1, g2⟩, ⟨l1, l2, l3, l4⟩, ⟨f1, f2, f3⟩, ⟨t1, t2, t3⟩, n⟩ := x
      simp only [encPlace] at c0 c1 c2 c3 c4 c5 c6 c7 c8 c9 c10 c11 c12 c13 HE HQ HKM hkg hkl
      obtain ⟨hqd, hqf, hqt, hqg⟩ := HQ.out
      have hkm := HKM.out
      rw [show (false && false) = false from rfl] at hkm
      clear h1 HKM
      unfold wiB at HE
      by_cases hn1 : n < 1
      · have HE3 := Lib.hid (show r = 2 by rw [HE.out]; simp; omega)
        go_wp2_with fail
        go_ret
        rw [HE3.out]
        exact ⟨rfl, b0.out⟩
      · have hn1' : 1 ≤ n := by omega
        by_cases hn2 : 1099511627776 < n
        · have HE3 := Lib.hid (show r = 2 by rw [HE.out]; simp; omega)
          go_wp2_with fail
          go_ret
          rw [HE3.out]
          exact ⟨rfl, b0.out⟩
        · have hn2' : n ≤ 1099511627776 := by omega
          have hwi : decide (1 ≤ n ∧ n ≤ 1099511627776) = true := decide_eq_true ⟨hn1', hn2'⟩
          have HE := Lib.hid (HE.out)
          rw [hwi] at HE
          clear hwi
          cases df with
          | false =>
            have HE3 := Lib.hid (show r = 3 by rw [HE.out]; simp)
            go_wp2_with fail
            go_ret
            rw [HE3.out]
            exact ⟨rfl, b0.out⟩
          | true =>
            cases dt with
            | false =>
              have HE3 := Lib.hid (show r = 3 by rw [HE.out]; simp)
              go_wp2_with fail
              go_ret
              rw [HE3.out]
              exact ⟨rfl, b0.out⟩
            | true =>
              cases dg with
              | false =>
                have HE3 := Lib.hid (show r = 3 by rw [HE.out]; simp)
                go_wp2_with fail
                go_ret
                rw [HE3.out]
                exact ⟨rfl, b0.out⟩
              | true =>
                by_cases e2 : l2 = []
                · subst e2
                  by_cases e3 : l3 = 0
                  · subst e3
                    by_cases e4 : l4 = 0
                    · subst e4
                      have HE3 := Lib.hid (show r = 0 by rw [HE.out]; simp)
                      go_wp2_with fail
                      go_ret
                      rw [HE3.out]
                      exact ⟨rfl, b0.out⟩
                    · have e4b : (l4 == 0) = false := by simpa using e4
                      have HE3 := Lib.hid (show r = 3 by rw [HE.out]; simp [e4])
                      go_wp2_with fail
                      go_ret
                      rw [HE3.out]
                      exact ⟨rfl, b0.out⟩
                  · have e3b : (l3 == 0) = false := by simpa using e3
                    have HE3 := Lib.hid (show r = 3 by rw [HE.out]; simp [e3])
                    go_wp2_with fail
                    go_ret
                    rw [HE3.out]
                    exact ⟨rfl, b0.out⟩
                · have e2b : (l2 == []) = false := beq_eq_false_iff_ne.2 e2
                  have HE3 := Lib.hid (show r = 3 by rw [HE.out]; simp [e2])
                  go_wp2_with fail
                  go_ret
                  rw [HE3.out]
                  exact ⟨rfl, b0.out⟩
    | true =>
      clear c0 c3 lf
      have lt := H0.out.to_
      go_wp2_with (refine wpList_load_at rfl 27 (.tmp 98) rfl w.heap.size 10 rfl (encPlace x.2.2.2.2.1) lt _ Tryz.underlying27 rfl (by kernel_rfl) ?_)
      refine (HPT.out _).mono ?_
      rintro e w1 ⟨rfl, bb2⟩
      have h2 := H0.out.below bb2
      have B2 := Lib.hid (b0.out.trans (bb2.mono b0.out.size))
      clear bb2 lt H0 b0
      have b0 := B2
      by_cases hpt : pt = 0
      · subst hpt
        have H0 := Lib.hid h2
        clear h2
        have h1 := H0.out
        obtain ⟨c0, c1, c2, c3, c4, c5, c6, c7, c8, c9, c10, c11, c12, c13⟩ := h1.all
        obtain ⟨z0, z1, z2⟩ := h1.zeros
        obtain ⟨k, ⟨g1, g2⟩, ⟨l1, l2, l3, l4⟩, ⟨f1, f2, f3⟩, ⟨t1, t2, t3⟩, n⟩ := x
        simp only [encPlace] at c0 c1 c2 c3 c4 c5 c6 c7 c8 c9 c10 c11 c12 c13 HE HQ HKM hkg hkl
        obtain ⟨hqd, hqf, hqt, hqg⟩ := HQ.out
        have hkm := HKM.out
        rw [show (false && true) = false from rfl] at hkm
        clear h1 HKM
        unfold wiB at HE
        by_cases hn1 : n < 1
        · have HE3 := Lib.hid (show r = 2 by rw [HE.out]; simp; omega)
          go_wp2_with fail
          go_ret
          rw [HE3.out]
          exact ⟨rfl, b0.out⟩
        · have hn1' : 1 ≤ n := by omega
          by_cases hn2 : 1099511627776 < n
          · have HE3 := Lib.hid (show r = 2 by rw [HE.out]; simp; omega)
            go_wp2_with fail
            go_ret
            rw [HE3.out]
            exact ⟨rfl, b0.out⟩
          · have hn2' : n ≤ 1099511627776 := by omega
            have hwi : decide (1 ≤ n ∧ n ≤ 1099511627776) = true := decide_eq_true ⟨hn1', hn2'⟩
            have HE := Lib.hid (HE.out)
            rw [hwi] at HE
            clear hwi
            cases df with
            | false =>
              have HE3 := Lib.hid (show r = 3 by rw [HE.out]; simp)
              go_wp2_with fail
              go_ret
              rw [HE3.out]
              exact ⟨rfl, b0.out⟩
            | true =>
              cases dg with
              | false =>
                have HE3 := Lib.hid (show r = 3 by rw [HE.out]; simp)
                go_wp2_with fail
                go_ret
                rw [HE3.out]
                exact ⟨rfl, b0.out⟩
              | true =>
                by_cases e2 : l2 = []
                · subst e2
                  by_cases e3 : l3 = 0
                  · subst e3
                    by_cases e4 : l4 = 0
                    · subst e4
                      have HE3 := Lib.hid (show r = 0 by rw [HE.out]; simp)
                      go_wp2_with fail
                      go_ret
                      rw [HE3.out]
                      exact ⟨rfl, b0.out⟩
                    · have e4b : (l4 == 0) = false := by simpa using e4
                      have HE3 := Lib.hid (show r = 3 by rw [HE.out]; simp [e4])
                      go_wp2_with fail
                      go_ret
                      rw [HE3.out]
                      exact ⟨rfl, b0.out⟩
                  · have e3b : (l3 == 0) = false := by simpa using e3
                    have HE3 := Lib.hid (show r = 3 by rw [HE.out]; simp [e3])
                    go_wp2_with fail
                    go_ret
                    rw [HE3.out]
                    exact ⟨rfl, b0.out⟩
                · have e2b : (l2 == []) = false := beq_eq_false_iff_ne.2 e2
                  have HE3 := Lib.hid (show r = 3 by rw [HE.out]; simp [e2])
                  go_wp2_with fail
                  go_ret
                  rw [HE3.out]
                  exact ⟨rfl, b0.out⟩
      · have hpos : 0 < (pt : Int) := by omega
        have HE3 := Lib.hid (show r = pt by rw [HE.out]; simp [hpt])
        go_wp2_with fail
        go_ret
        rw [HE3.out]
        exact ⟨rfl, b0.out⟩
  | true =>
    go_wp2_with (refine wpList_load_at rfl 27 (.tmp 91) rfl w.heap.size 7 rfl (encPlace x.2.2.2.1) lf _ Tryz.underlying27 rfl (by kernel_rfl) ?_)
    refine (HPF.out _).mono ?_
    rintro e w1 ⟨rfl, bb1⟩
    have h1 := H0.out.below bb1
    have B1 := Lib.hid (b0.out.trans (bb1.mono b0.out.size))
    clear bb1 c0 c3 lf H0 b0
    by_cases hpf : pf = 0
    · subst hpf
      have H0 := Lib.hid h1
      have b0 := B1
      cases bT with
      | false =>
        clear h1 B1
        have h1 := H0.out
        obtain ⟨c0, c1, c2, c3, c4, c5, c6, c7, c8, c9, c10, c11, c12, c13⟩ := h1.all
        obtain ⟨z0, z1, z2⟩ := h1.zeros
        obtain ⟨k, ⟨g1, g2⟩, ⟨l1, l2, l3, l4⟩, ⟨f1, f2, f3⟩, ⟨t1, t2, t3⟩, n⟩ := x
        simp only [encPlace] at c0 c1 c2 c3 c4 c5 c6 c7 c8 c9 c10 c11 c12 c13 HE HQ HKM hkg hkl
        obtain ⟨hqd, hqf, hqt, hqg⟩ := HQ.out
        have hkm := HKM.out
        rw [show (true && false) = false from rfl] at hkm
        clear h1 HKM
        unfold wiB at HE
        by_cases hn1 : n < 1
        · have HE3 := Lib.hid (show r = 2 by rw [HE.out]; simp; omega)
          go_wp2_with fail
          go_ret
          rw [HE3.out]
          exact ⟨rfl, b0.out⟩
        · have hn1' : 1 ≤ n := by omega
          by_cases hn2 : 1099511627776 < n
          · have HE3 := Lib.hid (show r = 2 by rw [HE.out]; simp; omega)
            go_wp2_with fail
            go_ret
            rw [HE3.out]
            exact ⟨rfl, b0.out⟩
          · have hn2' : n ≤ 1099511627776 := by omega
            have hwi : decide (1 ≤ n ∧ n ≤ 1099511627776) = true := decide_eq_true ⟨hn1', hn2'⟩
            have HE := Lib.hid (HE.out)
            rw [hwi] at HE
            clear hwi
            cases dt with
            | false =>
              have HE3 := Lib.hid (show r = 3 by rw [HE.out]; simp)
              go_wp2_with fail
              go_ret
              rw [HE3.out]
              exact ⟨rfl, b0.out⟩
            | true =>
              cases dg with
              | false =>
                have HE3 := Lib.hid (show r = 3 by rw [HE.out]; simp)
                go_wp2_with fail
                go_ret
                rw [HE3.out]
                exact ⟨rfl, b0.out⟩
              | true =>
                by_cases e2 : l2 = []
                · subst e2
                  by_cases e3 : l3 = 0
                  · subst e3
                    by_cases e4 : l4 = 0
                    · subst e4
                      have HE3 := Lib.hid (show r = 0 by rw [HE.out]; simp)
                      go_wp2_with fail
                      go_ret
                      rw [HE3.out]
                      exact ⟨rfl, b0.out⟩
                    · have e4b : (l4 == 0) = false := by simpa using e4
                      have HE3 := Lib.hid (show r = 3 by rw [HE.out]; simp [e4])
                      go_wp2_with fail
                      go_ret
                      rw [HE3.out]
                      exact ⟨rfl, b0.out⟩
                  · have e3b : (l3 == 0) = false := by simpa using e3
                    have HE3 := Lib.hid (show r = 3 by rw [HE.out]; simp [e3])
                    go_wp2_with fail
                    go_ret
                    rw [HE3.out]
                    exact ⟨rfl, b0.out⟩
                · have e2b : (l2 == []) = false := beq_eq_false_iff_ne.2 e2
                  have HE3 := Lib.hid (show r = 3 by rw [HE.out]; simp [e2])
                  go_wp2_with fail
                  go_ret
                  rw [HE3.out]
                  exact ⟨rfl, b0.out⟩
      | true =>
        clear h1 B1
        have lt := H0.out.to_
        go_wp2_with (refine wpList_load_at rfl 27 (.tmp 98) rfl w.heap.size 10 rfl (encPlace x.2.2.2.2.1) lt _ Tryz.underlying27 rfl (by kernel_rfl) ?_)
        refine (HPT.out _).mono ?_
        rintro e w1 ⟨rfl, bb2⟩
        have h2 := H0.out.below bb2
        have B2 := Lib.hid (b0.out.trans (bb2.mono b0.out.size))
        clear bb2 lt H0 b0
        have b0 := B2
        by_cases hpt : pt = 0
        · subst hpt
          have H0 := Lib.hid h2
          clear h2
          have h1 := H0.out
          obtain ⟨c0, c1, c2, c3, c4, c5, c6, c7, c8, c9, c10, c11, c12, c13⟩ := h1.all
          obtain ⟨z0, z1, z2⟩ := h1.zeros
          obtain ⟨k, ⟨g1, g2⟩, ⟨l1, l2, l3, l4⟩, ⟨f1, f2, f3⟩, ⟨t1, t2, t3⟩, n⟩ := x
          simp only [encPlace] at c0 c1 c2 c3 c4 c5 c6 c7 c8 c9 c10 c11 c12 c13 HE HQ HKM hkg hkl
          obtain ⟨hqd, hqf, hqt, hqg⟩ := HQ.out
          have hkm := HKM.out
          rw [show (true && true) = true from rfl] at hkm
          clear h1 HKM
          unfold wiB at HE
          by_cases hn1 : n < 1
          · have HE3 := Lib.hid (show r = 2 by rw [HE.out]; simp; omega)
            go_wp2_with fail
            go_ret
            rw [HE3.out]
            exact ⟨rfl, b0.out⟩
          · have hn1' : 1 ≤ n := by omega
            by_cases hn2 : 1099511627776 < n
            · have HE3 := Lib.hid (show r = 2 by rw [HE.out]; simp; omega)
              go_wp2_with fail
              go_ret
              rw [HE3.out]
              exact ⟨rfl, b0.out⟩
            · have hn2' : n ≤ 1099511627776 := by omega
              have hwi : decide (1 ≤ n ∧ n ≤ 1099511627776) = true := decide_eq_true ⟨hn1', hn2'⟩
              have HE := Lib.hid (HE.out)
              rw [hwi] at HE
              clear hwi
              cases dq with
              | false =>
                cases dg with
                | false =>
                  have HE3 := Lib.hid (show r = 3 by rw [HE.out]; simp)
                  go_wp2_with fail
                  go_ret
                  rw [HE3.out]
                  exact ⟨rfl, b0.out⟩
                | true =>
                  by_cases e2 : l2 = []
                  · subst e2
                    by_cases e3 : l3 = 0
                    · subst e3
                      by_cases e4 : l4 = 0
                      · subst e4
                        have HE3 := Lib.hid (show r = 0 by rw [HE.out]; simp)
                        go_wp2_with fail
                        go_ret
                        rw [HE3.out]
                        exact ⟨rfl, b0.out⟩
                      · have e4b : (l4 == 0) = false := by simpa using e4
                        have HE3 := Lib.hid (show r = 3 by rw [HE.out]; simp [e4])
                        go_wp2_with fail
                        go_ret
                        rw [HE3.out]
                        exact ⟨rfl, b0.out⟩
                    · have e3b : (l3 == 0) = false := by simpa using e3
                      have HE3 := Lib.hid (show r = 3 by rw [HE.out]; simp [e3])
                      go_wp2_with fail
                      go_ret
                      rw [HE3.out]
                      exact ⟨rfl, b0.out⟩
                  · have e2b : (l2 == []) = false := beq_eq_false_iff_ne.2 e2
                    have HE3 := Lib.hid (show r = 3 by rw [HE.out]; simp [e2])
                    go_wp2_with fail
                    go_ret
                    rw [HE3.out]
                    exact ⟨rfl, b0.out⟩
              | true =>
                have HE3 := Lib.hid (show r = 3 by rw [HE.out]; simp)
                go_wp2_with fail
                go_ret
                rw [HE3.out]
                exact ⟨rfl, b0.out⟩
        · have hpos : 0 < (pt : Int) := by omega
          have HE3 := Lib.hid (show r = pt by rw [HE.out]; simp [hpt])
          go_wp2_with fail
          go_ret
          rw [HE3.out]
          exact ⟨rfl, b0.out⟩
    · have hpos : 0 < (pf : Int) := by omega
      have HE3 := Lib.hid (show r = pf by rw [HE.out]; simp [hpf])
      go_wp2_with fail
      go_ret
      rw [HE3.out]
      exact ⟨rfl, B1.out⟩
end Go.Proofs.YtpifbahafnaejaaGreatDoor
