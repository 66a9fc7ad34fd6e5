/- The document's layers: Text. The document's layers as the law uses them; both layers side by side. The document's book: what it holds, read. The document's faults: Bare, Fine. -/
import Derived.Test.YtphgakobfegpcaaGreatDoorM05
import Derived.Test.YtphgakobfegpcaaGreatDoorM10
import Derived.Test.YtphgakobfegpcaaGreatDoorM15
import Derived.Test.YtphgakobfegpcaaGreatDoorM29
import Derived.Test.YtphgakobfegpcaaGreatDoorM38
import Derived.Test.YtphgakobfegpcaaGreatDoorLCostOf03
import Derived.Test.YtphgakobfegpcaaGreatDoorLCostOf05
import Derived.Test.YtphgakobfegpcaaGreatDoorLCostOf06
namespace Go.Proofs.YtphgakobfegpcaaGreatDoor
open Go.RowKit

theorem held_step {w Wc w1 : World} {a b c : Addr} {x y z : Value} (hb : Below Wc.heap.size Wc w1) (h1 : Wc.cell? a = some x) (h2 : Wc.cell? b = some y) (h3 : Wc.cell? c = some z) (hB : Below w.heap.size w Wc) :
    w1.cell? a = some x ∧ w1.cell? b = some y ∧ w1.cell? c = some z ∧ Below w.heap.size w w1 :=
  ⟨(hb.cell (lt_of_cell h1)).trans h1, (hb.cell (lt_of_cell h2)).trans h2, (hb.cell (lt_of_cell h3)).trans h3, hB.trans (hb.mono hB.size)⟩

theorem join_snoc (l : List (List UInt8)) (x sep : List UInt8) (h : l ≠ []) : Lib.join (l ++ [x]) sep = Lib.join l sep ++ sep ++ x := by
  cases l with
  | nil => exact absurd rfl h
  | cons y r =>
    rw [List.cons_append, Lib.join_cons, Lib.join_cons]
    simp [Lib.joinTail, List.append_assoc]

theorem textL_take (ls : Ls) (k : Nat) (h : k < ls.length) : textL (ls.take (k + 1)) = textL (ls.take k) ++ (if 0 < k then [32] else []) ++ itemL ls[k] := by
  rw [List.take_succ_eq_append_getElem h]
  simp only [textL, List.map_append, List.map_cons, List.map_nil]
  by_cases h0 : 0 < k
  · rw [if_pos h0, join_snoc _ _ _ (by
      intro e
      have := congrArg List.length e
      simp only [List.length_map, List.length_take, List.length_nil] at this
      omega)]
  · obtain rfl : k = 0 := by omega
    simp [Lib.join_nil, Lib.join_one]

set_option maxHeartbeats 1600000 in
set_option maxRecDepth 100000 in
theorem rtext_any (p g : Nat) (ls : Ls) (w : World) (hL : LayR w p g ls) (hk : OkL ls) (hlen : ls.length ≤ 1000000) :
    Calls Tryz.prog 15 #[.pointer (some ⟨p, 0, none⟩)] w fun e w' => e = .returned (.string ⟨(textL ls).toArray⟩) ∧ Below w.heap.size w w' := by
  obtain ⟨A, cap, hA, hc1, hc2, hcell⟩ := hL.reads
  have hlt := hL.lt
  have KL := Lib.hid hk
  clear hL hk
  have HC := Lib.hid hcell
  clear hcell
  go_enter Tryz.func15, Tryz.ntmps15
  go_wp2
  go_loopw [3, 4] (fun out i wr => ∃ k : Nat, k ≤ ls.length ∧ i = .int .i64 k ∧ out = .string ⟨(textL (ls.take k)).toArray⟩ ∧ Below w.heap.size w wr) (fun _ i _ => ls.length - (intOf i).toNat)
  case atStart => exact ⟨0, by omega, rfl, rfl, Below.refl _ _⟩
  case round =>
    obtain ⟨k, hk, rfl, rfl, hb⟩ := hrel
    have dA := (hb.cell (p := ⟨p, 0, none⟩) hlt.1).trans hA
    by_cases hkl : k < ls.length
    · obtain ⟨off, rfl, hcells⟩ := HC.out (by omega)
      obtain ⟨c1, c2⟩ := hcells k hkl
      have d1 : wr.cell? ⟨g, off + k * 2, none⟩ = some (.int .i64 (ls[k].1 : Nat)) := (hb.cell hlt.2).trans c1
      have d2 : wr.cell? ⟨g, off + k * 2 + 1, none⟩ = some (.int .i64 (ls[k].2 : Nat)) := (hb.cell hlt.2).trans c2
      have q1 : ls[k].1 ≤ 1099511627776 := Nat.le_trans (of_mem_has ls k hkl) KL.out.has
      have q2 : ls[k].2 ≤ 1048576 := KL.out.cost _ (List.getElem_mem hkl)
      have hn1 := Lib.itoa_length_le (ls[k].1 : Int) (by omega) (by omega)
      have hn2 := Lib.itoa_length_le (ls[k].2 : Int) (by omega) (by omega)
      have HT := Lib.hid (textL_take ls k hkl)
      have ht : (textL (ls.take k)).length ≤ 44000000 := by
        have := textL_length (ls.take k) (fun x hx => okL_small KL.out x (List.mem_of_mem_take hx))
        rw [List.length_take] at this
        omega
      obtain ⟨n, hn⟩ : ∃ n, n = ls[k].1 := ⟨_, rfl⟩
      obtain ⟨c, hc⟩ : ∃ c, c = ls[k].2 := ⟨_, rfl⟩
      rw [show itemL ls[k] = itemL (n, c) by rw [hn, hc]] at HT
      rw [← hn] at d1 q1 hn1
      rw [← hc] at d2 q2 hn2
      clear c1 c2 hcells hA hn hc
      have D1 := Lib.hid (fun w => decimal_nat n (by omega) w)
      have D2 := Lib.hid (fun w => decimal_nat c (by omega) w)
      generalize textL (ls.take k) = t at *
      by_cases h0 : 0 < k
      · rw [if_pos h0] at HT
        have hk0 : (0 : Int) < (k : Int) := by omega
        have hv0 : ¬ 9223372036854775807 < t.length + 1 := by omega
        have hv1 : ¬ 9223372036854775807 < t.length + 1 + (Lib.itoa (n : Int)).length := by omega
        have hv2 : ¬ 9223372036854775807 < t.length + 1 + (Lib.itoa (n : Int)).length + 1 := by omega
        have hv3 : ¬ 9223372036854775807 < t.length + 1 + (Lib.itoa (n : Int)).length + 1 + (Lib.itoa (c : Int)).length := by omega
        have HS : (⟨t.toArray⟩ : ByteArray) ++ (⟨#[32]⟩ : ByteArray) ++ (⟨(Lib.itoa (n : Int)).toArray⟩ : ByteArray) ++ (⟨#[64]⟩ : ByteArray) ++ (⟨(Lib.itoa (c : Int)).toArray⟩ : ByteArray) = ⟨(textL (ls.take (k + 1))).toArray⟩ := by
          rw [HT.out, show (⟨#[32]⟩ : ByteArray) = ⟨[32].toArray⟩ from rfl, show (⟨#[64]⟩ : ByteArray) = ⟨[64].toArray⟩ from rfl, mk_app, mk_app, mk_app, mk_app]
          simp [itemL]
        have HS := Lib.hid HS
        go_wp2_with fail
        go_region_held3 (fun w' => w'.cell? ⟨p, 0, none⟩ = some (.slice (some ⟨g, off, none⟩) ls.length cap) ∧ w'.cell? ⟨g, off + k * 2, none⟩ = some (.int .i64 (n : Nat)) ∧ w'.cell? ⟨g, off + k * 2 + 1, none⟩ = some (.int .i64 (c : Nat)) ∧ Below w.heap.size w w')
          (first | exact ⟨dA, d1, d2, hb.drew⟩ | (go_split_ands; exact held_step b1 (by assumption) (by assumption) (by assumption) (by assumption)) | (go_split_ands; exact held_step b2 (by assumption) (by assumption) (by assumption) (by assumption)) | go_keep)
          (first
            | (go_at_call_of 63 (Value.int .i64 (n : Int)); refine (D1.out _).mono ?_; rintro e w4 ⟨rfl, b1⟩)
            | (go_at_call_of 63 (Value.int .i64 (c : Int)); refine (D2.out _).mono ?_; rintro e w5 ⟨rfl, b2⟩))
        all_goals
          have b3 : Below w.heap.size w w5 := (hb.drew.trans (b1.mono hb.size)).trans (b2.mono (Nat.le_trans hb.size b1.size))
          clear dA d1 d2
          go_wp2
          exact ⟨⟨k + 1, by omega, by simp, by rw [← HS.out], b3⟩, by simp [intOf]; omega⟩
      · rw [if_neg h0, List.append_nil] at HT
        have hk0 : ¬ (0 : Int) < (k : Int) := by omega
        have hv1 : ¬ 9223372036854775807 < t.length + (Lib.itoa (n : Int)).length := by omega
        have hv2 : ¬ 9223372036854775807 < t.length + (Lib.itoa (n : Int)).length + 1 := by omega
        have hv3 : ¬ 9223372036854775807 < t.length + (Lib.itoa (n : Int)).length + 1 + (Lib.itoa (c : Int)).length := by omega
        have HS : (⟨t.toArray⟩ : ByteArray) ++ (⟨(Lib.itoa (n : Int)).toArray⟩ : ByteArray) ++ (⟨#[64]⟩ : ByteArray) ++ (⟨(Lib.itoa (c : Int)).toArray⟩ : ByteArray) = ⟨(textL (ls.take (k + 1))).toArray⟩ := by
          rw [HT.out, show (⟨#[64]⟩ : ByteArray) = ⟨[64].toArray⟩ from rfl, mk_app, mk_app, mk_app]
          simp [itemL]
        have HS := Lib.hid HS
        go_wp2_with fail
        go_region_held3 (fun w' => w'.cell? ⟨p, 0, none⟩ = some (.slice (some ⟨g, off, none⟩) ls.length cap) ∧ w'.cell? ⟨g, off + k * 2, none⟩ = some (.int .i64 (n : Nat)) ∧ w'.cell? ⟨g, off + k * 2 + 1, none⟩ = some (.int .i64 (c : Nat)) ∧ Below w.heap.size w w')
          (first | exact ⟨dA, d1, d2, hb.drew⟩ | (go_split_ands; exact held_step b1 (by assumption) (by assumption) (by assumption) (by assumption)) | (go_split_ands; exact held_step b2 (by assumption) (by assumption) (by assumption) (by assumption)) | go_keep)
          (first
            | (go_at_call_of 63 (Value.int .i64 (n : Int)); refine (D1.out _).mono ?_; rintro e w4 ⟨rfl, b1⟩)
            | (go_at_call_of 63 (Value.int .i64 (c : Int)); refine (D2.out _).mono ?_; rintro e w5 ⟨rfl, b2⟩))
        all_goals
          have b3 : Below w.heap.size w w5 := (hb.drew.trans (b1.mono hb.size)).trans (b2.mono (Nat.le_trans hb.size b1.size))
          clear dA d1 d2
          go_wp2
          exact ⟨⟨k + 1, by omega, by simp, by rw [← HS.out], b3⟩, by simp [intOf]; omega⟩
    · have hkn : ls.length ≤ k := by omega
      have HT := Lib.hid (show ls.take k = ls from List.take_of_length_le hkn)
      go_wp2
      go_ret
      refine ⟨?_, hb⟩
      show Ending.returned (.string ⟨(textL (ls.take k)).toArray⟩) = _
      rw [HT.out]

end Go.Proofs.YtphgakobfegpcaaGreatDoor
namespace Go.Proofs.YtphgakobfegpcaaGreatDoor
open Go.RowKit

theorem rin_gen (p g : Nat) (ls : Ls) (n c : Int) (w : World) (hL : LayR w p g ls) (hk : OkL ls) (hlen : ls.length ≤ 1000000) :
    Calls Tryz.prog 56 #[.pointer (some ⟨p, 0, none⟩), .int .i64 n, .int .i64 c] w fun e w' => e = .returned (.int .i64 (inE ls n c : Nat)) ∧
      ∃ g', LayR w' p g' (inS ls n c) ∧ Only p g w w' ∧ (g' = g ∨ w.heap.size ≤ g') := by
  by_cases h : n < 1 ∨ 1099511627776 < n ∨ c < 0 ∨ 1048576 < c ∨ 1099511627776 - (hasL ls : Int) < n
  · have e : inE ls n c = 2 := if_pos h
    refine (rin_no p g ls n c w hL hk hlen h).mono ?_
    rintro e' w' ⟨rfl, hb⟩
    refine ⟨by rw [e]; rfl, g, ?_, Only.of_below hb, .inl rfl⟩
    simp only [inS, e]
    exact hL.below hb
  · have e : inE ls n c = 0 := if_neg h
    obtain ⟨m, rfl⟩ := Int.eq_ofNat_of_zero_le (show (0 : Int) ≤ n by omega)
    obtain ⟨d, rfl⟩ := Int.eq_ofNat_of_zero_le (show (0 : Int) ≤ c by omega)
    refine (rin_yes p g ls m d w hL hk hlen (by omega) (by omega) (by omega)).mono ?_
    rintro e' w' ⟨rfl, g', h1, h2, h3⟩
    refine ⟨by rw [e]; rfl, g', ?_, h2, h3⟩
    simp only [inS, e]
    exact h1

theorem rout_gen (p g : Nat) (ls : Ls) (n : Int) (w : World) (hL : LayR w p g ls) (hk : OkL ls) (hlen : ls.length ≤ 1000000) :
    Calls Tryz.prog 57 #[.pointer (some ⟨p, 0, none⟩), .int .i64 n] w fun e w' => e = .returned (.tuple #[.int .i64 (outN ls n : Nat), .int .i64 (outE ls n : Nat)]) ∧
      (∃ g', LayR w' p g' (outS ls n) ∧ (g' = g ∨ g' = p ∨ w.heap.size ≤ g')) ∧ Only p g w w' := by
  by_cases h : n < 1 ∨ 1099511627776 < n
  · have e : outE ls n = 2 := if_pos h
    refine (rout_bound p n w h).mono ?_
    rintro e' w' ⟨rfl, hb⟩
    refine ⟨by rw [e]; simp only [outN, e]; rfl, ⟨g, ?_, .inl rfl⟩, Only.of_below hb⟩
    simp only [outS, e]
    exact hL.below hb
  · by_cases h2 : (hasL ls : Int) < n
    · have e : outE ls n = 9 := by unfold outE; rw [if_neg h, if_pos h2]
      refine (rout_short p g ls n w hL hk hlen (by omega) (by omega) h2).mono ?_
      rintro e' w' ⟨rfl, hb⟩
      refine ⟨by rw [e]; simp only [outN, e]; rfl, ⟨g, ?_, .inl rfl⟩, Only.of_below hb⟩
      simp only [outS, e]
      exact hL.below hb
    · have e : outE ls n = 0 := by unfold outE; rw [if_neg h, if_neg h2]
      obtain ⟨m, rfl⟩ := Int.eq_ofNat_of_zero_le (show (0 : Int) ≤ n by omega)
      refine (rout_yes p g ls m w hL hk hlen (by omega) (by omega)).mono ?_
      rintro e' w' ⟨rfl, ⟨g', h1, d⟩, h2⟩
      refine ⟨by rw [e]; simp only [outN, e]; rfl, ⟨g', ?_, .inr d⟩, h2⟩
      simp only [outS, e]
      exact h1

theorem inE_le (ls : Ls) (n c : Int) : inE ls n c ≤ 12 := by unfold inE; split <;> omega
theorem outE_le (ls : Ls) (n : Int) : outE ls n ≤ 12 := by unfold outE; split <;> (try split) <;> omega

/-- The program's layers and the document's, that hold the same. -/
structure TwoR (B : Nat) (w : World) (px gx py gy : Nat) (ls : Ls) : Prop where
  x : Lay w px gx ls
  y : LayR w py gy ls
  bpx : B ≤ px
  bgx : B ≤ gx
  bpy : B ≤ py
  bgy : B ≤ gy
  n1 : px ≠ py
  n2 : px ≠ gy
  n3 : gx ≠ py
  n4 : gx ≠ gy
theorem TwoR.below {B : Nat} {w w' : World} {px gx py gy : Nat} {ls : Ls} (h : TwoR B w px gx py gy ls) (hb : Below w.heap.size w w') : TwoR B w' px gx py gy ls := ⟨h.x.below hb, h.y.below hb, h.bpx, h.bgx, h.bpy, h.bgy, h.n1, h.n2, h.n3, h.n4⟩
theorem TwoR.first {B : Nat} {a w w' : World} {px gx py gy gx' : Nat} {ls ls' : Ls} (h : TwoR B w px gx py gy ls) (hb : Below B a w) (hB : B ≤ w.heap.size) (_ : Lay w' px gx' ls') (o : Only px gx w w') (d : gx' = gx ∨ w.heap.size ≤ gx') :
    LayR w' py gy ls ∧ Below B a w' ∧ B ≤ gx' ∧ gx' ≠ py ∧ gx' ≠ gy ∧ B ≤ w'.heap.size := by
  have h1 := h.y.lt
  have h2 := h.bgx
  have h3 := h.n3
  have h4 := h.n4
  exact ⟨h.y.only o (Ne.symm h.n1) (Ne.symm h.n3) (Ne.symm h.n2) (Ne.symm h.n4), o.below hb h.bpx h.bgx hB, by omega, by omega, by omega, Nat.le_trans hB o.size⟩
theorem TwoR.both {B : Nat} {a w w1 w2 : World} {px gx py gy gx' gy' : Nat} {ls ls' : Ls} (h : TwoR B w px gx py gy ls) (hb : Below B a w) (hB : B ≤ w.heap.size) (l : Lay w1 px gx' ls') (o : Only px gx w w1) (d : gx' = gx ∨ w.heap.size ≤ gx')
    (l2 : LayR w2 py gy' ls') (o2 : Only py gy w1 w2) (d2 : gy' = gy ∨ gy' = py ∨ w1.heap.size ≤ gy') : TwoR B w2 px gx' py gy' ls' ∧ Below B a w2 := by
  obtain ⟨_, q2, q3, q4, q5, q6⟩ := h.first hb hB l o d
  have h1 := h.bgy
  have h2 := l.lt
  have h3 := h.n1
  have h4 := h.n2
  have h5 := h.bpy
  exact ⟨⟨l.only o2 h.n1 h.n2 q4 q5, l2, h.bpx, q3, h.bpy, by omega, h.n1, by omega, q4, by omega⟩, o2.below q2 h.bpy h.bgy q6⟩

/-- What the law needs of package-level variables. -/
structure LayersG (E : Nat → Addr) (w : World) : Prop where
  tab : TabG w
  err : ErrG E w
theorem LayersG.below {E : Nat → Addr} {w w' : World} (h : LayersG E w) (hb : Below w.heap.size w w') : LayersG E w' := ⟨h.tab.below hb, h.err.below hb⟩
theorem LayersG.bound {E : Nat → Addr} {w : World} (h : LayersG E w) : ErrAt 2 (E 2) w := h.err.at_ 2 (by omega) (by omega)
theorem LayersG.short {E : Nat → Addr} {w : World} (h : LayersG E w) : ErrAt 3 (E 9) w := h.err.at_ 9 (by omega) (by omega)

/-- coded tells true where the numbers are one. -/
theorem coded2_same (E : Nat → Addr) (j : Nat) (h2 : j ≤ 12) (w : World) (hG : ErrG E w) :
    Calls Tryz.prog 30 #[errOf E j, .int .i64 (j : Nat)] w fun e w' => e = .returned (.bool true) ∧ Below w.heap.size w w' := by
  have h := coded2 E j h2 j w hG
  rw [beq_self_eq_true] at h
  exact h
end Go.Proofs.YtphgakobfegpcaaGreatDoor
namespace Go.Proofs.YtphgakobfegpcaaGreatDoor
open Go.RowKit Go.Sort Go.Proofs

theorem MBk.goodsAt {w : World} {q : Nat} {F R : List Nat} {B : BkV} (H : MBk w q F R B) : ∃ A cap, w.cell? ⟨q, 0, none⟩ = some (.slice A B.1.length cap) ∧ RowAt encGoS 6 w A B.1 := by
  obtain ⟨vG, vL, A, cap, rfl, hn, rfl, hA, H⟩ := H
  obtain ⟨AG, cG, hvG, hr, -⟩ := RowAt.of_own (enc := encGoS) (k := 6) (fun _ => rfl) H.goods
  have h := H.own
  rw [hvG] at h
  exact ⟨AG, cG, cell_of_row _ _ 0 _ _ _ h, hr⟩
theorem MBk.lotsAt {w : World} {q : Nat} {F R : List Nat} {B : BkV} (H : MBk w q F R B) : ∃ A cap, w.cell? ⟨q, 1, none⟩ = some (.slice A B.2.1.length cap) ∧ RowAt encLoH 5 w A B.2.1 := by
  obtain ⟨vG, vL, A, cap, rfl, hn, rfl, hA, H⟩ := H
  obtain ⟨AL, cL, hvL, hr, -⟩ := RowAt.of_own (enc := encLoH) (k := 5) (fun _ => rfl) H.lots
  have h := H.own
  rw [hvL] at h
  exact ⟨AL, cL, cell_of_row _ _ 1 _ _ _ h, hr⟩
theorem MBk.linesAt {w : World} {q : Nat} {F R : List Nat} {B : BkV} (H : MBk w q F R B) : ∃ A cap, w.cell? ⟨q, 2, none⟩ = some (.slice A B.2.2.length cap) ∧ RowAt encLine 5 w A (linesM B.2.2) := by
  obtain ⟨vG, vL, A, cap, rfl, hn, rfl, hA, H⟩ := H
  exact ⟨A, cap, cell_of_row _ _ 2 _ _ _ H.own, H.lines⟩
theorem refFindL {w : World} {q : Nat} {F R : List Nat} {B : BkV} (H : MBk w q F R B) (hI : BkI B) (id : List UInt8) :
    Calls Tryz.prog 46 #[.pointer (some ⟨q, 0, none⟩), .string ⟨id.toArray⟩] w fun e w' => e = .returned (.int .i64 (idxK (fun x : LoH => x.1.1) B.2.1 id)) ∧ Below w.heap.size w w' := by
  obtain ⟨A, cap, c1, hr⟩ := H.lotsAt
  exact findL_any q A cap B.2.1 id w c1 hr (by have := hI.lfew; omega)
theorem refFindG {w : World} {q : Nat} {F R : List Nat} {B : BkV} (H : MBk w q F R B) (hI : BkI B) (c : List UInt8) :
    Calls Tryz.prog 47 #[.pointer (some ⟨q, 0, none⟩), .string ⟨c.toArray⟩] w fun e w' => e = .returned (.int .i64 (idxK (fun x : GoS => x.1.1) B.1 c)) ∧ Below w.heap.size w w' := by
  obtain ⟨A, cap, c0, hr⟩ := H.goodsAt
  exact findG_any q A cap B.1 c w c0 hr (by have := hI.gfew; omega)
theorem idxL (B : BkV) (id : List UInt8) : (fL B id = none ∧ idxK (fun x : LoH => x.1.1) B.2.1 id = -1) ∨ ∃ i, ∃ h : i < B.2.1.length, fL B id = some B.2.1[i] ∧ idxK (fun x : LoH => x.1.1) B.2.1 id = i ∧ B.2.1[i].1.1 = id := idxK_find _ _ _
theorem idxG (B : BkV) (c : List UInt8) : (fG B c = none ∧ idxK (fun x : GoS => x.1.1) B.1 c = -1) ∨ ∃ i, ∃ h : i < B.1.length, fG B c = some B.1[i] ∧ idxK (fun x : GoS => x.1.1) B.1 c = i ∧ B.1[i].1.1 = c := idxK_find _ _ _
end Go.Proofs.YtphgakobfegpcaaGreatDoor
namespace Go.Proofs.YtphgakobfegpcaaGreatDoor
open Go.RowKit Go.Sort Go.Proofs

theorem bare_any (c : Int) (w : World) : Calls Tryz.prog 58 #[.int .i64 c] w fun e w' => e = .returned (.agg #[.int .i64 c, .int .i64 (-1)]) ∧ Below w.heap.size w w' := by
  have b0 := below_one w (.cells #[.int .i64 0, .int .i64 0] 32)
  have hz := heap_alloc_new w (.cells #[.int .i64 0, .int .i64 0] 32)
  go_enter Tryz.func58, Tryz.ntmps58
  go_wp2_with (refine wpList_store_box rfl 32 _ _ rfl w.heap.size [.int .i64 c, .int .i64 (-1)] rfl rfl 32 [.int .i64 0, .int .i64 0] hz (by kernel_rfl) rfl (by simp [Value.oneCell']) ?_; intro wf hf tf)
  (try simp only [Exit.inBlock, Exit.then])
  refine bodyPost_ret (results_cell_row rfl _ _ w.heap.size 32 #[.int .i64 c, .int .i64 (-1)] (0, 0) _ rfl hf Tryz.underlying32 rfl (by kernel_rfl)) rfl ?_
  exact ⟨rfl, b0.trans (tf.below (Nat.le_refl _))⟩
theorem fine_any (w : World) : Calls Tryz.prog 59 #[] w fun e w' => e = .returned (.agg #[.int .i64 0, .int .i64 (-1)]) ∧ Below w.heap.size w w' := by
  have b0 := below_one w (.cells #[.int .i64 0, .int .i64 0] 32)
  have hz := heap_alloc_new w (.cells #[.int .i64 0, .int .i64 0] 32)
  go_enter Tryz.func59, Tryz.ntmps59
  go_wp2_with (refine wpList_store_box rfl 32 _ _ rfl w.heap.size [.int .i64 0, .int .i64 (-1)] rfl rfl 32 [.int .i64 0, .int .i64 0] hz (by kernel_rfl) rfl (by simp [Value.oneCell']) ?_; intro wf hf tf)
  (try simp only [Exit.inBlock, Exit.then])
  refine bodyPost_ret (results_cell_row rfl _ _ w.heap.size 32 #[.int .i64 0, .int .i64 (-1)] (0, 0) _ rfl hf Tryz.underlying32 rfl (by kernel_rfl)) rfl ?_
  exact ⟨rfl, b0.trans (tf.below (Nat.le_refl _))⟩
/-- Three results, the last of them in memory. -/
theorem results_ttc {P : Program} {fn : Func} {t u p : Tmp} {ty : TypeId} (h : fn.results = #[.tmp t, .tmp u, .cell p ty]) (tmps : Array Value) (w : World) (g : Nat) (tt : TypeId) (cs : Array Value) (fr : Nat × Nat) (d : TypeDesc)
    (hp : tmps.getD p undef = .pointer (some ⟨g, 0, none⟩)) (hg : w.heap[g]? = some (.cells cs tt fr))
    (hu : P.underlying ty = some d) (hd : (match d with | .struct _ | .array _ _ => true | _ => false) = true) (hi : (P.info? ty).map (·.size) = some cs.size) :
    (results fn tmps).run P w = .ok (.tuple #[tmps.getD t undef, tmps.getD u undef, .agg cs]) w := by
  have hp' : tmps[p]?.getD undef = .pointer (some ⟨g, 0, none⟩) := by simpa using hp
  simp only [results, h]
  simp [hp', asAddr, run_loadVar_row w g tt ty cs fr d hg hu hd hi, Result.andThen]
end Go.Proofs.YtphgakobfegpcaaGreatDoor
