/- Tasks of counting: have two sheets the same lines? Tasks of counting: fields turned, one behind the other. -/
import Derived.BigQuiet
import Derived.Test.YtchiojiicehpeaaGreatDoorM24
import Derived.Test.YtchiojiicehpeaaGreatDoorM31
namespace Go.Proofs.YtchiojiicehpeaaGreatDoor
open Go.RowKit Go.Sort Go.Proofs
set_option maxHeartbeats 1600000 in
set_option maxRecDepth 100000 in
theorem indexLine_any (A : Option Addr) (cap : Nat) (l : List LineV) (x : LineV) (w : World) (hrow : RowAt encLine 5 w A l) (hl : l.length ≤ 100000) :
  Calls Tryz.prog 184 #[.slice A l.length cap, .agg (encLine x).toArray] w fun e w' => e = .returned (.int .i64 (fndP (fun y => decide (x = y)) l)) ∧ Below w.heap.size w w' := by
 have HR := Lib.hid (fun W (h : Below w.heap.size w W) => hrow.below h)
 have HF := Lib.hid (fndP_step (fun y => decide (x = y)) l)
 have HQ := Lib.hid (eqLine x)
 obtain ⟨N, hN⟩ : ∃ N, N = l.length := ⟨_, rfl⟩
 have HN := Lib.hid hN
 rw [← hN] at hl ⊢
 clear hrow hN
 generalize fndP (fun y => decide (x = y)) l = R at HF ⊢
 obtain ⟨x1, hx1⟩ : ∃ x1, x1 = x := ⟨_, rfl⟩
 rw [← hx1] at HF
 have HX1 := Lib.hid hx1
 clear hx1
 obtain ⟨⟨p1, p2, p3⟩, x4, x5⟩ := x
 simp only [encLine] at HQ ⊢
 have hX0 := heap_alloc_new w (.cells #[.string ⟨p1.toArray⟩, .int .i64 p2, .int .i64 p3, .string ⟨x4.toArray⟩, .int .i64 x5] 60)
 have HX0 : Hid (Lies (w.alloc (.cells #[.string ⟨p1.toArray⟩, .int .i64 p2, .int .i64 p3, .string ⟨x4.toArray⟩, .int .i64 x5] 60)) w.heap.size 0 [.string ⟨p1.toArray⟩, .int .i64 p2, .int .i64 p3, .string ⟨x4.toArray⟩, .int .i64 x5]) := Lies.row _ hX0
 have B0 := Lib.hid (below_one w (.cells #[.string ⟨p1.toArray⟩, .int .i64 p2, .int .i64 p3, .string ⟨x4.toArray⟩, .int .i64 x5] 60))
 have hsz := row_lt hX0
 clear hX0
 go_enter Tryz.func184, Tryz.ntmps184
 go_wp2_with fail
 generalize w.alloc (.cells #[.string ⟨p1.toArray⟩, .int .i64 p2, .int .i64 p3, .string ⟨x4.toArray⟩, .int .i64 x5] 60) = W0 at HX0 B0 hsz ⊢
 go_loopw [8] (fun i wr => ∃ k : Nat, k ≤ N ∧ i = .int .i64 k ∧ Hid (∀ j (h : j < l.length), j < k → decide (x1 = l[j]) = false) ∧ Hid (Below W0.heap.size W0 wr)) (fun i _ => N - (intOf i).toNat)
 case atStart => exact ⟨0, by omega, rfl, fun j _ h => absurd h (Nat.not_lt_zero _), Below.refl _ _⟩
 case round =>
  obtain ⟨k, hk, rfl, HNO, HB⟩ := hrel
  by_cases hkN : k < N
  ·have hkx : k < l.length := by rw [← HN.out]; exact hkN
   have hb := B0.out.trans (HB.out.mono B0.out.size)
   obtain ⟨g, o, rfl, lg, cg⟩ := HR.out wr hb |>.resolve_left (fun h => by rw [h] at hkx; simp at hkx)
   obtain ⟨y, hy⟩ : ∃ y, y = l[k] := ⟨_, rfl⟩
   have HY := Lib.hid hy
   have hy2 := cg k hkx
   rw [← hy] at hy2
   have q2 := HX0.out
   have hqy := HQ.out y
   rw [← HX1.out] at hqy
   obtain ⟨at1, hat⟩ : ∃ at1, at1 = decide (x1 = y) := ⟨_, rfl⟩
   rw [← hat] at hqy
   have HAT := Lib.hid hat
   clear hy cg hb hat
   obtain ⟨⟨y1, y2, y3⟩, y4, y5⟩ := y
   have hqy' : ∀ W, (binOp .eql 60 (.agg #[.string ⟨p1.toArray⟩, .int .i64 p2, .int .i64 p3, .string ⟨x4.toArray⟩, .int .i64 x5]) (.agg #[.string ⟨y1.toArray⟩, .int .i64 y2, .int .i64 y3, .string ⟨y4.toArray⟩, .int .i64 y5])).run Tryz.prog W = .ok (.bool at1) W := hqy
   have b0 := hy2 0 _ rfl
   have b1 := hy2 1 _ rfl
   have b2 := hy2 2 _ rfl
   have b3 := hy2 3 _ rfl
   have b4 := hy2 4 _ rfl
   have a0 := (HB.out.cell (p := ⟨w.heap.size, 0, none⟩) hsz).trans (q2 0 _ rfl)
   have a1 := (HB.out.cell (p := ⟨w.heap.size, 1, none⟩) hsz).trans (q2 1 _ rfl)
   have a2 := (HB.out.cell (p := ⟨w.heap.size, 2, none⟩) hsz).trans (q2 2 _ rfl)
   have a3 := (HB.out.cell (p := ⟨w.heap.size, 3, none⟩) hsz).trans (q2 3 _ rfl)
   have a4 := (HB.out.cell (p := ⟨w.heap.size, 4, none⟩) hsz).trans (q2 4 _ rfl)
   simp only [Nat.add_zero] at b0
   have hk0 : (0 : Int) ≤ (k : Nat) := by omega
   have hk1 : ((k : Nat) : Int) < (N : Nat) := by omega
   clear hy2 q2 hqy lg
   go_wp2_with fail
   go_quiet (fail)
   cases at1 with
   |true =>
    have HT : Hid (R = (k : Int)) := by
     have := HF.out k HNO.out (fun h => by rw [← HY.out]; exact HAT.out.symm)
     rw [if_pos hkx] at this
     exact this
    go_wp2_with fail
    go_ret
    rw [HT.out]
    exact ⟨rfl, below_drewN (B0.out.trans (HB.out.mono B0.out.size)) _⟩
   |false =>
    have HNX : Hid (∀ j (h : j < l.length), j < k + 1 → decide (x1 = l[j]) = false) := fun j hj hjk => by
     rcases Nat.lt_succ_iff_lt_or_eq.1 hjk with h | rfl
     ·exact HNO.out j hj h
     ·rw [← HY.out]; exact HAT.out.symm
    go_wp2_with fail
    go_roundw
    case rel => exact ⟨k + 1, by omega, by go_num, HNX.out, below_drewN HB.out _⟩
    case measure => simp [intOf]; omega
  ·obtain rfl : k = N := by omega
   have HT : Hid (R = -1) := by
    have := HF.out k HNO.out (fun h => by rw [← HN.out] at h; omega)
    rw [if_neg (by rw [← HN.out]; omega)] at this
    exact this
   go_wp2_with fail
   go_ret
   rw [HT.out]
   exact ⟨rfl, B0.out.trans (HB.out.mono B0.out.size)⟩
set_option maxHeartbeats 800000 in
theorem hasLine_any (A : Option Addr) (cap : Nat) (l : List LineV) (x : LineV) (w : World) (hrow : RowAt encLine 5 w A l) (hl : l.length ≤ 100000) :
  Calls Tryz.prog 123 #[.slice A l.length cap, .agg (encLine x).toArray] w fun e w' => e = .returned (.bool (decide (x ∈ l))) ∧ Below w.heap.size w w' := by
 have HX := Lib.hid (fun W (hb : Below w.heap.size w W) => indexLine_any A cap l x W (hrow.below hb) hl)
 have HA := Lib.hid (fndP_any (fun y => decide (x = y)) l)
 have HD : Hid (decide (x ∈ l) = l.any (fun y => decide (x = y))) := by
  show _ = _
  rw [Bool.eq_iff_iff, decide_eq_true_eq, List.any_eq_true]
  exact ⟨fun h => ⟨x, h, by simp⟩, fun ⟨y, h1, h2⟩ => by have := of_decide_eq_true h2; subst this; exact h1⟩
 rw [HD.out]
 generalize l.any (fun y => decide (x = y)) = r at HA ⊢
 generalize fndP (fun y => decide (x = y)) l = fi at HA HX
 clear hrow HD
 obtain ⟨⟨p1, p2, p3⟩, x4, x5⟩ := x
 simp only [encLine] at HX ⊢
 have h0 := heap_alloc_new w (.cells #[.string ⟨p1.toArray⟩, .int .i64 p2, .int .i64 p3, .string ⟨x4.toArray⟩, .int .i64 x5] 60)
 have HL0 : Hid (Lies _ _ _ _) := Lies.row [Value.string ⟨p1.toArray⟩, .int .i64 p2, .int .i64 p3, .string ⟨x4.toArray⟩, .int .i64 x5] h0
 have B0 := Lib.hid (below_one w (.cells #[.string ⟨p1.toArray⟩, .int .i64 p2, .int .i64 p3, .string ⟨x4.toArray⟩, .int .i64 x5] 60))
 have HX1 := Lib.hid (HX.out _ B0.out)
 clear h0 HX
 go_enter Tryz.func123, Tryz.ntmps123
 go_wp2_with (refine wpList_load_at rfl 60 _ rfl w.heap.size 0 rfl [.string ⟨p1.toArray⟩, .int .i64 p2, .int .i64 p3, .string ⟨x4.toArray⟩, .int .i64 x5] HL0.out _ Tryz.underlying60 rfl (by kernel_rfl) ?_)
 refine HX1.out.mono ?_
 rintro e w1 ⟨rfl, b1⟩
 have B1 := Lib.hid (B0.out.trans (b1.mono B0.out.size))
 rcases HA.out with ⟨rfl, rfl⟩ | ⟨i, rfl, rfl⟩
 ·clear b1 HA HX1
  go_wp2_with fail
  go_ret
  exact ⟨rfl, B1.out⟩
 ·have hp : (0 : Int) ≤ (i : Nat) := by omega
  clear b1 HA HX1
  go_wp2_with fail
  go_ret
  exact ⟨by simp, B1.out⟩
def notIn (m : List LineV) (x : LineV) : Bool := !decide (x ∈ m)
set_option maxHeartbeats 800000 in
/-- Is a line not in the sheet? -/
theorem alikes_any (A : Option Addr) (cap : Nat) (l : List LineV) (x : LineV) (b : Nat) (w : World) (hrow : RowAt encLine 5 w A l) (hl : l.length ≤ 100000) (h : w.cell? ⟨b, 0, none⟩ = some (.slice A l.length cap)) :
  Calls Tryz.prog 122 #[.agg (encLine x).toArray, .pointer (some ⟨b, 0, none⟩)] w fun e w' => e = .returned (.bool (notIn l x)) ∧ Below w.heap.size w w' := by
 unfold notIn
 have HX := Lib.hid (fun W (hb : Below w.heap.size w W) => hasLine_any A cap l x W (hrow.below hb) hl)
 have hb := lt_of_cell h
 simp only at hb
 generalize decide (x ∈ l) = r at HX ⊢
 generalize l.length = n at HX h
 clear hrow
 obtain ⟨⟨p1, p2, p3⟩, x4, x5⟩ := x
 simp only [encLine] at HX ⊢
 have h0 := heap_alloc_new w (.cells #[.string ⟨p1.toArray⟩, .int .i64 p2, .int .i64 p3, .string ⟨x4.toArray⟩, .int .i64 x5] 60)
 have HL0 : Hid (Lies _ _ _ _) := Lies.row [Value.string ⟨p1.toArray⟩, .int .i64 p2, .int .i64 p3, .string ⟨x4.toArray⟩, .int .i64 x5] h0
 have b0 := below_one w (.cells #[.string ⟨p1.toArray⟩, .int .i64 p2, .int .i64 p3, .string ⟨x4.toArray⟩, .int .i64 x5] 60)
 have h1 := (b0.cell hb).trans h
 have B0 := Lib.hid b0
 have HX1 := Lib.hid (HX.out _ B0.out)
 clear h0 HX h b0
 go_enter Tryz.func122, Tryz.ntmps122
 go_wp2_with (refine wpList_load_at rfl 60 _ rfl w.heap.size 0 rfl [.string ⟨p1.toArray⟩, .int .i64 p2, .int .i64 p3, .string ⟨x4.toArray⟩, .int .i64 x5] HL0.out _ Tryz.underlying60 rfl (by kernel_rfl) ?_)
 refine HX1.out.mono ?_
 rintro e w1 ⟨rfl, b1⟩
 have B1 := Lib.hid (B0.out.trans (b1.mono B0.out.size))
 clear b1 HX1
 go_wp2_with fail
 go_ret
 exact ⟨rfl, B1.out⟩
set_option maxHeartbeats 1600000 in
set_option maxRecDepth 100000 in
theorem idxAlike_any (A : Option Addr) (cap : Nat) (l : List LineV) (B : Option Addr) (bc : Nat) (m : List LineV) (b : Nat) (w : World) (hrow : RowAt encLine 5 w A l) (hl : l.length ≤ 100000) (hm : RowAt encLine 5 w B m) (hml : m.length ≤ 100000) (hb : w.cell? ⟨b, 0, none⟩ = some (.slice B m.length bc)) :
  Calls Tryz.prog 183 #[.slice A l.length cap, .func (.func 122) #[] #[.pointer (some ⟨b, 0, none⟩)]] w fun e w' => e = .returned (.int .i64 (fndP (notIn m) l)) ∧ Below w.heap.size w w' := by
 have HR := Lib.hid (fun W (h : Below w.heap.size w W) => hrow.below h)
 have HC := Lib.hid (fun y W (h : Below w.heap.size w W) => alikes_any B bc m y b W (hm.below h) hml ((h.cell (lt_of_cell hb)).trans hb))
 have HF := Lib.hid (fndP_step (notIn m) l)
 obtain ⟨N, hN⟩ : ∃ N, N = l.length := ⟨_, rfl⟩
 have HN := Lib.hid hN
 rw [← hN] at hl ⊢
 clear hrow hN hb hm
 generalize fndP (notIn m) l = R at HF ⊢
 go_enter Tryz.func183, Tryz.ntmps183
 go_wp2_with fail
 go_loopw [8] (fun i wr => ∃ k : Nat, k ≤ N ∧ i = .int .i64 k ∧ Hid (∀ j (h : j < l.length), j < k → notIn m l[j] = false) ∧ Hid (Below w.heap.size w wr)) (fun i _ => N - (intOf i).toNat)
 case atStart => exact ⟨0, by omega, rfl, fun j _ h => absurd h (Nat.not_lt_zero _), Below.refl _ _⟩
 case round =>
  obtain ⟨k, hk, rfl, HNO, HB⟩ := hrel
  by_cases hkN : k < N
  ·have hkx : k < l.length := by rw [← HN.out]; exact hkN
   obtain ⟨g, o, rfl, lg, cg⟩ := HR.out w (Below.refl _ _) |>.resolve_left (fun h => by rw [h] at hkx; simp at hkx)
   obtain ⟨y, hy⟩ : ∃ y, y = l[k] := ⟨_, rfl⟩
   have hlies : Lies wr g (o + k * 5) (encLine y) := fun j v hv =>
    (HB.out.cell (p := ⟨g, o + k * 5 + j, none⟩) lg).trans (cg k hkx j v (by rw [← hy]; exact hv))
   have HY := Lib.hid hy
   have HL := Lib.hid hlies
   have HCY := Lib.hid (HC.out y)
   have h5 : (encLine y).length = 5 := rfl
   clear hy cg hlies HC
   obtain ⟨LY, hLY⟩ : ∃ LY, LY = encLine y := ⟨_, rfl⟩
   rw [← hLY] at HCY HL h5
   clear hLY
   obtain ⟨at1, hat⟩ : ∃ at1, at1 = notIn m y := ⟨_, rfl⟩
   rw [← hat] at HCY
   have HAT := Lib.hid hat
   clear hat
   go_wp2_with (refine wpList_load_at rfl 60 _ rfl g (o + k * 5) rfl LY HL.out _ Tryz.underlying60 rfl (by rw [h5]; kernel_rfl) ?_)
   refine (HCY.out wr HB.out).mono ?_
   rintro e w1 ⟨rfl, b1⟩
   have B1 := Lib.hid (HB.out.trans (b1.mono HB.out.size))
   clear b1
   cases at1 with
   |true =>
    have HT : Hid (R = (k : Int)) := by
     have := HF.out k HNO.out (fun h => by rw [← HY.out]; exact HAT.out.symm)
     rw [if_pos hkx] at this
     exact this
    go_wp2_with fail
    go_ret
    rw [HT.out]
    exact ⟨rfl, B1.out⟩
   |false =>
    have HNX : Hid (∀ j (h : j < l.length), j < k + 1 → notIn m l[j] = false) := fun j hj hjk => by
     rcases Nat.lt_succ_iff_lt_or_eq.1 hjk with h | rfl
     ·exact HNO.out j hj h
     ·rw [← HY.out]; exact HAT.out.symm
    go_wp2_with fail
    go_roundw
    case rel => exact ⟨k + 1, by omega, by go_num, HNX.out, B1.out⟩
    case measure => simp [intOf]; omega
  ·obtain rfl : k = N := by omega
   have HT : Hid (R = -1) := by
    have := HF.out k HNO.out (fun h => by rw [← HN.out] at h; omega)
    rw [if_neg (by rw [← HN.out]; omega)] at this
    exact this
   go_wp2_with fail
   go_ret
   rw [HT.out]
   exact ⟨rfl, HB.out⟩
set_option maxHeartbeats 800000 in
theorem containsAlike_any (A : Option Addr) (cap : Nat) (l : List LineV) (B : Option Addr) (bc : Nat) (m : List LineV) (b : Nat) (w : World) (hrow : RowAt encLine 5 w A l) (hl : l.length ≤ 100000) (hm : RowAt encLine 5 w B m) (hml : m.length ≤ 100000) (hb : w.cell? ⟨b, 0, none⟩ = some (.slice B m.length bc)) :
  Calls Tryz.prog 121 #[.slice A l.length cap, .func (.func 122) #[] #[.pointer (some ⟨b, 0, none⟩)]] w fun e w' => e = .returned (.bool (l.any (notIn m))) ∧ Below w.heap.size w w' := by
 have HX := Lib.hid (idxAlike_any A cap l B bc m b w hrow hl hm hml hb)
 have HA := Lib.hid (fndP_any (notIn m) l)
 generalize l.any (notIn m) = r at HA ⊢
 generalize fndP (notIn m) l = fi at HA HX
 clear hrow hb hm
 go_enter Tryz.func121, Tryz.ntmps121
 go_wp2_with fail
 refine HX.out.mono ?_
 rintro e w1 ⟨rfl, b1⟩
 have B1 := Lib.hid b1
 rcases HA.out with ⟨rfl, rfl⟩ | ⟨i, rfl, rfl⟩
 ·clear b1 HX HA
  go_wp2_with fail
  go_ret
  exact ⟨rfl, B1.out⟩
 ·have hp : (0 : Int) ≤ (i : Nat) := by omega
  clear b1 HX HA
  go_wp2_with fail
  go_ret
  exact ⟨by simp, B1.out⟩
theorem alike_notIn (a m : List LineV) : alikeL a m = (decide (a.length = m.length) && !(a.any (notIn m))) := by
 unfold alikeL
 congr 1
 rw [Bool.eq_iff_iff, List.all_eq_true, Bool.not_eq_true', List.any_eq_false]
 exact forall_congr' fun x => forall_congr' fun _ => by simp [notIn]
set_option maxHeartbeats 800000 in
set_option maxRecDepth 100000 in
theorem alike_any (A B : Option Addr) (cap bc : Nat) (l m : List LineV) (w : World) (hrow : RowAt encLine 5 w A l) (hl : l.length ≤ 100000) (hm : RowAt encLine 5 w B m) (hml : m.length ≤ 100000) :
  Calls Tryz.prog 55 #[.slice A l.length cap, .slice B m.length bc] w fun e w' => e = .returned (.bool (alikeL l m)) ∧ Below w.heap.size w w' := by
 have hmf : ∀ (fn : Fn) (first cap : Array Value) (w : World), (Instr.makeFunc fn first cap).run Tryz.prog w = .ok (.func fn first cap) w := fun _ _ _ _ => rfl
 have h0 : (w.alloc (.cells #[.slice B m.length bc] 33)).cell? ⟨w.heap.size, 0, none⟩ = some (.slice B m.length bc) := (cell_of_row _ _ _ _ _ _ (heap_alloc_new w (.cells #[.slice B m.length bc] 33))).trans rfl
 have b0 := below_one w (.cells #[.slice B m.length bc] 33)
 have HC := Lib.hid (containsAlike_any A cap l B bc m w.heap.size _ (hrow.below b0) hl (hm.below b0) hml h0)
 have HR := Lib.hid (alike_notIn l m)
 have B0 := Lib.hid b0
 generalize alikeL l m = r at HR ⊢
 generalize l.any (notIn m) = q at HR HC
 clear hrow hm b0
 generalize m.length = M at h0 HC HR hml B0 ⊢
 generalize l.length = N at HC HR hl ⊢
 by_cases he : N = M
 ·rw [decide_eq_true he, Bool.true_and] at HR
  subst he
  go_enter Tryz.func55, Tryz.ntmps55
  go_wp2_with fail
  refine HC.out.mono ?_
  rintro e w1 ⟨rfl, b1⟩
  have B1 := Lib.hid (B0.out.trans (b1.mono B0.out.size))
  clear b1 HC
  go_wp2_with fail
  go_ret
  rw [HR.out]
  exact ⟨rfl, B1.out⟩
 ·rw [decide_eq_false he, Bool.false_and] at HR
  have hn : ((N : Nat) : Int) ≠ (M : Nat) := by omega
  have hn2 : (((N : Nat) : Int) == (M : Nat)) = false := by simpa using hn
  clear HC
  go_enter Tryz.func55, Tryz.ntmps55
  go_wp2_with fail
  go_ret
  rw [HR.out]
  exact ⟨rfl, B0.out⟩
end Go.Proofs.YtchiojiicehpeaaGreatDoor
namespace Go.Proofs.YtchiojiicehpeaaGreatDoor
open Go.RowKit Go.Sort Go.Proofs
structure TaskW (w : World) (p g cap N : Nat) (cs : List TaskC) : Prop where
 tm : TaskM w p (.slice (some ⟨g, 0, none⟩) N cap) cs
 n : cs.length = N
 row : ∃ L : List Value, w.heap[g]? = some (.cells L.toArray 39 (0, 0)) ∧ N * 5 ≤ L.length
 pg : p ≠ g
 apart : ∀ d ∈ cs, ∀ a, d.2.1 = some a → d.1.2.2.2.2 ≠ [] → a.block ≠ g
theorem TaskW.of {w : World} {p g cap : Nat} {cs : List TaskC} {F : List Nat} (h : TaskM w p (.slice (some ⟨g, 0, none⟩) cs.length cap) cs) (hF : F = p :: blockL (.slice (some ⟨g, 0, none⟩) cs.length cap)) (hnd : F.Nodup) (hR : ∀ k ∈ sheetsL cs, k ∉ F ∧ k < w.heap.size) (_ : 0 < cs.length) : TaskW w p g cap cs.length cs := by
 subst hF
 refine ⟨h, rfl, ?_, fun e => (List.nodup_cons.1 hnd).1 (by rw [e]; exact blockL_mem rfl), fun d hd a ha hn e => (hR _ (mem_sheets hd ha hn)).1 (List.mem_cons_of_mem _ (by rw [e]; exact blockL_mem rfl))⟩
 obtain ⟨L, h1, h2⟩ := own_block h.own
 exact ⟨L, h1, h2⟩
theorem TaskW.below {w w' : World} {p g cap N : Nat} {cs : List TaskC} (h : TaskW w p g cap N cs) (hR : ∀ k ∈ sheetsL cs, k < w.heap.size) (hb : Below w.heap.size w w') : TaskW w' p g cap N cs := by
 obtain ⟨L, hL, hl⟩ := h.row
 refine ⟨h.tm.keep (hb.block p (row_lt h.tm.box)) (fun k hk => hb.block k (h.tm.own.lt k (blockL_own hk)).2) (fun k hk => hb.block k (hR k hk)) hb.size, h.n, ⟨L, (hb.block g (row_lt hL)).trans hL, hl⟩, h.pg, h.apart⟩
theorem TaskW.step {w w' : World} {p g cap N : Nat} {cs : List TaskC} (h : TaskW w p g cap N cs) {L : List Value} (hL : w.heap[g]? = some (.cells L.toArray 39 (0, 0))) (hl : N * 5 ≤ L.length) {m c : Nat} (hm : m < N) (hc : c < 5) {u : Value} (hw : w'.heap[g]? = some (.cells (L.take (m * 5 + c) ++ [u] ++ L.drop (m * 5 + c + 1)).toArray 39 (0, 0))) (ht : Turned g w w')
  {x : TaskC} (hx : cs[m]? = some x) {y : TaskC} (hy : encTask y = (encTask x).take c ++ [u] ++ (encTask x).drop (c + 1)) (hys : RowAt encLine 5 w' y.2.1 y.1.2.2.2.2) (hyb : ∀ a, y.2.1 = some a → y.1.2.2.2.2 ≠ [] → a.block ≠ g) (hyr : y.1.2.2.2.2.length ≤ y.2.2) : TaskW w' p g cap N (cs.set m y) := by
 obtain ⟨hk, hx⟩ := List.getElem?_eq_some_iff.1 hx
 subst hx
 obtain ⟨htm, hn, -, hpg, hap⟩ := h
 subst hn
 refine ⟨htm.turn hL hm hc hw ht hpg hap hy hys hyr, by rw [List.length_set], ⟨_, hw, ?_⟩, hpg, fun d hd a ha hne => ?_⟩
 ·simp
  omega
 ·rcases List.mem_or_eq_of_mem_set hd with hd | rfl
  ·exact hap d hd a ha hne
  ·exact hyb a ha hne
theorem sheets_sub {cs : List TaskC} {m : Nat} {y : TaskC} {k : Nat} (h : k ∈ sheetsL (cs.set m y)) : k ∈ sheetsL cs ∨ (y.1.2.2.2.2 ≠ [] ∧ ∃ a, y.2.1 = some a ∧ a.block = k) := by
 unfold sheetsL at h ⊢
 obtain ⟨d, hd, e⟩ := List.mem_filterMap.1 h
 rcases List.mem_or_eq_of_mem_set hd with hd | rfl
 ·exact .inl (List.mem_filterMap.2 ⟨d, hd, e⟩)
 ·split at e
  ·cases e
  ·rename_i hn
   cases ha : d.2.1 with
   |none => rw [ha] at e; cases e
   |some a =>
    rw [ha] at e
    exact .inr ⟨hn, a, rfl, by simpa using e⟩
theorem TaskW.is {w : World} {p g cap N : Nat} {cs : List TaskC} (h : TaskW w p g cap N cs) {n : Nat} (hn : n = N) (hR : ∀ k ∈ sheetsL cs, k ∉ p :: blockL (.slice (some ⟨g, 0, none⟩) n cap) ∧ k < w.heap.size) : TaskIs w p (p :: blockL (.slice (some ⟨g, 0, none⟩) n cap)) (sheetsL cs) (cs.map (·.1)) := by
 subst hn
 exact ⟨_, cs, rfl, h.tm, rfl, List.nodup_cons.2 ⟨fun e => h.pg (by simpa [blockL, Value.ownBlock] using e), by simp [blockL, Value.ownBlock]⟩, rfl, hR⟩
theorem map_setX (cs : List TaskC) (m : Nat) {x : TaskC} (hx : cs[m]? = some x) (y : TaskC) (f : TaskV → TaskV) (h : y.1 = f x.1) : (cs.set m y).map (·.1) = setT (cs.map (·.1)) (m : Int) f := by
 obtain ⟨hk, rfl⟩ := List.getElem?_eq_some_iff.1 hx
 exact map_setT cs m hk y f h
theorem rowKeep {w w' : World} {A : Option Addr} {xs : List LineV} {b : Nat} (h : RowAt encLine 5 w A xs) (ht : Turned b w w') (hA : ∀ a, A = some a → xs ≠ [] → a.block ≠ b) : RowAt encLine 5 w' A xs := by
 by_cases hx : xs = []
 ·exact .inl hx
 ·exact RowAt.keepT h ht fun a ha => hA a ha hx
theorem TaskW.str {w w' : World} {p g cap N : Nat} {cs : List TaskC} (h : TaskW w p g cap N cs) {L : List Value} (hL : w.heap[g]? = some (.cells L.toArray 39 (0, 0))) (hl : N * 5 ≤ L.length) {m c : Nat} (hm : m < N) (hc : c < 5) {u : Value} (hw : w'.heap[g]? = some (.cells (L.take (m * 5 + c) ++ [u] ++ L.drop (m * 5 + c + 1)).toArray 39 (0, 0))) (ht : Turned g w w')
  {x : TaskC} (hx : cs[m]? = some x) (y : TaskC) (hy : encTask y = (encTask x).take c ++ [u] ++ (encTask x).drop (c + 1)) (h2 : y.2 = x.2) (hs : y.1.2.2.2.2 = x.1.2.2.2.2) : TaskW w' p g cap N (cs.set m y) := by
 obtain ⟨hk, hx'⟩ := List.getElem?_eq_some_iff.1 hx
 have hmem : x ∈ cs := hx' ▸ List.getElem_mem hk
 refine h.step hL hl hm hc hw ht hx hy ?_ ?_ (by rw [h2, hs]; exact h.tm.room x hmem)
 ·rw [h2, hs]
  exact rowKeep (h.tm.sheet x hmem) ht fun a ha hn => h.apart x hmem a ha hn
 ·rw [h2, hs]
  exact h.apart x hmem
theorem TaskW.str2 {w w' : World} {p g cap N : Nat} {cs : List TaskC} {m : Nat} {x : TaskC} (h : TaskW w p g cap N (cs.set m x)) {L : List Value} (hL : w.heap[g]? = some (.cells L.toArray 39 (0, 0))) (hl : N * 5 ≤ L.length) {c : Nat} (hm : m < N) (hc : c < 5) {u : Value} (hw : w'.heap[g]? = some (.cells (L.take (m * 5 + c) ++ [u] ++ L.drop (m * 5 + c + 1)).toArray 39 (0, 0))) (ht : Turned g w w')
  (y : TaskC) (hy : encTask y = (encTask x).take c ++ [u] ++ (encTask x).drop (c + 1)) (h2 : y.2 = x.2) (hs : y.1.2.2.2.2 = x.1.2.2.2.2) : TaskW w' p g cap N (cs.set m y) := by
 have hn := h.n
 rw [List.length_set] at hn
 have := h.str hL hl hm hc hw ht (List.getElem?_set_self (by omega)) y hy h2 hs
 rwa [List.set_set] at this
theorem TaskW.sheet2 {w w' : World} {p g cap N : Nat} {cs : List TaskC} {m : Nat} {x : TaskC} (h : TaskW w p g cap N (cs.set m x)) {L : List Value} (hL : w.heap[g]? = some (.cells L.toArray 39 (0, 0))) (hl : N * 5 ≤ L.length) (hm : m < N) {u : Value} (hw : w'.heap[g]? = some (.cells (L.take (m * 5 + 4) ++ [u] ++ L.drop (m * 5 + 4 + 1)).toArray 39 (0, 0))) (ht : Turned g w w')
  (y : TaskC) (hy : encTask y = (encTask x).take 4 ++ [u] ++ (encTask x).drop (4 + 1)) (hs : RowAt encLine 5 w y.2.1 y.1.2.2.2.2) (ha : ∀ a, y.2.1 = some a → a.block ≠ g) (hyr : y.1.2.2.2.2.length ≤ y.2.2) : TaskW w' p g cap N (cs.set m y) := by
 have hn := h.n
 rw [List.length_set] at hn
 have := h.step hL hl hm (by decide) hw ht (List.getElem?_set_self (by omega)) hy (rowKeep hs ht fun a e _ => ha a e) (fun a e _ => ha a e) hyr
 rwa [List.set_set] at this
theorem TaskW.ends {w w' : World} {p g cap N m : Nat} {cs : List TaskC} {x y : TaskC} {F : List Nat} (h : TaskW w' p g cap N (cs.set m y)) (hF : F = p :: blockL (.slice (some ⟨g, 0, none⟩) N cap)) (hx : cs[m]? = some x) (hR : ∀ k ∈ sheetsL cs, k ∉ F ∧ k < w.heap.size) (hle : w.heap.size ≤ w'.heap.size) (hFl : ∀ k ∈ F, k < w.heap.size) (f : TaskV → TaskV) (hf : y.1 = f x.1)
  (hy : (y.2.1 = x.2.1 ∧ y.1.2.2.2.2 = x.1.2.2.2.2) ∨ ∀ a, y.2.1 = some a → w.heap.size ≤ a.block) : ∃ R', TaskIs w' p F R' (setT (cs.map (·.1)) (m : Int) f) ∧ ∀ i ∈ R', i ∈ sheetsL cs ∨ w.heap.size ≤ i := by
 obtain ⟨hk, hx'⟩ := List.getElem?_eq_some_iff.1 hx
 have hmem : x ∈ cs := hx' ▸ List.getElem_mem hk
 have hnew : ∀ k ∈ sheetsL (cs.set m y), k ∈ sheetsL cs ∨ (w.heap.size ≤ k ∧ k < w'.heap.size) := fun k hk => by
  rcases sheets_sub hk with h1 | ⟨h1, a, h2, rfl⟩
  ·exact .inl h1
  ·rcases hy with ⟨h3, h4⟩ | h3
   ·exact .inl (mem_sheets hmem (by rw [← h3]; exact h2) (by rw [← h4]; exact h1))
   ·refine .inr ⟨h3 a h2, ?_⟩
    have hym : y ∈ cs.set m y := List.mem_iff_getElem?.2 ⟨m, List.getElem?_set_self (by assumption)⟩
    rcases h.tm.sheet y hym with e | ⟨b, o, e, hb, -⟩
    ·exact absurd e h1
    ·rw [h2] at e
     cases e
     exact hb
 have := h.is (n := N) rfl (fun k hk => ?_)
 ·rw [map_setX cs m hx y f hf, ← hF] at this
  exact ⟨_, this, fun k hk => (hnew k hk).imp id fun h => h.1⟩
 ·rw [← hF]
  rcases hnew k hk with h1 | ⟨h1, h2⟩
  ·exact ⟨(hR k h1).1, Nat.lt_of_lt_of_le (hR k h1).2 hle⟩
  ·exact ⟨fun e => by have := hFl k e; omega, h2⟩
def FltC (E : Nat → Addr) (f : Option (Nat × Option Nat)) (v : Value) (w : World) : Prop :=
 match f with
 |none => v = .nilIface
 |some (c, none) => v = errOf E c
 |some (c, some i) => FltAt E (some (c, i)) v w
end Go.Proofs.YtchiojiicehpeaaGreatDoor
