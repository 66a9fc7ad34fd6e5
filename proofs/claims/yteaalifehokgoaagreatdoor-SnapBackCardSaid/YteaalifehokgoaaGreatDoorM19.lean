/- The book, plainly: what its maps answer behind an entry. No program in sight. The program's book: set, and what reads it. entry.formOf, walked. Equal entries. Entries: Check. The program's book: newGoods, newLot. -/
import Derived.Laws.StructEq
import Derived.Test.YteaalifehokgoaaGreatDoorM05
import Derived.Test.YteaalifehokgoaaGreatDoorM15
import Derived.Test.YteaalifehokgoaaGreatDoorM16
import Derived.Test.YteaalifehokgoaaGreatDoorM18
namespace Go.Proofs.YteaalifehokgoaaGreatDoor
open Go.RowKit Go.Sort Go.Proofs
section
variable {B : BkV} (h : BkI B)
include h
theorem BkI.fG_ins {g : GoodsV} (hn : fG B g.1 = none) (c : List UInt8) : fG (insG (g, zeroSums) B.1, B.2.1, B.2.2) c = if g.1 = c then some (g, zeroSums) else fG B c := find_insK (fun y : GoS => y.1.1) (g, zeroSums) h.gs (fG_none hn) c
theorem BkI.fL_ins {l : LotV} (hn : fL B l.1 = none) (c : List UInt8) : fL (B.1, insLo (l, 0) B.2.1, B.2.2) c = if l.1 = c then some (l, 0) else fL B c := find_insK (fun y : LoH => y.1.1) (l, 0) h.ls (fL_none hn) c
theorem BkI.goodsF_ins {g : GoodsV} (hn : fG B g.1 = none) (c : List UInt8) : (if c = g.1 then some g else goodsF B c) = goodsF (insG (g, zeroSums) B.1, B.2.1, B.2.2) c := by
 unfold goodsF
 rw [h.fG_ins hn]
 by_cases hc : c = g.1
 ·rw [if_pos hc, if_pos hc.symm]; rfl
 ·rw [if_neg hc, if_neg (Ne.symm hc)]
theorem BkI.sumsF_ins {g : GoodsV} (hn : fG B g.1 = none) (c : List UInt8) : sumsF B c = sumsF (insG (g, zeroSums) B.1, B.2.1, B.2.2) c := by
 have e : sumsOf B c = sumsOf (insG (g, zeroSums) B.1, B.2.1, B.2.2) c := by
  unfold sumsOf
  rw [h.fG_ins hn]
  by_cases hc : g.1 = c
  ·rw [if_pos hc, ← hc, hn]
  ·rw [if_neg hc]
 unfold sumsF
 rw [e]
theorem BkI.lotsF_ins {l : LotV} (hn : fL B l.1 = none) (c : List UInt8) : (if c = l.1 then some l else lotsF B c) = lotsF (B.1, insLo (l, 0) B.2.1, B.2.2) c := by
 unfold lotsF
 rw [h.fL_ins hn]
 by_cases hc : c = l.1
 ·rw [if_pos hc, if_pos hc.symm]; rfl
 ·rw [if_neg hc, if_neg (Ne.symm hc)]
theorem BkI.heldF_ins {l : LotV} (hn : fL B l.1 = none) (c : List UInt8) : heldF B c = heldF (B.1, insLo (l, 0) B.2.1, B.2.2) c := by
 have e : heldOf B c = heldOf (B.1, insLo (l, 0) B.2.1, B.2.2) c := by
  unfold heldOf
  rw [h.fL_ins hn]
  by_cases hc : l.1 = c
  ·rw [if_pos hc, ← hc, hn]
  ·rw [if_neg hc]
 unfold heldF
 rw [e]
end
theorem fG_doP (B : BkV) (x : EntV) (c : List UInt8) : fG (doP B x) c = (fG B c).map fun z => if z.1.1 = codeLo B x.2.2.1.1 then (z.1, summ (sumsOf B (codeLo B x.2.2.1.1)) x) else z :=
 find_map (fun z : GoS => z.1.1) (fun z => by rw [setG_fst]) c
theorem fL_doP (B : BkV) (x : EntV) (c : List UInt8) : fL (doP B x) c = (fL B c).map fun z => if z.1.1 = x.2.2.1.1 then (z.1, (heldN (heldOf B x.2.2.1.1) x).toNat) else z :=
 find_map (fun z : LoH => z.1.1) (fun z => by rw [setLo_fst]) c
theorem goodsF_doP (B : BkV) (x : EntV) (c : List UInt8) : goodsF B c = goodsF (doP B x) c := by
 unfold goodsF
 rw [fG_doP]
 cases fG B c with
 |none => rfl
 |some z => simp only [Option.map_some, setG_fst]
theorem lotsF_doP (B : BkV) (x : EntV) (c : List UInt8) : lotsF B c = lotsF (doP B x) c := by
 unfold lotsF
 rw [fL_doP]
 cases fL B c with
 |none => rfl
 |some z => simp only [Option.map_some, setLo_fst]
theorem heldOf_doP {B : BkV} {x : EntV} {y : LoH} (hf : fL B x.2.2.1.1 = some y) (c : List UInt8) : heldOf (doP B x) c = if c = x.2.2.1.1 then (heldN (heldOf B x.2.2.1.1) x).toNat else heldOf B c := by
 conv => lhs; unfold heldOf
 rw [fL_doP]
 by_cases hc : c = x.2.2.1.1
 ·rw [if_pos hc, hc, hf]
  simp only [Option.map_some]
  rw [if_pos (fL_mem hf).2]
 ·rw [if_neg hc]
  unfold heldOf
  cases hz : fL B c with
  |none => rfl
  |some z =>
   simp only [Option.map_some]
   rw [if_neg (by rw [(fL_mem hz).2]; exact hc)]
theorem sumsOf_doP {B : BkV} {x : EntV} {g : GoS} (hf : fG B (codeLo B x.2.2.1.1) = some g) (c : List UInt8) : sumsOf (doP B x) c = if c = codeLo B x.2.2.1.1 then summ (sumsOf B (codeLo B x.2.2.1.1)) x else sumsOf B c := by
 conv => lhs; unfold sumsOf
 rw [fG_doP]
 by_cases hc : c = codeLo B x.2.2.1.1
 ·rw [if_pos hc, hc, hf]
  simp only [Option.map_some]
  rw [if_pos (fG_mem hf).2]
 ·rw [if_neg hc]
  unfold sumsOf
  cases hz : fG B c with
  |none => rfl
  |some z =>
   simp only [Option.map_some]
   rw [if_neg (by rw [(fG_mem hz).2]; exact hc)]
theorem heldF_doP {B : BkV} {x : EntV} {y : LoH} (hf : fL B x.2.2.1.1 = some y) (c : List UInt8) :
  (if c = x.2.2.1.1 then (if (heldN (heldOf B x.2.2.1.1) x).toNat = 0 then none else some (heldN (heldOf B x.2.2.1.1) x).toNat) else heldF B c) = heldF (doP B x) c := by
 unfold heldF
 rw [heldOf_doP hf]
 by_cases hc : c = x.2.2.1.1
 ·rw [if_pos hc, if_pos hc]
 ·rw [if_neg hc, if_neg hc]
theorem sumsF_doP {B : BkV} {x : EntV} {g : GoS} (hf : fG B (codeLo B x.2.2.1.1) = some g) (c : List UInt8) :
  (if c = codeLo B x.2.2.1.1 then (if summ (sumsOf B (codeLo B x.2.2.1.1)) x = zeroSums then none else some (summ (sumsOf B (codeLo B x.2.2.1.1)) x)) else sumsF B c) = sumsF (doP B x) c := by
 unfold sumsF
 rw [sumsOf_doP hf]
 by_cases hc : c = codeLo B x.2.2.1.1
 ·rw [if_pos hc, if_pos hc]
 ·rw [if_neg hc, if_neg hc]
theorem BkI.lot_goods {B : BkV} (h : BkI B) {id : List UInt8} {y : LoH} (hf : fL B id = some y) : codeLo B id = y.1.2.1 ∧ heldOf B id = y.2 ∧ ∃ g, fG B y.1.2.1 = some g ∧ sumsOf B y.1.2.1 = g.2 ∧ OkS g.2 := by
 obtain ⟨hy, hi⟩ := fL_mem hf
 obtain ⟨-, -, hgs⟩ := h.lok y hy
 obtain ⟨g, hg⟩ := Option.isSome_iff_exists.1 hgs
 exact ⟨by unfold codeLo; rw [hf], by unfold heldOf; rw [hf], g, hg, by unfold sumsOf; rw [hg], (h.gok g (fG_mem hg).1).2⟩
theorem map_count {ν : Type} {m : List (List UInt8 × ν)} (hn : (m.map (·.1)).Nodup) {f : List UInt8 → Option ν} (hf : ∀ k, mget m k = f k) {α : Type} (key : α → List UInt8) (val : α → ν) {l : List α} (hs : l.Pairwise fun x y => ltB (key x) (key y) = true)
  (he : ∀ k, f k = (l.find? fun x => decide (key x = k)).map val) : m.Perm (l.map fun x => (key x, val x)) := by
 refine perm_mget hn ?_ fun k => ?_
 ·rw [List.map_map]
  have : ((l.map ((fun x : List UInt8 × ν => x.1) ∘ fun x => (key x, val x)))) = l.map key := rfl
  rw [this, List.Nodup, List.pairwise_map]
  exact hs.imp fun h => ltB_ne h
 ·rw [hf, he, mget_find]
end Go.Proofs.YteaalifehokgoaaGreatDoor
namespace Go.Proofs.YteaalifehokgoaaGreatDoor
open Go.RowKit Go.Sort Go.Proofs
theorem zeroIntE (w : World) : (zeroValue 3).run Tryz.prog w = .ok (eNat 0) w := by kernel_rfl
theorem BookM.cells {w : World} {p g l h s q c : Nat} {B : BkV} (H : BookM w p g l h s q c B) : (w.cell? ⟨p, 0, none⟩ = some (.map (some g)) ∧ w.cell? ⟨p, 1, none⟩ = some (.map (some l)) ∧ w.cell? ⟨p, 2, none⟩ = some (.map (some h)) ∧ w.cell? ⟨p, 3, none⟩ = some (.map (some s)) ∧ w.cell? ⟨p, 4, none⟩ = some (.pointer (some ⟨q, 0, none⟩))) ∧
  w.frozen? ⟨p, 0, none⟩ = false ∧ w.frozen? ⟨p, 1, none⟩ = false ∧ w.frozen? ⟨p, 2, none⟩ = false ∧ w.frozen? ⟨p, 3, none⟩ = false ∧ w.frozen? ⟨p, 4, none⟩ = false := row5f H.own
set_option maxHeartbeats 400000 in
set_option maxRecDepth 100000 in
theorem setHeld_any (p h : Nat) (id : List UInt8) (n : Nat) (f : List UInt8 → Option Nat) (w : World) (c0 : w.cell? ⟨p, 2, none⟩ = some (.map (some h))) (hf : MapF eNat w h f) :
  Calls Tryz.prog 100 #[.pointer (some ⟨p, 0, none⟩), .string ⟨id.toArray⟩, .int .i64 (n : Nat)] w fun e w' => e = .returned (.tuple #[]) ∧ MapF eNat w' h (fun i => if i = id then (if n = 0 then none else some n) else f i) ∧ Turned h w w' := by
 obtain ⟨f', hf'⟩ : ∃ f' : List UInt8 → Option Nat, f' = fun i => if i = id then (if n = 0 then none else some n) else f i := ⟨_, rfl⟩
 rw [← hf']
 have HF' := Lib.hid hf'
 clear hf'
 obtain ⟨w1, h1, h2, h3⟩ := hf.drop (P := Tryz.prog) (t := 104) (kt := 9) (by kernel_rfl) Tryz.underlying104 id
 obtain ⟨w2, h4, h5, h6⟩ := hf.store (P := Tryz.prog) (t := 104) (kt := 9) (by kernel_rfl) Tryz.underlying104 id n
 have H2 := Lib.hid h2
 have H3 := Lib.hid h3
 have H5 := Lib.hid h5
 have H6 := Lib.hid h6
 simp only [eNat] at h4
 clear hf h2 h3 h5 h6
 by_cases hn : n = 0
 ·have HN := Lib.hid hn
  have hz : ((n : Nat) : Int) = 0 := by omega
  clear hn
  go_enter Tryz.func100, Tryz.ntmps100
  go_wp2_with fail
  refine bodyPost_end (results_none rfl _ _ _) rfl ?_
  refine ⟨rfl, ?_, H3.out⟩
  refine H2.out.congr fun i => ?_
  rw [HF'.out]
  simp only [if_pos HN.out]
 ·have HN := Lib.hid hn
  have hz : ¬ ((n : Nat) : Int) = 0 := by omega
  clear hn
  go_enter Tryz.func100, Tryz.ntmps100
  go_wp2_with fail
  refine bodyPost_end (results_none rfl _ _ _) rfl ?_
  refine ⟨rfl, ?_, H6.out⟩
  refine H5.out.congr fun i => ?_
  rw [HF'.out]
  simp only [if_neg HN.out]
end Go.Proofs.YteaalifehokgoaaGreatDoor
namespace Go.Proofs.YteaalifehokgoaaGreatDoor
open Go.RowKit Go.Sort Go.Proofs
theorem kind_cases (k : List UInt8) : k = kIn ∨ k = kMore ∨ k = kOut ∨ k = kLess ∨ k = kMove ∨ k = kHold ∨ k = kFree ∨
  ((k == [105, 110]) = false ∧ (k == [109, 111, 114, 101]) = false ∧ (k == [111, 117, 116]) = false ∧ (k == [108, 101, 115, 115]) = false ∧ (k == [109, 111, 118, 101]) = false ∧ (k == [104, 111, 108, 100]) = false ∧ (k == [102, 114, 101, 101]) = false ∧ hasF k = false ∧ hasT k = false ∧ isP k = false) := by
 by_cases h1 : k = kIn
 ·exact .inl h1
 by_cases h2 : k = kMore
 ·exact .inr (.inl h2)
 by_cases h3 : k = kOut
 ·exact .inr (.inr (.inl h3))
 by_cases h4 : k = kLess
 ·exact .inr (.inr (.inr (.inl h4)))
 by_cases h5 : k = kMove
 ·exact .inr (.inr (.inr (.inr (.inl h5))))
 by_cases h6 : k = kHold
 ·exact .inr (.inr (.inr (.inr (.inr (.inl h6)))))
 by_cases h7 : k = kFree
 ·exact .inr (.inr (.inr (.inr (.inr (.inr (.inl h7))))))
 refine .inr (.inr (.inr (.inr (.inr (.inr (.inr ⟨?_, ?_, ?_, ?_, ?_, ?_, ?_, ?_, ?_, ?_⟩))))))
 ·exact beq_eq_false_iff_ne.2 h1
 ·exact beq_eq_false_iff_ne.2 h2
 ·exact beq_eq_false_iff_ne.2 h3
 ·exact beq_eq_false_iff_ne.2 h4
 ·exact beq_eq_false_iff_ne.2 h5
 ·exact beq_eq_false_iff_ne.2 h6
 ·exact beq_eq_false_iff_ne.2 h7
 ·unfold hasF; simp [h3, h4, h5]
 ·unfold hasT; simp [h1, h2, h5]
 ·unfold isP; simp [h1, h2, h3, h4, h5, h6, h7]
set_option maxHeartbeats 1600000 in
theorem formOf_any (k : List UInt8) (w : World) : Calls Tryz.prog 92 #[.string ⟨k.toArray⟩] w fun e w' => e = .returned (.agg #[.bool (hasF k), .bool (hasT k), .bool (isP k)]) ∧ Below w.heap.size w w' := by
 rcases kind_cases k with rfl | rfl | rfl | rfl | rfl | rfl | rfl | ⟨h1, h2, h3, h4, h5, h6, h7, e1, e2, e3⟩
 case' inr.inr.inr.inr.inr.inr.inr =>
  rw [e1, e2, e3]
  clear e1 e2 e3
 all_goals
  go_enter Tryz.func92, Tryz.ntmps92
  go_wp2
  (try simp only [Exit.inBlock, Exit.then])
  refine bodyPost_ret (results_cell_row rfl _ _ w.heap.size 165 _ (0, 0) _ rfl (heap_alloc_new _ _) Tryz.underlying165 rfl (by kernel_rfl)) rfl ?_
  exact ⟨rfl, below_one _ _⟩
end Go.Proofs.YteaalifehokgoaaGreatDoor
namespace Go.Proofs.YteaalifehokgoaaGreatDoor
open Go.RowKit Go.Sort Go.Proofs
set_option maxHeartbeats 1600000 in
set_option maxRecDepth 100000 in
theorem eqInEnt (x y : EntV) (W : World) : (Op.equalIn 10000 43 (.agg (encEnt x).toArray) (.agg (encEnt y).toArray)).run Tryz.prog W = .ok (decide (x = y)) W := by
 have u3 := Tryz.underlying3
 have u9 := Tryz.underlying9
 have hS : Tryz.prog.underlying 43 = some (.struct (Tryz.prog.fieldsOf 43)) := by kernel_rfl
 have hp : Tryz.prog.stoodInHeld 43 = false := by kernel_rfl
 have gS : Tryz.prog.underlying 37 = some (.struct (Tryz.prog.fieldsOf 37)) := by kernel_rfl
 have gp : Tryz.prog.stoodInHeld 37 = false := by kernel_rfl
 have lS : Tryz.prog.underlying 39 = some (.struct (Tryz.prog.fieldsOf 39)) := by kernel_rfl
 have lp : Tryz.prog.stoodInHeld 39 = false := by kernel_rfl
 have pS : Tryz.prog.underlying 41 = some (.struct (Tryz.prog.fieldsOf 41)) := by kernel_rfl
 have pp : Tryz.prog.stoodInHeld 41 = false := by kernel_rfl
 have eP : ∀ (a1 b1 : List UInt8) (a2 a3 b2 b3 : Int) (W : World), (Op.equalIn 9999 41 (.agg #[.string ⟨a1.toArray⟩, .int .i64 a2, .int .i64 a3]) (.agg #[.string ⟨b1.toArray⟩, .int .i64 b2, .int .i64 b3])).run Tryz.prog W = .ok (decide (a1 = b1 ∧ a2 = b2 ∧ a3 = b3)) W := fun a1 b1 a2 a3 b2 b3 W => by
  rw [show (9999 : Nat) = 9998 + 1 from rfl, run_equalIn_agg W 9998 41 _ _ pS pp]
  simp only [Program.fieldsOf, Tryz.underlying41]
  go_simp
  by_cases h1 : a1 = b1 <;> by_cases h2 : a2 = b2 <;> by_cases h3 : a3 = b3 <;> simp [h1, h2, h3]
 have eG : ∀ (a1 b1 : List UInt8) (a2 b2 : Int) (W : World), (Op.equalIn 9999 37 (.agg #[.string ⟨a1.toArray⟩, .int .i64 a2]) (.agg #[.string ⟨b1.toArray⟩, .int .i64 b2])).run Tryz.prog W = .ok (decide (a1 = b1 ∧ a2 = b2)) W := fun a1 b1 a2 b2 W => by
  rw [show (9999 : Nat) = 9998 + 1 from rfl, run_equalIn_agg W 9998 37 _ _ gS gp]
  simp only [Program.fieldsOf, Tryz.underlying37]
  go_simp
  by_cases h1 : a1 = b1 <;> by_cases h2 : a2 = b2 <;> simp [h1, h2]
 have eL : ∀ (a1 a2 b1 b2 : List UInt8) (a3 a4 b3 b4 : Int) (W : World), (Op.equalIn 9999 39 (.agg #[.string ⟨a1.toArray⟩, .string ⟨a2.toArray⟩, .int .i64 a3, .int .i64 a4]) (.agg #[.string ⟨b1.toArray⟩, .string ⟨b2.toArray⟩, .int .i64 b3, .int .i64 b4])).run Tryz.prog W = .ok (decide (a1 = b1 ∧ a2 = b2 ∧ a3 = b3 ∧ a4 = b4)) W := fun a1 a2 b1 b2 a3 a4 b3 b4 W => by
  rw [show (9999 : Nat) = 9998 + 1 from rfl, run_equalIn_agg W 9998 39 _ _ lS lp]
  simp only [Program.fieldsOf, Tryz.underlying39]
  go_simp
  by_cases h1 : a1 = b1 <;> by_cases h2 : a2 = b2 <;> by_cases h3 : a3 = b3 <;> by_cases h4 : a4 = b4 <;> simp [h1, h2, h3, h4]
 simp only [encEnt]
 rw [show (10000 : Nat) = 9999 + 1 from rfl, run_equalIn_agg W 9999 43 _ _ hS hp]
 clear gS gp lS lp pS pp hS hp
 simp only [Program.fieldsOf, Tryz.underlying43]
 go_simp
 clear u3 u9 eP eG eL
 obtain ⟨a0, ⟨g1, g2⟩, ⟨l1, l2, l3, l4⟩, ⟨f1, f2, f3⟩, ⟨t1, t2, t3⟩, n⟩ := x
 obtain ⟨b0, ⟨h1, h2⟩, ⟨m1, m2, m3, m4⟩, ⟨i1, i2, i3⟩, ⟨u1, u2, u3⟩, k⟩ := y
 simp only [Prod.mk.injEq]
 by_cases q0 : a0 = b0
 ·by_cases q1 : g1 = h1 ∧ g2 = h2
  ·by_cases q2 : l1 = m1 ∧ l2 = m2 ∧ l3 = m3 ∧ l4 = m4
   ·by_cases q3 : f1 = i1 ∧ f2 = i2 ∧ f3 = i3
    ·by_cases q4 : t1 = u1 ∧ t2 = u2 ∧ t3 = u3
     ·by_cases q5 : n = k <;> simp [q0, q1, q2, q3, q4, q5]
     ·have q4' : t1 = u1 → t2 = u2 → ¬ t3 = u3 := fun a b c => q4 ⟨a, b, c⟩
      rw [if_pos q0, if_neg (fun e => e q1.1 q1.2), if_neg (fun e => e q2.1 q2.2.1 q2.2.2.1 q2.2.2.2), if_neg (fun e => e q3.1 q3.2.1 q3.2.2), if_pos q4', decide_eq_false (fun e => q4 e.2.2.2.2.1)]
    ·have q3' : f1 = i1 → f2 = i2 → ¬ f3 = i3 := fun a b c => q3 ⟨a, b, c⟩
     rw [if_pos q0, if_neg (fun e => e q1.1 q1.2), if_neg (fun e => e q2.1 q2.2.1 q2.2.2.1 q2.2.2.2), if_pos q3', decide_eq_false (fun e => q3 e.2.2.2.1)]
   ·have q2' : l1 = m1 → l2 = m2 → l3 = m3 → ¬ l4 = m4 := fun a b c d => q2 ⟨a, b, c, d⟩
    rw [if_pos q0, if_neg (fun e => e q1.1 q1.2), if_pos q2', decide_eq_false (fun e => q2 e.2.2.1)]
  ·have q1' : g1 = h1 → ¬ g2 = h2 := fun a b => q1 ⟨a, b⟩
   rw [if_pos q0, if_pos q1', decide_eq_false (fun e => q1 e.2.1)]
 ·rw [if_neg q0, decide_eq_false (fun e => q0 e.1)]
theorem neqEnt (x y : EntV) (W : World) : (binOp .neq 43 (.agg (encEnt x).toArray) (.agg (encEnt y).toArray)).run Tryz.prog W = .ok (.bool (!decide (x = y))) W := by
 rw [run_neq_struct, eqInEnt]
 rfl
end Go.Proofs.YteaalifehokgoaaGreatDoor
namespace Go.Proofs.YteaalifehokgoaaGreatDoor
open Go.RowKit Go.Sort Go.Proofs
structure EntCG (E : Nat → Addr) (w : World) : Prop where
 read : LotCG E w
 shape : ErrAt 2 (E 3) w
 kind : ErrAt 3 (E 4) w
theorem EntCG.below {E : Nat → Addr} {w w' : World} (h : EntCG E w) (hb : Below w.heap.size w w') : EntCG E w' := ⟨h.read.below hb, h.shape.below hb, h.kind.below hb⟩
theorem LotG.place {E : Nat → Addr} {w : World} (h : LotG E w) : PlaceG E w := ⟨h.name, h.bound, h.tab⟩
theorem LotCG.place {E : Nat → Addr} {w : World} (h : LotCG E w) : PlaceCG E w := ⟨h.name, h.bound⟩
structure EntG (E : Nat → Addr) (w : World) : Prop where
 read : ReadG E w
 shape : ErrAt 2 (E 3) w
 kind : ErrAt 3 (E 4) w
theorem EntG.below {E : Nat → Addr} {w w' : World} (h : EntG E w) (hb : Below w.heap.size w w') : EntG E w' := ⟨h.read.below hb, h.shape.below hb, h.kind.below hb⟩
theorem EntG.check {E : Nat → Addr} {w : World} (h : EntG E w) : EntCG E w := ⟨⟨h.read.name, h.read.bound⟩, h.shape, h.kind⟩
set_option maxHeartbeats 800000 in
theorem places_any (E : Nat → Addr) (x : EntV) (bF bT bP : Bool) (w : World) (hG : EntCG E w) :
  Calls Tryz.prog 148 #[.agg (encEnt x).toArray, .agg #[.bool bF, .bool bT, .bool bP]] w fun e w' => e = .returned (errOf E (if bF = true ∧ placeE x.2.2.2.1 ≠ 0 then placeE x.2.2.2.1 else if bT = true then placeE x.2.2.2.2.1 else 0)) ∧ Below w.heap.size w w' := by
 have HF := Lib.hid (fun W h => checkPlace_c E x.2.2.2.1 W h)
 have HT := Lib.hid (fun W h => checkPlace_c E x.2.2.2.2.1 W h)
 have hc := fun i v (h : (encEnt x)[i]? = some v) => show ((w.alloc (.cells (encEnt x).toArray 43)).alloc (.cells #[.bool bF, .bool bT, .bool bP] 165)).cell? ⟨w.heap.size, i, none⟩ = some v from ((below_one (w.alloc (.cells (encEnt x).toArray 43)) _).cell (p := ⟨w.heap.size, i, none⟩) (by simp)).trans ((cell_of_row _ _ _ _ _ _ (heap_alloc_new _ _)).trans (by simpa using h))
 have b0 := below_two w (.cells (encEnt x).toArray 43) (.cells #[.bool bF, .bool bT, .bool bP] 165)
 have c7 := hc 7 _ rfl
 have c8 := hc 8 _ rfl
 have c9 := hc 9 _ rfl
 have c10 := hc 10 _ rfl
 have c11 := hc 11 _ rfl
 have c12 := hc 12 _ rfl
 clear hc
 have hfr : ((w.alloc (.cells (encEnt x).toArray 43)).alloc (.cells #[.bool bF, .bool bT, .bool bP] 165)).heap[w.heap.size + 1]? = some (.cells #[.bool bF, .bool bT, .bool bP] 165 (0, 0)) := by
  have := heap_alloc_new (w.alloc (.cells (encEnt x).toArray 43)) (.cells #[.bool bF, .bool bT, .bool bP] 165)
  simpa using this
 have d0 : ((w.alloc (.cells (encEnt x).toArray 43)).alloc (.cells #[.bool bF, .bool bT, .bool bP] 165)).cell? ⟨w.heap.size + 1, 0, none⟩ = some (.bool bF) := cell_of_row _ _ _ _ _ _ hfr
 have d1 : ((w.alloc (.cells (encEnt x).toArray 43)).alloc (.cells #[.bool bF, .bool bT, .bool bP] 165)).cell? ⟨w.heap.size + 1, 1, none⟩ = some (.bool bT) := cell_of_row _ _ _ _ _ _ hfr
 have HG := Lib.hid (fun W (h : Below w.heap.size w W) => (hG.below h).read.place)
 clear hfr hG
 obtain ⟨k, ⟨g1, g2⟩, ⟨l1, l2, l3, l4⟩, ⟨f1, f2, f3⟩, ⟨t1, t2, t3⟩, n⟩ := x
 simp only [encEnt, encPlace] at HF HT b0 c7 c8 c9 c10 c11 c12 d0 d1 ⊢
 generalize placeE (f1, f2, f3) = pf at HF ⊢
 generalize placeE (t1, t2, t3) = pt at HT ⊢
 obtain ⟨r, hr⟩ : ∃ r, r = (if bF = true ∧ pf ≠ 0 then pf else if bT = true then pt else 0) := ⟨_, rfl⟩
 rw [← hr]
 have HR := Lib.hid hr
 clear hr
 cases bF with
 |false =>
  cases bT with
  |false =>
   have HR0 : Hid (r = 0) := by show _ = _; rw [HR.out]; simp
   go_enter Tryz.func148, Tryz.ntmps148
   go_wp2
   go_ret
   rw [HR0.out]
   exact ⟨rfl, b0⟩
  |true =>
   have HR0 : Hid (r = pt) := by show _ = _; rw [HR.out]; simp
   go_enter Tryz.func148, Tryz.ntmps148
   go_wp2_with fail
   refine (HT.out _ (HG.out _ b0)).mono ?_
   rintro e w1 ⟨rfl, b1⟩
   have B1 := Lib.hid (b0.trans (b1.mono b0.size))
   clear b1 b0
   go_wp2
   go_ret
   rw [HR0.out]
   exact ⟨rfl, B1.out⟩
 |true =>
  go_enter Tryz.func148, Tryz.ntmps148
  go_wp2_with fail
  refine (HF.out _ (HG.out _ b0)).mono ?_
  rintro e w1 ⟨rfl, b1⟩
  have g := fun (b o : Nat) (v : Value) (hc : _ = some v) => (b1.cell (p := ⟨b, o, none⟩) (lt_of_cell hc)).trans hc
  have e10 := g _ _ _ c10
  have e11 := g _ _ _ c11
  have e12 := g _ _ _ c12
  have e1 := g _ _ _ d1
  have B1 := Lib.hid (b0.trans (b1.mono b0.size))
  clear b1 b0 g c7 c8 c9 c10 c11 c12 d0 d1
  by_cases h0 : pf = 0
  ·subst h0
   rw [errOf_zero]
   cases bT with
   |false =>
    have HR0 : Hid (r = 0) := by show _ = _; rw [HR.out]; simp
    go_wp2
    go_ret
    rw [HR0.out]
    exact ⟨rfl, B1.out⟩
   |true =>
    have HR0 : Hid (r = pt) := by show _ = _; rw [HR.out]; simp
    go_wp2_with fail
    refine (HT.out _ (HG.out _ B1.out)).mono ?_
    rintro e w2 ⟨rfl, b2⟩
    have B2 := Lib.hid (B1.out.trans (b2.mono B1.out.size))
    clear b2
    go_wp2
    go_ret
    rw [HR0.out]
    exact ⟨rfl, B2.out⟩
  ·rw [errOf_pos _ _ h0]
   have HR0 : Hid (r = pf) := by show _ = _; rw [HR.out]; simp [h0]
   go_wp2
   go_ret
   rw [HR0.out, errOf_pos _ _ h0]
   exact ⟨rfl, B1.out⟩
end Go.Proofs.YteaalifehokgoaaGreatDoor
namespace Go.Proofs.YteaalifehokgoaaGreatDoor
open Go.RowKit Go.Sort Go.Proofs
structure BkG (E : Nat → Addr) (w : World) : Prop where
 stk : StkG E w
 kind : ErrAt 3 (E 4) w
 none : ErrAt 5 (E 6) w
 exist : ErrAt 6 (E 7) w
theorem BkG.below {E : Nat → Addr} {w w' : World} (h : BkG E w) (hb : Below w.heap.size w w') : BkG E w' := ⟨h.stk.below hb, h.kind.below hb, h.none.below hb, h.exist.below hb⟩
theorem BkG.ent {E : Nat → Addr} {w : World} (h : BkG E w) : EntCG E w := ⟨⟨h.stk.place.name, h.stk.place.bound⟩, h.stk.shape, h.kind⟩
theorem MapF.len {ν : Type} {eV : ν → Value} {w : World} {b : Nat} {f : List UInt8 → Option ν} (h : MapF eV w b f) {N : Nat} (hN : ∀ m : List (List UInt8 × ν), (m.map (·.1)).Nodup → (∀ k, mget m k = f k) → m.length = N)
  {P : Program} {t kt e ty : TypeId} (ht : P.underlying t = some (.map kt e)) : (Builtin.len_ #[t] ty #[.map (some b)]).run P w = .ok (.int .i64 N) w := by
 obtain ⟨m, h1, h2⟩ := h
 have := h1.len (ty := ty) ht
 rwa [hN m h1.nodup h2] at this
theorem zeroGoodsE (w : World) : (zeroValue 37).run Tryz.prog w = .ok (eGoods zeroGoods) w := by kernel_rfl
theorem zeroLotE (w : World) : (zeroValue 39).run Tryz.prog w = .ok (eLot zeroLot) w := by kernel_rfl
set_option maxHeartbeats 400000 in
set_option maxRecDepth 100000 in
theorem newGoods_any (E : Nat → Addr) (p g : Nat) (f : List UInt8 → Option GoodsV) (N : Nat) (x : GoodsV) (w : World) (cp : w.cell? ⟨p, 0, none⟩ = some (.map (some g))) (hf : MapF eGoods w g f)
  (hN : ∀ m : List (List UInt8 × GoodsV), (m.map (·.1)).Nodup → (∀ k, mget m k = f k) → m.length = N) (hG : BkG E w) :
  Calls Tryz.prog 46 #[.pointer (some ⟨p, 0, none⟩), .agg (encGoods x).toArray] w fun e w' => e = .returned (errOf E (if (f x.1).isSome = true then 7 else if 30 ≤ N then 8 else 0)) ∧
   MapF eGoods w' g (if (f x.1).isSome = true ∨ 30 ≤ N then f else fun i => if i = x.1 then some x else f i) ∧ But g w w' := by
 obtain ⟨r, hr⟩ : ∃ r : Nat, r = if (f x.1).isSome = true then 7 else if 30 ≤ N then 8 else 0 := ⟨_, rfl⟩
 obtain ⟨f', hf'⟩ : ∃ f', f' = if (f x.1).isSome = true ∨ 30 ≤ N then f else fun i => if i = x.1 then some x else f i := ⟨_, rfl⟩
 rw [← hr, ← hf']
 have HR := Lib.hid hr
 have HF' := Lib.hid hf'
 have HG := Lib.hid (fun W (h : Below w.heap.size w W) => hG.below h)
 have HM := Lib.hid (fun W (hb : Below w.heap.size w W) => hf.below hb)
 have HL := Lib.hid (fun W (h : MapF eGoods W g f) => h.look (P := Tryz.prog) (t := 102) (kt := 9) (by kernel_rfl) Tryz.underlying102 (zeroGoodsE W) x.1 true)
 have HLN := Lib.hid (fun W (h : MapF eGoods W g f) ty => h.len hN (P := Tryz.prog) (ty := ty) Tryz.underlying102)
 have HS := Lib.hid (fun W (h : MapF eGoods W g f) => h.store (P := Tryz.prog) (t := 102) (kt := 9) (by kernel_rfl) Tryz.underlying102 x.1 x)
 have hgl := hf.lt
 have hpl := lt_of_cell cp
 clear hr hf' hG hf hN
 generalize (f x.1).getD zeroGoods = z at HL
 generalize (f x.1).isSome = is at HL HR HF'
 obtain ⟨x1, x2⟩ := x
 obtain ⟨z1, z2⟩ := z
 simp only [eGoods, encGoods] at HL HS ⊢
 have b0 := Lib.hid (below_one w (.cells #[.string ⟨x1.toArray⟩, .int .i64 x2] 37))
 have hx := heap_alloc_new w (.cells #[.string ⟨x1.toArray⟩, .int .i64 x2] 37)
 have cp0 := (b0.out.cell (p := ⟨p, 0, none⟩) hpl).trans cp
 go_enter Tryz.func46, Tryz.ntmps46
 go_wp2_with fail
 generalize w.alloc (.cells #[.string ⟨x1.toArray⟩, .int .i64 x2] 37) = W0 at b0 hx cp0 ⊢
 have HX := Lib.hid hx
 have bz := below_one W0 (.cells #[.string ⟨#[]⟩, .int .i64 0] 37)
 have b1 := Lib.hid (b0.out.trans (bz.mono b0.out.size)).drew
 have hz : w.heap.size < W0.heap.size := row_lt hx
 have x0 : (W0.alloc (.cells #[.string ⟨#[]⟩, .int .i64 0] 37)).drew.cell? ⟨w.heap.size, 0, none⟩ = some (.string ⟨x1.toArray⟩) := (bz.cell (p := ⟨w.heap.size, 0, none⟩) hz).trans (cell_of_row _ _ 0 _ _ _ hx)
 have cp1 : (W0.alloc (.cells #[.string ⟨#[]⟩, .int .i64 0] 37)).drew.cell? ⟨p, 0, none⟩ = some (.map (some g)) := (bz.cell (p := ⟨p, 0, none⟩) (lt_of_cell cp0)).trans cp0
 have hl := HL.out _ (HM.out _ b1.out)
 have x00 : W0.cell? ⟨w.heap.size, 0, none⟩ = some (.string ⟨x1.toArray⟩) := cell_of_row _ _ 0 _ _ _ hx
 have hl0 := HL.out _ (HM.out _ b0.out.drew)
 clear hx cp
 go_region
 all_goals
  clear hl hl0 x0 x00 cp1 bz b1
  have b2 := Lib.hid ((b0.out.trans ((below_one W0 (.cells #[.string ⟨z1.toArray⟩, .int .i64 z2] 37)).mono b0.out.size)).drew)
  have hx2 : (W0.alloc (.cells #[.string ⟨z1.toArray⟩, .int .i64 z2] 37)).drew.heap[w.heap.size]? = some (.cells #[.string ⟨x1.toArray⟩, .int .i64 x2] 37 (0, 0)) := ((below_one W0 _).block _ hz).trans HX.out
  have cp2 : (W0.alloc (.cells #[.string ⟨z1.toArray⟩, .int .i64 z2] 37)).drew.cell? ⟨p, 0, none⟩ = some (.map (some g)) := ((below_one W0 _).cell (p := ⟨p, 0, none⟩) (lt_of_cell cp0)).trans cp0
  generalize (W0.alloc (.cells #[.string ⟨z1.toArray⟩, .int .i64 z2] 37)).drew = W1 at b2 hx2 cp2 ⊢
  clear cp0 hz HL
  cases is with
  |true =>
   have HR0 := Lib.hid (show r = 7 from HR.out.trans (if_pos rfl))
   have HF0 := Lib.hid (show f' = f from HF'.out.trans (if_pos (.inl rfl)))
   have hex := (HG.out _ b2.out).exist
   unfold ErrAt at hex
   go_wp2_with fail
   go_ret
   rw [HR0.out, HF0.out]
   exact ⟨rfl, HM.out _ b2.out, But.of_below b2.out⟩
  |false =>
   have hlen := fun ty => HLN.out W1 (HM.out _ b2.out) ty
   by_cases hfull : 30 ≤ N
   ·have HR0 := Lib.hid (show r = 8 from HR.out.trans ((if_neg (by simp)).trans (if_pos hfull)))
    have HF0 := Lib.hid (show f' = f from HF'.out.trans (if_pos (.inr hfull)))
    have hfl := (HG.out _ b2.out).stk.full
    unfold ErrAt at hfl
    go_wp2_with fail
    go_ret
    rw [HR0.out, HF0.out]
    exact ⟨rfl, HM.out _ b2.out, But.of_below b2.out⟩
   ·have HR0 := Lib.hid (show r = 0 from HR.out.trans ((if_neg (by simp)).trans (if_neg hfull)))
    have HF0 := Lib.hid (show f' = fun i => if i = x1 then some (x1, x2) else f i from HF'.out.trans (if_neg (fun e => e.elim (by simp) hfull)))
    have hx0 := cell_of_row _ _ 0 _ _ _ hx2
    have hx1 := cell_of_row _ _ 1 _ _ _ hx2
    simp at hx0 hx1
    obtain ⟨v, hS, hM, hT⟩ := HS.out W1.drew (HM.out _ b2.out.drew)
    have HM3 := Lib.hid hM
    have HT3 := Lib.hid hT
    clear hM hT hx2
    go_wp2_with fail
    go_region
    all_goals
     go_wp2_with fail
     go_ret
     rw [HR0.out, HF0.out]
     exact ⟨rfl, HM3.out, (But.of_below b2.out.drew).trans (But.of_turned HT3.out)⟩
end Go.Proofs.YteaalifehokgoaaGreatDoor
