/- Tasks of counting: does one of a code go on? Tasks of counting: Open. Equal lines. -/
import Derived.Deep.AppendLies
import Derived.BigQuiet
import Derived.Test.YtchiojiicehpeaaGreatDoorM04
import Derived.Test.YtchiojiicehpeaaGreatDoorM07
import Derived.Test.YtchiojiicehpeaaGreatDoorM23
import Derived.Test.YtchiojiicehpeaaGreatDoorM30
namespace Go.Proofs.YtchiojiicehpeaaGreatDoor
open Go.RowKit Go.Sort Go.Proofs
def fndP {α : Type} (P : α → Bool) (l : List α) : Int := match l.findIdx? P with
 |some i => i
 |none => -1
theorem fndP_step {α : Type} (P : α → Bool) (l : List α) (k : Nat) (h1 : ∀ j (h : j < l.length), j < k → P l[j] = false) (h2 : ∀ h : k < l.length, P l[k] = true) : fndP P l = if k < l.length then (k : Int) else -1 := by
 unfold fndP
 by_cases hk : k < l.length
 ·have : l.findIdx? P = some k := List.findIdx?_eq_some_iff_getElem.2 ⟨hk, h2 hk, fun j hj => by simpa using h1 j (by omega) hj⟩
  rw [this, if_pos hk]
 ·have : l.findIdx? P = none := by
   rw [List.findIdx?_eq_none_iff]
   intro x hx
   obtain ⟨j, hj, rfl⟩ := List.mem_iff_getElem.1 hx
   exact h1 j hj (by omega)
  rw [this, if_neg hk]
theorem fndP_any {α : Type} (P : α → Bool) (l : List α) : (fndP P l = -1 ∧ l.any P = false) ∨ ∃ i : Nat, fndP P l = i ∧ l.any P = true := by
 unfold fndP
 cases hf : l.findIdx? P with
 |none =>
  refine .inl ⟨rfl, ?_⟩
  rw [List.findIdx?_eq_none_iff] at hf
  exact List.any_eq_false.2 fun x hx => by simpa using hf x hx
 |some i =>
  obtain ⟨h1, h2, -⟩ := List.findIdx?_eq_some_iff_getElem.1 hf
  exact .inr ⟨i, rfl, List.any_eq_true.2 ⟨_, List.getElem_mem h1, h2⟩⟩
def goesOn (code : List UInt8) (c : TaskC) : Bool := decide (c.1.1 = code) && !overT c.1
set_option maxHeartbeats 800000 in
set_option maxRecDepth 100000 in
theorem opens_any (code : List UInt8) (c : TaskC) (b : Nat) (w : World) (h : w.cell? ⟨b, 0, none⟩ = some (.string ⟨code.toArray⟩)) :
  Calls Tryz.prog 52 #[.agg (encTask c).toArray, .pointer (some ⟨b, 0, none⟩)] w fun e w' => e = .returned (.bool (goesOn code c)) ∧ Below w.heap.size w w' := by
 have hov := fun W => overTask_any c W
 obtain ⟨⟨x1, x2, x3, x4, x5⟩, A, cp⟩ := c
 obtain ⟨r, hr⟩ : ∃ r, r = goesOn code ((x1, x2, x3, x4, x5), A, cp) := ⟨_, rfl⟩
 rw [← hr]
 have HR : Hid (r = (decide (x1 = code) && !overT (x1, x2, x3, x4, x5))) := hr
 simp only at hov
 generalize overT (x1, x2, x3, x4, x5) = ov at hov HR
 simp only [encTask] at hov ⊢
 generalize Value.slice A x5.length cp = sl at hov ⊢
 have hb := lt_of_cell h
 simp only at hb
 have b0 := below_one w (.cells #[.string ⟨x1.toArray⟩, .string ⟨x2.toArray⟩, .string ⟨x3.toArray⟩, .string ⟨x4.toArray⟩, sl] 39)
 have h1 := (b0.cell hb).trans h
 have hy := heap_alloc_new w (.cells #[.string ⟨x1.toArray⟩, .string ⟨x2.toArray⟩, .string ⟨x3.toArray⟩, .string ⟨x4.toArray⟩, sl] 39)
 obtain ⟨⟨f0, f1, f2, f3, f4⟩, -⟩ := row5f hy
 have HOV := Lib.hid hov
 have B0 := Lib.hid b0
 clear hr h hy hov b0
 by_cases h4 : x1 = code
 ·have h4' : (x1 == code) = true := by simpa using h4
  rw [decide_eq_true h4, Bool.true_and] at HR
  clear h4
  have HL : Hid (Lies (w.alloc (.cells #[.string ⟨x1.toArray⟩, .string ⟨x2.toArray⟩, .string ⟨x3.toArray⟩, .string ⟨x4.toArray⟩, sl] 39)) w.heap.size 0 [.string ⟨x1.toArray⟩, .string ⟨x2.toArray⟩, .string ⟨x3.toArray⟩, .string ⟨x4.toArray⟩, sl]) := Lies.row _ (heap_alloc_new w _)
  go_enter Tryz.func52, Tryz.ntmps52
  go_wp2_with (refine wpList_load_at rfl 39 (.tmp 2) rfl w.heap.size 0 rfl [.string ⟨x1.toArray⟩, .string ⟨x2.toArray⟩, .string ⟨x3.toArray⟩, .string ⟨x4.toArray⟩, sl] HL.out _ Tryz.underlying39 rfl (by kernel_rfl) ?_)
  refine (HOV.out _).mono ?_
  rintro e w1 ⟨rfl, b1⟩
  have B1 := Lib.hid (B0.out.trans (b1.mono B0.out.size))
  clear b1
  go_wp2_with fail
  go_ret
  rw [HR.out]
  exact ⟨rfl, B1.out⟩
 ·have h4' : (x1 == code) = false := by simpa using h4
  rw [decide_eq_false h4, Bool.false_and] at HR
  clear h4
  go_enter Tryz.func52, Tryz.ntmps52
  go_wp2_with fail
  go_ret
  rw [HR.out]
  exact ⟨rfl, B0.out⟩
set_option maxHeartbeats 1600000 in
set_option maxRecDepth 100000 in
theorem idxTask_any (A : Option Addr) (cap : Nat) (l : List TaskC) (code : List UInt8) (b : Nat) (w : World) (hrow : RowAt encTask 5 w A l) (hl : l.length ≤ 100000) (hb : w.cell? ⟨b, 0, none⟩ = some (.string ⟨code.toArray⟩)) :
  Calls Tryz.prog 119 #[.slice A l.length cap, .func (.func 52) #[] #[.pointer (some ⟨b, 0, none⟩)]] w fun e w' => e = .returned (.int .i64 (fndP (goesOn code) l)) ∧ Below w.heap.size w w' := by
 have HR := Lib.hid (fun W (h : Below w.heap.size w W) => hrow.below h)
 have HC := Lib.hid (fun y W (h : Below w.heap.size w W) => opens_any code y b W ((h.cell (lt_of_cell hb)).trans hb))
 have HF := Lib.hid (fndP_step (goesOn code) l)
 obtain ⟨N, hN⟩ : ∃ N, N = l.length := ⟨_, rfl⟩
 have HN := Lib.hid hN
 rw [← hN] at hl ⊢
 clear hrow hN hb
 generalize fndP (goesOn code) l = R at HF ⊢
 go_enter Tryz.func119, Tryz.ntmps119
 go_wp2_with fail
 go_loopw [8] (fun i wr => ∃ k : Nat, k ≤ N ∧ i = .int .i64 k ∧ Hid (∀ j (h : j < l.length), j < k → goesOn code l[j] = false) ∧ Hid (Below w.heap.size w wr)) (fun i _ => N - (intOf i).toNat)
 case atStart => exact ⟨0, by omega, rfl, fun j _ h => absurd h (Nat.not_lt_zero _), Below.refl _ _⟩
 case round =>
  obtain ⟨k, hk, rfl, HNO, HB⟩ := hrel
  by_cases hkN : k < N
  ·have hkx : k < l.length := by rw [← HN.out]; exact hkN
   obtain ⟨g, o, rfl, lg, cg⟩ := HR.out w (Below.refl _ _) |>.resolve_left (fun h => by rw [h] at hkx; simp at hkx)
   obtain ⟨y, hy⟩ : ∃ y, y = l[k] := ⟨_, rfl⟩
   have hlies : Lies wr g (o + k * 5) (encTask y) := fun j v hv =>
    (HB.out.cell (p := ⟨g, o + k * 5 + j, none⟩) lg).trans (cg k hkx j v (by rw [← hy]; exact hv))
   have HY := Lib.hid hy
   have HL := Lib.hid hlies
   have HCY := Lib.hid (HC.out y)
   have h5 : (encTask y).length = 5 := rfl
   clear hy cg hlies HC
   obtain ⟨LY, hLY⟩ : ∃ LY, LY = encTask y := ⟨_, rfl⟩
   rw [← hLY] at HCY HL h5
   clear hLY
   obtain ⟨at1, hat⟩ : ∃ at1, at1 = goesOn code y := ⟨_, rfl⟩
   rw [← hat] at HCY
   have HAT := Lib.hid hat
   clear hat
   go_wp2_with (refine wpList_load_at rfl 39 _ rfl g (o + k * 5) rfl LY HL.out _ Tryz.underlying39 rfl (by rw [h5]; kernel_rfl) ?_)
   refine (HCY.out wr HB.out).mono ?_
   rintro e w1 ⟨rfl, b1⟩
   have B1 := Lib.hid (HB.out.trans (b1.mono HB.out.size))
   clear b1
   cases at1 with
   |true =>
    have HT : Hid (R = (k : Int)) := by
     have := HF.out k HNO.out (fun h => by rw [← HY.out]; exact HAT.out.symm)
     rw [if_pos hkx] at this
     exact this
    go_wp2_with fail
    go_ret
    rw [HT.out]
    exact ⟨rfl, B1.out⟩
   |false =>
    have HNX : Hid (∀ j (h : j < l.length), j < k + 1 → goesOn code l[j] = false) := fun j hj hjk => by
     rcases Nat.lt_succ_iff_lt_or_eq.1 hjk with h | rfl
     ·exact HNO.out j hj h
     ·rw [← HY.out]; exact HAT.out.symm
    go_wp2_with fail
    go_roundw
    case rel => exact ⟨k + 1, by omega, by go_num, HNX.out, B1.out⟩
    case measure => simp [intOf]; omega
  ·obtain rfl : k = N := by omega
   have HT : Hid (R = -1) := by
    have := HF.out k HNO.out (fun h => by rw [← HN.out] at h; omega)
    rw [if_neg (by rw [← HN.out]; omega)] at this
    exact this
   go_wp2_with fail
   go_ret
   rw [HT.out]
   exact ⟨rfl, HB.out⟩
set_option maxHeartbeats 800000 in
theorem containsTask_any (A : Option Addr) (cap : Nat) (l : List TaskC) (code : List UInt8) (b : Nat) (w : World) (hrow : RowAt encTask 5 w A l) (hl : l.length ≤ 100000) (hb : w.cell? ⟨b, 0, none⟩ = some (.string ⟨code.toArray⟩)) :
  Calls Tryz.prog 51 #[.slice A l.length cap, .func (.func 52) #[] #[.pointer (some ⟨b, 0, none⟩)]] w fun e w' => e = .returned (.bool (l.any (goesOn code))) ∧ Below w.heap.size w w' := by
 have HX := Lib.hid (idxTask_any A cap l code b w hrow hl hb)
 have HA := Lib.hid (fndP_any (goesOn code) l)
 generalize l.any (goesOn code) = r at HA ⊢
 generalize fndP (goesOn code) l = fi at HA HX
 clear hrow hb
 go_enter Tryz.func51, Tryz.ntmps51
 go_wp2_with fail
 refine HX.out.mono ?_
 rintro e w1 ⟨rfl, b1⟩
 have B1 := Lib.hid b1
 rcases HA.out with ⟨rfl, rfl⟩ | ⟨i, rfl, rfl⟩
 ·clear b1 HX HA
  go_wp2_with fail
  go_ret
  exact ⟨rfl, B1.out⟩
 ·have hp : (0 : Int) ≤ (i : Nat) := by omega
  clear b1 HX HA
  go_wp2_with fail
  go_ret
  exact ⟨by simp, B1.out⟩
end Go.Proofs.YtchiojiicehpeaaGreatDoor
namespace Go.Proofs.YtchiojiicehpeaaGreatDoor
open Go.RowKit Go.Sort Go.Proofs
structure TaskH (E : Nat → Addr) (w : World) : Prop where
 bk : BkG E w
 state : ErrAt 4 (E 11) w
theorem TaskH.below {E : Nat → Addr} {w w' : World} (h : TaskH E w) (hb : Below w.heap.size w w') : TaskH E w' := ⟨h.bk.below hb, h.state.below hb⟩
theorem TaskH.task {E : Nat → Addr} {w : World} (h : TaskH E w) : TaskG E w := ⟨h.bk.none, h.state⟩
theorem open_any (cs : List TaskC) (code : List UInt8) : cs.any (goesOn code) = (cs.map (·.1)).any fun x => decide (x.1 = code) && !overT x := by
 rw [List.any_map]
 rfl
theorem taskInfo2 : (Tryz.prog.info? 39).map (fun i => (i.zero, i.size, i.bytes)) = some (some (.agg #[.string ⟨#[]⟩, .string ⟨#[]⟩, .string ⟨#[]⟩, .string ⟨#[]⟩, .slice none 0 0]), 5, 88) := by kernel_rfl
theorem step_append_task {ops : Array Oper} {o : Oper} {a : Act} {K : Act → World → Prop} {Q : Exit → Act → World → Prop} {F : Prop} (w : World) (hgd : o.guard = none) (s x : Operand)
  (ho : o.op = .call { callee := .builtin .append, args := #[s, x], argTypes := #[106, 106] }) (p : Nat) (v : Value) (n : Nat) (xs : List Value) (q : TaskC)
  (hown : w.ownsRow 0 39 5 v n xs) (hbox : w.heap[p]? = some (.cells #[v] 108 (0, 0))) (hpv : p ∉ blockL v) (hs : a.eval s = v) (ad : Addr) (cp : Nat) (hx : a.eval x = .slice (some ad) 1 cp)
  (hnews : ∀ j u, (encTask q)[j]? = some u → w.cell? (ad.add j) = some u) (hn : n ≤ 1000)
  (h : ∀ g' cap' w1, Hid (w1.ownsRow 0 39 5 (.slice (some ⟨g', 0, none⟩) (n + 1) cap') (n + 1) (xs ++ encTask q) ∧ w.grownBy w1 v.ownBlock ∧ (v.ownBlock = some g' ∨ g' = w.heap.size) ∧ w1.heap[p]? = some (.cells #[v] 108 (0, 0))) → w1.cell? ⟨p, 0, none⟩ = some v → w1.frozen? ⟨p, 0, none⟩ = false →
   K (a.put o.dst (.slice (some ⟨g', 0, none⟩) (n + 1) cap')) w1) :
  if Region.wanted o (yielded ops a.tmps) = true then Oper.wp Tryz.prog o a w K Q else F := by
 obtain ⟨i0, hi, hz0, hz1, hz2⟩ := info_parts taskInfo2
 refine step_append_lies w hgd s x 106 ho 0 39 i0 _ 5 88 Tryz.underlying106 hi hz0 hz1 hz2 rfl (by decide) v n xs hs hown ad 1 cp (encTask q) hx rfl hnews (encTask_one q) (by omega) (by unfold maxLen; omega) (by omega) (Nat.zero_le _) _ rfl ?_
 intro g' cap' w1 hown' hgrow hat _
 have hb : w1.heap[p]? = w.heap[p]? := hgrow.block p (row_lt hbox) fun e => hpv (blockL_mem e.symm)
 have hbx := hb.trans hbox
 exact h g' cap' w1 ⟨hown', hgrow, hat, hbx⟩ ((cell_of_row _ _ _ _ _ _ hbx).trans rfl) (frozen_of_row w1 p 0 _ _ hbx)
theorem TaskMt.longer {tb tt : TypeId} {w w1 : World} {p : Nat} {v : Value} {cs : List TaskC} (h : TaskMt tb tt w p v cs) (hnd : (p :: blockL v).Nodup) (hR : ∀ k ∈ sheetsL cs, k ∉ p :: blockL v ∧ k < w.heap.size) {g' cap' n : Nat} {q : TaskC} (hn : n = cs.length) (hq : q.1.2.2.2.2 = []) (ho : w1.ownsRow 0 tt 5 (.slice (some ⟨g', 0, none⟩) (n + 1) cap') (n + 1) (flatL encTask cs ++ encTask q))
  (hgr : w.grownBy w1 v.ownBlock) (hat : v.ownBlock = some g' ∨ g' = w.heap.size) (hbx : w1.heap[p]? = some (.cells #[v] tb (0, 0))) :
  TaskIst tb tt (w1.setCell ⟨p, 0, none⟩ (.slice (some ⟨g', 0, none⟩) (n + 1) cap')) p [p, g'] (sheetsL cs) ((cs ++ [q]).map (·.1)) ∧ ButF (p :: blockL v) w (w1.setCell ⟨p, 0, none⟩ (.slice (some ⟨g', 0, none⟩) (n + 1) cap')) ∧ (∀ k ∈ [p, g'], k ∈ p :: blockL v ∨ w.heap.size ≤ k) := by
 subst hn
 have hp := row_lt h.box
 have hg' : g' ≠ p ∧ (g' ∈ blockL v ∨ w.heap.size ≤ g') := by
  rcases hat with e | rfl
  ·have hm := blockL_mem e
   exact ⟨fun e => (List.nodup_cons.1 hnd).1 (e ▸ hm), .inl hm⟩
  ·exact ⟨by omega, .inr (Nat.le_refl _)⟩
 have hoth : ∀ k, k ≠ p → (w1.setCell ⟨p, 0, none⟩ (.slice (some ⟨g', 0, none⟩) (cs.length + 1) cap')).heap[k]? = w1.heap[k]? := fun k hk => heap_setCell_other _ _ _ _ hk
 have hsize : (w1.setCell ⟨p, 0, none⟩ (.slice (some ⟨g', 0, none⟩) (cs.length + 1) cap')).heap.size = w1.heap.size := by simp
 have hkeep : ∀ k, k < w.heap.size → k ∉ p :: blockL v → (w1.setCell ⟨p, 0, none⟩ (.slice (some ⟨g', 0, none⟩) (cs.length + 1) cap')).heap[k]? = w.heap[k]? := fun k hk hn => (hoth k fun e => hn (by rw [e]; exact List.mem_cons_self)).trans (hgr.block k hk fun e => hn (List.mem_cons_of_mem _ (blockL_mem e.symm)))
 have hsh : sheetsL (cs ++ [q]) = sheetsL cs := by
  unfold sheetsL
  rw [List.filterMap_append]
  simp [hq]
 refine ⟨⟨.slice (some ⟨g', 0, none⟩) (cs.length + 1) cap', cs ++ [q], rfl, ⟨?_, ?_, (fun c hc => ?_), (fun c hc => ?_)⟩, rfl, ?_, hsh.symm, fun k hk => ⟨fun e => ?_, ?_⟩⟩, ⟨hgr.os, hgr.tape, hgr.output, by rw [hsize]; exact hgr.size, hkeep⟩, fun k hk => ?_⟩
 ·have := heap_setCell_same w1 p 0 _ _ (.slice (some ⟨g', 0, none⟩) (cs.length + 1) cap') hbx
  simpa using this
 ·rw [List.length_append, flatL_append]
  have hf : flatL encTask [q] = encTask q := by simp [flatL]
  rw [hf]
  refine own_kept ho fun g hg => hoth g ?_
  simp only [Value.ownBlock, Option.some.injEq] at hg
  subst hg
  exact hg'.1
 ·rcases List.mem_append.1 hc with hc | hc
  ·rcases h.sheet c hc with he | ⟨g, o, h1, h2, h3⟩
   ·exact .inl he
   ·refine .inr ⟨g, o, h1, by rw [hsize]; exact Nat.lt_of_lt_of_le h2 hgr.size, fun i hi j u hu => ?_⟩
    have hn : c.1.2.2.2.2 ≠ [] := fun e => by rw [e] at hi; simp at hi
    exact (World.cell?_of_block (a := ⟨g, o + i * 5 + j, none⟩) (hkeep g h2 (hR g (mem_sheets hc h1 hn)).1)).trans (h3 i hi j u hu)
  ·rw [List.mem_singleton.1 hc]
   exact .inl hq
 ·rcases List.mem_append.1 hc with hc | hc
  ·exact h.room c hc
  ·rw [List.mem_singleton.1 hc, hq]
   exact Nat.zero_le _
 ·simpa [blockL, Value.ownBlock] using fun e => hg'.1 e.symm
 ·rcases List.mem_cons.1 e with e | e
  ·exact (hR k hk).1 (by rw [e]; exact List.mem_cons_self)
  ·have : k = g' := by simpa [blockL, Value.ownBlock] using e
   subst this
   rcases hg'.2 with e | e
   ·exact (hR k hk).1 (List.mem_cons_of_mem _ e)
   ·have := (hR k hk).2
    omega
 ·rw [hsize]
  exact Nat.lt_of_lt_of_le (hR k hk).2 hgr.size
 ·simp only [List.mem_cons, List.not_mem_nil, or_false] at hk
  rcases hk with rfl | rfl
  ·exact .inl List.mem_cons_self
  ·rcases hg'.2 with e | e
   ·exact .inl (List.mem_cons_of_mem _ e)
   ·exact .inr e
def OpnEnds (E : Nat → Addr) (w : World) (p : Nat) (F R : List Nat) (ts : List TaskV) (code : List UInt8) (e : Ending) (w' : World) : Prop :=
 e = .returned (.tuple #[.int .i64 (if openE ts code = 0 then (ts.length : Int) else 0), errOf E (openE ts code)]) ∧ ∃ F', TaskIs w' p F' R (openT ts code) ∧ ButF F w w' ∧ (∀ k ∈ F', k ∈ F ∨ w.heap.size ≤ k)
theorem openE_err {ts : List TaskV} {code : List UInt8} (h : openE ts code ≠ 0) (E : Nat → Addr) {w w' : World} {p : Nat} {F R : List Nat} (H : TaskIs w p F R ts) (hb : Below w.heap.size w w') : OpnEnds E w p F R ts code (.returned (.tuple #[.int .i64 0, errOf E (openE ts code)])) w' := by
 refine ⟨by rw [if_neg h], F, ?_, ButF.of_below hb, fun k hk => .inl hk⟩
 unfold openT
 rw [if_neg h]
 exact H.below hb
set_option maxHeartbeats 1600000 in
set_option maxRecDepth 100000 in
theorem openTask_any (E : Nat → Addr) {w : World} {p : Nat} {F R : List Nat} {ts : List TaskV} (H : TaskIs w p F R ts) (code : List UInt8) (hc : code.length ≤ 1000000) (hts : ts.length ≤ 1000) (hG : TaskH E w) :
  Calls Tryz.prog 16 #[.pointer (some ⟨p, 0, none⟩), .string ⟨code.toArray⟩] w (OpnEnds E w p F R ts code) := by
 have hmf : ∀ (fn : Fn) (first cap : Array Value) (w : World), (Instr.makeFunc fn first cap).run Tryz.prog w = .ok (.func fn first cap) w := fun _ _ _ _ => rfl
 have HEND := Lib.hid (fun n (hn : openE ts code = n) (h0 : n ≠ 0) W (hb : Below w.heap.size w W) => (by have := openE_err (by rw [hn]; exact h0) E H hb; rw [hn] at this; exact this : OpnEnds E w p F R ts code (.returned (.tuple #[.int .i64 0, errOf E n])) W))
 have HT := Lib.hid H
 obtain ⟨v, cs, hcs, hm, hF, hnd, hR1, hR⟩ := H
 have hlen : cs.length = ts.length := by rw [← hcs, List.length_map]
 have e5 := hG.bk.stk.place.name
 have e7 := hG.bk.exist
 have e8 := hG.bk.stk.full
 have l5 := lt_of_cell e5
 have l7 := lt_of_cell e7
 have l8 := lt_of_cell e8
 simp only at l5 l7 l8
 unfold ErrAt at e5 e7 e8
 have b0 := below_one w (.cells #[.string ⟨code.toArray⟩] 9)
 have hc0 : (w.alloc (.cells #[.string ⟨code.toArray⟩] 9)).cell? ⟨w.heap.size, 0, none⟩ = some (.string ⟨code.toArray⟩) := (cell_of_row _ _ _ _ _ _ (heap_alloc_new w _)).trans rfl
 have hsz : w.heap.size < (w.alloc (.cells #[.string ⟨code.toArray⟩] 9)).heap.size := row_lt (heap_alloc_new w _)
 have HU : Hid (∀ W, Below w.heap.size w W → W.cell? ⟨0, 0, none⟩ = some (.iface 373 (.pointer (some (E 5)))) ∧ W.cell? ⟨1, 0, none⟩ = some (.iface 373 (.pointer (some (E 7)))) ∧ W.cell? ⟨2, 0, none⟩ = some (.iface 373 (.pointer (some (E 8))))) := fun W hb => ⟨(hb.cell l5).trans e5, (hb.cell l7).trans e7, (hb.cell l8).trans e8⟩
 have HN := Lib.hid (name_any code (by omega))
 have HB0 := Lib.hid b0
 have HC0 := Lib.hid hc0
 clear hG e5 e7 e8 l5 l7 l8 b0 hc0
 go_enter Tryz.func16, Tryz.ntmps16
 go_upto_region 1 with fail
 generalize w.alloc (.cells #[.string ⟨code.toArray⟩] 9) = W0 at HB0 HC0 hsz ⊢
 have hc0 := HC0.out
 go_wp2_with fail
 refine (HN.out W0).mono ?_
 rintro e w1 ⟨rfl, b1⟩
 have B1 := Lib.hid b1
 have BW1 := Lib.hid (HB0.out.trans (b1.mono HB0.out.size))
 have HC1 := Lib.hid ((b1.cell (p := ⟨w.heap.size, 0, none⟩) hsz).trans HC0.out)
 clear b1 hc0
 cases hnm : nameB code with
 |false =>
  have HE : Hid (openE ts code = 5) := by show _ = _; unfold openE; rw [if_pos hnm]
  obtain ⟨e5, -, -⟩ := HU.out w1 BW1.out
  clear hnm
  go_wp2_with fail
  go_quiet (fail)
  go_wp2_with fail
  go_ret2
  exact HEND.out 5 HE.out (by decide) _ (below_drewN BW1.out _)
 |true =>
  have hm1 := hm.keep (BW1.out.block p (row_lt hm.box)) (fun g hg => BW1.out.block g (hm.own.lt g (blockL_own hg)).2) (fun k hk => BW1.out.block k (by have := (hR k (by rw [hR1]; exact hk)).2; exact this)) BW1.out.size
  obtain ⟨A, cap, hv, hc1, hrow⟩ := hm1.slice
  have HV := Lib.hid hv
  have HCT := Lib.hid (containsTask_any A cap cs code w.heap.size w1 hrow (by omega) HC1.out)
  rw [open_any, hcs] at HCT
  have HLEN := Lib.hid hlen
  rw [hlen] at HCT hc1 hv
  clear hrow
  have hAny : ∃ r, r = ts.any fun x => decide (x.1 = code) && !overT x := ⟨_, rfl⟩
  obtain ⟨r, hr⟩ := hAny
  rw [← hr] at HCT
  have HR := Lib.hid hr
  clear hr
  go_wp2_with fail
  refine HCT.out.mono ?_
  rintro e w2 ⟨rfl, b2⟩
  have BW2 := Lib.hid (BW1.out.trans (b2.mono BW1.out.size))
  have HC2 := Lib.hid ((b2.cell (p := ⟨w.heap.size, 0, none⟩) (lt_of_cell HC1.out)).trans HC1.out)
  have c2 := (b2.cell (p := ⟨p, 0, none⟩) (lt_of_cell hc1)).trans hc1
  clear b2 hc1 HCT
  cases r with
  |true =>
   have HE : Hid (openE ts code = 7) := by show _ = _; unfold openE; rw [if_neg (by rw [hnm]; decide), if_pos HR.out.symm]
   obtain ⟨-, e7, -⟩ := HU.out w2 BW2.out
   clear hnm c2
   go_wp2_with fail
   go_quiet (fail)
   go_wp2_with fail
   go_ret2
   exact HEND.out 7 HE.out (by decide) _ (below_drewN BW2.out _)
  |false =>
   by_cases h30 : 30 ≤ ts.length
   ·have HE : Hid (openE ts code = 8) := by show _ = _; unfold openE; rw [if_neg (by rw [hnm]; decide), if_neg (by rw [← HR.out]; decide), if_pos h30]
    obtain ⟨-, -, e8⟩ := HU.out w2 BW2.out
    have h30' : (30 : Int) ≤ (ts.length : Nat) := by omega
    clear hnm
    go_wp2_with fail
    go_quiet (fail)
    go_wp2_with fail
    go_ret2
    exact HEND.out 8 HE.out (by decide) _ (below_drewN BW2.out _)
   ·have HE : Hid (openE ts code = 0) := by show _ = _; unfold openE; rw [if_neg (by rw [hnm]; decide), if_neg (by rw [← HR.out]; decide), if_neg h30]
    have h30' : ¬ (30 : Int) ≤ (ts.length : Nat) := by omega
    have hm2 := hm.keep (BW2.out.block p (row_lt hm.box)) (fun g hg => BW2.out.block g (hm.own.lt g (blockL_own hg)).2) (fun k hk => BW2.out.block k (by have := (hR k (by rw [hR1]; exact hk)).2; exact this)) BW2.out.size
    have hpv := (List.nodup_cons.1 (by rw [hF] at hnd; exact hnd)).1
    have HM2 := Lib.hid hm2
    have hcc := HC2.out
    have ho2 := hm2.own
    rw [hlen] at ho2
    have HO2 := Lib.hid ho2
    have HX2 := Lib.hid hm2.box
    have hpw := row_lt hm2.box
    subst hv
    clear hnm hm ho2
    go_wp2_with fail
    go_region_law (refine step_append_task _ rfl (.tmp 31) (.tmp 34) rfl p (.slice A ts.length cap) ts.length (flatL encTask cs) ((code, sOpen, [], [], []), none, 0) ((HO2.out.alloc _).drew : World.ownsRow _ _ _ _ _ _ _) ((show (World.drew _).heap[_]? = _ from heap_alloc_old _ _ hpw).trans HX2.out) hpv (by simp [Act.eval]) _ 1 (by simp [Act.eval]) (World.news_of_block (cs := #[.string ⟨code.toArray⟩, .string ⟨#[111, 112, 101, 110]⟩, .string ⟨#[]⟩, .string ⟨#[]⟩, .slice none 0 0]) (t := 39) (fr := (0, 0)) (show (World.drew _).heap[_]? = _ from heap_alloc_new w2 _)) (by omega) ?_; intro g' cap' w4 KK hcp hfp)
    all_goals
     have hbX := Lib.hid (BW2.out.trans ((below_one w2 (.cells #[.string ⟨code.toArray⟩, .string ⟨#[111, 112, 101, 110]⟩, .string ⟨#[]⟩, .string ⟨#[]⟩, .slice none 0 0] 39)).drew.mono BW2.out.size))
     obtain ⟨k1, k2, k3, k4⟩ := KK.out
     have hmX := hm2.keep (w' := (w2.alloc (.cells #[.string ⟨code.toArray⟩, .string ⟨#[111, 112, 101, 110]⟩, .string ⟨#[]⟩, .string ⟨#[]⟩, .slice none 0 0] 39)).drew) (heap_alloc_old _ _ hpw) (fun g hg => heap_alloc_old _ _ (hm2.own.lt g (blockL_own hg)).2) (fun k hk => heap_alloc_old _ _ (Nat.lt_of_lt_of_le ((hR k (by rw [hR1]; exact hk)).2) BW2.out.size)) (by simp)
     have hq := hmX.longer (by rw [← hF]; exact hnd) (fun k hk => ⟨by rw [← hF]; exact (hR k (by rw [hR1]; exact hk)).1, Nat.lt_of_lt_of_le (hR k (by rw [hR1]; exact hk)).2 hbX.out.size⟩) (q := ((code, sOpen, [], [], []), none, 0)) hlen.symm rfl k1 k2 k3 k4
     have hcW : (w4.setCell ⟨p, 0, none⟩ (.slice (some ⟨g', 0, none⟩) (ts.length + 1) cap')).cell? ⟨p, 0, none⟩ = some (.slice (some ⟨g', 0, none⟩) (ts.length + 1) cap') := by
      have := heap_setCell_same w4 p 0 _ _ (.slice (some ⟨g', 0, none⟩) (ts.length + 1) cap') k4
      exact (cell_of_row _ _ _ _ _ _ this).trans rfl
     have HQ := Lib.hid hq
     generalize w4.setCell ⟨p, 0, none⟩ (.slice (some ⟨g', 0, none⟩) (ts.length + 1) cap') = W at hcW HQ ⊢
     clear hq hmX k1 k2 k3 k4 KK hcp hfp hcc c2
     go_wp2_with fail
     go_ret2
     obtain ⟨q1, q2, q3⟩ := HQ.out
     refine ⟨?_, [p, g'], ?_, ?_, fun k hk => ?_⟩
     ·rw [HE.out, if_pos rfl]
      rfl
     ·unfold openT
      rw [HE.out, if_pos rfl, hR1]
      rw [List.map_append, hcs] at q1
      exact q1
     ·rw [hF]
      exact (ButF.of_below hbX.out).step q2
     ·rw [hF]
      rcases q3 k hk with e | e
      ·exact .inl e
      ·exact .inr (Nat.le_trans hbX.out.size e)
end Go.Proofs.YtchiojiicehpeaaGreatDoor
namespace Go.Proofs.YtchiojiicehpeaaGreatDoor
open Go.RowKit Go.Sort Go.Proofs
theorem eqInLine (x y : LineV) (W : World) : (Op.equalIn 10000 60 (.agg (encLine x).toArray) (.agg (encLine y).toArray)).run Tryz.prog W = .ok (decide (x = y)) W := by
 have u3 := Tryz.underlying3
 have u9 := Tryz.underlying9
 have hS : Tryz.prog.underlying 60 = some (.struct (Tryz.prog.fieldsOf 60)) := by kernel_rfl
 have hp : Tryz.prog.stoodInHeld 60 = false := by kernel_rfl
 have pS : Tryz.prog.underlying 58 = some (.struct (Tryz.prog.fieldsOf 58)) := by kernel_rfl
 have pp : Tryz.prog.stoodInHeld 58 = false := by kernel_rfl
 have eP : ∀ (a1 b1 : List UInt8) (a2 a3 b2 b3 : Int) (W : World), (Op.equalIn 9999 58 (.agg #[.string ⟨a1.toArray⟩, .int .i64 a2, .int .i64 a3]) (.agg #[.string ⟨b1.toArray⟩, .int .i64 b2, .int .i64 b3])).run Tryz.prog W = .ok (decide (a1 = b1 ∧ a2 = b2 ∧ a3 = b3)) W := fun a1 b1 a2 a3 b2 b3 W => by
  rw [show (9999 : Nat) = 9998 + 1 from rfl, run_equalIn_agg W 9998 58 _ _ pS pp]
  simp only [Program.fieldsOf, Tryz.underlying58]
  go_simp
  by_cases h1 : a1 = b1 <;> by_cases h2 : a2 = b2 <;> by_cases h3 : a3 = b3 <;> simp [h1, h2, h3]
 simp only [encLine]
 rw [show (10000 : Nat) = 9999 + 1 from rfl, run_equalIn_agg W 9999 60 _ _ hS hp]
 clear hS hp pS pp
 simp only [Program.fieldsOf, Tryz.underlying60]
 go_simp
 obtain ⟨⟨a1, a2, a3⟩, a4, a5⟩ := x
 obtain ⟨⟨b1, b2, b3⟩, b4, b5⟩ := y
 by_cases h1 : a1 = b1 <;> by_cases h2 : a2 = b2 <;> by_cases h3 : a3 = b3 <;> by_cases h4 : a4 = b4 <;> by_cases h5 : a5 = b5 <;> simp [h1, h2, h3, h4, h5]
theorem neqLine (x y : LineV) (W : World) : (binOp .neq 60 (.agg (encLine x).toArray) (.agg (encLine y).toArray)).run Tryz.prog W = .ok (.bool (!decide (x = y))) W := by
 rw [run_neq_struct, eqInLine]
 rfl
theorem eqLine (x y : LineV) (W : World) : (binOp .eql 60 (.agg (encLine x).toArray) (.agg (encLine y).toArray)).run Tryz.prog W = .ok (.bool (decide (x = y))) W := by
 rw [run_eql_struct, eqInLine]
 rfl
end Go.Proofs.YtchiojiicehpeaaGreatDoor
