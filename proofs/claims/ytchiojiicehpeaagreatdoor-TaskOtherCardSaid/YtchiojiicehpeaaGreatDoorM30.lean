/- Tasks of counting: over; Get. Tasks of counting: a field turned; Doubt, Refuse. Tasks of counting: Refuse. -/
import Derived.BigQuiet
import Derived.Test.YtchiojiicehpeaaGreatDoorM17
import Derived.Test.YtchiojiicehpeaaGreatDoorM29
namespace Go.Proofs.YtchiojiicehpeaaGreatDoor
open Go.RowKit Go.Sort Go.Proofs
set_option maxHeartbeats 400000 in
theorem overTask_any (c : TaskC) (w : World) : Calls Tryz.prog 53 #[.agg (encTask c).toArray] w fun e w' => e = .returned (.bool (overT c.1)) ∧ Below w.heap.size w w' := by
 obtain ⟨⟨x1, x2, x3, x4, x5⟩, A, cap⟩ := c
 have HT : Hid (overT (x1, x2, x3, x4, x5) = (decide (x2 = sDone) || decide (x2 = sRefused))) := by
  show _ = _
  unfold overT
  rw [Bool.decide_or]
 simp only [encTask]
 by_cases h1 : x2 = sDone
 ·have e1 : (x2 == [100, 111, 110, 101]) = true := by rw [h1]; rfl
  have HV : Hid (overT (x1, x2, x3, x4, x5) = true) := by show _ = _; rw [HT.out, decide_eq_true h1]; rfl
  clear h1 HT
  go_enter Tryz.func53, Tryz.ntmps53
  go_wp2_with fail
  go_ret
  exact ⟨by rw [HV.out]; rfl, below_one _ _⟩
 ·have e1 : (x2 == [100, 111, 110, 101]) = false := by simpa [sDone] using h1
  by_cases h2 : x2 = sRefused
  ·have e2 : (x2 == [114, 101, 102, 117, 115, 101, 100]) = true := by rw [h2]; rfl
   have HV : Hid (overT (x1, x2, x3, x4, x5) = true) := by show _ = _; rw [HT.out, decide_eq_true h2, Bool.or_true]
   clear h1 h2 HT
   go_enter Tryz.func53, Tryz.ntmps53
   go_wp2_with fail
   go_ret
   exact ⟨by rw [HV.out]; rfl, below_one _ _⟩
  ·have e2 : (x2 == [114, 101, 102, 117, 115, 101, 100]) = false := by simpa [sRefused] using h2
   have HV : Hid (overT (x1, x2, x3, x4, x5) = false) := by show _ = _; rw [HT.out, decide_eq_false h1, decide_eq_false h2]; rfl
   clear h1 h2 HT
   go_enter Tryz.func53, Tryz.ntmps53
   go_wp2_with fail
   go_ret
   exact ⟨by rw [HV.out]; rfl, below_one _ _⟩
theorem taskP_none {v : Value} {n : Nat} {k : Int} (h : k < 0 ∨ (n : Int) ≤ k) : taskP v n k = .pointer none := by
 unfold taskP
 rw [if_pos h]
theorem taskP_at {g cap n m : Nat} (h : m < n) : taskP (.slice (some ⟨g, 0, none⟩) n cap) n (m : Int) = .pointer (some ⟨g, m * 5, none⟩) := by
 unfold taskP
 rw [if_neg (by omega)]
 rfl
theorem atT_none {ts : List TaskV} {k : Int} (h : k < 0 ∨ (ts.length : Int) ≤ k) : atT ts k = none := by
 unfold atT
 split
 ·rfl
 ·rename_i h0
  exact List.getElem?_eq_none (by omega)
theorem atT_at {ts : List TaskV} {m : Nat} (h : m < ts.length) : atT ts (m : Int) = some ts[m] := by
 unfold atT
 rw [if_neg (by omega), Int.toNat_natCast]
 exact List.getElem?_eq_getElem h
theorem RowAt.keepT {α : Type} {enc : α → List Value} {k : Nat} {w w' : World} {A : Option Addr} {xs : List α} {b : Nat} (h : RowAt enc k w A xs) (ht : Turned b w w') (hA : ∀ a, A = some a → a.block ≠ b) : RowAt enc k w' A xs := by
 rcases h with h | ⟨g, o, h1, h2, h3⟩
 ·exact .inl h
 ·exact .inr ⟨g, o, h1, Nat.lt_of_lt_of_le h2 (Nat.le_of_eq ht.size.symm), fun i hi c v hv => (World.cell?_of_block (a := ⟨g, o + i * k + c, none⟩) (ht.block g (hA ⟨g, o, none⟩ h1))).trans (h3 i hi c v hv)⟩
def GetEnds (o : Option TaskV) (w : World) (e : Ending) (w' : World) : Prop :=
 Below w.heap.size w w' ∧ match o with
 |none => e = .returned (.tuple #[.agg #[.string ⟨#[]⟩, .string ⟨#[]⟩, .string ⟨#[]⟩, .string ⟨#[]⟩, .slice none 0 0], .bool false])
 |some x => ∃ A cap, e = .returned (.tuple #[.agg (encTask (x, A, cap)).toArray, .bool true]) ∧ RowAt encLine 5 w' A x.2.2.2.2 ∧ ∀ a, A = some a → w.heap.size ≤ a.block
set_option maxHeartbeats 1600000 in
set_option maxRecDepth 100000 in
theorem getTask_any {w : World} {p : Nat} {F R : List Nat} {ts : List TaskV} (H : TaskIs w p F R ts) (hs : ∀ x ∈ ts, x.2.2.2.2.length ≤ 1000) (k : Int) :
  Calls Tryz.prog 15 #[.pointer (some ⟨p, 0, none⟩), .int .i64 k] w (GetEnds (atT ts k) w) := by
 obtain ⟨v, cs, rfl, hm, -, -, -, -⟩ := H
 have b0 := below_one w (.cells #[.string ⟨#[]⟩, .string ⟨#[]⟩, .string ⟨#[]⟩, .string ⟨#[]⟩, .slice none 0 0] 39)
 have h0 := heap_alloc_new w (.cells #[.string ⟨#[]⟩, .string ⟨#[]⟩, .string ⟨#[]⟩, .string ⟨#[]⟩, .slice none 0 0] 39)
 have hm0 : TaskM (w.alloc (.cells #[.string ⟨#[]⟩, .string ⟨#[]⟩, .string ⟨#[]⟩, .string ⟨#[]⟩, .slice none 0 0] 39)) p v cs := by
  have hlt := (show ∀ g, v.ownBlock = some g → g < w.heap.size from fun g hg => (hm.own.lt g hg).2)
  refine ⟨(b0.block p (row_lt hm.box)).trans hm.box, own_kept hm.own fun g hg => b0.block g (hlt g hg), (fun c hc => (hm.sheet c hc).below b0), hm.room⟩
 by_cases hk : k < 0 ∨ (cs.length : Int) ≤ k
 ·have HO : Hid (atT (cs.map (·.1)) k = none) := atT_none (by rw [List.length_map]; exact hk)
  have HA := Lib.hid (atTasks_any hm0 k)
  rw [taskP_none hk] at HA
  have B0 := Lib.hid b0
  have H0 := Lib.hid h0
  clear hm hm0 hk b0 h0 hs
  go_enter Tryz.func15, Tryz.ntmps15
  go_upto_region 1 with fail
  generalize w.alloc (.cells #[.string ⟨#[]⟩, .string ⟨#[]⟩, .string ⟨#[]⟩, .string ⟨#[]⟩, .slice none 0 0] 39) = W0 at B0 H0 HA ⊢
  go_wp2_with fail
  refine HA.out.mono ?_
  rintro e w1 ⟨rfl, rfl⟩
  go_wp2_with (refine wpList_store_box rfl 39 (.tmp 4) _ rfl w.heap.size [.string ⟨#[]⟩, .string ⟨#[]⟩, .string ⟨#[]⟩, .string ⟨#[]⟩, .slice none 0 0] rfl rfl _ [.string ⟨#[]⟩, .string ⟨#[]⟩, .string ⟨#[]⟩, .string ⟨#[]⟩, .slice none 0 0] H0.out (by kernel_rfl) rfl (by simp [Value.oneCell']) ?_; intro w2 h2 tu2)
  refine bodyPost_ret (results_cell_row2 rfl _ _ w.heap.size 39 #[.string ⟨#[]⟩, .string ⟨#[]⟩, .string ⟨#[]⟩, .string ⟨#[]⟩, .slice none 0 0] (0, 0) _ rfl h2 Tryz.underlying39 rfl (by kernel_rfl)) rfl ?_
  rw [HO.out]
  exact ⟨B0.out.trans (tu2.below (Nat.le_refl _)), rfl⟩
 ·obtain ⟨m, rfl⟩ : ∃ m : Nat, k = m := ⟨k.toNat, by omega⟩
  have hmx : m < cs.length := by omega
  have hmt : m < (cs.map (·.1)).length := by rw [List.length_map]; exact hmx
  obtain ⟨c, hc⟩ : ∃ c, c = cs[m] := ⟨_, rfl⟩
  have HO : Hid (atT (cs.map (·.1)) (m : Int) = some c.1) := by
   show _ = _
   rw [atT_at hmt, List.getElem_map, hc]
  have hlen := hs c.1 (by rw [hc]; exact List.mem_map_of_mem (List.getElem_mem hmx))
  obtain ⟨g, cap, rfl, hg, -, -, hcell⟩ := hm0.at_ hmx
  have HA := Lib.hid (atTasks_any hm0 (m : Int))
  rw [taskP_at hmx] at HA
  have HLY : Hid (Lies (w.alloc (.cells #[.string ⟨#[]⟩, .string ⟨#[]⟩, .string ⟨#[]⟩, .string ⟨#[]⟩, .slice none 0 0] 39)) g (m * 5) (encTask c)) := fun j u hu => hcell j u (by rw [← hc]; exact hu)
  have c4 : (w.alloc (.cells #[.string ⟨#[]⟩, .string ⟨#[]⟩, .string ⟨#[]⟩, .string ⟨#[]⟩, .slice none 0 0] 39)).cell? ⟨g, m * 5 + 4, none⟩ = some (.slice c.2.1 c.1.2.2.2.2.length c.2.2) := hcell 4 _ (by rw [← hc]; rfl)
  have HSH := Lib.hid (hm0.sheet c (by rw [hc]; exact List.getElem_mem hmx))
  have B0 := Lib.hid b0
  have H0 := Lib.hid h0
  have h00 := row_lt h0
  obtain ⟨⟨x1, x2, x3, x4, x5⟩, A, cp⟩ := c
  simp only at HSH c4 hlen
  obtain ⟨n, hn⟩ : ∃ n, n = x5.length := ⟨_, rfl⟩
  have HN := Lib.hid hn
  rw [← hn] at c4 hlen
  have HCL := Lib.hid (fun W (hb : Below (w.alloc (.cells #[.string ⟨#[]⟩, .string ⟨#[]⟩, .string ⟨#[]⟩, .string ⟨#[]⟩, .slice none 0 0] 39)).heap.size (w.alloc (.cells #[.string ⟨#[]⟩, .string ⟨#[]⟩, .string ⟨#[]⟩, .string ⟨#[]⟩, .slice none 0 0] 39)) W) => cloneLine_any A cp x5 W (by rw [← HN.out]; exact hlen) (HSH.out.below hb))
  rw [← hn] at HCL
  have h5 : (encTask ((x1, x2, x3, x4, x5), A, cp)).length = 5 := rfl
  have HZ1 := Lib.hid (encTask_one ((x1, x2, x3, x4, x5), A, cp))
  obtain ⟨LZ, hLZ⟩ : ∃ LZ, LZ = encTask ((x1, x2, x3, x4, x5), A, cp) := ⟨_, rfl⟩
  have HLE : Hid (LZ = [.string ⟨x1.toArray⟩, .string ⟨x2.toArray⟩, .string ⟨x3.toArray⟩, .string ⟨x4.toArray⟩, .slice A n cp]) := by
   show _ = _
   rw [hLZ, hn]
   rfl
  rw [← hLZ] at h5 HZ1 HLY
  clear hm hm0 hk b0 h0 hs hcell hc hmt hLZ hn
  go_enter Tryz.func15, Tryz.ntmps15
  go_upto_region 1 with fail
  generalize w.alloc (.cells #[.string ⟨#[]⟩, .string ⟨#[]⟩, .string ⟨#[]⟩, .string ⟨#[]⟩, .slice none 0 0] 39) = W0 at B0 H0 HA HLY c4 HSH HCL h00 hg ⊢
  go_wp2_with fail
  refine HA.out.mono ?_
  rintro e w1 ⟨rfl, rfl⟩
  have hba := below_one W0 (.cells #[.string ⟨#[]⟩, .string ⟨#[]⟩, .string ⟨#[]⟩, .string ⟨#[]⟩, .slice none 0 0] 39)
  go_upto_region 5 with (first | (refine wpList_load_at rfl 39 _ rfl g (m * 5) rfl LZ HLY.out _ Tryz.underlying39 rfl (by rw [h5]; kernel_rfl) ?_) | (refine wpList_store_box rfl 39 _ _ rfl W0.heap.size LZ rfl rfl _ [.string ⟨#[]⟩, .string ⟨#[]⟩, .string ⟨#[]⟩, .string ⟨#[]⟩, .slice none 0 0] (heap_alloc_new W0 _) (by rw [h5]; kernel_rfl) (by rw [h5]; rfl) HZ1.out ?_; intro w2 h2 tu2))
  have b2 := hba.trans (tu2.below (Nat.le_refl _))
  have B2 := Lib.hid b2
  have c42 := (b2.cell (p := ⟨g, m * 5 + 4, none⟩) hg).trans c4
  rw [HLE.out] at h2
  have H2 := Lib.hid h2
  have HCL2 := Lib.hid (HCL.out w2 b2)
  clear hba tu2 b2 h2 c4 HCL HLY
  go_wp2_with fail
  refine HCL2.out.mono ?_
  rintro e w3 ⟨A3, c3, rfl, hr3, hf3, -, b3⟩
  have hx3 := (b3.block _ (row_lt H2.out)).trans H2.out
  have B3 := Lib.hid (B2.out.trans (b3.mono B2.out.size))
  have HR3 := Lib.hid hr3
  have hz3 := row_lt hx3
  have hs23 := b3.size
  clear b3 hr3 HCL2 c42
  have hd0 : w.heap.size < W0.heap.size := h00
  have h03 := (B3.out.block _ hd0).trans H0.out
  go_upto_region 6 with (refine wpList_store_val rfl 33 _ _ rfl W0.heap.size 4 (.slice A3 n c3) rfl rfl rfl _ [.string ⟨x1.toArray⟩, .string ⟨x2.toArray⟩, .string ⟨x3.toArray⟩, .string ⟨x4.toArray⟩, .slice A n cp] hx3 (by kernel_rfl) (Nat.le_of_ble_eq_true rfl) rfl ?_; intro w4 h4 tu4)
  have h04 := (tu4.block _ (by omega)).trans h03
  have h4' : w4.heap[W0.heap.size]? = some (.cells [Value.string ⟨x1.toArray⟩, .string ⟨x2.toArray⟩, .string ⟨x3.toArray⟩, .string ⟨x4.toArray⟩, .slice A3 n c3].toArray 39 (0, 0)) := h4
  have B4 := Lib.hid (B3.out.trans (tu4.below (Nat.le_refl _)))
  have HR4 := Lib.hid (RowAt.keepT HR3.out tu4 (fun a ha => by have := hf3 a ha; have := row_lt H2.out; omega))
  clear h4 tu4 hx3 h03
  go_wp2_with (first | (refine wpList_load_at rfl 39 (.tmp 7) rfl W0.heap.size 0 rfl [.string ⟨x1.toArray⟩, .string ⟨x2.toArray⟩, .string ⟨x3.toArray⟩, .string ⟨x4.toArray⟩, .slice A3 n c3] (Lies.row _ h4') _ Tryz.underlying39 rfl (by kernel_rfl) ?_) | (refine wpList_store_box rfl 39 (.tmp 4) _ rfl w.heap.size [.string ⟨x1.toArray⟩, .string ⟨x2.toArray⟩, .string ⟨x3.toArray⟩, .string ⟨x4.toArray⟩, .slice A3 n c3] rfl rfl _ [.string ⟨#[]⟩, .string ⟨#[]⟩, .string ⟨#[]⟩, .string ⟨#[]⟩, .slice none 0 0] h04 (by kernel_rfl) rfl (by simp [Value.oneCell']) ?_; intro w5 h5' tu5))
  refine bodyPost_ret (results_cell_row2 rfl _ _ w.heap.size 39 #[.string ⟨x1.toArray⟩, .string ⟨x2.toArray⟩, .string ⟨x3.toArray⟩, .string ⟨x4.toArray⟩, .slice A3 n c3] (0, 0) _ rfl h5' Tryz.underlying39 rfl (by kernel_rfl)) rfl ?_
  rw [HO.out]
  have B4w := B0.out.trans (B4.out.mono B0.out.size)
  refine ⟨B4w.trans (tu5.below (Nat.le_refl _)), A3, c3, by rw [HN.out]; rfl, RowAt.keepT HR4.out tu5 (fun a ha => by have := hf3 a ha; have := B2.out.size; omega), fun a ha => by have := hf3 a ha; have := B2.out.size; omega⟩
end Go.Proofs.YtchiojiicehpeaaGreatDoor
namespace Go.Proofs.YtchiojiicehpeaaGreatDoor
open Go.RowKit Go.Sort Go.Proofs
structure TaskG (E : Nat → Addr) (w : World) : Prop where
 none : ErrAt 3 (E 6) w
 state : ErrAt 4 (E 11) w
theorem TaskG.below {E : Nat → Addr} {w w' : World} (h : TaskG E w) (hb : Below w.heap.size w w') : TaskG E w' := ⟨h.none.below hb, h.state.below hb⟩
theorem sheets_set : ∀ (cs : List TaskC) (m : Nat) (hm : m < cs.length) (y : TaskC), y.1.2.2.2.2 = cs[m].1.2.2.2.2 → y.2.1 = cs[m].2.1 → sheetsL (cs.set m y) = sheetsL cs
 |[], m, hm, _, _, _ => by simp at hm
 |c :: r, 0, _, y, h1, h2 => by
  have h1 : y.1.2.2.2.2 = c.1.2.2.2.2 := h1
  have h2 : y.2.1 = c.2.1 := h2
  show sheetsL (y :: r) = sheetsL (c :: r)
  unfold sheetsL
  rw [List.filterMap_cons, List.filterMap_cons, h1, h2]
 |c :: r, m + 1, hm, y, h1, h2 => by
  have ih := sheets_set r m (by simpa using hm) y h1 h2
  show sheetsL (c :: r.set m y) = sheetsL (c :: r)
  unfold sheetsL at ih ⊢
  rw [List.filterMap_cons, List.filterMap_cons, ih]
theorem map_setT (cs : List TaskC) (m : Nat) (hm : m < cs.length) (y : TaskC) (f : TaskV → TaskV) (h : y.1 = f cs[m].1) : (cs.set m y).map (·.1) = setT (cs.map (·.1)) (m : Int) f := by
 show _ = (cs.map (·.1)).modify m f
 refine List.ext_getElem (by simp) fun i h1 h2 => ?_
 rw [List.getElem_map, List.getElem_set, List.getElem_modify, List.getElem_map]
 by_cases hi : m = i
 ·subst hi
  rw [if_pos rfl, if_pos rfl, h]
 ·rw [if_neg hi, if_neg hi]
theorem task_field {w w' : World} {p g cap : Nat} {cs : List TaskC} (h : TaskM w p (.slice (some ⟨g, 0, none⟩) cs.length cap) cs) (hR : ∀ k ∈ sheetsL cs, k ∉ [p, g] ∧ k < w.heap.size) (hpg : p ≠ g) {L : List Value} (hL : w.heap[g]? = some (.cells L.toArray 39 (0, 0))) {m c : Nat} (hm : m < cs.length) (hc : c < 4) {u : Value} (hw : w'.heap[g]? = some (.cells (L.take (m * 5 + c) ++ [u] ++ L.drop (m * 5 + c + 1)).toArray 39 (0, 0)))
  (ht : Turned g w w') {f : TaskV → TaskV} (hy : encTask (f cs[m].1, cs[m].2) = (encTask cs[m]).take c ++ [u] ++ (encTask cs[m]).drop (c + 1)) (hs : (f cs[m].1).2.2.2.2 = cs[m].1.2.2.2.2) :
  TaskM w' p (.slice (some ⟨g, 0, none⟩) cs.length cap) (cs.set m (f cs[m].1, cs[m].2)) ∧ sheetsL (cs.set m (f cs[m].1, cs[m].2)) = sheetsL cs ∧ (cs.set m (f cs[m].1, cs[m].2)).map (·.1) = setT (cs.map (·.1)) (m : Int) f := by
 have hns : ∀ d ∈ cs, ∀ a, d.2.1 = some a → d.1.2.2.2.2 ≠ [] → a.block ≠ g := fun d hd a ha hn e => (hR _ (mem_sheets hd ha hn)).1 (by rw [e]; simp)
 refine ⟨h.turn hL hm (by omega) hw ht hpg hns hy ?_ (by show (f cs[m].1).2.2.2.2.length ≤ cs[m].2.2; rw [hs]; exact h.room _ (List.getElem_mem hm)), sheets_set cs m hm _ hs rfl, map_setT cs m hm _ f rfl⟩
 show RowAt encLine 5 w' cs[m].2.1 (f cs[m].1).2.2.2.2
 rw [hs]
 by_cases hn : cs[m].1.2.2.2.2 = []
 ·exact .inl hn
 ·exact RowAt.keepT (h.sheet cs[m] (List.getElem_mem hm)) ht fun a ha => hns _ (List.getElem_mem hm) a ha hn
set_option maxHeartbeats 1600000 in
set_option maxRecDepth 100000 in
theorem doubt_any (E : Nat → Addr) {w : World} {p : Nat} {F R : List Nat} {ts : List TaskV} (H : TaskIs w p F R ts) (k : Int) (hG : TaskG E w) :
  Calls Tryz.prog 18 #[.pointer (some ⟨p, 0, none⟩), .int .i64 k] w fun e w' => e = .returned (errOf E (doubtE ts k)) ∧ TaskIs w' p F R (doubtT ts k) ∧ ButF F w w' := by
 have HT := Lib.hid H
 obtain ⟨v, cs, rfl, hm, rfl, hnd, rfl, hR⟩ := H
 have e6 := hG.none
 have e11 := hG.state
 have l6 := lt_of_cell e6
 have l11 := lt_of_cell e11
 have l0 : 0 < w.heap.size := Nat.lt_of_le_of_lt (Nat.zero_le _) l6
 simp only at l6 l11
 unfold ErrAt at e6 e11
 have HA := Lib.hid (atTasks_any hm k)
 clear hG
 by_cases hk : k < 0 ∨ (cs.length : Int) ≤ k
 ·have HO : Hid (atT (cs.map (·.1)) k = none) := atT_none (by rw [List.length_map]; exact hk)
  have HE : Hid (doubtE (cs.map (·.1)) k = 6) := by show _ = _; unfold doubtE; rw [HO.out]
  have HS : Hid (doubtT (cs.map (·.1)) k = cs.map (·.1)) := by show _ = _; unfold doubtT; rw [HE.out]; rfl
  rw [taskP_none hk] at HA
  clear hm hnd hR hk
  go_enter Tryz.func18, Tryz.ntmps18
  go_wp2_with fail
  refine HA.out.mono ?_
  rintro e w1 ⟨rfl, rfl⟩
  go_wp2_with fail
  go_ret
  rw [HE.out, HS.out]
  exact ⟨rfl, HT.out, ButF.refl _ _⟩
 ·obtain ⟨m, rfl⟩ : ∃ m : Nat, k = m := ⟨k.toNat, by omega⟩
  have hmx : m < cs.length := by omega
  have hmt : m < (cs.map (·.1)).length := by rw [List.length_map]; exact hmx
  have HO : Hid (atT (cs.map (·.1)) (m : Int) = some cs[m].1) := by
   show _ = _
   rw [atT_at hmt, List.getElem_map]
  obtain ⟨g, cap, rfl, hg, -, -, hcell⟩ := hm.at_ hmx
  rw [taskP_at hmx] at HA
  have hpg : p ≠ g := fun e => by
   have := (List.nodup_cons.1 hnd).1
   exact this (by rw [e]; exact blockL_mem rfl)
  have hR2 : ∀ k ∈ sheetsL cs, k ∉ [p, g] ∧ k < w.heap.size := fun k hk => hR k hk
  have c1 := hcell 1 _ rfl
  have c3 := hcell 3 _ rfl
  obtain ⟨L, hL, hLl⟩ := own_block hm.own
  have HF : Hid (∀ w' : World, w'.heap[g]? = some (.cells (L.take (m * 5 + 1) ++ [Value.string ⟨sAgain.toArray⟩] ++ L.drop (m * 5 + 1 + 1)).toArray 39 (0, 0)) → Turned g w w' → TaskIs w' p (p :: blockL (.slice (some ⟨g, 0, none⟩) cs.length cap)) (sheetsL cs) (setT (cs.map (·.1)) (m : Int) doubtX) ∧ ButF (p :: blockL (.slice (some ⟨g, 0, none⟩) cs.length cap)) w w') := fun w' hw ht => by
   obtain ⟨t1, t2, t3⟩ := task_field hm hR2 hpg hL hmx (by decide) hw ht (f := doubtX) rfl rfl
   refine ⟨⟨_, _, t3, ?_, rfl, hnd, t2.symm, fun k hk => ⟨(hR k hk).1, Nat.lt_of_lt_of_le (hR k hk).2 (Nat.le_of_eq ht.size.symm)⟩⟩, ButF.of_turned ht (.inl (List.mem_cons_of_mem _ (blockL_mem rfl)))⟩
   exact t1
  generalize cs[m] = c at HO c1 c3
  obtain ⟨⟨x1, x2, x3, x4, x5⟩, A, cp⟩ := c
  simp only at HO c1 c3
  have hlo : m * 5 + 1 < L.length := by omega
  have hHL := Lib.hid hL
  by_cases h1 : x2 = sCounted
  ·have e1 : (x2 == [99, 111, 117, 110, 116, 101, 100]) = true := by rw [h1]; rfl
   by_cases h2 : x4 = []
   ·have HE : Hid (doubtE (cs.map (·.1)) (m : Int) = 0) := by
     show _ = _
     unfold doubtE
     rw [HO.out]
     simp [h1, h2]
    have HS : Hid (doubtT (cs.map (·.1)) (m : Int) = setT (cs.map (·.1)) (m : Int) doubtX) := by show _ = _; unfold doubtT; rw [HE.out]; rfl
    subst h2
    clear h1 hm hnd hR hk hcell hmt HO hL hR2 HT
    go_enter Tryz.func18, Tryz.ntmps18
    go_wp2_with fail
    refine HA.out.mono ?_
    rintro e w1 ⟨rfl, rfl⟩
    go_wp2_with (refine wpList_store_val rfl 9 _ _ rfl g (m * 5 + 1) (.string ⟨sAgain.toArray⟩) rfl rfl rfl _ L hHL.out (by kernel_rfl) hlo rfl ?_; intro w2 h2 tu2)
    go_ret
    rw [HE.out, HS.out]
    exact ⟨rfl, HF.out _ h2 tu2⟩
   ·have HE : Hid (doubtE (cs.map (·.1)) (m : Int) = 11) := by
     show _ = _
     unfold doubtE
     rw [HO.out]
     simp [h2]
    have HS : Hid (doubtT (cs.map (·.1)) (m : Int) = cs.map (·.1)) := by show _ = _; unfold doubtT; rw [HE.out]; rfl
    obtain ⟨y, r, rfl⟩ : ∃ y r, x4 = y :: r := by
     cases x4 with
     |nil => exact absurd rfl h2
     |cons y r => exact ⟨y, r, rfl⟩
    clear h1 h2 hm hnd hR hk hcell hmt HO hL hR2
    go_enter Tryz.func18, Tryz.ntmps18
    go_wp2_with fail
    refine HA.out.mono ?_
    rintro e w1 ⟨rfl, rfl⟩
    go_wp2_with fail
    go_ret
    rw [HE.out, HS.out]
    exact ⟨rfl, HT.out, ButF.refl _ _⟩
  ·have e1 : (x2 == [99, 111, 117, 110, 116, 101, 100]) = false := by simpa [sCounted] using h1
   have HE : Hid (doubtE (cs.map (·.1)) (m : Int) = 11) := by
    show _ = _
    unfold doubtE
    rw [HO.out]
    simp [h1]
   have HS : Hid (doubtT (cs.map (·.1)) (m : Int) = cs.map (·.1)) := by show _ = _; unfold doubtT; rw [HE.out]; rfl
   clear h1 hm hnd hR hk hcell hmt HO hL hR2
   go_enter Tryz.func18, Tryz.ntmps18
   go_wp2_with fail
   refine HA.out.mono ?_
   rintro e w1 ⟨rfl, rfl⟩
   go_wp2_with fail
   go_ret
   rw [HE.out, HS.out]
   exact ⟨rfl, HT.out, ButF.refl _ _⟩
end Go.Proofs.YtchiojiicehpeaaGreatDoor
namespace Go.Proofs.YtchiojiicehpeaaGreatDoor
open Go.RowKit Go.Sort Go.Proofs
set_option maxHeartbeats 1600000 in
set_option maxRecDepth 100000 in
theorem refuse_any (E : Nat → Addr) {w : World} {p : Nat} {F R : List Nat} {ts : List TaskV} (H : TaskIs w p F R ts) (k : Int) (hG : TaskG E w) :
  Calls Tryz.prog 19 #[.pointer (some ⟨p, 0, none⟩), .int .i64 k] w fun e w' => e = .returned (errOf E (refuseE ts k)) ∧ TaskIs w' p F R (refuseT ts k) ∧ ButF F w w' := by
 have HT := Lib.hid H
 obtain ⟨v, cs, rfl, hm, rfl, hnd, rfl, hR⟩ := H
 have e6 := hG.none
 have e11 := hG.state
 have l6 := lt_of_cell e6
 have l11 := lt_of_cell e11
 have l0 : 0 < w.heap.size := Nat.lt_of_le_of_lt (Nat.zero_le _) l6
 simp only at l6 l11
 unfold ErrAt at e6 e11
 have HA := Lib.hid (atTasks_any hm k)
 clear hG
 by_cases hk : k < 0 ∨ (cs.length : Int) ≤ k
 ·have HO : Hid (atT (cs.map (·.1)) k = none) := atT_none (by rw [List.length_map]; exact hk)
  have HE : Hid (refuseE (cs.map (·.1)) k = 6) := by show _ = _; unfold refuseE; rw [HO.out]
  have HS : Hid (refuseT (cs.map (·.1)) k = cs.map (·.1)) := by show _ = _; unfold refuseT; rw [HE.out]; rfl
  rw [taskP_none hk] at HA
  clear hm hnd hR hk
  go_enter Tryz.func19, Tryz.ntmps19
  go_wp2_with fail
  refine HA.out.mono ?_
  rintro e w1 ⟨rfl, rfl⟩
  go_wp2_with fail
  go_ret
  rw [HE.out, HS.out]
  exact ⟨rfl, HT.out, ButF.refl _ _⟩
 ·obtain ⟨m, rfl⟩ : ∃ m : Nat, k = m := ⟨k.toNat, by omega⟩
  have hmx : m < cs.length := by omega
  have hmt : m < (cs.map (·.1)).length := by rw [List.length_map]; exact hmx
  have HO : Hid (atT (cs.map (·.1)) (m : Int) = some cs[m].1) := by
   show _ = _
   rw [atT_at hmt, List.getElem_map]
  obtain ⟨g, cap, rfl, hg, -, -, hcell⟩ := hm.at_ hmx
  rw [taskP_at hmx] at HA
  have hpg : p ≠ g := fun e => by
   have := (List.nodup_cons.1 hnd).1
   exact this (by rw [e]; exact blockL_mem rfl)
  have hR2 : ∀ k ∈ sheetsL cs, k ∉ [p, g] ∧ k < w.heap.size := fun k hk => hR k hk
  have HLY : Hid (Lies w g (m * 5) (encTask cs[m])) := fun j u hu => hcell j u hu
  have HOV := Lib.hid (overTask_any cs[m] w)
  have h5 : (encTask cs[m]).length = 5 := rfl
  obtain ⟨L, hL, hLl⟩ := own_block hm.own
  have HF : Hid (∀ w1 w' : World, Below w.heap.size w w1 → w'.heap[g]? = some (.cells (L.take (m * 5 + 1) ++ [Value.string ⟨sRefused.toArray⟩] ++ L.drop (m * 5 + 1 + 1)).toArray 39 (0, 0)) → Turned g w1 w' → TaskIs w' p (p :: blockL (.slice (some ⟨g, 0, none⟩) cs.length cap)) (sheetsL cs) (setT (cs.map (·.1)) (m : Int) refuseX) ∧ ButF (p :: blockL (.slice (some ⟨g, 0, none⟩) cs.length cap)) w w') := fun w1 w' hb hw ht => by
   have hm1 : TaskM w1 p (.slice (some ⟨g, 0, none⟩) cs.length cap) cs := hm.keep (hb.block p (row_lt hm.box)) (fun b hb' => hb.block b (by rcases List.mem_cons.1 hb' with rfl | hb'; exact hg; cases hb')) (fun b hb' => hb.block b (hR b hb').2) hb.size
   obtain ⟨t1, t2, t3⟩ := task_field hm1 (fun k hk => ⟨(hR2 k hk).1, Nat.lt_of_lt_of_le (hR2 k hk).2 hb.size⟩) hpg ((hb.block g hg).trans hL) hmx (by decide) hw ht (f := refuseX) rfl rfl
   refine ⟨⟨_, _, t3, ?_, rfl, hnd, t2.symm, fun k hk => ⟨(hR k hk).1, Nat.lt_of_lt_of_le (Nat.lt_of_lt_of_le (hR k hk).2 hb.size) (Nat.le_of_eq ht.size.symm)⟩⟩, (ButF.of_below hb).step (ButF.of_turned ht (.inl (List.mem_cons_of_mem _ (blockL_mem rfl))))⟩
   exact t1
  clear hcell
  generalize cs[m] = c at HO HLY HOV h5
  have hlo : m * 5 + 1 < L.length := by omega
  have hHL := Lib.hid hL
  by_cases h1 : overT c.1 = true
  ·have HE : Hid (refuseE (cs.map (·.1)) (m : Int) = 11) := by
    show _ = _
    unfold refuseE
    rw [HO.out]
    simp [h1]
   have HS : Hid (refuseT (cs.map (·.1)) (m : Int) = cs.map (·.1)) := by show _ = _; unfold refuseT; rw [HE.out]; rfl
   rw [h1] at HOV
   clear h1 hm hnd hR hk hmt HO hL hR2
   obtain ⟨LZ, hLZ⟩ : ∃ LZ, LZ = encTask c := ⟨_, rfl⟩
   rw [← hLZ] at HLY HOV h5
   clear hLZ
   go_enter Tryz.func19, Tryz.ntmps19
   go_wp2_with fail
   refine HA.out.mono ?_
   rintro e w1 ⟨rfl, rfl⟩
   go_wp2_with (refine wpList_load_at rfl 39 _ rfl g (m * 5) rfl LZ HLY.out _ Tryz.underlying39 rfl (by rw [h5]; kernel_rfl) ?_)
   refine HOV.out.mono ?_
   rintro e w1 ⟨rfl, hb⟩
   have e11' := (hb.cell (p := ⟨4, 0, none⟩) l11).trans e11
   have HB := Lib.hid hb
   clear hb
   go_wp2_with fail
   go_ret
   rw [HE.out, HS.out]
   exact ⟨rfl, HT.out.below HB.out, ButF.of_below HB.out⟩
  ·have h1 : overT c.1 = false := by simpa using h1
   have HE : Hid (refuseE (cs.map (·.1)) (m : Int) = 0) := by
    show _ = _
    unfold refuseE
    rw [HO.out]
    simp [h1]
   have HS : Hid (refuseT (cs.map (·.1)) (m : Int) = setT (cs.map (·.1)) (m : Int) refuseX) := by show _ = _; unfold refuseT; rw [HE.out]; rfl
   rw [h1] at HOV
   clear h1 hm hnd hR hk hmt HO hL hR2 HT
   obtain ⟨LZ, hLZ⟩ : ∃ LZ, LZ = encTask c := ⟨_, rfl⟩
   rw [← hLZ] at HLY HOV h5
   clear hLZ
   go_enter Tryz.func19, Tryz.ntmps19
   go_wp2_with fail
   refine HA.out.mono ?_
   rintro e w1 ⟨rfl, rfl⟩
   go_wp2_with (refine wpList_load_at rfl 39 _ rfl g (m * 5) rfl LZ HLY.out _ Tryz.underlying39 rfl (by rw [h5]; kernel_rfl) ?_)
   refine HOV.out.mono ?_
   rintro e w1 ⟨rfl, hb⟩
   have hL' := Lib.hid ((hb.block g hg).trans hHL.out)
   have HB := Lib.hid hb
   clear hb
   go_wp2_with (refine wpList_store_val rfl 9 _ _ rfl g (m * 5 + 1) (.string ⟨sRefused.toArray⟩) rfl rfl rfl _ L hL'.out (by kernel_rfl) hlo rfl ?_; intro w2 h2 tu2)
   go_ret
   rw [HE.out, HS.out]
   exact ⟨rfl, HF.out _ w2 HB.out h2 tu2⟩
end Go.Proofs.YtchiojiicehpeaaGreatDoor
