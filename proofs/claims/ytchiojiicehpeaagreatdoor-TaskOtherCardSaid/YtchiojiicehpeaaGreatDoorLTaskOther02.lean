/- The law TaskOther, walked. A slice of acts of tasks that comes in as an argument, opened; the sheets within it. Printed by gen/opener.py. The twelve sentinels together. -/
import Derived.Deep.CutBlock
import Derived.BigQuiet
import Derived.Deep.Slices
import Derived.OpenShut
import Derived.SliceStrings
import Derived.Test.YtchiojiicehpeaaGreatDoorM45
import Derived.Test.YtchiojiicehpeaaGreatDoorM46
import Derived.Test.YtchiojiicehpeaaGreatDoorM48
import Derived.Test.YtchiojiicehpeaaGreatDoorLTaskOther01
namespace Go.Proofs.YtchiojiicehpeaaGreatDoor
open Go.RowKit Go.Sort Go.Proofs
structure TOG (E : Nat → Addr) (w : World) : Prop where
 task : TaskH E w
 err : ErrG E w
 ty : ErrTy w
theorem TOG.below {E : Nat → Addr} {w w' : World} (h : TOG E w) (hb : Below w.heap.size w w') : TOG E w' := ⟨h.task.below hb, h.err.below hb, h.ty.below hb⟩
theorem longS_ShS1 {s : List LineV} (h : longS s = 0) : ShS s := by
 obtain ⟨h1, h2⟩ := longS_short h
 exact ⟨by omega, fun y hy => by have := h2 y hy; omega⟩
set_option maxHeartbeats 1600000 in
set_option maxRecDepth 100000 in
theorem taskOther_out (E : Nat → Addr) (A0 : Option Addr) (cap0 : Nat) (xs0 : List EntV) (A1 : Option Addr) (cap1 : Nat) (xs1 : List TActV) (w : World) (hG : TOG E w) (hX0 : RowAt encEnt 14 w A0 xs0) (hX1 : RowAt encTA 5 w A1 xs1) (hS1 : ∀ x ∈ xs1, RowAt encLine 5 w x.2.2.1 x.2.1 ∧ x.2.1.length ≤ x.2.2.2) (h : ¬ (longL xs0 30 = 0 ∧ longA xs1 = false)) :
  Calls Tryz.prog 3 #[.slice A0 xs0.length cap0, .slice A1 xs1.length cap1] w fun e w' => e = .returned (.bool true) ∧ Below w.heap.size w w' := by
 have HC := Lib.hid (opened_any E w hG.task)
 have HL := Lib.hid (fun W (hb : Below w.heap.size w W) => longEntries_any A0 cap0 xs0 30 W (by decide) (hX0.below hb))
 have HS := Lib.hid (fun W (hb : Below w.heap.size w W) => longActs_any A1 cap1 xs1 W (hX1.below hb) (fun x hx => (hS1 x hx).1.below hb))
 have h01 := longL_01 xs0 30
 generalize longL xs0 30 = a at *
 generalize longA xs1 = b at *
 clear hG hX0 hX1 hS1
 rcases h01 with rfl | rfl
 ·cases b with
  |false => exact absurd ⟨rfl, rfl⟩ h
  |true =>
   clear h
   go_enter Tryz.func3, Tryz.ntmps3
   go_wp2_with fail
   refine HC.out.mono ?_
   rintro e w1 ⟨rfl, b1⟩
   have B1 := Lib.hid b1
   clear b1
   go_wp2_with fail
   refine (HL.out w1 B1.out).mono ?_
   rintro e w2 ⟨rfl, b2⟩
   have B2 := Lib.hid (B1.out.trans (b2.mono B1.out.size))
   clear b2
   go_wp2_with fail
   refine (HS.out w2 B2.out).mono ?_
   rintro e w3 ⟨rfl, b3⟩
   have B3 := Lib.hid (B2.out.trans (b3.mono B2.out.size))
   clear b3
   go_wp2_with fail
   go_ret
   exact ⟨rfl, B3.out⟩
 ·clear h
  go_enter Tryz.func3, Tryz.ntmps3
  go_wp2_with fail
  refine HC.out.mono ?_
  rintro e w1 ⟨rfl, b1⟩
  have B1 := Lib.hid b1
  clear b1
  go_wp2_with fail
  refine (HL.out w1 B1.out).mono ?_
  rintro e w2 ⟨rfl, b2⟩
  have B2 := Lib.hid (B1.out.trans (b2.mono B1.out.size))
  clear b2
  go_wp2_with fail
  go_ret
  exact ⟨rfl, B2.out⟩
set_option maxHeartbeats 12800000 in
set_option maxRecDepth 100000 in
theorem taskOther_in (E : Nat → Addr) (A0 : Option Addr) (cap0 : Nat) (xs0 : List EntV) (A1 : Option Addr) (cap1 : Nat) (xs1 : List TActV) (w : World) (hG : TOG E w) (hX0 : RowAt encEnt 14 w A0 xs0) (hX1 : RowAt encTA 5 w A1 xs1) (hS1 : ∀ x ∈ xs1, RowAt encLine 5 w x.2.2.1 x.2.1 ∧ x.2.1.length ≤ x.2.2.2)
  (hl0 : longL xs0 30 = 0) (hl1 : longA xs1 = false) :
  Calls Tryz.prog 3 #[.slice A0 xs0.length cap0, .slice A1 xs1.length cap1] w fun e w' => e = .returned (.bool true) ∧ Below w.heap.size w w' := by
 obtain ⟨i0, hi, hz0, hz1, hz2⟩ := info_parts lineInfo1
 have HC := Lib.hid (opened_any E w hG.task)
 have HL := Lib.hid (fun W (hb : Below w.heap.size w W) => longEntries_any A0 cap0 xs0 30 W (by decide) (hX0.below hb))
 have HS := Lib.hid (fun W (hb : Below w.heap.size w W) => longActs_any A1 cap1 xs1 W (hX1.below hb) (fun x hx => (hS1 x hx).1.below hb))
 rw [hl0] at HL
 rw [hl1] at HS
 obtain ⟨s1, s2⟩ := longL_short hl0
 obtain ⟨s3, s4⟩ := longA_short hl1
 have HBO := Lib.hid (fun W (hb : Below w.heap.size w W) => bookOf_any E A0 cap0 xs0 W (hX0.below hb) (by omega) (fun x hx => longN_ShortE (s2 x hx)) (hG.task.bk.below hb) (hG.err.below hb))
 have hI0 := BkI.all BkI.nil xs0
 generalize doAll bk0 xs0 = B at HBO hI0
 have HI := Lib.hid hI0
 have HG := Lib.hid (fun W (hb : Below w.heap.size w W) => hG.below hb)
 have HX1 := Lib.hid hX1
 have HS1 := Lib.hid hS1
 have HS4 := Lib.hid s4
 obtain ⟨N, hN⟩ : ∃ N, N = xs1.length := ⟨_, rfl⟩
 have HN := Lib.hid hN
 rw [← hN] at HS s3 ⊢
 clear hG hX0 hX1 hS1 hl0 hl1 s1 s2 s4 hI0 hN
 go_enter Tryz.func3, Tryz.ntmps3
 go_wp2_with fail
 refine HC.out.mono ?_
 rintro e w1 ⟨rfl, b1⟩
 have B1 := Lib.hid b1
 clear b1 HC
 go_wp2_with fail
 refine (HL.out w1 B1.out).mono ?_
 rintro e w2 ⟨rfl, b2⟩
 have B2 := Lib.hid (B1.out.trans (b2.mono B1.out.size))
 clear b2 HL B1
 go_wp2_with fail
 refine (HS.out w2 B2.out).mono ?_
 rintro e w3 ⟨rfl, b3⟩
 have B3 := Lib.hid (B2.out.trans (b3.mono B2.out.size))
 clear b3 HS B2
 go_wp2_with fail
 refine (HBO.out w3 B3.out).mono ?_
 rintro e w4 ⟨bp, q0, rfl, hbo, b4⟩
 have B4 := Lib.hid (B3.out.trans (b4.mono B3.out.size))
 obtain ⟨FB, GG, RR, hbk, -, hFB, -, -⟩ := hbo
 have HFB : Hid (∀ k ∈ FB, w.heap.size ≤ k) := fun k hk => by have := (hFB k hk).1; have := B3.out.size; omega
 have HBK := Lib.hid hbk
 have HLB := Lib.hid hbk.lt
 clear b4 HBO hFB B3 hbk
 go_wp2_with fail
 refine (newTasks_any w4).mono ?_
 rintro e w5 ⟨tp, rfl, ht5, hp5, b5⟩
 have B5 := Lib.hid (B4.out.trans (b5.mono B4.out.size))
 have HT5 : Hid (TB w.heap.size w5 tp bp [] B) := ⟨[tp], [], FB, ht5, HBK.out.below b5, fun i hi hg => by
  have := HLB.out i hg
  rcases hi with hi | hi
  ·rw [List.mem_singleton.1 hi] at this
   omega
  ·simp at hi, fun i hi => by have := B4.out.size; rw [List.mem_singleton.1 hi]; omega, HFB.out, B5.out.size⟩
 clear b5 ht5 hp5 HBK HLB HFB B4
 go_wp2_with fail
 go_loopw [10] (fun i wr => ∃ (k : Nat) (ts : List TaskV) (Bk : BkV), k ≤ N ∧ i = .int .i64 k ∧ Hid (TB w.heap.size wr tp bp ts Bk) ∧ Hid (TaskI ts) ∧ Hid (BkI Bk) ∧ Hid (∀ x ∈ ts, ShS x.2.2.2.2) ∧ Hid (Below w.heap.size w wr)) (fun i _ => N - (intOf i).toNat)
 case atStart => exact ⟨0, [], B, by omega, rfl, HT5.out, TaskI.nil, HI.out, by show ∀ x ∈ ([] : List TaskV), _; simp, B5.out⟩
 case round =>
  obtain ⟨k, ts, Bk, hk, rfl, HTB, HTI, HBI, HSS, HB⟩ := hrel
  obtain ⟨wo, rfl⟩ : ∃ wo : World, wo = wr := ⟨_, rfl⟩
  by_cases hkN : k < N
  ·have hkx : k < xs1.length := by rw [← HN.out]; exact hkN
   obtain ⟨g, o, rfl, lg, cg⟩ := HX1.out.resolve_left (fun h => by rw [h] at hkx; simp at hkx)
   obtain ⟨x, hx⟩ : ∃ x, x = xs1[k] := ⟨_, rfl⟩
   have hxm : x ∈ xs1 := by rw [hx]; exact List.getElem_mem hkx
   have HLY : Hid (Lies wo g (o + k * 5) (encTA x)) := fun j v hv => (HB.out.cell (p := ⟨g, o + k * 5 + j, none⟩) lg).trans (cg k hkx j v (by rw [← hx]; exact hv))
   have hsx := HS1.out x hxm
   obtain ⟨z1, z2, z3⟩ := HS4.out x hxm
   have HSX : Hid (∀ W, Below w.heap.size w W → RowAt encLine 5 W x.2.2.1 x.2.1) := fun W hb => hsx.1.below hb
   have HSH : Hid (ShS x.2.1) := longS_ShS1 z3
   have h5 : (encTA x).length = 5 := rfl
   have HZ1 : Hid (∀ v ∈ encTA x, v.oneCell' = true) := fun v hv => by
    simp [encTA] at hv
    rcases hv with rfl | rfl | rfl | rfl | rfl <;> rfl
   obtain ⟨F0, R0, G0, hx0⟩ := HTB.out
   have HX0 := Lib.hid hx0
   have HFL := Lib.hid hx0.t.lt
   have HGL := Lib.hid hx0.b.lt
   have hba := below_one wo (.cells #[.string ⟨#[]⟩, .string ⟨#[]⟩, .string ⟨#[]⟩, .int .i64 0, .slice none 0 0] 35)
   obtain ⟨a', ha'⟩ : ∃ a' : TActV, a' = x := ⟨_, rfl⟩
   have HAX := Lib.hid ha'
   obtain ⟨⟨x1, x2, x3, x4⟩, x5, XA, xc⟩ := x
   simp only at HSX HSH z1 z2
   obtain ⟨LX, hLX⟩ : ∃ LX, LX = encTA ((x1, x2, x3, x4), x5, XA, xc) := ⟨_, rfl⟩
   obtain ⟨n5, hn5⟩ : ∃ n5, n5 = x5.length := ⟨_, rfl⟩
   have HN5 := Lib.hid hn5
   have HLE : Hid (LX = [.string ⟨x1.toArray⟩, .string ⟨x2.toArray⟩, .string ⟨x3.toArray⟩, .int .i64 x4, .slice XA n5 xc]) := by
    show _ = _
    rw [hLX, hn5]
    rfl
   rw [← hLX] at HLY h5 HZ1
   have hk0 : (0 : Int) ≤ (k : Nat) := by omega
   have hk1 : ((k : Nat) : Int) < (N : Nat) := by omega
   clear hx hxm cg lg hsx z3 hx0 ha' hLX hn5 HTB
   go_upto_region 12 with (first | (refine wpList_load_at rfl 35 _ rfl g (o + k * 5) rfl LX HLY.out _ Tryz.underlying35 rfl (by rw [h5]; kernel_rfl) ?_) | (refine wpList_store_box rfl 35 _ _ rfl wo.heap.size LX rfl rfl _ [.string ⟨#[]⟩, .string ⟨#[]⟩, .string ⟨#[]⟩, .int .i64 0, .slice none 0 0] (heap_alloc_new wo _) (by rw [h5]; kernel_rfl) (by rw [h5]; rfl) HZ1.out ?_; intro w2 h2 tu2))
   have b2 := hba.trans (tu2.below (Nat.le_refl _))
   rw [HLE.out] at h2
   have H2 := Lib.hid h2
   have B2 := Lib.hid b2
   have hw2 := row_lt h2
   have HX2 := Lib.hid (HX0.out.below b2)
   obtain ⟨ab, hab⟩ : ∃ ab, ab = wo.heap.size := ⟨_, rfl⟩
   rw [← hab] at H2 hw2 ⊢
   have HABE := Lib.hid hab
   clear hab
   clear h2 b2 tu2 hba HLY HZ1 h5
   obtain ⟨T, hT⟩ : ∃ T, T = ts.length := ⟨_, rfl⟩
   have HT := Lib.hid hT
   have HT30 : T ≤ 30 := by rw [hT]; exact HTI.out.few
   obtain ⟨sts, hsts⟩ : ∃ sts, sts = ts.map (·.2.1) := ⟨_, rfl⟩
   have HSTS := Lib.hid hsts
   clear hT hsts
   go_wp2_with fail
   go_loopw [12, 13] (fun v i wr => ∃ j : Nat, j ≤ T ∧ i = .int .i64 j ∧ Hid (wr.ownsRow w2.heap.size 9 1 v j (strVals (sts.take j))) ∧ Hid (Below w2.heap.size w2 wr)) (fun _ i _ => T - (intOf i).toNat)
   case atStart => exact ⟨0, by omega, rfl, World.ownsRow_nil _ _ _ _, Below.refl _ _⟩
   case round =>
    obtain ⟨j, hj, rfl, HOW, HBI2⟩ := hrel
    have HTj := Lib.hid (HX2.out.t.below HBI2.out)
    have HLN := Lib.hid (lenTasks_any HTj.out)
    rw [← HT.out] at HLN
    go_wp2_with fail
    refine HLN.out.mono ?_
    rintro e w3 ⟨rfl, rfl⟩
    clear HLN
    by_cases hjT : j < T
    ·have hjx : j < ts.length := by rw [← HT.out]; exact hjT
     obtain ⟨y, hy⟩ : ∃ y, y = ts[j] := ⟨_, rfl⟩
     have HGT := Lib.hid (getTask_any HTj.out (fun x hx => (HSS.out x hx).1) (j : Int))
     rw [atT_at hjx, ← hy] at HGT
     have HTK : Hid (sts.take (j + 1) = sts.take j ++ [y.2.1]) := by
      show _ = _
      rw [List.take_succ_eq_append_getElem (by rw [HSTS.out, List.length_map]; exact hjx)]
      have e : sts[j]'(by rw [HSTS.out, List.length_map]; exact hjx) = y.2.1 := by
       rw [hy]
       simp only [HSTS.out, List.getElem_map]
      rw [e]
     clear hy HTj
     go_wp2_with fail
     refine HGT.out.mono ?_
     rintro e w4 ⟨b4, A4, c4, rfl, -, -⟩
     obtain ⟨y1, y2, y3, y4, y5⟩ := y
     simp only at HTK
     have B4 := Lib.hid (HBI2.out.trans (b4.mono HBI2.out.size))
     have HO4 := Lib.hid (own_keep HOW.out b4)
     clear b4 HGT HOW HBI2
     simp only [encTask]
     go_upto_region 17 with (refine wpList_store_box rfl 39 _ _ rfl w4.heap.size (encTask ((y1, y2, y3, y4, y5), A4, c4)) rfl rfl _ [.string ⟨#[]⟩, .string ⟨#[]⟩, .string ⟨#[]⟩, .string ⟨#[]⟩, .slice none 0 0] (heap_alloc_new w4 _) (by kernel_rfl) rfl (encTask_one _) ?_; intro w5 h5 tu5)
     have b5 := (below_one w4 (.cells #[.string ⟨#[]⟩, .string ⟨#[]⟩, .string ⟨#[]⟩, .string ⟨#[]⟩, .slice none 0 0] 39)).trans (tu5.below (Nat.le_refl _))
     have d1 : w5.cell? ⟨w4.heap.size, 1, none⟩ = some (.string ⟨y2.toArray⟩) := (cell_of_row _ _ _ _ _ _ h5).trans rfl
     have B5' := Lib.hid (B4.out.trans (b5.mono B4.out.size))
     have HO5 := Lib.hid (own_keep HO4.out b5)
     have hba5 := below_one w5 (.cells #[.string ⟨y2.toArray⟩] 9)
     have HO6 := Lib.hid (own_keep HO5.out hba5)
     have B6 := Lib.hid (B5'.out.trans (hba5.mono B5'.out.size))
     clear h5 tu5 b5 HO4 B4
     go_wp2_with (at_builtin; refine wpList_append_strs _ rfl (.tmp 73) (.tmp 76) rfl w2.heap.size _ j (strVals (sts.take j)) rfl HO6.out (some ⟨w5.heap.size, 0, none⟩) 1 [y2] rfl (strs_new w5 [y2]) (by simp; omega) B6.out.size ?_; intro v7 w7 HO7 hb7; have HB7 := Lib.hid hb7; clear hb7)
     have B7 := Lib.hid (B6.out.trans (HB7.out : Below w2.heap.size _ w7))
     have HO8 : Hid (w7.ownsRow w2.heap.size 9 1 v7 (j + 1) (strVals (sts.take (j + 1)))) := by
      rw [HTK.out]
      have e : strVals (sts.take j ++ [y2]) = strVals (sts.take j) ++ strVals [y2] := by simp [strVals]
      rw [e]
      exact HO7.out
     clear HO7 HB7 hba5 d1
     go_wp2_with fail
     go_roundw
     case rel => exact ⟨j + 1, by omega, by go_num, HO8.out, B7.out⟩
     case measure => simp [intOf]; omega
    ·obtain rfl : j = T := by omega
     have hsl : sts.length = j := by rw [HSTS.out, List.length_map, ← HT.out]
     have hT2 : sts.take j = sts := List.take_of_length_le (Nat.le_of_eq hsl)
     rw [hT2] at HOW
     obtain ⟨AW, cW, hvW, hSW, hAW⟩ := StrsAt.of_own (xs := sts) (by rw [hsl]; exact HOW.out)
     rw [hsl] at hvW
     subst hvW
     have HSL := Lib.hid hsl
     have hbw := HB.out.trans ((B2.out.trans (HBI2.out.mono B2.out.size)).mono HB.out.size)
     have HX3 := Lib.hid (HX2.out.below HBI2.out)
     have H3 := Lib.hid ((HBI2.out.block ab hw2).trans H2.out)
     have d4 : wr.cell? ⟨ab, 4, none⟩ = some (.slice XA n5 xc) := (cell_of_row _ _ _ _ _ _ H3.out).trans rfl
     have HSX3 := Lib.hid (HSX.out wr hbw)
     have BW3 := Lib.hid hbw
     have HWL : Hid (∀ a, AW = some a → sts ≠ [] → a.block < wr.heap.size ∧ a.block ∉ F0 ++ G0) := fun a ha hne => by
      refine ⟨hSW.lt hne a ha, fun e => ?_⟩
      have h1 := hAW a ha
      have h2 := B2.out.size
      rcases List.mem_append.1 e with e | e
      ·have := HFL.out a.block (.inl e); omega
      ·have := HGL.out a.block e; omega
     have HAB : Hid (ab ∉ F0 ++ G0) := fun e => by
      have h2 := HABE.out
      rcases List.mem_append.1 e with e | e
      ·have := HFL.out ab (.inl e); omega
      ·have := HGL.out ab e; omega
     have HSW := Lib.hid hSW
     clear hsl hT2 hSW hAW hbw HOW HBI2 HTj hjT H2 HX2 B2 HSX
     go_upto_region 19 with fail
     go_upto_region 20 with (at_builtin; refine wpList_append_rows _ rfl (.tmp 78) (.tmp 80) 33 rfl wr.heap.size 60 i0 _ 56 Tryz.underlying33 hi hz0 hz1 hz2 rfl encLine_len (by decide) encLine_one _ 0 [] rfl (World.ownsRow_nil _ _ _ _) XA xc x5 (by rw [← HN5.out]; rfl) HSX3.out (by have := HSH.out.1; omega) (by decide) (Nat.le_refl _) ?_; intro v8 w8 HO8 hb8; have HB8 := Lib.hid hb8; clear hb8)
     have ho8 := HO8.out
     rw [Nat.zero_add, List.nil_append] at ho8
     obtain ⟨A8, c8, hv8, hr8, hf8⟩ := RowAt.of_own encLine_len ho8
     have hcap8 : x5.length ≤ c8 := own_capL (by rw [hv8] at ho8; exact ho8)
     rw [Nat.zero_add] at *
     subst hv8
     have B8 := Lib.hid (BW3.out.trans (HB8.out.mono BW3.out.size))
     have hx8 := HX3.out.below HB8.out
     have H8 := Lib.hid ((HB8.out.block ab (row_lt H3.out)).trans H3.out)
     have HSW8 := Lib.hid (HSW.out.below HB8.out)
     have d0 : w8.cell? ⟨ab, 0, none⟩ = some (.string ⟨x1.toArray⟩) := (cell_of_row _ _ _ _ _ _ H8.out).trans rfl
     have d1 : w8.cell? ⟨ab, 1, none⟩ = some (.string ⟨x2.toArray⟩) := (cell_of_row _ _ _ _ _ _ H8.out).trans rfl
     have d2 : w8.cell? ⟨ab, 2, none⟩ = some (.string ⟨x3.toArray⟩) := (cell_of_row _ _ _ _ _ _ H8.out).trans rfl
     have d3 : w8.cell? ⟨ab, 3, none⟩ = some (.int .i64 x4) := (cell_of_row _ _ _ _ _ _ H8.out).trans rfl
     -- the acts
     have hG8 := HG.out w8 B8.out
     have hts : ts.length ≤ 1000 := by have := HTI.out.few; omega
     have HOP := Lib.hid (hx8.open_ E x2 (by omega) hts hG8.task)
     have HCO := Lib.hid (hx8.count E x4 x3 (by omega) A8 c8 x5 HSH.out.1 hcap8 hr8 (fun a ha _ e => by have := hf8 a ha; have := HX3.out.t.lt a.block (.inl e); omega) (fun x hx => (HSS.out x hx).1) hG8.task)
     have HDO := Lib.hid (hx8.doubt E x4 hG8.task)
     have HRE := Lib.hid (hx8.refuse E x4 hG8.task)
     have HPO := Lib.hid (hx8.post E x4 HBI.out HSS.out hG8.ty hG8.task)
     have hbpG : bp ∈ G0 := by
      obtain ⟨_, _, _, _, _, _, rfl, -, -⟩ := hx8.b
      exact List.mem_cons_self
     have HKEEP : Hid (∀ w9 : World, ButF (F0 ++ G0) w8 w9 → StrsAt w9 AW sts) := fun w9 hb => by
      by_cases hne : sts = []
      ·exact .inl hne
      ·rcases HSW8.out with e | ⟨b, o, e1, e2, e3⟩
       ·exact absurd e hne
       ·refine .inr ⟨b, o, e1, Nat.lt_of_lt_of_le e2 hb.size, fun i hi => ?_⟩
        exact (World.cell?_of_block (a := ⟨b, o + i, none⟩) (hb.block b e2 (HWL.out _ e1 hne).2)).trans (e3 i hi)
     obtain ⟨ts2, hts2⟩ : ∃ ts2, ts2 = actT ts Bk a' := ⟨_, rfl⟩
     obtain ⟨Bk2, hBk2⟩ : ∃ Bk2, Bk2 = actB ts Bk a' := ⟨_, rfl⟩
     have HT2 := Lib.hid hts2
     have HB2 := Lib.hid hBk2
     clear hts2 hBk2 ho8 HO8 hr8 hf8 hx8 hG8 HB8 H3 HX3 HSX3 HSW
     go_upto_block 4 with fail
     go_cut [10] from 82 to 121 (fun s10 wx => s10 = .int .i64 (k : Nat) ∧ Hid (TB w.heap.size wx tp bp ts2 Bk2) ∧ Hid (StrsAt wx AW sts) ∧ Hid (Below w.heap.size w wx))
     case first =>
      by_cases q1 : x1 = kOpn
      ·have e1 : (x1 == [111, 112, 101, 110]) = true := by rw [q1]; rfl
       have EQ : Hid (ts2 = openT ts x2 ∧ Bk2 = Bk) := by rw [HT2.out, HB2.out, HAX.out]; unfold actT actB; exact ⟨if_pos q1, if_pos q1⟩
       clear q1
       go_wp2_with fail
       refine HOP.out.mono ?_
       rintro e w9 ⟨rfl, ht9, b9, bf9⟩
       generalize (if openE ts x2 = 0 then ((ts.length : Nat) : Int) else 0) = rk
       have R := Lib.hid (show Hid (TB w.heap.size w9 tp bp ts2 Bk2) ∧ Hid (StrsAt w9 AW sts) ∧ Hid (Below w.heap.size w w9) from ⟨by rw [EQ.out.1, EQ.out.2]; exact ht9, HKEEP.out w9 bf9, B8.out.trans b9⟩)
       clear ht9 b9 bf9
       go_wp2_with fail
       go_meet
       exact ⟨rfl, R.out⟩
      have e1 : (x1 == [111, 112, 101, 110]) = false := by simpa [kOpn] using q1
      by_cases q2 : x1 = kCou
      ·have e2 : (x1 == [99, 111, 117, 110, 116]) = true := by rw [q2]; rfl
       have EQ : Hid (ts2 = countT ts x4 x3 x5 ∧ Bk2 = Bk) := by rw [HT2.out, HB2.out, HAX.out]; unfold actT actB; exact ⟨(if_neg q1).trans (if_pos q2), (if_neg q1).trans (if_pos q2)⟩
       clear q1 q2
       go_wp2_with fail
       refine HCO.out.mono ?_
       rintro e w9 ⟨⟨v9, rfl, -⟩, ht9, b9, bf9⟩
       have R := Lib.hid (show Hid (TB w.heap.size w9 tp bp ts2 Bk2) ∧ Hid (StrsAt w9 AW sts) ∧ Hid (Below w.heap.size w w9) from ⟨by rw [EQ.out.1, EQ.out.2]; exact ht9, HKEEP.out w9 bf9, B8.out.trans b9⟩)
       clear ht9 b9 bf9
       go_wp2_with fail
       go_meet
       exact ⟨rfl, R.out⟩
      have e2 : (x1 == [99, 111, 117, 110, 116]) = false := by simpa [kCou] using q2
      by_cases q3 : x1 = kDou
      ·have e3 : (x1 == [100, 111, 117, 98, 116]) = true := by rw [q3]; rfl
       have EQ : Hid (ts2 = doubtT ts x4 ∧ Bk2 = Bk) := by rw [HT2.out, HB2.out, HAX.out]; unfold actT actB; exact ⟨(if_neg q1).trans ((if_neg q2).trans (if_pos q3)), (if_neg q1).trans ((if_neg q2).trans (if_pos q3))⟩
       clear q1 q2 q3
       go_wp2_with fail
       refine HDO.out.mono ?_
       rintro e w9 ⟨rfl, ht9, b9, bf9⟩
       have R := Lib.hid (show Hid (TB w.heap.size w9 tp bp ts2 Bk2) ∧ Hid (StrsAt w9 AW sts) ∧ Hid (Below w.heap.size w w9) from ⟨by rw [EQ.out.1, EQ.out.2]; exact ht9, HKEEP.out w9 bf9, B8.out.trans b9⟩)
       clear ht9 b9 bf9
       go_wp2_with fail
       go_meet
       exact ⟨rfl, R.out⟩
      have e3 : (x1 == [100, 111, 117, 98, 116]) = false := by simpa [kDou] using q3
      by_cases q4 : x1 = kRef
      ·have e4 : (x1 == [114, 101, 102, 117, 115, 101]) = true := by rw [q4]; rfl
       have EQ : Hid (ts2 = refuseT ts x4 ∧ Bk2 = Bk) := by rw [HT2.out, HB2.out, HAX.out]; unfold actT actB; exact ⟨(if_neg q1).trans ((if_neg q2).trans ((if_neg q3).trans (if_pos q4))), (if_neg q1).trans ((if_neg q2).trans ((if_neg q3).trans (if_pos q4)))⟩
       clear q1 q2 q3 q4
       go_wp2_with fail
       refine HRE.out.mono ?_
       rintro e w9 ⟨rfl, ht9, b9, bf9⟩
       have R := Lib.hid (show Hid (TB w.heap.size w9 tp bp ts2 Bk2) ∧ Hid (StrsAt w9 AW sts) ∧ Hid (Below w.heap.size w w9) from ⟨by rw [EQ.out.1, EQ.out.2]; exact ht9, HKEEP.out w9 bf9, B8.out.trans b9⟩)
       clear ht9 b9 bf9
       go_wp2_with fail
       go_meet
       exact ⟨rfl, R.out⟩
      ·have e4 : (x1 == [114, 101, 102, 117, 115, 101]) = false := by simpa [kRef] using q4
       have EQ : Hid (ts2 = postT ts x4 Bk ∧ Bk2 = postB ts x4 Bk) := by rw [HT2.out, HB2.out, HAX.out]; unfold actT actB; exact ⟨(if_neg q1).trans ((if_neg q2).trans ((if_neg q3).trans (if_neg q4))), (if_neg q1).trans ((if_neg q2).trans ((if_neg q3).trans (if_neg q4)))⟩
       clear q1 q2 q3 q4
       go_wp2_with fail
       refine HPO.out.mono ?_
       rintro e w9 ⟨hps, ⟨G9, ht9, -⟩, bf9, b9⟩
       have R := Lib.hid (show Hid (TB w.heap.size w9 tp bp ts2 Bk2) ∧ Hid (StrsAt w9 AW sts) ∧ Hid (Below w.heap.size w w9) from ⟨by rw [EQ.out.1, EQ.out.2]; exact ⟨F0, R0, G9, ht9⟩, HKEEP.out w9 (bf9.mono fun i hi => .inl (by
        rcases List.mem_cons.1 hi with rfl | hi
        ·exact List.mem_append_right _ hbpG
        ·exact List.mem_append_left _ hi)), B8.out.trans b9⟩)
       obtain ⟨v91, v92, rfl⟩ : ∃ v91 v92, e = .returned (.tuple #[v91, v92]) := by
        unfold PstSays at hps
        split at hps
        ·obtain ⟨A, c, rfl, -, -⟩ := hps
         exact ⟨_, _, rfl⟩
        ·exact ⟨_, _, hps⟩
       clear ht9 b9 bf9 hps
       go_wp2_with fail
       go_meet
       exact ⟨rfl, R.out⟩
     case rest =>
      obtain ⟨wd, rfl⟩ : ∃ wd : World, wd = wc := ⟨_, rfl⟩
      obtain ⟨rfl, HTC, HSC, HBC⟩ := hcut
      obtain ⟨Fd, Rd, Gd, hxd⟩ := HTC.out
      have HTZ : Hid (∀ W, Below wd.heap.size wd W → TaskIs W tp Fd Rd ts2) := fun W hb => hxd.t.below hb
      clear hxd
      have HTI2 : Hid (TaskI ts2) := by rw [HT2.out]; exact HTI.out.act Bk a'
      have HBI2 : Hid (BkI Bk2) := by rw [HB2.out]; exact HBI.out.act ts a'
      have HSS2 : Hid (∀ x ∈ ts2, ShS x.2.2.2.2) := by rw [HT2.out]; exact act_sheets (P := ShS) ⟨by decide, by simp⟩ HSS.out Bk a' (by rw [HAX.out]; exact HSH.out)
      have HSTY : Hid (StaysT ts ts2) := by rw [HT2.out]; exact act_stays ts Bk a'
      clear HOP HCO HDO HRE HPO HKEEP H8 HSW8 d0 d1 d2 d3 d4 B8 HAX HTI HBI HSS HX0 HFL HGL HWL HAB HSH HT2 HB2 hcap8
      obtain ⟨T2, hT2⟩ : ∃ T2, T2 = ts2.length := ⟨_, rfl⟩
      have HT2 := Lib.hid hT2
      have hT230 : T2 ≤ 30 := by rw [hT2]; exact HTI2.out.few
      clear hT2
      go_wp2_with fail
      go_loopw [17] (fun i wr => ∃ m : Nat, m ≤ T2 ∧ i = .int .i64 m ∧ Hid (Below wd.heap.size wd wr)) (fun i _ => T2 - (intOf i).toNat)
      case atStart => exact ⟨0, by omega, rfl, Below.refl _ _⟩
      case round =>
       obtain ⟨m, hm, rfl, HBM⟩ := hrel
       have HTT := Lib.hid (HTZ.out _ HBM.out)
       have HLN := Lib.hid (lenTasks_any HTT.out)
       rw [← HT2.out] at HLN
       go_wp2_with fail
       refine HLN.out.mono ?_
       rintro e w10 ⟨rfl, rfl⟩
       clear HLN
       by_cases hmT : m < T2
       ·have hmx : m < ts2.length := by rw [← HT2.out]; exact hmT
        obtain ⟨y, hy⟩ : ∃ y, y = ts2[m] := ⟨_, rfl⟩
        have HY := Lib.hid hy
        have HGT := Lib.hid (getTask_any HTT.out (fun x hx => (HSS2.out x hx).1) (m : Int))
        rw [atT_at hmx, ← hy] at HGT
        have hyo := HTI2.out.other y (by rw [hy]; exact List.getElem_mem hmx)
        have hst : ∀ hm1 : m < ts.length, overT ts[m] = true → y.2.1 = ts[m].2.1 := fun hm1 ho => by
         obtain ⟨_, e⟩ := HSTY.out m hm1 ho
         rw [hy]
         exact e
        have hon : ∀ i (hi : i < m), goesT (ts2[i]'(Nat.lt_trans hi hmx)) → goesT y → (ts2[i]'(Nat.lt_trans hi hmx)).1 ≠ y.1 := fun i hi g1 g2 => by
         have := List.pairwise_iff_getElem.1 HTI2.out.one i m (Nat.lt_trans hi hmx) hmx hi
         rw [← hy] at this
         exact this g1 g2
        clear hy
        go_wp2_with fail
        refine HGT.out.mono ?_
        rintro e w11 ⟨b11, A11, c11, rfl, -, -⟩
        obtain ⟨y1, y2, y3, y4, y5⟩ := y
        simp only at hyo hst hon
        have HYO := Lib.hid hyo
        have HST := Lib.hid hst
        have HON := Lib.hid hon
        have B11 := Lib.hid (HBM.out.trans (b11.mono HBM.out.size))
        clear b11 HGT hyo hst hon HBM
        simp only [encTask]
        go_upto_region 34 with (refine wpList_store_box rfl 39 _ _ rfl w11.heap.size (encTask ((y1, y2, y3, y4, y5), A11, c11)) rfl rfl _ [.string ⟨#[]⟩, .string ⟨#[]⟩, .string ⟨#[]⟩, .string ⟨#[]⟩, .slice none 0 0] (heap_alloc_new w11 _) (by kernel_rfl) rfl (encTask_one _) ?_; intro w12 h12 tu12)
        have b12 := (below_one w11 (.cells #[.string ⟨#[]⟩, .string ⟨#[]⟩, .string ⟨#[]⟩, .string ⟨#[]⟩, .slice none 0 0] 39)).trans (tu12.below (Nat.le_refl _))
        have B12 := Lib.hid (B11.out.trans (b12.mono B11.out.size))
        have H12 := Lib.hid h12
        have hxl := row_lt h12
        generalize w11.heap.size = xb at H12 hxl ⊢
        have HSC12 := Lib.hid (HSC.out.below B12.out)
        clear h12 tu12 b12 B11
        have hm0 : (0 : Int) ≤ (m : Nat) := by omega
        go_cut [160] from 134 to 160 (fun s160 wx => s160 = .bool false ∧ Hid (Below w12.heap.size w12 wx))
        case first =>
         have d1 : w12.cell? ⟨xb, 1, none⟩ = some (.string ⟨y2.toArray⟩) := (cell_of_row _ _ _ _ _ _ H12.out).trans rfl
         by_cases hmj : m < j
         ·have hmi : ((m : Nat) : Int) < (j : Nat) := by omega
          have hms : m < sts.length := by rw [HSL.out]; exact hmj
          have hml : m < ts.length := by rw [← HT.out]; exact hmj
          obtain ⟨gw, ow, rfl, lw, cw⟩ := HSC12.out.resolve_left (fun h => by rw [h] at hms; simp at hms)
          have cm := cw m hms
          obtain ⟨s, hs⟩ : ∃ s, s = sts[m] := ⟨_, rfl⟩
          rw [← hs] at cm
          have hso : overW s = true → y2 = s := fun h => by
           have e : s = ts[m].2.1 := by
            rw [hs]
            simp only [HSTS.out, List.getElem_map]
           have := HST.out hml (by rw [e] at h; exact h)
           rw [this, e]
          clear cw hs
          by_cases h1 : s = sDone
          ·have e1 : (s == [100, 111, 110, 101]) = true := by rw [h1]; rfl
           have e2 : y2 = s := hso (by rw [h1]; rfl)
           have e3 : (y2 == s) = true := by rw [e2]; simp
           clear hso h1 e2
           go_quiet (fail)
           go_wp2_with fail
           go_meet
           exact ⟨rfl, below_drewN (Below.refl _ _) _⟩
          have e1 : (s == [100, 111, 110, 101]) = false := by simpa [sDone] using h1
          by_cases h2 : s = sRefused
          ·have e2 : (s == [114, 101, 102, 117, 115, 101, 100]) = true := by rw [h2]; rfl
           have e4 : y2 = s := hso (by rw [h2]; rfl)
           have e3 : (y2 == s) = true := by rw [e4]; simp
           clear hso h1 h2 e4
           go_quiet (fail)
           go_wp2_with fail
           go_meet
           exact ⟨rfl, below_drewN (Below.refl _ _) _⟩
          ·have e2 : (s == [114, 101, 102, 117, 115, 101, 100]) = false := by simpa [sRefused] using h2
           clear hso h1 h2
           go_quiet (fail)
           go_wp2_with fail
           go_meet
           exact ⟨rfl, below_drewN (Below.refl _ _) _⟩
         ·have hmi : ¬ ((m : Nat) : Int) < (j : Nat) := by omega
          go_quiet (fail)
          go_wp2_with fail
          go_meet
          exact ⟨rfl, below_drewN (Below.refl _ _) _⟩
        case rest =>
         obtain ⟨rfl, HBD⟩ := hcut
         obtain ⟨we, rfl⟩ : ∃ we : World, we = wc := ⟨_, rfl⟩
         have H13 := Lib.hid ((HBD.out.block xb hxl).trans H12.out)
         have B13 := Lib.hid (B12.out.trans (HBD.out.mono B12.out.size))
         have d1 : we.cell? ⟨xb, 1, none⟩ = some (.string ⟨y2.toArray⟩) := (cell_of_row _ _ _ _ _ _ H13.out).trans rfl
         have d2 : we.cell? ⟨xb, 2, none⟩ = some (.string ⟨y3.toArray⟩) := (cell_of_row _ _ _ _ _ _ H13.out).trans rfl
         have d3 : we.cell? ⟨xb, 3, none⟩ = some (.string ⟨y4.toArray⟩) := (cell_of_row _ _ _ _ _ _ H13.out).trans rfl
         clear HBD H12 B12 HSC12 HST hxl
         go_upto_region 36 with fail
         go_cut [170] from 161 to 170 (fun s170 wx => s170 = .bool false ∧ we = wx)
         case first =>
          by_cases h4 : y4 = []
          ·have e4 : (y4 == []) = true := by rw [h4]; rfl
           clear h4
           go_wp2_with fail
           go_meet
           exact ⟨rfl, rfl⟩
          ·have e4 : (y4 == []) = false := by simpa using h4
           have e5 : (y4 == y3) = false := by simpa using HYO.out h4
           clear h4
           go_wp2_with fail
           go_meet
           exact ⟨rfl, rfl⟩
         case rest =>
          obtain ⟨rfl, rfl⟩ := hcut
          go_upto_region 38 with fail
          obtain ⟨gy, hgy⟩ : ∃ gy, gy = goesW y2 := ⟨_, rfl⟩
          have HGY := Lib.hid hgy
          clear hgy
          go_cut [20] from 171 to 183 (fun s20 wx => s20 = .bool gy ∧ we = wx)
          case first =>
           by_cases g1 : y2 = sOpen
           ·have i1 : (y2 == [111, 112, 101, 110]) = true := by rw [g1]; rfl
            have GV : Hid (goesW y2 = true) := by show _ = _; unfold goesW; simp [g1]
            clear g1
            go_wp2_with fail
            go_meet
            exact ⟨by rw [HGY.out, GV.out] <;> rfl, rfl⟩
           have i1 : (y2 == [111, 112, 101, 110]) = false := by simpa [sOpen] using g1
           by_cases g2 : y2 = sCounted
           ·have i2 : (y2 == [99, 111, 117, 110, 116, 101, 100]) = true := by rw [g2]; rfl
            have GV : Hid (goesW y2 = true) := by show _ = _; unfold goesW; simp [g2]
            clear g1 g2
            go_wp2_with fail
            go_meet
            exact ⟨by rw [HGY.out, GV.out] <;> rfl, rfl⟩
           have i2 : (y2 == [99, 111, 117, 110, 116, 101, 100]) = false := by simpa [sCounted] using g2
           by_cases g3 : y2 = sAgain
           ·have i3 : (y2 == [97, 103, 97, 105, 110]) = true := by rw [g3]; rfl
            have GV : Hid (goesW y2 = true) := by show _ = _; unfold goesW; simp [g3]
            clear g1 g2 g3
            go_wp2_with fail
            go_meet
            exact ⟨by rw [HGY.out, GV.out] <;> rfl, rfl⟩
           ·have i3 : (y2 == [97, 103, 97, 105, 110]) = false := by simpa [sAgain] using g3
            have GV : Hid (goesW y2 = false) := by show _ = _; unfold goesW; simp [g1, g2, g3]
            clear g1 g2 g3
            go_wp2_with fail
            go_meet
            exact ⟨by rw [HGY.out, GV.out] <;> rfl, rfl⟩
          case rest =>
           obtain ⟨rfl, rfl⟩ := hcut
           clear d1 d2 d3 HYO
           have hxe := row_lt H13.out
           go_wp2_with fail
           go_loopw [21] (fun i wr => ∃ n : Nat, n ≤ m ∧ i = .int .i64 n ∧ Hid (Below we.heap.size we wr)) (fun i _ => m - (intOf i).toNat)
           case atStart => exact ⟨0, by omega, rfl, Below.refl _ _⟩
           case round =>
            obtain ⟨n, hn, rfl, HBN⟩ := hrel
            by_cases hnm : n < m
            ·have hnx : n < ts2.length := Nat.lt_trans hnm hmx
             obtain ⟨z, hz⟩ : ∃ z, z = ts2[n] := ⟨_, rfl⟩
             have BN := Lib.hid (B13.out.trans (HBN.out.mono B13.out.size))
             have HGN := Lib.hid (getTask_any (HTZ.out _ BN.out) (fun x hx => (HSS2.out x hx).1) (n : Int))
             rw [atT_at hnx, ← hz] at HGN
             have hon := HON.out n hnm
             rw [← hz] at hon
             have HONZ : Hid (gy = true → goesW z.2.1 = true → (y1 == z.1) = false) := fun h1 h2 => by
              have h3 := hon ((goesT_W z).2 h2) ((goesT_W (y1, y2, y3, y4, y5)).2 (HGY.out.symm.trans h1))
              simpa using fun e => h3 (by rw [← e])
             have hnmi : ((n : Nat) : Int) < (m : Nat) := by omega
             clear hz hon
             go_wp2_with fail
             refine HGN.out.mono ?_
             rintro e w14 ⟨b14, A14, c14, rfl, -, -⟩
             obtain ⟨z1, z2, z3, z4, z5⟩ := z
             simp only at HONZ
             have H14 := Lib.hid ((b14.block xb (Nat.lt_of_lt_of_le hxe HBN.out.size)).trans ((HBN.out.block xb hxe).trans H13.out))
             have B14 := Lib.hid (HBN.out.trans (b14.mono HBN.out.size))
             clear b14 HGN BN HBN
             simp only [encTask]
             go_upto_region 43 with (refine wpList_store_box rfl 39 _ _ rfl w14.heap.size (encTask ((z1, z2, z3, z4, z5), A14, c14)) rfl rfl _ [.string ⟨#[]⟩, .string ⟨#[]⟩, .string ⟨#[]⟩, .string ⟨#[]⟩, .slice none 0 0] (heap_alloc_new w14 _) (by kernel_rfl) rfl (encTask_one _) ?_; intro w15 h15 tu15)
             have b15 := (below_one w14 (.cells #[.string ⟨#[]⟩, .string ⟨#[]⟩, .string ⟨#[]⟩, .string ⟨#[]⟩, .slice none 0 0] 39)).trans (tu15.below (Nat.le_refl _))
             have B15 := Lib.hid (B14.out.trans (b15.mono B14.out.size))
             have hx15 := (b15.block xb (row_lt H14.out)).trans H14.out
             generalize w14.heap.size = zb at h15 ⊢
             have f0 : w15.cell? ⟨zb, 0, none⟩ = some (.string ⟨z1.toArray⟩) := (cell_of_row _ _ _ _ _ _ h15).trans rfl
             have f1 : w15.cell? ⟨zb, 1, none⟩ = some (.string ⟨z2.toArray⟩) := (cell_of_row _ _ _ _ _ _ h15).trans rfl
             have d0 : w15.cell? ⟨xb, 0, none⟩ = some (.string ⟨y1.toArray⟩) := (cell_of_row _ _ _ _ _ _ hx15).trans rfl
             clear h15 tu15 b15 hx15 H14 B14
             go_cut [24] from 195 to 207 (fun s24 wx => s24 = .bool (goesW z2) ∧ w15 = wx)
             case first =>
              by_cases g1 : z2 = sOpen
              ·have i1 : (z2 == [111, 112, 101, 110]) = true := by rw [g1]; rfl
               have GV : Hid (goesW z2 = true) := by show _ = _; unfold goesW; simp [g1]
               clear g1
               go_wp2_with fail
               go_meet
               exact ⟨by rw [GV.out] <;> rfl, rfl⟩
              have i1 : (z2 == [111, 112, 101, 110]) = false := by simpa [sOpen] using g1
              by_cases g2 : z2 = sCounted
              ·have i2 : (z2 == [99, 111, 117, 110, 116, 101, 100]) = true := by rw [g2]; rfl
               have GV : Hid (goesW z2 = true) := by show _ = _; unfold goesW; simp [g2]
               clear g1 g2
               go_wp2_with fail
               go_meet
               exact ⟨by rw [GV.out] <;> rfl, rfl⟩
              have i2 : (z2 == [99, 111, 117, 110, 116, 101, 100]) = false := by simpa [sCounted] using g2
              by_cases g3 : z2 = sAgain
              ·have i3 : (z2 == [97, 103, 97, 105, 110]) = true := by rw [g3]; rfl
               have GV : Hid (goesW z2 = true) := by show _ = _; unfold goesW; simp [g3]
               clear g1 g2 g3
               go_wp2_with fail
               go_meet
               exact ⟨by rw [GV.out] <;> rfl, rfl⟩
              ·have i3 : (z2 == [97, 103, 97, 105, 110]) = false := by simpa [sAgain] using g3
               have GV : Hid (goesW z2 = false) := by show _ = _; unfold goesW; simp [g1, g2, g3]
               clear g1 g2 g3
               go_wp2_with fail
               go_meet
               exact ⟨by rw [GV.out] <;> rfl, rfl⟩
             case rest =>
              obtain ⟨rfl, rfl⟩ := hcut
              cases gy with
              |false =>
               clear HONZ
               go_wp2_with fail
               go_roundw
               case rel => first | exact ⟨n + 1, by omega, by go_num, B15.out⟩ | ((repeat apply Exists.intro); exact ⟨⟨n + 1, by omega, by go_num, B15.out⟩, rfl⟩)
               case measure => simp [intOf]; omega
              |true =>
               cases hgz : goesW z2 with
               |false =>
                clear hgz HONZ
                go_wp2_with fail
                go_roundw
                case rel => first | exact ⟨n + 1, by omega, by go_num, B15.out⟩ | ((repeat apply Exists.intro); exact ⟨⟨n + 1, by omega, by go_num, B15.out⟩, rfl⟩)
                case measure => simp [intOf]; omega
               |true =>
                have e6 := HONZ.out rfl hgz
                clear hgz HONZ
                go_wp2_with fail
                go_roundw
                case rel => first | exact ⟨n + 1, by omega, by go_num, B15.out⟩ | ((repeat apply Exists.intro); exact ⟨⟨n + 1, by omega, by go_num, B15.out⟩, rfl⟩)
                case measure => simp [intOf]; omega
            ·obtain rfl : n = m := by omega
             have BF := Lib.hid (B13.out.trans (HBN.out.mono B13.out.size))
             clear HBN
             go_wp2_with fail
             go_roundw
             case rel => first | exact ⟨n + 1, by omega, by go_num, BF.out⟩ | ((repeat apply Exists.intro); exact ⟨⟨n + 1, by omega, by go_num, BF.out⟩, rfl⟩)
             case measure => simp [intOf]; omega
       ·obtain rfl : m = T2 := by omega
        have BF := Lib.hid (HBC.out.trans (HBM.out.mono HBC.out.size))
        have HTF := Lib.hid (HTC.out.below HBM.out)
        clear HBM HTT
        go_wp2_with fail
        go_roundw
        case rel => first | exact ⟨k + 1, ts2, Bk2, by omega, by go_num, HTF.out, HTI2.out, HBI2.out, HSS2.out, BF.out⟩ | ((repeat apply Exists.intro); exact ⟨⟨k + 1, ts2, Bk2, by omega, by go_num, HTF.out, HTI2.out, HBI2.out, HSS2.out, BF.out⟩, rfl⟩)
        case measure => simp [intOf]; omega
  ·obtain rfl : k = N := by omega
   go_wp2_with fail
   go_ret
   exact ⟨rfl, HB.out⟩
theorem taskOther_walk (E : Nat → Addr) (A0 : Option Addr) (cap0 : Nat) (xs0 : List EntV) (A1 : Option Addr) (cap1 : Nat) (xs1 : List TActV) (w : World) (hG : TOG E w) (hX0 : RowAt encEnt 14 w A0 xs0) (hX1 : RowAt encTA 5 w A1 xs1) (hS1 : ∀ x ∈ xs1, RowAt encLine 5 w x.2.2.1 x.2.1 ∧ x.2.1.length ≤ x.2.2.2) :
  Calls Tryz.prog 3 #[.slice A0 xs0.length cap0, .slice A1 xs1.length cap1] w fun e w' => e = .returned (.bool true) ∧ Below w.heap.size w w' := by
 by_cases h : longL xs0 30 = 0 ∧ longA xs1 = false
 ·exact taskOther_in E A0 cap0 xs0 A1 cap1 xs1 w hG hX0 hX1 hS1 h.1 h.2
 ·exact taskOther_out E A0 cap0 xs0 A1 cap1 xs1 w hG hX0 hX1 hS1 h
end Go.Proofs.YtchiojiicehpeaaGreatDoor
namespace Go.Proofs.YtchiojiicehpeaaGreatDoor
open Go.RowKit Go.Sort Go.Proofs Go.ChangeShapes Go.WideShapes Go.Deep
set_option maxRecDepth 100000 in
set_option maxHeartbeats 1600000 in
theorem sheet_in {H : Type} {enc : TypeId × Value → H} {W : World} {fuel : Nat} {cs : List Value} {x : DataW H × List MemPlace} (hf : DataW.trod enc Tryz.prog W 0 (fun _ => true) true fuel 33 cs = some x) : ∃ A cap xs, cs = [.slice A (List.length xs) cap] ∧ RowAt encLine 5 W A xs ∧ List.length xs ≤ cap := by
 rcases open_slice Tryz.underlying33 hf with ⟨hcs, _⟩ | ⟨a, len, cap, m, n, D, Pl, hcs, _, hl, _, hm, _, hall⟩
 ·exact ⟨none, 0, [], hcs, .inl rfl, Nat.le_refl _⟩
 ·simp only [if_true] at hm
  have each : ∀ i, i < len → ∃ q : LineV, (∀ c u, (encLine q)[c]? = some u → W.cell? ((a.add (i * 5)).add c) = some u) := by
   intro i hi
   obtain ⟨cs2, k1, g⟩ := hall i (by omega)
   rw [show Tryz.prog.cellsOf 60 = 5 by kernel_rfl] at k1
   obtain ⟨_, hlen, hcell⟩ := World.cells?_some k1
   obtain ⟨yg, ng, _, _, _, hlg, hg⟩ := DataW.trod_struct Tryz.underlying60 g
   have hlg : yg.length = 3 := hlg
   have g_0 := hg 0 _ rfl
   have g_1 := hg 1 _ rfl
   have g_2 := hg 2 _ rfl
   rw [List.getElem?_eq_getElem (by omega)] at g_0 g_1 g_2
   obtain ⟨yg_0, ng_0, _, _, _, hlg_0, hg_0⟩ := DataW.trod_struct Tryz.underlying58 g_0
   have hlg_0 : yg_0.length = 3 := hlg_0
   have g_0_0 := hg_0 0 _ rfl
   have g_0_1 := hg_0 1 _ rfl
   have g_0_2 := hg_0 2 _ rfl
   rw [List.getElem?_eq_getElem (by omega)] at g_0_0 g_0_1 g_0_2
   obtain ⟨s0, e0, _, wf0⟩ := DataW.trod_string Tryz.underlying9 g_0_0
   obtain ⟨n1, e1, _, wf1⟩ := DataW.trod_int Tryz.underlying3 g_0_1
   obtain ⟨n2, e2, _, wf2⟩ := DataW.trod_int Tryz.underlying3 g_0_2
   obtain ⟨s3, e3, _, wf3⟩ := DataW.trod_string Tryz.underlying9 g_1
   obtain ⟨n4, e4, _, wf4⟩ := DataW.trod_int Tryz.underlying3 g_2
   match cs2, hlen with
   |[v0, v1, v2, v3, v4], _ =>
    have e0 : List.take (Tryz.prog.cellsOf 9) (List.drop 0 (List.take (Tryz.prog.cellsOf 58) (List.drop 0 ([v0, v1, v2, v3, v4])))) = [.string s0] := e0
    rw [show Tryz.prog.cellsOf 58 = 3 by kernel_rfl, show Tryz.prog.cellsOf 9 = 1 by kernel_rfl] at e0
    have e1 : List.take (Tryz.prog.cellsOf 3) (List.drop 1 (List.take (Tryz.prog.cellsOf 58) (List.drop 0 ([v0, v1, v2, v3, v4])))) = [.int .i64 n1] := e1
    rw [show Tryz.prog.cellsOf 58 = 3 by kernel_rfl, show Tryz.prog.cellsOf 3 = 1 by kernel_rfl] at e1
    have e2 : List.take (Tryz.prog.cellsOf 3) (List.drop 2 (List.take (Tryz.prog.cellsOf 58) (List.drop 0 ([v0, v1, v2, v3, v4])))) = [.int .i64 n2] := e2
    rw [show Tryz.prog.cellsOf 58 = 3 by kernel_rfl, show Tryz.prog.cellsOf 3 = 1 by kernel_rfl] at e2
    have e3 : List.take (Tryz.prog.cellsOf 9) (List.drop 3 ([v0, v1, v2, v3, v4])) = [.string s3] := e3
    rw [show Tryz.prog.cellsOf 9 = 1 by kernel_rfl] at e3
    have e4 : List.take (Tryz.prog.cellsOf 3) (List.drop 4 ([v0, v1, v2, v3, v4])) = [.int .i64 n4] := e4
    rw [show Tryz.prog.cellsOf 3 = 1 by kernel_rfl] at e4
    obtain rfl : v0 = .string s0 := by simpa [Value.cells] using e0
    obtain rfl : v1 = .int .i64 n1 := by simpa [Value.cells] using e1
    obtain rfl : v2 = .int .i64 n2 := by simpa [Value.cells] using e2
    obtain rfl : v3 = .string s3 := by simpa [Value.cells] using e3
    obtain rfl : v4 = .int .i64 n4 := by simpa [Value.cells] using e4
    refine ⟨((s0.data.toList, n1, n2), s3.data.toList, n4), fun c u hc => ?_⟩
    have hlt : c < 5 := (List.getElem?_eq_some_iff.1 hc).1
    rw [hcell c hlt, ← hc]
    rfl
  obtain ⟨q, hq⟩ := choose_lt each
  have hxs : ((List.range len).map q).length = len := by simp
  refine ⟨some a, cap, (List.range len).map q, by rw [hxs]; exact hcs, ?_, by rw [hxs]; exact hl⟩
  rcases Nat.eq_zero_or_pos len with h0 | h0
  ·subst h0; exact .inl (by simp)
  ·obtain ⟨ab, ao, spot⟩ := a
   have hspot : spot = none := by simpa [Addr.add] using World.cell?_spot (hq 0 h0 0 _ rfl)
   subst hspot
   refine .inr ⟨ab, ao, rfl, ?_, fun i hi c u hc => ?_⟩
   ·have := hq 0 h0 0 _ rfl
    rw [Addr.add_lit, Addr.add_lit] at this
    exact lt_of_cell this
   ·rw [hxs] at hi
    have := hq i hi c u (by simpa using hc)
    rw [Addr.add_lit, Addr.add_lit] at this
    exact this
set_option maxRecDepth 100000 in
set_option maxHeartbeats 1600000 in
theorem acts3_of {H : Type} {enc : TypeId × Value → H} {W : World} {base : Nat} {v : Value} {d : DataW H} {p : List MemPlace} (hval : Value.okWide Tryz.prog W .any base 23 v)
  (h : DataW.Trod enc Tryz.prog W 0 (fun _ => true) true 23 v d p) : ∃ A cap xs, v = .slice A (List.length xs) cap ∧ RowAt encTA 5 W A xs ∧ ∀ x ∈ xs, RowAt encLine 5 W x.2.2.1 x.2.1 ∧ x.2.1.length ≤ x.2.2.2 := by
 obtain ⟨A, len, cap, rfl⟩ := okWide_slice Tryz.underlying23 hval
 obtain ⟨fuel, hf⟩ := h
 rcases open_slice Tryz.underlying23 hf with ⟨hcs, _⟩ | ⟨a, len', cap', m, n, D, Pl, hcs, _, hl, _, hm, _, hall⟩
 ·simp [Value.cells] at hcs
  obtain ⟨rfl, rfl, rfl⟩ := hcs
  exact ⟨none, 0, [], rfl, .inl rfl, by simp⟩
 ·simp [Value.cells] at hcs
  obtain ⟨rfl, rfl, rfl⟩ := hcs
  simp only [if_true] at hm
  have each : ∀ i, i < len → ∃ q : TActV, (∀ c u, (encTA q)[c]? = some u → W.cell? ((a.add (i * 5)).add c) = some u) ∧ RowAt encLine 5 W q.2.2.1 q.2.1 ∧ q.2.1.length ≤ q.2.2.2 := by
   intro i hi
   obtain ⟨cs, k1, g⟩ := hall i (by omega)
   rw [show Tryz.prog.cellsOf 35 = 5 by kernel_rfl] at k1
   obtain ⟨_, hlen, hcell⟩ := World.cells?_some k1
   obtain ⟨yg, ng, _, _, _, hlg, hg⟩ := DataW.trod_struct Tryz.underlying35 g
   have hlg : yg.length = 5 := hlg
   have g_0 := hg 0 _ rfl
   have g_1 := hg 1 _ rfl
   have g_2 := hg 2 _ rfl
   have g_3 := hg 3 _ rfl
   have g_4 := hg 4 _ rfl
   rw [List.getElem?_eq_getElem (by omega)] at g_0 g_1 g_2 g_3 g_4
   obtain ⟨s0, e0, _, wf0⟩ := DataW.trod_string Tryz.underlying9 g_0
   obtain ⟨s1, e1, _, wf1⟩ := DataW.trod_string Tryz.underlying9 g_1
   obtain ⟨s2, e2, _, wf2⟩ := DataW.trod_string Tryz.underlying9 g_2
   obtain ⟨n3, e3, _, wf3⟩ := DataW.trod_int Tryz.underlying3 g_3
   obtain ⟨A4, c4, xs4, e4, r4, l4⟩ := sheet_in g_4
   match cs, hlen with
   |[v0, v1, v2, v3, v4], _ =>
    have e0 : List.take (Tryz.prog.cellsOf 9) (List.drop 0 ([v0, v1, v2, v3, v4])) = [.string s0] := e0
    rw [show Tryz.prog.cellsOf 9 = 1 by kernel_rfl] at e0
    have e1 : List.take (Tryz.prog.cellsOf 9) (List.drop 1 ([v0, v1, v2, v3, v4])) = [.string s1] := e1
    rw [show Tryz.prog.cellsOf 9 = 1 by kernel_rfl] at e1
    have e2 : List.take (Tryz.prog.cellsOf 9) (List.drop 2 ([v0, v1, v2, v3, v4])) = [.string s2] := e2
    rw [show Tryz.prog.cellsOf 9 = 1 by kernel_rfl] at e2
    have e3 : List.take (Tryz.prog.cellsOf 3) (List.drop 3 ([v0, v1, v2, v3, v4])) = [.int .i64 n3] := e3
    rw [show Tryz.prog.cellsOf 3 = 1 by kernel_rfl] at e3
    have e4 : List.take (Tryz.prog.cellsOf 33) (List.drop 4 ([v0, v1, v2, v3, v4])) = [.slice A4 xs4.length c4] := e4
    rw [show Tryz.prog.cellsOf 33 = 1 by kernel_rfl] at e4
    obtain rfl : v0 = .string s0 := by simpa [Value.cells] using e0
    obtain rfl : v1 = .string s1 := by simpa [Value.cells] using e1
    obtain rfl : v2 = .string s2 := by simpa [Value.cells] using e2
    obtain rfl : v3 = .int .i64 n3 := by simpa [Value.cells] using e3
    obtain rfl : v4 = .slice A4 xs4.length c4 := by simpa [Value.cells] using e4
    refine ⟨((s0.data.toList, s1.data.toList, s2.data.toList, n3), xs4, A4, c4), fun c u hc => ?_, r4, l4⟩
    have hlt : c < 5 := (List.getElem?_eq_some_iff.1 hc).1
    rw [hcell c hlt, ← hc]
    rfl
  obtain ⟨q, hq⟩ := choose_lt each
  have hxs : ((List.range len).map q).length = len := by simp
  refine ⟨some a, cap, (List.range len).map q, by rw [hxs], ?_, fun x hx => by obtain ⟨i, hi, rfl⟩ := List.mem_map.1 hx; exact (hq i (List.mem_range.1 hi)).2⟩
  rcases Nat.eq_zero_or_pos len with h0 | h0
  ·subst h0; exact .inl (by simp)
  ·obtain ⟨ab, ao, spot⟩ := a
   have hspot : spot = none := by simpa [Addr.add] using World.cell?_spot ((hq 0 h0).1 0 _ rfl)
   subst hspot
   refine .inr ⟨ab, ao, rfl, ?_, fun i hi c u hc => ?_⟩
   ·have := (hq 0 h0).1 0 _ rfl
    rw [Addr.add_lit, Addr.add_lit] at this
    exact lt_of_cell this
   ·rw [hxs] at hi
    have := (hq i hi).1 c u (by simpa using hc)
    rw [Addr.add_lit, Addr.add_lit] at this
    exact this
end Go.Proofs.YtchiojiicehpeaaGreatDoor
namespace Go.Proofs.YtchiojiicehpeaaGreatDoor
open Go.RowKit
def textNo (l : List UInt8) : Nat :=
 if l = [116, 105, 116, 104, 101, 98, 97, 114, 110, 58, 32, 116, 101, 120, 116] then 1 else
 if l = [116, 105, 116, 104, 101, 98, 97, 114, 110, 58, 32, 98, 111, 117, 110, 100] then 2 else
 if l = [116, 105, 116, 104, 101, 98, 97, 114, 110, 58, 32, 115, 104, 97, 112, 101] then 3 else
 if l = [116, 105, 116, 104, 101, 98, 97, 114, 110, 58, 32, 107, 105, 110, 100] then 4 else
 if l = [116, 105, 116, 104, 101, 98, 97, 114, 110, 58, 32, 110, 97, 109, 101] then 5 else
 if l = [116, 105, 116, 104, 101, 98, 97, 114, 110, 58, 32, 110, 111, 110, 101] then 6 else
 if l = [116, 105, 116, 104, 101, 98, 97, 114, 110, 58, 32, 101, 120, 105, 115, 116] then 7 else
 if l = [116, 105, 116, 104, 101, 98, 97, 114, 110, 58, 32, 102, 117, 108, 108] then 8 else
 if l = [116, 105, 116, 104, 101, 98, 97, 114, 110, 58, 32, 115, 104, 111, 114, 116] then 9 else
 if l = [116, 105, 116, 104, 101, 98, 97, 114, 110, 58, 32, 111, 114, 100, 101, 114] then 10 else
 if l = [116, 105, 116, 104, 101, 98, 97, 114, 110, 58, 32, 115, 116, 97, 116, 101] then 11 else
 if l = [116, 105, 116, 104, 101, 98, 97, 114, 110, 58, 32, 111, 102, 102] then 12 else 0
theorem errG_of {W : World} {a1 a2 a3 a4 a5 a6 a7 a8 a9 a10 a11 a12 : Addr}
  (h1 : Sent 7 a1 [116, 105, 116, 104, 101, 98, 97, 114, 110, 58, 32, 116, 101, 120, 116] W)
  (h2 : Sent 6 a2 [116, 105, 116, 104, 101, 98, 97, 114, 110, 58, 32, 98, 111, 117, 110, 100] W)
  (h3 : Sent 5 a3 [116, 105, 116, 104, 101, 98, 97, 114, 110, 58, 32, 115, 104, 97, 112, 101] W)
  (h4 : Sent 8 a4 [116, 105, 116, 104, 101, 98, 97, 114, 110, 58, 32, 107, 105, 110, 100] W)
  (h5 : Sent 0 a5 [116, 105, 116, 104, 101, 98, 97, 114, 110, 58, 32, 110, 97, 109, 101] W)
  (h6 : Sent 3 a6 [116, 105, 116, 104, 101, 98, 97, 114, 110, 58, 32, 110, 111, 110, 101] W)
  (h7 : Sent 1 a7 [116, 105, 116, 104, 101, 98, 97, 114, 110, 58, 32, 101, 120, 105, 115, 116] W)
  (h8 : Sent 2 a8 [116, 105, 116, 104, 101, 98, 97, 114, 110, 58, 32, 102, 117, 108, 108] W)
  (h9 : Sent 9 a9 [116, 105, 116, 104, 101, 98, 97, 114, 110, 58, 32, 115, 104, 111, 114, 116] W)
  (h10 : Sent 10 a10 [116, 105, 116, 104, 101, 98, 97, 114, 110, 58, 32, 111, 114, 100, 101, 114] W)
  (h11 : Sent 4 a11 [116, 105, 116, 104, 101, 98, 97, 114, 110, 58, 32, 115, 116, 97, 116, 101] W)
  (h12 : Sent 11 a12 [116, 105, 116, 104, 101, 98, 97, 114, 110, 58, 32, 111, 102, 102] W)
  (hty : W.cell? ⟨12, 0, none⟩ = some (.iface 286 (.agg #[.pointer (some ⟨21, 43, none⟩)]))) :
  ErrG (fun k => if k = 1 then a1 else if k = 2 then a2 else if k = 3 then a3 else if k = 4 then a4 else if k = 5 then a5 else if k = 6 then a6 else if k = 7 then a7 else if k = 8 then a8 else if k = 9 then a9 else if k = 10 then a10 else if k = 11 then a11 else a12) W := by
 refine ⟨?_, ?_, ?_, hty⟩
 ·intro k k1 k2
  rcases (show k = 1 ∨ k = 2 ∨ k = 3 ∨ k = 4 ∨ k = 5 ∨ k = 6 ∨ k = 7 ∨ k = 8 ∨ k = 9 ∨ k = 10 ∨ k = 11 ∨ k = 12 by omega) with rfl | rfl | rfl | rfl | rfl | rfl | rfl | rfl | rfl | rfl | rfl | rfl
  ·exact h1.at_
  ·exact h2.at_
  ·exact h3.at_
  ·exact h4.at_
  ·exact h5.at_
  ·exact h6.at_
  ·exact h7.at_
  ·exact h8.at_
  ·exact h9.at_
  ·exact h10.at_
  ·exact h11.at_
  ·exact h12.at_
 ·intro k k1 k2
  rcases (show k = 1 ∨ k = 2 ∨ k = 3 ∨ k = 4 ∨ k = 5 ∨ k = 6 ∨ k = 7 ∨ k = 8 ∨ k = 9 ∨ k = 10 ∨ k = 11 ∨ k = 12 by omega) with rfl | rfl | rfl | rfl | rfl | rfl | rfl | rfl | rfl | rfl | rfl | rfl
  ·exact h1.row
  ·exact h2.row
  ·exact h3.row
  ·exact h4.row
  ·exact h5.row
  ·exact h6.row
  ·exact h7.row
  ·exact h8.row
  ·exact h9.row
  ·exact h10.row
  ·exact h11.row
  ·exact h12.row
 ·have T : ∀ k, 1 ≤ k → k ≤ 12 → ∃ g l, Sent g ((fun k => if k = 1 then a1 else if k = 2 then a2 else if k = 3 then a3 else if k = 4 then a4 else if k = 5 then a5 else if k = 6 then a6 else if k = 7 then a7 else if k = 8 then a8 else if k = 9 then a9 else if k = 10 then a10 else if k = 11 then a11 else a12) k) l W ∧ textNo l = k := by
   intro k k1 k2
   rcases (show k = 1 ∨ k = 2 ∨ k = 3 ∨ k = 4 ∨ k = 5 ∨ k = 6 ∨ k = 7 ∨ k = 8 ∨ k = 9 ∨ k = 10 ∨ k = 11 ∨ k = 12 by omega) with rfl | rfl | rfl | rfl | rfl | rfl | rfl | rfl | rfl | rfl | rfl | rfl
   ·exact ⟨_, _, h1, by decide⟩
   ·exact ⟨_, _, h2, by decide⟩
   ·exact ⟨_, _, h3, by decide⟩
   ·exact ⟨_, _, h4, by decide⟩
   ·exact ⟨_, _, h5, by decide⟩
   ·exact ⟨_, _, h6, by decide⟩
   ·exact ⟨_, _, h7, by decide⟩
   ·exact ⟨_, _, h8, by decide⟩
   ·exact ⟨_, _, h9, by decide⟩
   ·exact ⟨_, _, h10, by decide⟩
   ·exact ⟨_, _, h11, by decide⟩
   ·exact ⟨_, _, h12, by decide⟩
  intro i j i1 i2 j1 j2 he
  obtain ⟨g, l, s, e⟩ := T i i1 i2
  obtain ⟨g', l', s', e'⟩ := T j j1 j2
  rcases Decidable.em (l = l') with hl | hl
  ·rw [← e, ← e', hl]
  ·exact absurd he (sent_ne s s' hl)
end Go.Proofs.YtchiojiicehpeaaGreatDoor
