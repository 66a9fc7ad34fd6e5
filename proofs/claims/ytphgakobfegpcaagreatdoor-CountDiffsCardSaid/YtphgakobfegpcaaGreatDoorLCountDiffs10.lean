/- The law CountDiffs, walked. Printed by gen/cdiffs.py. A slice of lines that comes in as an argument, opened. Printed by gen/opener.py. The twelve sentinels together. -/
import Derived.BigQuiet
import Derived.Deep.Slices
import Derived.OpenShut
import Derived.SliceStrings
import Derived.Test.YtphgakobfegpcaaGreatDoorM06
import Derived.Test.YtphgakobfegpcaaGreatDoorM20
import Derived.Test.YtphgakobfegpcaaGreatDoorM37
import Derived.Test.YtphgakobfegpcaaGreatDoorM38
import Derived.Test.YtphgakobfegpcaaGreatDoorM39
import Derived.Test.YtphgakobfegpcaaGreatDoorLCountDiffs04
import Derived.Test.YtphgakobfegpcaaGreatDoorLCountDiffs05
import Derived.Test.YtphgakobfegpcaaGreatDoorLCountDiffs08
import Derived.Test.YtphgakobfegpcaaGreatDoorLCountDiffs09
namespace Go.Proofs.YtphgakobfegpcaaGreatDoor
open Go.RowKit Go.Sort Go.Proofs

set_option maxHeartbeats 400000 in
theorem classes_nil (w : World) : Calls Tryz.prog 19 #[.pointer none] w fun e w' => e = .returned (.slice none 0 0) ∧ w = w' := by
  go_enter Tryz.func19, Tryz.ntmps19
  go_wp2_with fail
  go_ret
  exact ⟨rfl, rfl⟩
set_option maxHeartbeats 400000 in
theorem diff_nil (E : Nat → Addr) (A : Option Addr) (n cap : Nat) (w : World) (hE : ErrAt 1 (E 3) w) :
    Calls Tryz.prog 28 #[.pointer none, .slice A n cap] w fun e w' => e = .returned (.tuple #[.slice none 0 0, .iface 326 (.pointer (some (E 3)))]) ∧ Below w.heap.size w w' := by
  unfold ErrAt at hE
  go_enter Tryz.func28, Tryz.ntmps28
  go_wp2_with fail
  go_quiet (fail)
  go_wp2_with fail
  go_ret2
  exact ⟨rfl, below_drewN (Below.refl _ _) _⟩
theorem faulted2_flt (E : Nat → Addr) (r : Option (Nat × Nat)) (h : ∀ k i, r = some (k, i) → k ≤ 12) (v : Value) (w : World) (hG : ErrG E w) (hf : FltAt E r v w) :
    Calls Tryz.prog 13 #[v, fltC r] w fun e w' => e = .returned (.bool true) ∧ Below w.heap.size w w' := by
  cases r with
  | none =>
    have hv : v = .nilIface := hf
    subst hv
    exact faulted2_fine w
  | some f => exact faulted2_some E f.1 f.2 (h f.1 f.2 rfl) v w hG hf
theorem FltAt.below {E : Nat → Addr} {r : Option (Nat × Nat)} {v : Value} {w w' : World} (h : FltAt E r v w) (hb : Below w.heap.size w w') : FltAt E r v w' := by
  cases r with
  | none => exact h
  | some f =>
    obtain ⟨h0, b, h1, h2⟩ := h
    exact ⟨h0, b, h1, (hb.block _ (row_lt h2)).trans h2⟩
theorem noLot_six {B : BkV} : ∀ (l : List LineV) (j k i : Nat), noLot B l j = some (k, i) → k = 6
  | [], _, _, _, h => by cases h
  | x :: r, j, k, i, h => by
    unfold noLot at h
    split at h
    · exact noLot_six r _ k i h
    · simp only [Option.some.injEq, Prod.mk.injEq] at h
      exact h.1.symm
theorem diffB_err {B : BkV} {l : List LineV} {k i : Nat} (h : diffB B l = .inr (k, i)) : k ≠ 0 ∧ k ≤ 12 := by
  unfold diffB at h
  cases hs : sheetF [] l with
  | some f =>
    rw [hs] at h
    simp only [Sum.inr.injEq] at h
    subst h
    exact sheetF_pos l [] k i hs
  | none =>
    rw [hs] at h
    cases hn : noLot B l 0 with
    | some f =>
      rw [hn] at h
      simp only [Sum.inr.injEq] at h
      subst h
      have := noLot_six l 0 k i hn
      omega
    | none => rw [hn] at h; cases h

set_option maxHeartbeats 1600000 in
set_option maxRecDepth 100000 in
theorem countDiffs_out (E : Nat → Addr) (A0 : Option Addr) (cap0 : Nat) (xs0 : List EntV) (A1 : Option Addr) (cap1 : Nat) (xs1 : List LineV) (most : Int) (cl : List UInt8) (last day : Int) (w : World) (hG : BkG E w) (hX0 : RowAt encEnt 14 w A0 xs0) (hX1 : RowAt encLine 5 w A1 xs1) (h : longL xs0 40 = 1 ∨ (longL xs0 40 = 0 ∧ longS xs1 = 1) ∨ (longL xs0 40 = 0 ∧ longS xs1 = 0 ∧ 20 < cl.length)) :
    Calls Tryz.prog 5 #[.slice A0 xs0.length cap0, .slice A1 xs1.length cap1, .int .i64 most, .string ⟨cl.toArray⟩, .int .i64 last, .int .i64 day] w fun e w' => e = .returned (.bool true) ∧ Below w.heap.size w w' := by
  have HC := Lib.hid (counted_any E w hG)
  have HL := Lib.hid (fun W (hb : Below w.heap.size w W) => longEntries_any A0 cap0 xs0 40 W (by decide) (hX0.below hb))
  have HS := Lib.hid (fun W (hb : Below w.heap.size w W) => longSheet_any A1 cap1 xs1 W (hX1.below hb))
  clear hG hX0 hX1
  rcases h with h | ⟨h, h2⟩ | ⟨h, h2, h3⟩
  · rw [h] at HL
    clear h HS
    go_enter Tryz.func5, Tryz.ntmps5
    go_wp2_with fail
    refine HC.out.mono ?_
    rintro e w1 ⟨rfl, b1⟩
    have B1 := Lib.hid b1
    clear b1
    go_wp2_with fail
    refine (HL.out w1 B1.out).mono ?_
    rintro e w2 ⟨rfl, b2⟩
    have B2 := Lib.hid (B1.out.trans (b2.mono B1.out.size))
    clear b2
    go_wp2_with fail
    go_ret
    exact ⟨rfl, B2.out⟩
  · rw [h] at HL
    rw [h2] at HS
    clear h h2
    go_enter Tryz.func5, Tryz.ntmps5
    go_wp2_with fail
    refine HC.out.mono ?_
    rintro e w1 ⟨rfl, b1⟩
    have B1 := Lib.hid b1
    clear b1
    go_wp2_with fail
    refine (HL.out w1 B1.out).mono ?_
    rintro e w2 ⟨rfl, b2⟩
    have B2 := Lib.hid (B1.out.trans (b2.mono B1.out.size))
    clear b2
    go_wp2_with fail
    refine (HS.out w2 B2.out).mono ?_
    rintro e w3 ⟨rfl, b3⟩
    have B3 := Lib.hid (B2.out.trans (b3.mono B2.out.size))
    clear b3
    go_wp2_with fail
    go_ret
    exact ⟨rfl, B3.out⟩
  · rw [h] at HL
    rw [h2] at HS
    have h4 : (20 : Int) < (cl.length : Nat) := by omega
    clear h h2 h3
    go_enter Tryz.func5, Tryz.ntmps5
    go_wp2_with fail
    refine HC.out.mono ?_
    rintro e w1 ⟨rfl, b1⟩
    have B1 := Lib.hid b1
    clear b1
    go_wp2_with fail
    refine (HL.out w1 B1.out).mono ?_
    rintro e w2 ⟨rfl, b2⟩
    have B2 := Lib.hid (B1.out.trans (b2.mono B1.out.size))
    clear b2
    go_wp2_with fail
    refine (HS.out w2 B2.out).mono ?_
    rintro e w3 ⟨rfl, b3⟩
    have B3 := Lib.hid (B2.out.trans (b3.mono B2.out.size))
    clear b3
    go_wp2_with fail
    go_ret
    exact ⟨rfl, B3.out⟩

set_option maxHeartbeats 6400000 in
set_option maxRecDepth 100000 in
theorem countDiffs_in (E : Nat → Addr) (A0 : Option Addr) (cap0 : Nat) (xs0 : List EntV) (A1 : Option Addr) (cap1 : Nat) (xs1 : List LineV) (most : Int) (cl : List UInt8) (last day : Int) (w : World) (hG : BkG E w) (hE : ErrG E w) (hM : MaxG w) (hX0 : RowAt encEnt 14 w A0 xs0) (hX1 : RowAt encLine 5 w A1 xs1) (hC1 : xs1.length ≤ cap1) (hl : InI last) (hd : InI day) (hl0 : longL xs0 40 = 0) (hl1 : longS xs1 = 0) (hcl : cl.length ≤ 20) :
    Calls Tryz.prog 5 #[.slice A0 xs0.length cap0, .slice A1 xs1.length cap1, .int .i64 most, .string ⟨cl.toArray⟩, .int .i64 last, .int .i64 day] w fun e w' => e = .returned (.bool true) ∧ Below w.heap.size w w' := by
  have HC := Lib.hid (counted_any E w hG)
  have HL := Lib.hid (fun W (hb : Below w.heap.size w W) => longEntries_any A0 cap0 xs0 40 W (by decide) (hX0.below hb))
  have HS := Lib.hid (fun W (hb : Below w.heap.size w W) => longSheet_any A1 cap1 xs1 W (hX1.below hb))
  rw [hl0] at HL
  rw [hl1] at HS
  obtain ⟨s1, s2⟩ := longL_short hl0
  obtain ⟨s3, s4⟩ := longS_short hl1
  have hz : ∀ x ∈ xs1, x.1.1.length ≤ 1000000000 ∧ x.2.1.length ≤ 1000000000 := fun x hx => by have := s4 x hx; omega
  have HBO := Lib.hid (fun W (hb : Below w.heap.size w W) => bookOf_any E A0 cap0 xs0 W (hX0.below hb) (by omega) (fun x hx => longN_ShortE (s2 x hx)) (hG.below hb) (hE.below hb))
  have hI := BkI.all BkI.nil xs0
  generalize doAll bk0 xs0 = B at HBO hI
  have HCK := Lib.hid (fun W (hb : Below w.heap.size w W) => cntCheck_any E A1 cap1 xs1 W (hX1.below hb) (by omega) hC1 (hG.below hb))
  have HSF := Lib.hid (fun W (hb : Below w.heap.size w W) => sheetFault_any A1 cap1 xs1 W (hX1.below hb) (by omega) hz)
  have HFT := Lib.hid (fun v W (hb : Below w.heap.size w W) hf => faulted2_flt E (sheetF [] xs1) (fun k i h => (sheetF_pos xs1 [] k i h).2) v W (hE.below hb) hf)
  generalize sheetF [] xs1 = sf at HCK HSF HFT
  have HDU := Lib.hid (fun W (hb : Below w.heap.size w W) => due_any cl last day hl hd W (hM.below hb))
  have HID := Lib.hid (fun W => isDue_any cl last day hl hd W)
  have HCS := Lib.hid (fun p F W (H : BookIs W p F B) => classes_any H hI)
  have HRC := Lib.hid (fun q G R W (H : MBk W q G R B) => classesOf_any H hI)
  have hO := hI.outs.2.2
  have hcn : (classesL (outsB B)).length = B.1.length := by simp [classesL, outsB]
  have HST := Lib.hid (fun A A' c c' W h1 h2 => sameTexts_any A A' c c' (classesL (outsB B)) (classesL (outsB B)) W h1 h2 (by simp [classesL]; omega))
  rw [hcn] at HST
  simp only [decide_true] at HST
  generalize classesL (outsB B) = clss at HCS HRC HST
  have HDF := Lib.hid (fun p F W (hb : Below w.heap.size w W) (H : BookIs W p F B) => cntDiff_any E A1 cap1 xs1 H hI (hX1.below hb) (by omega) hC1 (hG.below hb))
  have HDO := Lib.hid (fun q G R W (hb : Below w.heap.size w W) (H : MBk W q G R B) => diffOf_any A1 cap1 xs1 H hI (hX1.below hb) (by omega) hz)
  have HDN := Lib.hid (fun W (hb : Below w.heap.size w W) => diff_nil E A1 xs1.length cap1 W (hG.below hb).stk.shape)
  have HCO := Lib.hid (fun W (hb : Below w.heap.size w W) => coded2_is E 3 (by decide) (by decide) 3 rfl W (hE.below hb))
  have HDE := Lib.hid (fun k i h => diffB_err (B := B) (l := xs1) (k := k) (i := i) h)
  have HFS := Lib.hid (fun k i (h : k ≤ 12) v W (hb : Below w.heap.size w W) hf => faulted2_some E k i h v W (hE.below hb) hf)
  have HLE : Hid (∀ out, diffB B xs1 = .inl out → out.length ≤ 30) := fun out h => by
    have h1 := diffL_len B.2.2 xs1
    unfold diffB at h
    split at h
    · cases h
    split at h
    · cases h
    · cases h; omega
  have h20 : ¬ (20 : Int) < (cl.length : Nat) := by omega
  generalize dueB cl last day = db at HDU HID
  have hdb : (db != db) = false := by cases db <;> rfl
  generalize diffB B xs1 = r at HDF HDO HDE HLE
  generalize xs1.length = n1 at *
  clear hG hE hM hX0 hX1 hC1 hl hd hl0 hl1 hcl s1 s2 s3 s4 hz hI hO hcn
  go_enter Tryz.func5, Tryz.ntmps5
  go_wp2_with fail
  refine HC.out.mono ?_
  rintro e w1 ⟨rfl, b1⟩
  have B1 := Lib.hid b1
  clear b1 HC
  go_wp2_with fail
  refine (HL.out w1 B1.out).mono ?_
  rintro e w2 ⟨rfl, b2⟩
  have B2 := Lib.hid (B1.out.trans (b2.mono B1.out.size))
  clear b2 HL B1
  go_wp2_with fail
  refine (HS.out w2 B2.out).mono ?_
  rintro e w3 ⟨rfl, b3⟩
  have B3 := Lib.hid (B2.out.trans (b3.mono B2.out.size))
  clear b3 HS B2
  go_wp2_with fail
  refine (HBO.out w3 B3.out).mono ?_
  rintro e w4 ⟨p, q, rfl, hbo, b4⟩
  have B4 := Lib.hid (B3.out.trans (b4.mono B3.out.size))
  obtain ⟨F, G, R, hbk, hmk, -, -, -⟩ := hbo
  have HBK := Lib.hid (fun W (h : Below w4.heap.size w4 W) => hbk.below h)
  have HMK := Lib.hid (fun W (h : Below w4.heap.size w4 W) => hmk.below h)
  clear b4 HBO B3 hbk hmk
  /- the sheet's fault -/
  go_wp2_with fail
  refine (HCK.out w4 B4.out).mono ?_
  rintro e w5 ⟨v5, rfl, hf5, b5⟩
  have K5 := Lib.hid b5
  have HF5 := Lib.hid hf5
  have B5 := Lib.hid (B4.out.trans (b5.mono B4.out.size))
  clear b5 hf5 HCK
  go_wp2_with fail
  refine (HSF.out w5 B5.out).mono ?_
  rintro e w6 ⟨rfl, b6⟩
  have HF6 := Lib.hid (HF5.out.below b6)
  have K6 := Lib.hid (K5.out.trans (b6.mono K5.out.size))
  have B6 := Lib.hid (B5.out.trans (b6.mono B5.out.size))
  clear b6 HF5 HSF B5 K5
  generalize fltC sf = fv at HFT ⊢
  go_wp2_with fail
  refine (HFT.out v5 w6 B6.out HF6.out).mono ?_
  rintro e w7 ⟨rfl, b7⟩
  have K7 := Lib.hid (K6.out.trans (b7.mono K6.out.size))
  have B7 := Lib.hid (B6.out.trans (b7.mono B6.out.size))
  clear b7 HF6 HFT B6 K6
  go_wp2_with fail
  refine (HDU.out w7 B7.out).mono ?_
  rintro e w8 ⟨rfl, b8⟩
  have K8 := Lib.hid (K7.out.trans (b8.mono K7.out.size))
  have B8 := Lib.hid (B7.out.trans (b8.mono B7.out.size))
  clear b8 HDU B7 K7
  go_wp2_with fail
  refine (HID.out w8).mono ?_
  rintro e w9 ⟨rfl, rfl⟩
  clear HID
  /- classes -/
  go_wp2_with fail
  refine (HCS.out p F w8 (HBK.out w8 K8.out)).mono ?_
  rintro e w9 ⟨A9, c9, rfl, hs9, b9⟩
  have K9 := Lib.hid (K8.out.trans (b9.mono K8.out.size))
  have B9 := Lib.hid (B8.out.trans (b9.mono B8.out.size))
  have HS9 := Lib.hid hs9
  clear b9 hs9 HCS B8 K8
  go_wp2_with fail
  refine (HRC.out q G R w9 (HMK.out w9 K9.out)).mono ?_
  rintro e w10 ⟨A10, c10, rfl, hs10, b10⟩
  have K10 := Lib.hid (K9.out.trans (b10.mono K9.out.size))
  have B10 := Lib.hid (B9.out.trans (b10.mono B9.out.size))
  have HT := Lib.hid (HST.out A9 A10 c9 c10 w10 (HS9.out.below b10) hs10)
  clear b10 hs10 HS9 HRC HST B9 K9
  go_wp2_with fail
  refine HT.out.mono ?_
  rintro e w11 ⟨rfl, b11⟩
  have K11 := Lib.hid (K10.out.trans (b11.mono K10.out.size))
  have B11 := Lib.hid (B10.out.trans (b11.mono B10.out.size))
  clear b11 HT B10 K10
  go_wp2_with fail
  refine (classes_nil w11).mono ?_
  rintro e w12 ⟨rfl, rfl⟩
  /- differences -/
  go_wp2_with fail
  refine (HDF.out p F w11 B11.out (HBK.out w11 K11.out)).mono ?_
  rintro e w12 ⟨hd12, b12⟩
  have K12 := Lib.hid (K11.out.trans (b12.mono K11.out.size))
  have B12 := Lib.hid (B11.out.trans (b12.mono B11.out.size))
  clear b12 HDF B11 K11 hdb
  cases r with
  | inr f =>
    obtain ⟨k, i⟩ := f
    obtain ⟨h0, h12⟩ := HDE.out k i rfl
    obtain ⟨v, rfl, hv⟩ := hd12
    have HV := Lib.hid hv
    clear hv HDE HLE
    go_wp2_with fail
    refine (HDO.out q G R w12 B12.out (HMK.out w12 K12.out)).mono ?_
    rintro e w13 ⟨hd13, b13⟩
    have hd13' : e = .returned (.tuple #[.slice none 0 0, .agg #[.int .i64 (k : Nat), .int .i64 (i : Nat)]]) := hd13
    subst hd13'
    have B13 := Lib.hid (B12.out.trans (b13.mono B12.out.size))
    have hba := below_one w13 (.cells #[.int .i64 (k : Nat), .int .i64 (i : Nat)] 32)
    have hx := heap_alloc_new w13 (.cells #[.int .i64 (k : Nat), .int .i64 (i : Nat)] 32)
    have HV14 := Lib.hid ((HV.out.below b13).below hba)
    have B14 := Lib.hid (B13.out.trans (hba.mono B13.out.size))
    have HX14 := Lib.hid hx
    clear b13 hd13 HDO HV hba hx
    go_upto_region 13 with fail
    generalize w13.alloc (.cells #[.int .i64 (k : Nat), .int .i64 (i : Nat)] 32) = w14 at HV14 B14 HX14 ⊢
    go_wp2_with fail
    refine (HDN.out w14 B14.out).mono ?_
    rintro e w15 ⟨rfl, b15⟩
    have B15 := Lib.hid (B14.out.trans (b15.mono B14.out.size))
    have HV15 := Lib.hid (HV14.out.below b15)
    have HX15 := Lib.hid ((b15.block _ (row_lt HX14.out)).trans HX14.out)
    clear b15 HV14 HX14 HDN
    go_wp2_with fail
    refine (HCO.out w15 B15.out).mono ?_
    rintro e w16 ⟨rfl, b16⟩
    have B16 := Lib.hid (B15.out.trans (b16.mono B15.out.size))
    have HV16 := Lib.hid (HV15.out.below b16)
    have hx16 := (b16.block _ (row_lt HX15.out)).trans HX15.out
    have c0 : w16.cell? ⟨w13.heap.size, 0, none⟩ = some (.int .i64 (k : Nat)) := cell_of_row _ _ 0 _ _ _ hx16
    have HF := Lib.hid (HFS.out k i h12 v w16 B16.out HV16.out)
    have hpos : (0 : Int) < ((k : Nat) : Int) := by omega
    clear b16 HV15 HX15 HCO HFS HV16
    go_wp2_with (refine wpList_load_at rfl 32 _ rfl w13.heap.size 0 rfl [.int .i64 (k : Nat), .int .i64 (i : Nat)] (Lies.row _ hx16) _ Tryz.underlying32 rfl (by kernel_rfl) ?_)
    refine HF.out.mono ?_
    rintro e w17 ⟨rfl, b17⟩
    have B17 := Lib.hid (B16.out.trans (b17.mono B16.out.size))
    clear b17
    go_wp2_with fail
    go_ret
    exact ⟨rfl, B17.out⟩
  | inl out =>
    obtain ⟨Ad, cd, rfl, hrow, -⟩ := hd12
    have HLO := Lib.hid (HLE.out out rfl)
    have HRD := Lib.hid hrow
    obtain ⟨M, hM⟩ : ∃ M, M = out.length := ⟨_, rfl⟩
    have HM := Lib.hid hM
    rw [← hM] at HLO ⊢
    have hM30 := HLO.out
    clear hrow HDE HLE HLO hM HFS
    go_wp2_with fail
    refine (HDO.out q G R w12 B12.out (HMK.out w12 K12.out)).mono ?_
    rintro e w13 ⟨hd13, b13⟩
    obtain ⟨Aw, cw, rfl, hrw⟩ := hd13
    rw [← HM.out]
    have B13 := Lib.hid (B12.out.trans (b13.mono B12.out.size))
    have hba := below_one w13 (.cells #[.int .i64 0, .int .i64 (-1)] 32)
    have hx := heap_alloc_new w13 (.cells #[.int .i64 0, .int .i64 (-1)] 32)
    have HRD14 := Lib.hid ((HRD.out.below b13).below hba)
    have HRW14 := Lib.hid (hrw.below hba)
    have B14 := Lib.hid (B13.out.trans (hba.mono B13.out.size))
    have HX14 := Lib.hid hx
    clear b13 HDO HRD hba hx hrw
    go_upto_region 13 with fail
    generalize w13.alloc (.cells #[.int .i64 0, .int .i64 (-1)] 32) = w14 at HRD14 HRW14 B14 HX14 ⊢
    go_wp2_with fail
    refine (HDN.out w14 B14.out).mono ?_
    rintro e w15 ⟨rfl, b15⟩
    have B15 := Lib.hid (B14.out.trans (b15.mono B14.out.size))
    have HRD15 := Lib.hid (HRD14.out.below b15)
    have HRW15 := Lib.hid (HRW14.out.below b15)
    have HX15 := Lib.hid ((b15.block _ (row_lt HX14.out)).trans HX14.out)
    clear b15 HRD14 HRW14 HX14 HDN
    go_wp2_with fail
    refine (HCO.out w15 B15.out).mono ?_
    rintro e w16 ⟨rfl, b16⟩
    have B16 := Lib.hid (B15.out.trans (b16.mono B15.out.size))
    have HRD16 := Lib.hid (fun W (h : Below w16.heap.size w16 W) => (HRD15.out.below b16).below h)
    have HRW16 := Lib.hid (fun W (h : Below w16.heap.size w16 W) => (HRW15.out.below b16).below h)
    have hx16 := (b16.block _ (row_lt HX15.out)).trans HX15.out
    have c0 : w16.cell? ⟨w13.heap.size, 0, none⟩ = some (.int .i64 0) := cell_of_row _ _ 0 _ _ _ hx16
    clear b16 HRD15 HRW15 HX15 HCO hx16
    go_wp2_with fail
    go_loopw [23, 24] (fun nr i wr => ∃ k : Nat, k ≤ M ∧ i = .int .i64 k ∧ nr = .bool (!((out.take k).any (overN most))) ∧ Hid (Below w16.heap.size w16 wr)) (fun _ i _ => M - (intOf i).toNat)
    case atStart => exact ⟨0, by omega, rfl, rfl, Below.refl _ _⟩
    case round =>
      obtain ⟨k, hk, rfl, rfl, HBJ⟩ := hrel
      by_cases hkM : k < M
      · have hkx : k < out.length := by rw [← HM.out]; exact hkM
        obtain ⟨g, o, rfl, lg, cg⟩ := HRD16.out wr HBJ.out |>.resolve_left (fun h => by rw [h] at hkx; simp at hkx)
        obtain ⟨g', o', rfl, lg', cg'⟩ := HRW16.out wr HBJ.out |>.resolve_left (fun h => by rw [h] at hkx; simp at hkx)
        obtain ⟨x, hx⟩ : ∃ x, x = out[k] := ⟨_, rfl⟩
        have hc := cg k hkx
        have hc' := cg' k hkx
        rw [← hx] at hc hc'
        have hneq := fun W => neqEnt x x W
        have hany : (out.take (k + 1)).any (overN most) = ((out.take k).any (overN most) || overN most x) := by
          rw [List.take_succ_eq_append_getElem hkx, List.any_append, ← hx]
          simp
        have hov : overN most x = decide (most < x.2.2.2.2.2) := rfl
        rw [hov] at hany
        have HAN := Lib.hid hany
        obtain ⟨k0, ⟨g1, g2⟩, ⟨l1, l2, l3, l4⟩, ⟨f1, f2, f3⟩, ⟨t1, t2, t3⟩, n⟩ := x
        simp only [decide_true, Bool.not_true, encEnt] at hneq
        simp only at HAN
        have c0 := hc 0 _ rfl
        have d0 := hc' 0 _ rfl
        have c1 := hc 1 _ rfl
        have d1 := hc' 1 _ rfl
        have c2 := hc 2 _ rfl
        have d2 := hc' 2 _ rfl
        have c3 := hc 3 _ rfl
        have d3 := hc' 3 _ rfl
        have c4 := hc 4 _ rfl
        have d4 := hc' 4 _ rfl
        have c5 := hc 5 _ rfl
        have d5 := hc' 5 _ rfl
        have c6 := hc 6 _ rfl
        have d6 := hc' 6 _ rfl
        have c7 := hc 7 _ rfl
        have d7 := hc' 7 _ rfl
        have c8 := hc 8 _ rfl
        have d8 := hc' 8 _ rfl
        have c9 := hc 9 _ rfl
        have d9 := hc' 9 _ rfl
        have c10 := hc 10 _ rfl
        have d10 := hc' 10 _ rfl
        have c11 := hc 11 _ rfl
        have d11 := hc' 11 _ rfl
        have c12 := hc 12 _ rfl
        have d12 := hc' 12 _ rfl
        have c13 := hc 13 _ rfl
        have d13 := hc' 13 _ rfl
        simp only [Nat.add_zero] at c0 d0
        have hk0 : (0 : Int) ≤ (k : Nat) := by omega
        have hk1 : ((k : Nat) : Int) < (M : Nat) := by omega
        clear hc hc' cg cg' hx hany hov
        generalize (out.take k).any (overN most) = nb at HAN ⊢
        cases nb with
        | true =>
          go_wp2_with fail
          go_quiet (fail)
          go_wp2_with fail
          go_roundw
          case rel => exact ⟨k + 1, by omega, by go_num, by rw [HAN.out]; simp, below_drewN HBJ.out _⟩
          case measure => simp [intOf]; omega
        | false =>
          by_cases hm : most < n
          · have hm2 : ¬ n ≤ most := by omega
            go_wp2_with fail
            go_quiet (fail)
            go_wp2_with fail
            go_roundw
            case rel => exact ⟨k + 1, by omega, by go_num, by rw [HAN.out]; simp [hm], below_drewN HBJ.out _⟩
            case measure => simp [intOf]; omega
          · have hm2 : n ≤ most := by omega
            go_wp2_with fail
            go_quiet (fail)
            go_wp2_with fail
            go_roundw
            case rel => exact ⟨k + 1, by omega, by go_num, by rw [HAN.out]; simp [hm], below_drewN HBJ.out _⟩
            case measure => simp [intOf]; omega
      · obtain rfl : k = M := by omega
        have hT : out.take k = out := List.take_of_length_le (by rw [← HM.out]; exact Nat.le_refl _)
        have hcl := close_any Ad cd out most wr (HRD16.out wr HBJ.out) (by rw [← HM.out]; omega)
        rw [← HM.out] at hcl
        have HCLO := Lib.hid hcl
        rw [hT]
        generalize out.any (overN most) = nb at HCLO ⊢
        clear hT hcl
        go_wp2_with fail
        refine HCLO.out.mono ?_
        rintro e w17 ⟨rfl, b17⟩
        have B17 := Lib.hid (B16.out.trans ((HBJ.out.mono B16.out.size).trans (b17.mono (by have := HBJ.out.size; have := B16.out.size; omega))))
        clear b17
        cases nb
        all_goals
          go_wp2_with fail
          go_ret
          exact ⟨rfl, B17.out⟩

theorem countDiffs_walk (E : Nat → Addr) (A0 : Option Addr) (cap0 : Nat) (xs0 : List EntV) (A1 : Option Addr) (cap1 : Nat) (xs1 : List LineV) (most : Int) (cl : List UInt8) (last day : Int) (w : World) (hG : BkG E w) (hE : ErrG E w) (hM : MaxG w) (hX0 : RowAt encEnt 14 w A0 xs0) (hX1 : RowAt encLine 5 w A1 xs1) (hC1 : xs1.length ≤ cap1) (hl : InI last) (hd : InI day) :
    Calls Tryz.prog 5 #[.slice A0 xs0.length cap0, .slice A1 xs1.length cap1, .int .i64 most, .string ⟨cl.toArray⟩, .int .i64 last, .int .i64 day] w fun e w' => e = .returned (.bool true) ∧ Below w.heap.size w w' := by
  rcases longL_01 xs0 40 with h | h
  · by_cases h2 : longS xs1 = 0
    · by_cases h3 : cl.length ≤ 20
      · exact countDiffs_in E A0 cap0 xs0 A1 cap1 xs1 most cl last day w hG hE hM hX0 hX1 hC1 hl hd h h2 h3
      · exact countDiffs_out E A0 cap0 xs0 A1 cap1 xs1 most cl last day w hG hX0 hX1 (.inr (.inr ⟨h, h2, by omega⟩))
    · refine countDiffs_out E A0 cap0 xs0 A1 cap1 xs1 most cl last day w hG hX0 hX1 (.inr (.inl ⟨h, ?_⟩))
      unfold longS at h2 ⊢
      revert h2
      repeat' split
      all_goals simp
  · exact countDiffs_out E A0 cap0 xs0 A1 cap1 xs1 most cl last day w hG hX0 hX1 (.inl h)
theorem countDiffs_walkS (E : Nat → Addr) (A0 : Option Addr) (cap0 : Nat) (xs0 : List EntV) (A1 : Option Addr) (cap1 : Nat) (xs1 : List LineV) (most : Int) (s : ByteArray) (last day : Int) (w : World) (hG : BkG E w) (hE : ErrG E w) (hM : MaxG w) (hX0 : RowAt encEnt 14 w A0 xs0) (hX1 : RowAt encLine 5 w A1 xs1) (hC1 : xs1.length ≤ cap1) (hl : -9223372036854775808 ≤ last ∧ last ≤ 9223372036854775807) (hd : -9223372036854775808 ≤ day ∧ day ≤ 9223372036854775807) :
    Calls Tryz.prog 5 #[.slice A0 xs0.length cap0, .slice A1 xs1.length cap1, .int .i64 most, .string s, .int .i64 last, .int .i64 day] w fun e w' => e = .returned (.bool true) ∧ Below w.heap.size w w' := by
  have h := countDiffs_walk E A0 cap0 xs0 A1 cap1 xs1 most s.data.toList last day w hG hE hM hX0 hX1 hC1 hl hd
  rw [Array.toArray_toList] at h
  exact h
end Go.Proofs.YtphgakobfegpcaaGreatDoor
namespace Go.Proofs.YtphgakobfegpcaaGreatDoor
open Go.RowKit Go.Sort Go.Proofs Go.ChangeShapes Go.WideShapes Go.Deep

set_option maxRecDepth 100000 in
set_option maxHeartbeats 1600000 in
theorem sheet_of {H : Type} {enc : TypeId × Value → H} {W : World} {base : Nat} {v : Value} {d : DataW H} {p : List MemPlace} (hval : Value.okWide Tryz.prog W .any base 52 v)
    (h : DataW.Trod enc Tryz.prog W 0 (fun _ => true) true 52 v d p) : ∃ A cap xs, v = .slice A (List.length xs) cap ∧ RowAt encLine 5 W A xs ∧ List.length xs ≤ cap := by
  obtain ⟨A, len, cap, rfl⟩ := okWide_slice Tryz.underlying52 hval
  obtain ⟨fuel, hf⟩ := h
  rcases open_slice Tryz.underlying52 hf with ⟨hcs, _⟩ | ⟨a, len', cap', m, n, D, Pl, hcs, _, hl, _, hm, _, hall⟩
  · simp [Value.cells] at hcs
    obtain ⟨rfl, rfl, rfl⟩ := hcs
    exact ⟨none, 0, [], rfl, .inl rfl, Nat.le_refl _⟩
  · simp [Value.cells] at hcs
    obtain ⟨rfl, rfl, rfl⟩ := hcs
    simp only [if_true] at hm
    have each : ∀ i, i < len → ∃ q : LineV, (∀ c u, (encLine q)[c]? = some u → W.cell? ((a.add (i * 5)).add c) = some u) := by
      intro i hi
      obtain ⟨cs, k1, g⟩ := hall i (by omega)
      rw [show Tryz.prog.cellsOf 128 = 5 by kernel_rfl] at k1
      obtain ⟨_, hlen, hcell⟩ := World.cells?_some k1
      obtain ⟨yg, ng, _, _, _, hlg, hg⟩ := DataW.trod_struct Tryz.underlying128 g
      have hlg : yg.length = 3 := hlg
      have g_0 := hg 0 _ rfl
      have g_1 := hg 1 _ rfl
      have g_2 := hg 2 _ rfl
      rw [List.getElem?_eq_getElem (by omega)] at g_0 g_1 g_2
      obtain ⟨yg_0, ng_0, _, _, _, hlg_0, hg_0⟩ := DataW.trod_struct Tryz.underlying67 g_0
      have hlg_0 : yg_0.length = 3 := hlg_0
      have g_0_0 := hg_0 0 _ rfl
      have g_0_1 := hg_0 1 _ rfl
      have g_0_2 := hg_0 2 _ rfl
      rw [List.getElem?_eq_getElem (by omega)] at g_0_0 g_0_1 g_0_2
      obtain ⟨s0, e0, _, wf0⟩ := DataW.trod_string Tryz.underlying9 g_0_0
      obtain ⟨n1, e1, _, wf1⟩ := DataW.trod_int Tryz.underlying3 g_0_1
      obtain ⟨n2, e2, _, wf2⟩ := DataW.trod_int Tryz.underlying3 g_0_2
      obtain ⟨s3, e3, _, wf3⟩ := DataW.trod_string Tryz.underlying9 g_1
      obtain ⟨n4, e4, _, wf4⟩ := DataW.trod_int Tryz.underlying3 g_2
      match cs, hlen with
      | [v0, v1, v2, v3, v4], _ =>
        have e0 : List.take (Tryz.prog.cellsOf 9) (List.drop 0 (List.take (Tryz.prog.cellsOf 67) (List.drop 0 ([v0, v1, v2, v3, v4])))) = [.string s0] := e0
        rw [show Tryz.prog.cellsOf 67 = 3 by kernel_rfl, show Tryz.prog.cellsOf 9 = 1 by kernel_rfl] at e0
        have e1 : List.take (Tryz.prog.cellsOf 3) (List.drop 1 (List.take (Tryz.prog.cellsOf 67) (List.drop 0 ([v0, v1, v2, v3, v4])))) = [.int .i64 n1] := e1
        rw [show Tryz.prog.cellsOf 67 = 3 by kernel_rfl, show Tryz.prog.cellsOf 3 = 1 by kernel_rfl] at e1
        have e2 : List.take (Tryz.prog.cellsOf 3) (List.drop 2 (List.take (Tryz.prog.cellsOf 67) (List.drop 0 ([v0, v1, v2, v3, v4])))) = [.int .i64 n2] := e2
        rw [show Tryz.prog.cellsOf 67 = 3 by kernel_rfl, show Tryz.prog.cellsOf 3 = 1 by kernel_rfl] at e2
        have e3 : List.take (Tryz.prog.cellsOf 9) (List.drop 3 ([v0, v1, v2, v3, v4])) = [.string s3] := e3
        rw [show Tryz.prog.cellsOf 9 = 1 by kernel_rfl] at e3
        have e4 : List.take (Tryz.prog.cellsOf 3) (List.drop 4 ([v0, v1, v2, v3, v4])) = [.int .i64 n4] := e4
        rw [show Tryz.prog.cellsOf 3 = 1 by kernel_rfl] at e4
        obtain rfl : v0 = .string s0 := by simpa [Value.cells] using e0
        obtain rfl : v1 = .int .i64 n1 := by simpa [Value.cells] using e1
        obtain rfl : v2 = .int .i64 n2 := by simpa [Value.cells] using e2
        obtain rfl : v3 = .string s3 := by simpa [Value.cells] using e3
        obtain rfl : v4 = .int .i64 n4 := by simpa [Value.cells] using e4
        refine ⟨((s0.data.toList, n1, n2), s3.data.toList, n4), fun c u hc => ?_⟩
        have hlt : c < 5 := (List.getElem?_eq_some_iff.1 hc).1
        rw [hcell c hlt, ← hc]
        rfl
    obtain ⟨q, hq⟩ := choose_lt each
    have hxs : ((List.range len).map q).length = len := by simp
    refine ⟨some a, cap, (List.range len).map q, by rw [hxs], ?_, by rw [hxs]; exact hl⟩
    rcases Nat.eq_zero_or_pos len with h0 | h0
    · subst h0; exact .inl (by simp)
    · obtain ⟨ab, ao, spot⟩ := a
      have hspot : spot = none := by simpa [Addr.add] using World.cell?_spot (hq 0 h0 0 _ rfl)
      subst hspot
      refine .inr ⟨ab, ao, rfl, ?_, fun i hi c u hc => ?_⟩
      · have := hq 0 h0 0 _ rfl
        rw [Addr.add_lit, Addr.add_lit] at this
        exact lt_of_cell this
      · rw [hxs] at hi
        have := hq i hi c u (by simpa using hc)
        rw [Addr.add_lit, Addr.add_lit] at this
        exact this
end Go.Proofs.YtphgakobfegpcaaGreatDoor
namespace Go.Proofs.YtphgakobfegpcaaGreatDoor
open Go.RowKit

/-- The number of a sentinel, by its text. -/
def textNo (l : List UInt8) : Nat :=
  if l = [116, 105, 116, 104, 101, 98, 97, 114, 110, 58, 32, 116, 101, 120, 116] then 1 else
  if l = [116, 105, 116, 104, 101, 98, 97, 114, 110, 58, 32, 98, 111, 117, 110, 100] then 2 else
  if l = [116, 105, 116, 104, 101, 98, 97, 114, 110, 58, 32, 115, 104, 97, 112, 101] then 3 else
  if l = [116, 105, 116, 104, 101, 98, 97, 114, 110, 58, 32, 107, 105, 110, 100] then 4 else
  if l = [116, 105, 116, 104, 101, 98, 97, 114, 110, 58, 32, 110, 97, 109, 101] then 5 else
  if l = [116, 105, 116, 104, 101, 98, 97, 114, 110, 58, 32, 110, 111, 110, 101] then 6 else
  if l = [116, 105, 116, 104, 101, 98, 97, 114, 110, 58, 32, 101, 120, 105, 115, 116] then 7 else
  if l = [116, 105, 116, 104, 101, 98, 97, 114, 110, 58, 32, 102, 117, 108, 108] then 8 else
  if l = [116, 105, 116, 104, 101, 98, 97, 114, 110, 58, 32, 115, 104, 111, 114, 116] then 9 else
  if l = [116, 105, 116, 104, 101, 98, 97, 114, 110, 58, 32, 111, 114, 100, 101, 114] then 10 else
  if l = [116, 105, 116, 104, 101, 98, 97, 114, 110, 58, 32, 115, 116, 97, 116, 101] then 11 else
  if l = [116, 105, 116, 104, 101, 98, 97, 114, 110, 58, 32, 111, 102, 102] then 12 else 0

theorem errG_of {W : World} {a1 a2 a3 a4 a5 a6 a7 a8 a9 a10 a11 a12 : Addr}
    (h1 : Sent 4 a1 [116, 105, 116, 104, 101, 98, 97, 114, 110, 58, 32, 116, 101, 120, 116] W)
    (h2 : Sent 2 a2 [116, 105, 116, 104, 101, 98, 97, 114, 110, 58, 32, 98, 111, 117, 110, 100] W)
    (h3 : Sent 1 a3 [116, 105, 116, 104, 101, 98, 97, 114, 110, 58, 32, 115, 104, 97, 112, 101] W)
    (h4 : Sent 5 a4 [116, 105, 116, 104, 101, 98, 97, 114, 110, 58, 32, 107, 105, 110, 100] W)
    (h5 : Sent 6 a5 [116, 105, 116, 104, 101, 98, 97, 114, 110, 58, 32, 110, 97, 109, 101] W)
    (h6 : Sent 0 a6 [116, 105, 116, 104, 101, 98, 97, 114, 110, 58, 32, 110, 111, 110, 101] W)
    (h7 : Sent 7 a7 [116, 105, 116, 104, 101, 98, 97, 114, 110, 58, 32, 101, 120, 105, 115, 116] W)
    (h8 : Sent 8 a8 [116, 105, 116, 104, 101, 98, 97, 114, 110, 58, 32, 102, 117, 108, 108] W)
    (h9 : Sent 3 a9 [116, 105, 116, 104, 101, 98, 97, 114, 110, 58, 32, 115, 104, 111, 114, 116] W)
    (h10 : Sent 9 a10 [116, 105, 116, 104, 101, 98, 97, 114, 110, 58, 32, 111, 114, 100, 101, 114] W)
    (h11 : Sent 10 a11 [116, 105, 116, 104, 101, 98, 97, 114, 110, 58, 32, 115, 116, 97, 116, 101] W)
    (h12 : Sent 11 a12 [116, 105, 116, 104, 101, 98, 97, 114, 110, 58, 32, 111, 102, 102] W)
    (hty : W.cell? ⟨12, 0, none⟩ = some (.iface 249 (.agg #[.pointer (some ⟨19, 27, none⟩)]))) :
    ErrG (fun k => if k = 1 then a1 else if k = 2 then a2 else if k = 3 then a3 else if k = 4 then a4 else if k = 5 then a5 else if k = 6 then a6 else if k = 7 then a7 else if k = 8 then a8 else if k = 9 then a9 else if k = 10 then a10 else if k = 11 then a11 else a12) W := by
  refine ⟨?_, ?_, ?_, hty⟩
  · intro k k1 k2
    rcases (show k = 1 ∨ k = 2 ∨ k = 3 ∨ k = 4 ∨ k = 5 ∨ k = 6 ∨ k = 7 ∨ k = 8 ∨ k = 9 ∨ k = 10 ∨ k = 11 ∨ k = 12 by omega) with rfl | rfl | rfl | rfl | rfl | rfl | rfl | rfl | rfl | rfl | rfl | rfl
    · exact h1.at_
    · exact h2.at_
    · exact h3.at_
    · exact h4.at_
    · exact h5.at_
    · exact h6.at_
    · exact h7.at_
    · exact h8.at_
    · exact h9.at_
    · exact h10.at_
    · exact h11.at_
    · exact h12.at_
  · intro k k1 k2
    rcases (show k = 1 ∨ k = 2 ∨ k = 3 ∨ k = 4 ∨ k = 5 ∨ k = 6 ∨ k = 7 ∨ k = 8 ∨ k = 9 ∨ k = 10 ∨ k = 11 ∨ k = 12 by omega) with rfl | rfl | rfl | rfl | rfl | rfl | rfl | rfl | rfl | rfl | rfl | rfl
    · exact h1.row
    · exact h2.row
    · exact h3.row
    · exact h4.row
    · exact h5.row
    · exact h6.row
    · exact h7.row
    · exact h8.row
    · exact h9.row
    · exact h10.row
    · exact h11.row
    · exact h12.row
  · have T : ∀ k, 1 ≤ k → k ≤ 12 → ∃ g l, Sent g ((fun k => if k = 1 then a1 else if k = 2 then a2 else if k = 3 then a3 else if k = 4 then a4 else if k = 5 then a5 else if k = 6 then a6 else if k = 7 then a7 else if k = 8 then a8 else if k = 9 then a9 else if k = 10 then a10 else if k = 11 then a11 else a12) k) l W ∧ textNo l = k := by
      intro k k1 k2
      rcases (show k = 1 ∨ k = 2 ∨ k = 3 ∨ k = 4 ∨ k = 5 ∨ k = 6 ∨ k = 7 ∨ k = 8 ∨ k = 9 ∨ k = 10 ∨ k = 11 ∨ k = 12 by omega) with rfl | rfl | rfl | rfl | rfl | rfl | rfl | rfl | rfl | rfl | rfl | rfl
      · exact ⟨_, _, h1, by decide⟩
      · exact ⟨_, _, h2, by decide⟩
      · exact ⟨_, _, h3, by decide⟩
      · exact ⟨_, _, h4, by decide⟩
      · exact ⟨_, _, h5, by decide⟩
      · exact ⟨_, _, h6, by decide⟩
      · exact ⟨_, _, h7, by decide⟩
      · exact ⟨_, _, h8, by decide⟩
      · exact ⟨_, _, h9, by decide⟩
      · exact ⟨_, _, h10, by decide⟩
      · exact ⟨_, _, h11, by decide⟩
      · exact ⟨_, _, h12, by decide⟩
    intro i j i1 i2 j1 j2 he
    obtain ⟨g, l, s, e⟩ := T i i1 i2
    obtain ⟨g', l', s', e'⟩ := T j j1 j2
    rcases Decidable.em (l = l') with hl | hl
    · rw [← e, ← e', hl]
    · exact absurd he (sent_ne s s' hl)
end Go.Proofs.YtphgakobfegpcaaGreatDoor
