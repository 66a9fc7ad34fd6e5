/- The law BookOrder, walked. Printed by gen/border.py. -/
import Derived.Deep.DeepCutAuto
import Derived.Test.YtphgakobfegpcaaGreatDoorM38
import Derived.Test.YtphgakobfegpcaaGreatDoorM48
namespace Go.Proofs.YtphgakobfegpcaaGreatDoor
open Go.RowKit Go.Sort Go.Proofs

theorem len13c {L : List Value} (h : L.length = 13) : ∃ a1 a2 a3 a4 a5 a6 a7 a8 a9 b0 b1 b2 b3, L = [a1, a2, a3, a4, a5, a6, a7, a8, a9, b0, b1, b2, b3] := by
  match L, h with
  | [a1, a2, a3, a4, a5, a6, a7, a8, a9, b0, b1, b2, b3], _ => exact ⟨a1, a2, a3, a4, a5, a6, a7, a8, a9, b0, b1, b2, b3, rfl⟩
theorem ent_cells (x : EntV) : ∃ V13, encEnt x = .string ⟨x.1.toArray⟩ :: V13 ∧ V13.length = 13 := ⟨_, rfl, rfl⟩
theorem cells14 {W : World} {b : Nat} {kd : List UInt8} {a1 a2 a3 a4 a5 a6 a7 a8 a9 b0 b1 b2 b3 : Value} {t : TypeId} (h : W.heap[b]? = some (.cells ([Value.string ⟨kd.toArray⟩, a1, a2, a3, a4, a5, a6, a7, a8, a9, b0, b1, b2, b3]).toArray t (0, 0))) : W.cell? ⟨b, 0, none⟩ = some (.string ⟨kd.toArray⟩) ∧ W.cell? ⟨b, 1, none⟩ = some (a1) ∧ W.cell? ⟨b, 2, none⟩ = some (a2) ∧ W.cell? ⟨b, 3, none⟩ = some (a3) ∧ W.cell? ⟨b, 4, none⟩ = some (a4) ∧ W.cell? ⟨b, 5, none⟩ = some (a5) ∧ W.cell? ⟨b, 6, none⟩ = some (a6) ∧ W.cell? ⟨b, 7, none⟩ = some (a7) ∧ W.cell? ⟨b, 8, none⟩ = some (a8) ∧ W.cell? ⟨b, 9, none⟩ = some (a9) ∧ W.cell? ⟨b, 10, none⟩ = some (b0) ∧ W.cell? ⟨b, 11, none⟩ = some (b1) ∧ W.cell? ⟨b, 12, none⟩ = some (b2) ∧ W.cell? ⟨b, 13, none⟩ = some (b3) :=
  ⟨rowC h 0, rowC h 1, rowC h 2, rowC h 3, rowC h 4, rowC h 5, rowC h 6, rowC h 7, rowC h 8, rowC h 9, rowC h 10, rowC h 11, rowC h 12, rowC h 13⟩
/-- What kinds of entries change no sum. -/
def stillB (k : List UInt8) : Bool := (k == kMove) || (k == kHold) || (k == kFree) || (k == kLot) || (k == kGoods)
theorem stillB_kinds {k : List UInt8} (h : stillB k = true) : k ≠ kIn ∧ k ≠ kOut ∧ k ≠ kMore ∧ k ≠ kLess := by
  unfold stillB at h
  simp only [Bool.or_eq_true, beq_iff_eq] at h
  rcases h with (((h | h) | h) | h) | h <;> subst h <;> decide

set_option maxHeartbeats 1600000 in
set_option maxRecDepth 100000 in
theorem bookOrder_out (E : Nat → Addr) (A0 : Option Addr) (cap0 : Nat) (xs0 : List EntV) (x : EntV) (w : World) (hG : BkLawG E w) (hX0 : RowAt encEnt 14 w A0 xs0) (h : longL xs0 40 = 1 ∨ (longL xs0 40 = 0 ∧ longN x = 1)) :
    Calls Tryz.prog 7 #[.slice A0 xs0.length cap0, .agg (encEnt x).toArray] w fun e w' => e = .returned (.bool true) ∧ Below w.heap.size w w' := by
  have B0 := Lib.hid (below_one w (.cells (encEnt x).toArray 69))
  have hrow := heap_alloc_new w (.cells (encEnt x).toArray 69)
  have HC := Lib.hid (started_any E _ (hG.bk.below B0.out))
  have HL := Lib.hid (fun W (hb : Below w.heap.size w W) => longEntries_any A0 cap0 xs0 40 W (by decide) (hX0.below hb))
  have HLN := Lib.hid (fun W => longEnt_any x W)
  obtain ⟨V, hV, hl⟩ := ent_cells x
  obtain ⟨a1, a2, a3, a4, a5, a6, a7, a8, a9, b0, b1, b2, b3, rfl⟩ := len13c hl
  rw [hV] at HC B0 hrow HLN ⊢
  generalize x.1 = kd at *
  clear hG hX0 hV hl
  rcases h with h | ⟨h1, h2⟩
  · rw [h] at HL
    clear h
    go_enter Tryz.func7, Tryz.ntmps7
    go_wp2_with fail
    refine HC.out.mono ?_
    rintro e w1 ⟨rfl, b1⟩
    have B1 := Lib.hid (B0.out.trans (b1.mono B0.out.size))
    clear b1
    go_wp2_with fail
    refine (HL.out w1 B1.out).mono ?_
    rintro e w2 ⟨rfl, b2⟩
    have B2 := Lib.hid (B1.out.trans (b2.mono B1.out.size))
    clear b2
    go_wp2_with fail
    go_ret
    exact ⟨rfl, B2.out⟩
  · rw [h1] at HL
    rw [h2] at HLN
    clear h1 h2
    go_enter Tryz.func7, Tryz.ntmps7
    go_wp2_with fail
    refine HC.out.mono ?_
    rintro e w1 ⟨rfl, b1⟩
    have hr1 := row_below b1 hrow (row_lt hrow)
    have B1 := Lib.hid (B0.out.trans (b1.mono B0.out.size))
    clear b1
    go_wp2_with fail
    refine (HL.out w1 B1.out).mono ?_
    rintro e w2 ⟨rfl, b2⟩
    have hr2 := row_below b2 hr1 (row_lt hr1)
    have B2 := Lib.hid (B1.out.trans (b2.mono B1.out.size))
    obtain ⟨e0, e1, e2, e3, e4, e5, e6, e7, e8, e9, e10, e11, e12, e13⟩ := cells14 hr2
    clear b2 hr1 hr2 hrow
    go_wp2_with fail
    refine (HLN.out w2).mono ?_
    rintro e w3 ⟨rfl, b3⟩
    have B3 := Lib.hid (B2.out.trans (b3.mono B2.out.size))
    clear b3 e0 e1 e2 e3 e4 e5 e6 e7 e8 e9 e10 e11 e12 e13
    go_wp2_with fail
    go_ret
    exact ⟨rfl, B3.out⟩

set_option maxHeartbeats 6400000 in
set_option maxRecDepth 100000 in
theorem bookOrder_in (E : Nat → Addr) (A0 : Option Addr) (cap0 : Nat) (xs0 : List EntV) (x : EntV) (w : World) (hG : BkLawG E w) (hE : ErrG E w) (hX0 : RowAt encEnt 14 w A0 xs0) (hl0 : longL xs0 40 = 0) (hl1 : longN x = 0) :
    Calls Tryz.prog 7 #[.slice A0 xs0.length cap0, .agg (encEnt x).toArray] w fun e w' => e = .returned (.bool true) ∧ Below w.heap.size w w' := by
  have B0 := Lib.hid (below_one w (.cells (encEnt x).toArray 69))
  have hrow := heap_alloc_new w (.cells (encEnt x).toArray 69)
  have HC := Lib.hid (started_any E _ (hG.bk.below B0.out))
  have HL := Lib.hid (fun W (hb : Below w.heap.size w W) => longEntries_any A0 cap0 xs0 40 W (by decide) (hX0.below hb))
  have HLN := Lib.hid (fun W => longEnt_any x W)
  rw [hl0] at HL
  rw [hl1] at HLN
  obtain ⟨s1, s2⟩ := longL_short hl0
  have hsx := longN_ShortE hl1
  have HBO := Lib.hid (fun W (hb : Below w.heap.size w W) => bookOf_any E A0 cap0 xs0 W (hX0.below hb) (by omega) (fun x hx => longN_ShortE (s2 x hx)) (hG.bk.below hb) (hE.below hb))
  have HG := Lib.hid (fun W (hb : Below w.heap.size w W) => hG.below hb)
  have hIB := BkI.all BkI.nil xs0
  generalize doAll bk0 xs0 = B at HBO hIB
  have hIC := hIB.do_ x
  have HDO := Lib.hid (fun p F W (hb : Below w.heap.size w W) (H : BookIs W p F B) => do_any E x H hIB (by have := hsx.2.1; omega) (by have := hsx.2.2.1; omega) (hG.bk.below hb))
  have HST : Hid (doE B x ≠ 0 → doB B x = B) := fun h => by unfold doB; rw [if_pos h]
  have HCH : Hid (doE B x = 0 → ¬ BkEq B (doB B x)) := fun h => hIB.changed h
  have HSL : Hid (doE B x = 0 → stillB x.1 = true → ∀ c, (fG B c).isSome = true → sumsOf (doB B x) c = sumsOf B c ∧ hasOf (doB B x) c = hasOf B c) := fun h hs c hc => still_has hIB h (stillB_kinds hs) hc
  have HIB := Lib.hid hIB
  have HIC := Lib.hid hIC
  obtain ⟨V, hV, hl⟩ := ent_cells x
  obtain ⟨a1, a2, a3, a4, a5, a6, a7, a8, a9, b0, b1, b2, b3, rfl⟩ := len13c hl
  rw [hV] at HC B0 hrow HLN HDO ⊢
  generalize doE B x = de at HDO HST HCH HSL
  generalize doB B x = C at HDO HST HCH HSL HIC
  generalize x.1 = kd at *
  clear hG hE hX0 hV hl hl0 hl1 s1 s2 hsx hIB hIC
  go_enter Tryz.func7, Tryz.ntmps7
  go_wp2_with fail
  refine HC.out.mono ?_
  rintro e w1 ⟨rfl, b1⟩
  have hr1 := row_below b1 hrow (row_lt hrow)
  have B1 := Lib.hid (B0.out.trans (b1.mono B0.out.size))
  clear b1 hrow HC
  go_wp2_with fail
  refine (HL.out w1 B1.out).mono ?_
  rintro e w2 ⟨rfl, b2⟩
  have hr2 := row_below b2 hr1 (row_lt hr1)
  have B2 := Lib.hid (B1.out.trans (b2.mono B1.out.size))
  obtain ⟨e0, e1, e2, e3, e4, e5, e6, e7, e8, e9, e10, e11, e12, e13⟩ := cells14 hr2
  clear b2 hr1 HL B1
  go_wp2_with fail
  refine (HLN.out w2).mono ?_
  rintro e w3 ⟨rfl, b3⟩
  have HR3 := Lib.hid (row_below b3 hr2 (row_lt hr2))
  have B3 := Lib.hid (B2.out.trans (b3.mono B2.out.size))
  clear b3 e0 e1 e2 e3 e4 e5 e6 e7 e8 e9 e10 e11 e12 e13 hr2 HLN B2
  go_wp2_with fail
  refine (HBO.out w3 B3.out).mono ?_
  rintro e w4 ⟨p, q0, rfl, hbo, b4⟩
  have B4 := Lib.hid (B3.out.trans (b4.mono B3.out.size))
  have HR4 := Lib.hid (row_below b4 HR3.out (row_lt HR3.out))
  obtain ⟨F, G, R, hbk, -, hF, -, -⟩ := hbo
  have HF : Hid (∀ k ∈ F, w.heap.size < k) := fun k hk => by have := (hF k hk).1; have := row_lt HR3.out; omega
  have HBK := Lib.hid hbk
  have hlz := row_lt HR4.out
  clear b4 HBO hF B3 hbk HR3
  go_wp2_with fail
  refine (copyBook_any HBK.out).mono ?_
  rintro e w5 ⟨p2, F2, rfl, hc5, hF2, b5⟩
  have B5 := Lib.hid (B4.out.trans (b5.mono B4.out.size))
  have HR5 := Lib.hid (row_below b5 HR4.out (row_lt HR4.out))
  have HBK5 := Lib.hid (HBK.out.below b5)
  have HLT := Lib.hid HBK.out.lt
  have HC5 := Lib.hid hc5
  have HF2 := Lib.hid hF2
  have hz45 := b5.size
  clear hc5 hF2 b5 HBK HR4
  go_wp2_with (refine wpList_load_at rfl 69 _ rfl w.heap.size 0 rfl ([Value.string ⟨kd.toArray⟩, a1, a2, a3, a4, a5, a6, a7, a8, a9, b0, b1, b2, b3]) (Lies.row _ HR5.out) _ Tryz.underlying69 rfl (by kernel_rfl) ?_)
  refine (HDO.out p2 F2 w5 B5.out HC5.out).mono ?_
  rintro e w6 ⟨rfl, ⟨F6, hc6, hf6⟩, bf6⟩
  have B6 := Lib.hid (B5.out.trans (bf6.below B5.out.size fun j hj => by have := HF2.out j hj; have := B4.out.size; omega))
  have HR6 := Lib.hid ((bf6.block _ (row_lt HR5.out) (fun h => by have := HF2.out _ h; omega)).trans HR5.out)
  have HBK6 := Lib.hid (HBK5.out.butF bf6 fun j hj hf => by have := HF2.out j hf; have := HLT.out j hj; omega)
  have HC6 := Lib.hid hc6
  have HF6 : Hid (∀ j ∈ F6, w4.heap.size ≤ j) := fun j hj => (hf6 j hj).elim (HF2.out j) (fun h => by omega)
  clear hc6 hf6 bf6 HC5 HBK5 HR5
  by_cases h0 : ¬ de = 0
  · have HSB := Lib.hid (HST.out h0)
    rw [errOf_pos _ _ h0]
    have HSM : Hid (Calls Tryz.prog 36 #[.pointer (some ⟨p, 0, none⟩), .pointer (some ⟨p2, 0, none⟩)] w6 fun e w' => e = .returned (.bool true) ∧ Below w6.heap.size w6 w') := by
      have hb := HC6.out
      rw [HSB.out] at hb
      obtain ⟨r, hr, hcall⟩ := sameBk_any E HBK6.out hb HIB.out HIB.out (HG.out _ B6.out).text
      have : r = true := hr.2 (BkEq.refl _)
      subst this
      exact hcall
    clear h0
    go_wp2_with fail
    refine HSM.out.mono ?_
    rintro e w7 ⟨rfl, b7⟩
    have B7 := Lib.hid (B6.out.trans (b7.mono B6.out.size))
    clear b7 HSM
    go_wp2_with fail
    go_ret
    exact ⟨rfl, B7.out⟩
  have h0 := Classical.not_not.1 h0
  have HCH1 := Lib.hid (HCH.out h0)
  have HSL1 := Lib.hid (HSL.out h0)
  rw [h0, errOf_zero]
  have HD0 := Lib.hid (fun W (hb : Below w.heap.size w W) (H : BookIs W p F B) => by have := HDO.out p F W hb H; rw [h0, errOf_zero] at this; exact this)
  clear h0 HST HCH HSL HDO
  go_wp2_with fail
  refine (goodsBk_any HBK6.out HIB.out).mono ?_
  rintro e w7 ⟨AG, cG, rfl, hrG, -, b7⟩
  have B7 := Lib.hid (B6.out.trans (b7.mono B6.out.size))
  have HR7 := Lib.hid (row_below b7 HR6.out (row_lt HR6.out))
  have HBK7 := Lib.hid (fun W (hb : Below w7.heap.size w7 W) => HBK6.out.below (b7.trans (hb.mono b7.size)))
  have HC7 := Lib.hid (fun W (hb : Below w7.heap.size w7 W) => HC6.out.below (b7.trans (hb.mono b7.size)))
  have HRG := Lib.hid (fun W (hb : Below w7.heap.size w7 W) => hrG.below hb)
  have HR7W := Lib.hid (fun W (hb : Below w7.heap.size w7 W) => row_below hb HR7.out (row_lt HR7.out))
  clear hrG b7 HBK6 HC6 HR6
  obtain ⟨NG, hNG⟩ : ∃ NG, NG = B.1.length := ⟨_, rfl⟩
  have HNG := Lib.hid hNG
  rw [← hNG]
  have hgf := HIB.out.gfew
  rw [← hNG] at hgf
  obtain ⟨st, hst⟩ : ∃ st, st = stillB kd := ⟨_, rfl⟩
  rw [← hst] at HSL1
  have HSTL : Hid (st = ((kd == [109, 111, 118, 101]) || (kd == [104, 111, 108, 100]) || (kd == [102, 114, 101, 101]) || (kd == [108, 111, 116]) || (kd == [103, 111, 111, 100, 115]))) := hst
  clear hNG hst
  have k0 := (cells14 HR7.out).1
  go_upto_region 11 with fail
  go_cut [11] (fun s11 wx => s11 = .bool st ∧ Below w7.heap.size w7 wx)
  case first =>
    by_cases j1 : (kd == [109, 111, 118, 101]) = true
    · have HT : Hid (st = true) := HSTL.out.trans (by rw [j1]; rfl)
      go_wp2_with fail
      go_meet
      exact ⟨by rw [HT.out], Below.refl _ _⟩
    have j1 := Bool.eq_false_iff.2 j1
    by_cases j2 : (kd == [104, 111, 108, 100]) = true
    · have HT : Hid (st = true) := HSTL.out.trans (by rw [j1, j2]; rfl)
      go_wp2_with fail
      go_meet
      exact ⟨by rw [HT.out], Below.refl _ _⟩
    have j2 := Bool.eq_false_iff.2 j2
    by_cases j3 : (kd == [102, 114, 101, 101]) = true
    · have HT : Hid (st = true) := HSTL.out.trans (by rw [j1, j2, j3]; rfl)
      go_wp2_with fail
      go_meet
      exact ⟨by rw [HT.out], Below.refl _ _⟩
    have j3 := Bool.eq_false_iff.2 j3
    by_cases j4 : (kd == [108, 111, 116]) = true
    · have HT : Hid (st = true) := HSTL.out.trans (by rw [j1, j2, j3, j4]; rfl)
      go_wp2_with fail
      go_meet
      exact ⟨by rw [HT.out], Below.refl _ _⟩
    have j4 := Bool.eq_false_iff.2 j4
    by_cases j5 : (kd == [103, 111, 111, 100, 115]) = true
    · have HT : Hid (st = true) := HSTL.out.trans (by rw [j1, j2, j3, j4, j5]; rfl)
      go_wp2_with fail
      go_meet
      exact ⟨by rw [HT.out], Below.refl _ _⟩
    have j5 := Bool.eq_false_iff.2 j5
    have HT : Hid (st = false) := HSTL.out.trans (by rw [j1, j2, j3, j4, j5]; rfl)
    go_wp2_with fail
    go_meet
    exact ⟨by rw [HT.out], Below.refl _ _⟩
  case rest =>
    obtain ⟨rfl, b8⟩ := hcut
    have B8 := Lib.hid b8
    clear b8 k0 HSTL HR7
    go_wp2_with fail
    go_loopw [12] (fun i wr => ∃ n : Nat, n ≤ NG ∧ i = .int .i64 n ∧ Hid (Below w7.heap.size w7 wr)) (fun i _ => NG - (intOf i).toNat)
    case atStart => exact ⟨0, by omega, rfl, B8.out⟩
    case round =>
      obtain ⟨n, hn, rfl, HBR⟩ := hrel
      by_cases hnG : n < NG
      · have hnx : n < B.1.length := by rw [← HNG.out]; exact hnG
        have hnm : n < (B.1.map (·.1)).length := by rw [List.length_map]; exact hnx
        obtain ⟨z, hz⟩ : ∃ z, z = B.1[n] := ⟨_, rfl⟩
        have hzm : z ∈ B.1 := by rw [hz]; exact List.getElem_mem hnx
        have HCW : Hid (∀ W, Below w7.heap.size w7 W → ∃ g o, AG = some ⟨g, o, none⟩ ∧ W.cell? ⟨g, o + n * 2, none⟩ = some (.string ⟨z.1.1.toArray⟩)) := fun W hb => by
          rcases HRG.out W hb with h | ⟨b', o', h1, h2, h3⟩
          · rw [h] at hnm; simp at hnm
          · exact ⟨b', o', h1, h3 n hnm 0 _ (by rw [List.getElem_map, ← hz]; rfl)⟩
        obtain ⟨g, o, rfl, -⟩ := HCW.out w7 (Below.refl _ _)
        have HCL : Hid (∀ W, Below w7.heap.size w7 W → W.cell? ⟨g, o + n * 2, none⟩ = some (.string ⟨z.1.1.toArray⟩)) := fun W hb => by
          obtain ⟨g', o', h1, h2⟩ := HCW.out W hb
          cases h1
          exact h2
        have hd := HBR.out.drew
        have hn0 : (0 : Int) ≤ (n : Nat) := by omega
        have hn1 : ((n : Nat) : Int) < (NG : Nat) := by omega
        cases st with
        | false =>
          clear HCW hz hzm HSL1
          generalize z.1.1 = code at *
          go_wp2_with fail
          refine wp_region_held_drew (S := fun W => W.cell? ⟨g, o + n * 2, none⟩ = some (.string ⟨code.toArray⟩)) (by kernel_rfl) (HCL.out _ hd) (fun hHeld => ?_)
          refine wpAnyH_take (i := 0) (oi := _) (v := .bool false) rfl (by kernel_rfl) (by kernel_rfl) (by kernel_rfl) (fun _ _ _ h => h) (Or.inl ⟨by kernel_rfl, fun W hSw => ?_⟩) hHeld ?_
          · dsimp only at hSw
            go_simp
            all_goals omega
          change wpAnyH _ _ _ _ _ _ _ (Act.put _ (some 75) _) _
          (try simp only [Act.put, List.setIfInBounds_toArray, List.set_cons_zero, List.set_cons_succ])
          refine wpAnyH_take (i := 1) (oi := _) (v := .bool false) rfl (by kernel_rfl) (by kernel_rfl) (by kernel_rfl) (fun _ _ _ h => h) (Or.inl ⟨by kernel_rfl, fun W hSw => ?_⟩) hHeld ?_
          · dsimp only at hSw
            go_simp
            all_goals omega
          change wpAnyH _ _ _ _ _ _ _ (Act.put _ (some 76) _) _
          (try simp only [Act.put, List.setIfInBounds_toArray, List.set_cons_zero, List.set_cons_succ])
          refine wpAnyH_take (i := 2) (oi := _) (v := undef) rfl (by kernel_rfl) (by kernel_rfl) (by kernel_rfl) (fun _ _ _ h => h) (Or.inr ⟨by kernel_rfl, rfl⟩) hHeld ?_
          change wpAnyH _ _ _ _ _ _ _ (Act.put _ (some 77) _) _
          (try simp only [Act.put, List.setIfInBounds_toArray, List.set_cons_zero, List.set_cons_succ])
          refine wpAnyH_take (i := 3) (oi := _) (v := undef) rfl (by kernel_rfl) (by kernel_rfl) (by kernel_rfl) (fun _ _ _ h => h) (Or.inr ⟨by kernel_rfl, rfl⟩) hHeld ?_
          change wpAnyH _ _ _ _ _ _ _ (Act.put _ (some 78) _) _
          (try simp only [Act.put, List.setIfInBounds_toArray, List.set_cons_zero, List.set_cons_succ])
          refine wpAnyH_take (i := 4) (oi := _) (v := undef) rfl (by kernel_rfl) (by kernel_rfl) (by kernel_rfl) (fun _ _ _ h => h) (Or.inr ⟨by kernel_rfl, rfl⟩) hHeld ?_
          change wpAnyH _ _ _ _ _ _ _ (Act.put _ (some 79) _) _
          (try simp only [Act.put, List.setIfInBounds_toArray, List.set_cons_zero, List.set_cons_succ])
          refine wpAnyH_take (i := 5) (oi := _) (v := undef) rfl (by kernel_rfl) (by kernel_rfl) (by kernel_rfl) (fun _ _ _ h => h) (Or.inr ⟨by kernel_rfl, rfl⟩) hHeld ?_
          change wpAnyH _ _ _ _ _ _ _ (Act.put _ (some 80) _) _
          (try simp only [Act.put, List.setIfInBounds_toArray, List.set_cons_zero, List.set_cons_succ])
          refine wpAnyH_take (i := 6) (oi := _) (v := undef) rfl (by kernel_rfl) (by kernel_rfl) (by kernel_rfl) (fun _ _ _ h => h) (Or.inr ⟨by kernel_rfl, rfl⟩) hHeld ?_
          change wpAnyH _ _ _ _ _ _ _ (Act.put _ (some 81) _) _
          (try simp only [Act.put, List.setIfInBounds_toArray, List.set_cons_zero, List.set_cons_succ])
          refine wpAnyH_take (i := 7) (oi := _) (v := undef) rfl (by kernel_rfl) (by kernel_rfl) (by kernel_rfl) (fun _ _ _ h => h) (Or.inr ⟨by kernel_rfl, rfl⟩) hHeld ?_
          change wpAnyH _ _ _ _ _ _ _ (Act.put _ (some 82) _) _
          (try simp only [Act.put, List.setIfInBounds_toArray, List.set_cons_zero, List.set_cons_succ])
          refine wpAnyH_take (i := 8) (oi := _) (v := undef) rfl (by kernel_rfl) (by kernel_rfl) (by kernel_rfl) (fun _ _ _ h => h) (Or.inr ⟨by kernel_rfl, rfl⟩) hHeld ?_
          change wpAnyH _ _ _ _ _ _ _ (Act.put _ (some 83) _) _
          (try simp only [Act.put, List.setIfInBounds_toArray, List.set_cons_zero, List.set_cons_succ])
          refine wpAnyH_take (i := 9) (oi := _) (v := undef) rfl (by kernel_rfl) (by kernel_rfl) (by kernel_rfl) (fun _ _ _ h => h) (Or.inr ⟨by kernel_rfl, rfl⟩) hHeld ?_
          change wpAnyH _ _ _ _ _ _ _ (Act.put _ (some 84) _) _
          (try simp only [Act.put, List.setIfInBounds_toArray, List.set_cons_zero, List.set_cons_succ])
          refine wpAnyH_take (i := 10) (oi := _) (v := undef) rfl (by kernel_rfl) (by kernel_rfl) (by kernel_rfl) (fun _ _ _ h => h) (Or.inr ⟨by kernel_rfl, rfl⟩) hHeld ?_
          change wpAnyH _ _ _ _ _ _ _ (Act.put _ (some 85) _) _
          (try simp only [Act.put, List.setIfInBounds_toArray, List.set_cons_zero, List.set_cons_succ])
          refine wpAnyH_take (i := 11) (oi := _) (v := undef) rfl (by kernel_rfl) (by kernel_rfl) (by kernel_rfl) (fun _ _ _ h => h) (Or.inr ⟨by kernel_rfl, rfl⟩) hHeld ?_
          change wpAnyH _ _ _ _ _ _ _ (Act.put _ (some 86) _) _
          (try simp only [Act.put, List.setIfInBounds_toArray, List.set_cons_zero, List.set_cons_succ])
          refine wpAnyH_take (i := 12) (oi := _) (v := undef) rfl (by kernel_rfl) (by kernel_rfl) (by kernel_rfl) (fun _ _ _ h => h) (Or.inr ⟨by kernel_rfl, rfl⟩) hHeld ?_
          change wpAnyH _ _ _ _ _ _ _ (Act.put _ (some 87) _) _
          (try simp only [Act.put, List.setIfInBounds_toArray, List.set_cons_zero, List.set_cons_succ])
          refine wpAnyH_take (i := 13) (oi := _) (v := undef) rfl (by kernel_rfl) (by kernel_rfl) (by kernel_rfl) (fun _ _ _ h => h) (Or.inr ⟨by kernel_rfl, rfl⟩) hHeld ?_
          change wpAnyH _ _ _ _ _ _ _ (Act.put _ (some 88) _) _
          (try simp only [Act.put, List.setIfInBounds_toArray, List.set_cons_zero, List.set_cons_succ])
          refine wpAnyH_take (i := 14) (oi := _) (v := undef) rfl (by kernel_rfl) (by kernel_rfl) (by kernel_rfl) (fun _ _ _ h => h) (Or.inr ⟨by kernel_rfl, rfl⟩) hHeld ?_
          change wpAnyH _ _ _ _ _ _ _ (Act.put _ (some 89) _) _
          (try simp only [Act.put, List.setIfInBounds_toArray, List.set_cons_zero, List.set_cons_succ])
          refine wpAnyH_take (i := 15) (oi := _) (v := undef) rfl (by kernel_rfl) (by kernel_rfl) (by kernel_rfl) (fun _ _ _ h => h) (Or.inr ⟨by kernel_rfl, rfl⟩) hHeld ?_
          change wpAnyH _ _ _ _ _ _ _ (Act.put _ (some 90) _) _
          (try simp only [Act.put, List.setIfInBounds_toArray, List.set_cons_zero, List.set_cons_succ])
          refine wpAnyH_take (i := 16) (oi := _) (v := undef) rfl (by kernel_rfl) (by kernel_rfl) (by kernel_rfl) (fun _ _ _ h => h) (Or.inr ⟨by kernel_rfl, rfl⟩) hHeld ?_
          change wpAnyH _ _ _ _ _ _ _ (Act.put _ (some 91) _) _
          (try simp only [Act.put, List.setIfInBounds_toArray, List.set_cons_zero, List.set_cons_succ])
          refine wpAnyH_take (i := 17) (oi := _) (v := undef) rfl (by kernel_rfl) (by kernel_rfl) (by kernel_rfl) (fun _ _ _ h => h) (Or.inr ⟨by kernel_rfl, rfl⟩) hHeld ?_
          change wpAnyH _ _ _ _ _ _ _ (Act.put _ (some 92) _) _
          (try simp only [Act.put, List.setIfInBounds_toArray, List.set_cons_zero, List.set_cons_succ])
          refine wpAnyH_take (i := 18) (oi := _) (v := undef) rfl (by kernel_rfl) (by kernel_rfl) (by kernel_rfl) (fun _ _ _ h => h) (Or.inr ⟨by kernel_rfl, rfl⟩) hHeld ?_
          change wpAnyH _ _ _ _ _ _ _ (Act.put _ (some 93) _) _
          (try simp only [Act.put, List.setIfInBounds_toArray, List.set_cons_zero, List.set_cons_succ])
          refine wpAnyH_take (i := 19) (oi := _) (v := undef) rfl (by kernel_rfl) (by kernel_rfl) (by kernel_rfl) (fun _ _ _ h => h) (Or.inr ⟨by kernel_rfl, rfl⟩) hHeld ?_
          change wpAnyH _ _ _ _ _ _ _ (Act.put _ (some 94) _) _
          (try simp only [Act.put, List.setIfInBounds_toArray, List.set_cons_zero, List.set_cons_succ])
          refine wpAnyH_take (i := 20) (oi := _) (v := undef) rfl (by kernel_rfl) (by kernel_rfl) (by kernel_rfl) (fun _ _ _ h => h) (Or.inr ⟨by kernel_rfl, rfl⟩) hHeld ?_
          change wpAnyH _ _ _ _ _ _ _ (Act.put _ (some 95) _) _
          (try simp only [Act.put, List.setIfInBounds_toArray, List.set_cons_zero, List.set_cons_succ])
          refine wpAnyH_take (i := 21) (oi := _) (v := undef) rfl (by kernel_rfl) (by kernel_rfl) (by kernel_rfl) (fun _ _ _ h => h) (Or.inr ⟨by kernel_rfl, rfl⟩) hHeld ?_
          change wpAnyH _ _ _ _ _ _ _ (Act.put _ (some 96) _) _
          (try simp only [Act.put, List.setIfInBounds_toArray, List.set_cons_zero, List.set_cons_succ])
          refine wpAnyH_take (i := 22) (oi := _) (v := undef) rfl (by kernel_rfl) (by kernel_rfl) (by kernel_rfl) (fun _ _ _ h => h) (Or.inr ⟨by kernel_rfl, rfl⟩) hHeld ?_
          change wpAnyH _ _ _ _ _ _ _ (Act.put _ (some 97) _) _
          (try simp only [Act.put, List.setIfInBounds_toArray, List.set_cons_zero, List.set_cons_succ])
          refine wpAnyH_take (i := 23) (oi := _) (v := undef) rfl (by kernel_rfl) (by kernel_rfl) (by kernel_rfl) (fun _ _ _ h => h) (Or.inr ⟨by kernel_rfl, rfl⟩) hHeld ?_
          change wpAnyH _ _ _ _ _ _ _ (Act.put _ (some 98) _) _
          (try simp only [Act.put, List.setIfInBounds_toArray, List.set_cons_zero, List.set_cons_succ])
          refine wpAnyH_take (i := 24) (oi := _) (v := undef) rfl (by kernel_rfl) (by kernel_rfl) (by kernel_rfl) (fun _ _ _ h => h) (Or.inr ⟨by kernel_rfl, rfl⟩) hHeld ?_
          change wpAnyH _ _ _ _ _ _ _ (Act.put _ (some 99) _) _
          (try simp only [Act.put, List.setIfInBounds_toArray, List.set_cons_zero, List.set_cons_succ])
          refine wpAnyH_take (i := 25) (oi := _) (v := undef) rfl (by kernel_rfl) (by kernel_rfl) (by kernel_rfl) (fun _ _ _ h => h) (Or.inr ⟨by kernel_rfl, rfl⟩) hHeld ?_
          change wpAnyH _ _ _ _ _ _ _ (Act.put _ (some 100) _) _
          (try simp only [Act.put, List.setIfInBounds_toArray, List.set_cons_zero, List.set_cons_succ])
          refine wpAnyH_take (i := 26) (oi := _) (v := undef) rfl (by kernel_rfl) (by kernel_rfl) (by kernel_rfl) (fun _ _ _ h => h) (Or.inr ⟨by kernel_rfl, rfl⟩) hHeld ?_
          change wpAnyH _ _ _ _ _ _ _ (Act.put _ (some 101) _) _
          (try simp only [Act.put, List.setIfInBounds_toArray, List.set_cons_zero, List.set_cons_succ])
          refine wpAnyH_take (i := 27) (oi := _) (v := undef) rfl (by kernel_rfl) (by kernel_rfl) (by kernel_rfl) (fun _ _ _ h => h) (Or.inr ⟨by kernel_rfl, rfl⟩) hHeld ?_
          change wpAnyH _ _ _ _ _ _ _ (Act.put _ (some 102) _) _
          (try simp only [Act.put, List.setIfInBounds_toArray, List.set_cons_zero, List.set_cons_succ])
          refine wpAnyH_take (i := 28) (oi := _) (v := undef) rfl (by kernel_rfl) (by kernel_rfl) (by kernel_rfl) (fun _ _ _ h => h) (Or.inr ⟨by kernel_rfl, rfl⟩) hHeld ?_
          change wpAnyH _ _ _ _ _ _ _ (Act.put _ (some 103) _) _
          (try simp only [Act.put, List.setIfInBounds_toArray, List.set_cons_zero, List.set_cons_succ])
          refine wpAnyH_take (i := 29) (oi := _) (v := undef) rfl (by kernel_rfl) (by kernel_rfl) (by kernel_rfl) (fun _ _ _ h => h) (Or.inr ⟨by kernel_rfl, rfl⟩) hHeld ?_
          change wpAnyH _ _ _ _ _ _ _ (Act.put _ (some 104) _) _
          (try simp only [Act.put, List.setIfInBounds_toArray, List.set_cons_zero, List.set_cons_succ])
          refine wpAnyH_take (i := 30) (oi := _) (v := undef) rfl (by kernel_rfl) (by kernel_rfl) (by kernel_rfl) (fun _ _ _ h => h) (Or.inr ⟨by kernel_rfl, rfl⟩) hHeld ?_
          change wpAnyH _ _ _ _ _ _ _ (Act.put _ (some 105) _) _
          (try simp only [Act.put, List.setIfInBounds_toArray, List.set_cons_zero, List.set_cons_succ])
          refine wpAnyH_take (i := 31) (oi := _) (v := undef) rfl (by kernel_rfl) (by kernel_rfl) (by kernel_rfl) (fun _ _ _ h => h) (Or.inr ⟨by kernel_rfl, rfl⟩) hHeld ?_
          change wpAnyH _ _ _ _ _ _ _ (Act.put _ (some 106) _) _
          (try simp only [Act.put, List.setIfInBounds_toArray, List.set_cons_zero, List.set_cons_succ])
          refine wpAnyH_take (i := 32) (oi := _) (v := undef) rfl (by kernel_rfl) (by kernel_rfl) (by kernel_rfl) (fun _ _ _ h => h) (Or.inr ⟨by kernel_rfl, rfl⟩) hHeld ?_
          change wpAnyH _ _ _ _ _ _ _ (Act.put _ (some 107) _) _
          (try simp only [Act.put, List.setIfInBounds_toArray, List.set_cons_zero, List.set_cons_succ])
          refine wpAnyH_take (i := 33) (oi := _) (v := undef) rfl (by kernel_rfl) (by kernel_rfl) (by kernel_rfl) (fun _ _ _ h => h) (Or.inr ⟨by kernel_rfl, rfl⟩) hHeld ?_
          change wpAnyH _ _ _ _ _ _ _ (Act.put _ (some 108) _) _
          (try simp only [Act.put, List.setIfInBounds_toArray, List.set_cons_zero, List.set_cons_succ])
          refine wpAnyH_take (i := 34) (oi := _) (v := .bool false) rfl (by kernel_rfl) (by kernel_rfl) (by kernel_rfl) (fun _ _ _ h => h) (Or.inl ⟨by kernel_rfl, fun W hSw => ?_⟩) hHeld ?_
          · dsimp only at hSw
            go_simp
            all_goals omega
          change wpAnyH _ _ _ _ _ _ _ (Act.put _ (some 109) _) _
          (try simp only [Act.put, List.setIfInBounds_toArray, List.set_cons_zero, List.set_cons_succ])
          refine wpAnyH_done (by kernel_rfl) ?_ _
          have BX := Lib.hid hd
          clear hd HCL
          go_wp2_with fail
          go_roundw
          case rel => exact ⟨n + 1, by omega, by go_num, BX.out⟩
          case measure => simp [intOf]; omega
        | true =>
          obtain ⟨e1, e2⟩ := HSL1.out rfl z.1.1 (by rw [HIB.out.fG_is hzm]; rfl)
          have hhas := HIB.out.has_le hzm
          have HS1 := Lib.hid (fun W hb => sumsBk_any (HBK7.out W hb) z.1.1)
          have HS2 := Lib.hid (fun W hb => sumsBk_any (HC7.out W hb) z.1.1)
          have HH1 := Lib.hid (fun W hb => hasBk_any (HBK7.out W hb) HIB.out z.1.1 hhas)
          have HH2 := Lib.hid (fun W hb => hasBk_any (HC7.out W hb) HIC.out z.1.1 (by rw [e2]; exact hhas))
          have hq := neqSums (sumsOf B z.1.1) (sumsOf B z.1.1)
          rw [decide_eq_true rfl, Bool.not_true] at hq
          rw [e1] at HS2
          rw [e2] at HH2
          clear HCW hz hzm e1 e2 hhas
          generalize z.1.1 = code at *
          generalize (encSums (sumsOf B code)).toArray = sv at *
          generalize hasOf B code = hv at *
          go_wp2_with fail
          go_region_held3 (fun W => W.cell? ⟨g, o + n * 2, none⟩ = some (.string ⟨code.toArray⟩))
            (first | exact HCL.out _ hd | exact HCL.out _ k1 | exact HCL.out _ k2 | exact HCL.out _ k3 | exact HCL.out _ k4 | go_keep)
            (first
              | (go_at_call 20; (with_reducible refine (HS1.out _ hd).mono ?_); rintro e v1 ⟨rfl, bb1⟩; have k1 := hd.trans (bb1.mono hd.size))
              | (go_at_call 20; (with_reducible refine (HS2.out _ k1).mono ?_); rintro e v2 ⟨rfl, bb2⟩; have k2 := k1.trans (bb2.mono k1.size))
              | (go_at_call 38; (with_reducible refine (HH1.out _ k2).mono ?_); rintro e v3 ⟨rfl, bb3⟩; have k3 := k2.trans (bb3.mono k2.size))
              | (go_at_call 38; (with_reducible refine (HH2.out _ k3).mono ?_); rintro e v4 ⟨rfl, bb4⟩; have k4 := k3.trans (bb4.mono k3.size)))
          all_goals
            have BX := Lib.hid k4
            clear k1 k2 k3 k4 bb1 bb2 bb3 bb4 hd HCL
            go_wp2_with fail
            go_roundw
            case rel => exact ⟨n + 1, by omega, by go_num, BX.out⟩
            case measure => simp [intOf]; omega
      · obtain rfl : n = NG := by omega
        have HSM : Hid (Calls Tryz.prog 36 #[.pointer (some ⟨p, 0, none⟩), .pointer (some ⟨p2, 0, none⟩)] wr fun e w' => e = .returned (.bool false) ∧ Below wr.heap.size wr w') := by
          obtain ⟨r, hr, hcall⟩ := sameBk_any E (HBK7.out _ HBR.out) (HC7.out _ HBR.out) HIB.out HIC.out (HG.out _ (B7.out.trans (HBR.out.mono B7.out.size))).text
          cases r with
          | false => exact hcall
          | true => exact absurd (hr.1 rfl) HCH1.out
        go_wp2_with fail
        refine HSM.out.mono ?_
        rintro e w9 ⟨rfl, b9⟩
        have B9 := Lib.hid (HBR.out.trans (b9.mono HBR.out.size))
        have BW9 := Lib.hid (B7.out.trans (B9.out.mono B7.out.size))
        obtain ⟨e0, e1, e2, e3, e4, e5, e6, e7, e8, e9, e10, e11, e12, e13⟩ := cells14 (HR7W.out _ B9.out)
        clear b9 HSM
        go_wp2_with fail
        refine (HD0.out _ BW9.out (HBK7.out _ B9.out)).mono ?_
        rintro e w10 ⟨rfl, ⟨F9, hb9, -⟩, bf9⟩
        have B10 := Lib.hid (BW9.out.trans (bf9.below BW9.out.size fun j hj => by have := HF.out j hj; omega))
        have HC10 := Lib.hid ((HC7.out _ B9.out).butF bf9 fun j hj hf => by have := HF6.out j hj; have := HLT.out j hf; omega)
        have HSM2 : Hid (Calls Tryz.prog 36 #[.pointer (some ⟨p, 0, none⟩), .pointer (some ⟨p2, 0, none⟩)] w10 fun e w' => e = .returned (.bool true) ∧ Below w10.heap.size w10 w') := by
          obtain ⟨r, hr, hcall⟩ := sameBk_any E hb9 HC10.out HIC.out HIC.out (HG.out _ B10.out).text
          have : r = true := hr.2 (BkEq.refl _)
          subst this
          exact hcall
        clear hb9 bf9 e0 e1 e2 e3 e4 e5 e6 e7 e8 e9 e10 e11 e12 e13
        go_wp2_with fail
        refine HSM2.out.mono ?_
        rintro e w11 ⟨rfl, b11⟩
        have B11 := Lib.hid (B10.out.trans (b11.mono B10.out.size))
        clear b11 HSM2
        go_wp2_with fail
        go_ret
        exact ⟨rfl, B11.out⟩

theorem bookOrder_walk (E : Nat → Addr) (A0 : Option Addr) (cap0 : Nat) (xs0 : List EntV) (x : EntV) (w : World) (hG : BkLawG E w) (hE : ErrG E w) (hX0 : RowAt encEnt 14 w A0 xs0) :
    Calls Tryz.prog 7 #[.slice A0 xs0.length cap0, .agg (encEnt x).toArray] w fun e w' => e = .returned (.bool true) ∧ Below w.heap.size w w' := by
  rcases longL_01 xs0 40 with h | h
  · rcases longN_01 x with h2 | h2
    · exact bookOrder_in E A0 cap0 xs0 x w hG hE hX0 h h2
    · exact bookOrder_out E A0 cap0 xs0 x w hG hX0 (.inr ⟨h, h2⟩)
  · exact bookOrder_out E A0 cap0 xs0 x w hG hX0 (.inl h)
end Go.Proofs.YtphgakobfegpcaaGreatDoor
