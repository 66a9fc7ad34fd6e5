/- A stock read: stock.Read. Words joined and split again, plainly; names and numerals hold neither blanks nor dashes. A stock that is read is written as it was read. -/
import Derived.Test.YtmhkcmoepopnoaaGreatDoorM07
import Derived.Test.YtmhkcmoepopnoaaGreatDoorM13
import Derived.Test.YtmhkcmoepopnoaaGreatDoorM19
import Derived.Test.YtmhkcmoepopnoaaGreatDoorM21
import Derived.Test.YtmhkcmoepopnoaaGreatDoorM22
import Derived.Test.YtmhkcmoepopnoaaGreatDoorM26
import Derived.Test.YtmhkcmoepopnoaaGreatDoorM28
namespace Go.Proofs.YtmhkcmoepopnoaaGreatDoor
open Go.RowKit Go.Sort Go.Proofs

structure RdG (E : Nat → Addr) (w : World) : Prop where
  read : ReadG E w
  stk : StkG E w
  order : ErrAt 7 (E 10) w
theorem RdG.below {E : Nat → Addr} {w w' : World} (h : RdG E w) (hb : Below w.heap.size w w') : RdG E w' := ⟨h.read.below hb, h.stk.below hb, h.order.below hb⟩

/-- What reading a stock answers, of what its pieces say. -/
def RdEnds (E : Nat → Addr) (R : (Nat × Nat) ⊕ List LineV) (w : World) (e : Ending) (w' : World) : Prop :=
  Below w.heap.size w w' ∧ match R with
  | .inl (c, i) => ∃ f, e = .returned (.tuple #[.pointer none, .iface 121 (.pointer (some ⟨f, 0, none⟩))]) ∧ w'.heap[f]? = some (.cells #[.int .i64 (i : Nat), errOf E c] 123 (0, 0))
  | .inr d => ∃ p b, e = .returned (.tuple #[.pointer (some ⟨p, 0, none⟩), .nilIface]) ∧ StkAt w' p b (toM d) ∧ w.heap.size ≤ p ∧ w.heap.size ≤ b
theorem RdEnds.fault {E : Nat → Addr} {R : (Nat × Nat) ⊕ List LineV} {w w' : World} {c i f : Nat} (hR : R = .inl (c, i)) (hb : Below w.heap.size w w') (hc : c ≠ 0) (hf : w'.heap[f]? = some (.cells #[.int .i64 (i : Nat), .iface 245 (.pointer (some (E c)))] 123 (0, 0))) :
    RdEnds E R w (.returned (.tuple #[.pointer none, .iface 121 (.pointer (some ⟨f, 0, none⟩))])) w' := by
  subst hR
  exact ⟨hb, f, rfl, by rw [errOf_pos _ _ hc]; exact hf⟩

theorem drewN_heap (w : World) (n : Nat) : (w.drewN n).heap = w.heap := rfl
set_option maxHeartbeats 4000000 in
set_option maxRecDepth 100000 in
theorem readStock_any (E : Nat → Addr) (s : List UInt8) (hs : s.length ≤ 20000) (w : World) (hG : RdG E w) :
    Calls Tryz.prog 31 #[.string ⟨s.toArray⟩] w (RdEnds E (rdGo (splitL 10 s) 0 []) w) := by
  have hbs : (⟨s.toArray⟩ : ByteArray).size = s.length := by simp [ByteArray.size]
  have HG := Lib.hid (fun W (h : Below w.heap.size w W) => hG.below h)
  have HNW := Lib.hid (newStock_any w)
  obtain ⟨R, hR⟩ : ∃ R, R = rdGo (splitL 10 s) 0 [] := ⟨_, rfl⟩
  rw [← hR]
  have HR := Lib.hid hR.symm
  clear hG hR
  go_enter Tryz.func31, Tryz.ntmps31
  go_wp2_with fail
  refine HNW.out.mono ?_
  rintro e w1 ⟨rfl, hS1, b1⟩
  have bx := below_one w1 (.cells #[.string ⟨#[]⟩, .int .i64 0, .int .i64 0, .string ⟨#[]⟩, .int .i64 0] 84)
  have HS2 := Lib.hid (hS1.below bx)
  have HL2 := Lib.hid (heap_alloc_new w1 (.cells #[.string ⟨#[]⟩, .int .i64 0, .int .i64 0, .string ⟨#[]⟩, .int .i64 0] 84))
  have HB2 := Lib.hid (b1.trans (bx.mono b1.size))
  have hlt := hS1.lt
  have hlw := b1.size
  clear hS1 b1 bx HNW
  go_wp2_with fail
  generalize w1.alloc (.cells #[.string ⟨#[]⟩, .int .i64 0, .int .i64 0, .string ⟨#[]⟩, .int .i64 0] 84) = w2 at *
  generalize w1.heap.size = lb at *
  go_loopw [0, 6] (fun t i wr => ∃ (k : Nat) (s' : List UInt8) (d : List LineV) (z : LineV), i = .int .i64 k ∧ t = .string ⟨s'.toArray⟩ ∧ s'.length + k ≤ 20000 ∧ Hid (rdGo (splitL 10 s') k d = R) ∧ Hid (d.length = k ∧ RdI d ∧ (d = [] ∨ d.getLast? = some z)) ∧ StkAt wr (w.heap.size + 1) w.heap.size (toM d) ∧ wr.heap[lb]? = some (.cells (encLine z).toArray 84 (0, 0)) ∧ Below w.heap.size w wr) (fun t _ _ => match t with | .string b => b.size | _ => 0)
  case atStart => exact ⟨0, s, [], zeroLine, rfl, rfl, hs, HR.out, ⟨rfl, RdI.nil, .inl rfl⟩, HS2.out, HL2.out, HB2.out⟩
  case round =>
    obtain ⟨k, s', d, z, rfl, rfl, hsl, HRR, HD, hS, hL, hb⟩ := hrel
    have HS := Lib.hid hS
    have HL := Lib.hid hL
    have HB := Lib.hid hb
    have hss : (⟨s'.toArray⟩ : ByteArray).size = s'.length := by simp [ByteArray.size]
    clear hS hL hb HS2 HL2 HB2
    by_cases h0 : s' = []
    · subst h0
      go_wp2_with fail
      go_ret2
      have h1 := HRR.out
      rw [show splitL 10 [] = [[]] from rfl, rdGo, if_pos rfl] at h1
      rw [← h1]
      exact ⟨HB.out, _, _, rfl, HS.out, by omega, by omega⟩
    · have HC := Lib.hid (fun m W h => Tryz.strings_Cut ⟨s'.toArray⟩ ⟨#[10]⟩ m W (by rw [hss]; omega) h)
      have he : s'.isEmpty = false := by simpa using h0
      obtain ⟨mx, hmx⟩ := (HG.out _ HB.out).read.maxl
      have HC := Lib.hid (HC.out mx wr hmx)
      rcases cut_cases s' 10 with ⟨hno, hc⟩ | ⟨a, c, hac, hno, hc⟩
      · have e1 : Lib.cut (⟨s'.toArray⟩ : ByteArray).data.toList (⟨#[10]⟩ : ByteArray).data.toList = (s', [], false) := hc
        rw [e1] at HC
        have HRB := Lib.hid (show R = .inl (1, k) by rw [← HRR.out, splitL_none hno, rdGo, if_neg h0])
        have HLR := Lib.hid (fun W h => lineRead_any E ⟨s'.toArray⟩ (by rw [hss]; omega) W h)
        generalize lineWords (splitL 32 (bts ⟨s'.toArray⟩)) = r at HLR
        clear hc e1 hno hmx h0
        go_wp2_with fail
        refine HC.out.mono ?_
        rintro e w3 ⟨rfl, j, rfl⟩
        have B3 := Lib.hid (below_drewN HB.out j)
        go_wp2_with fail
        refine (HLR.out _ (HG.out _ B3.out).read).mono ?_
        rintro e w4 ⟨rfl, b4⟩
        obtain ⟨⟨⟨q1, q2, q3⟩, q4, q5⟩, rc⟩ := r
        simp only [encLine]
        have bx := below_one w4 (.cells #[.string ⟨q1.toArray⟩, .int .i64 q2, .int .i64 q3, .string ⟨q4.toArray⟩, .int .i64 q5] 84)
        have B5 := Lib.hid (B3.out.trans ((b4.trans (bx.mono b4.size)).mono B3.out.size))
        have hg := (HG.out _ B5.out).read.text
        unfold ErrAt at hg
        clear b4 bx HC HLR he
        go_wp2_with fail
        go_ret2
        exact RdEnds.fault HRB.out (B5.out.alloc B5.out.size _) (by omega) (heap_new2 _ _ _)
      · have e1 : Lib.cut (⟨s'.toArray⟩ : ByteArray).data.toList (⟨#[10]⟩ : ByteArray).data.toList = (a, c, true) := hc
        rw [e1] at HC
        have hlen : s'.length = a.length + 1 + c.length := by rw [hac]; simp; omega
        have HLR := Lib.hid (fun W h => lineRead_any E ⟨a.toArray⟩ (by show a.toArray.size ≤ _; simp; omega) W h)
        rw [show bts ⟨a.toArray⟩ = a from rfl] at HLR
        have HSP := Lib.hid (show splitL 10 s' = a :: splitL 10 c by rw [hac, splitL_at a c hno])
        have HNE := Lib.hid (splitL_ne 10 c)
        have HBAD := Lib.hid (fun h : rdE d a ≠ 0 => show R = .inl (rdE d a, k) by rw [← HRR.out, HSP.out, rdGo_bad HNE.out h])
        have HOK := Lib.hid (fun h : rdE d a = 0 => show rdGo (splitL 10 c) (k + 1) (d ++ [(lineWords (splitL 32 a)).1]) = R by rw [← HRR.out, HSP.out, rdGo_ok HNE.out h])
        have HRE := Lib.hid (show rdE d a = if (lineWords (splitL 32 a)).2 ≠ 0 then (lineWords (splitL 32 a)).2
          else if (match d.getLast? with | some z => !ltOf cfLine z (lineWords (splitL 32 a)).1 | none => false) = true then 10
          else putE (toM d) (lineWords (splitL 32 a)).1.1 (lineWords (splitL 32 a)).1.2.1 (lineWords (splitL 32 a)).1.2.2 from rfl)
        clear hc e1 hno hmx h0 hac
        go_wp2_with fail
        refine HC.out.mono ?_
        rintro e w3 ⟨rfl, j, rfl⟩
        have B3 := Lib.hid (below_drewN HB.out j)
        go_wp2_with fail
        refine (HLR.out _ (HG.out _ B3.out).read).mono ?_
        rintro e w4 ⟨rfl, b4⟩
        have HWL := Lib.hid (fun h => lineWords_ok (ws := splitL 32 a) h)
        generalize lineWords (splitL 32 a) = r at HRE HOK HWL ⊢
        obtain ⟨⟨⟨q1, q2, q3⟩, q4, q5⟩, rc⟩ := r
        simp only [encLine]
        have bx := below_one w4 (.cells #[.string ⟨q1.toArray⟩, .int .i64 q2, .int .i64 q3, .string ⟨q4.toArray⟩, .int .i64 q5] 84)
        have B5 := Lib.hid (B3.out.trans ((b4.trans (bx.mono b4.size)).mono B3.out.size))
        have hb35 := b4.trans (bx.mono b4.size)
        have HS5 := Lib.hid ((HS.out.below (below_drewN (Below.refl _ _) j)).below hb35)
        have HL5 := Lib.hid ((hb35.block lb (row_lt HL.out)).trans HL.out)
        have HX5 := Lib.hid (heap_alloc_new w4 (.cells #[.string ⟨q1.toArray⟩, .int .i64 q2, .int .i64 q3, .string ⟨q4.toArray⟩, .int .i64 q5] 84))
        have hlx : w.heap.size ≤ wr.heap.size := HB.out.size
        have hlx2 : wr.heap.size ≤ w4.heap.size := b4.size
        have hll := row_lt HL.out
        clear b4 bx hb35 HC HLR he HSP HNE
        by_cases hr : rc = 0
        · subst hr
          rw [errOf_zero]
          have hW := HWL.out rfl
          by_cases hk : d = []
          · have hki : ¬ (0 : Int) < (k : Int) := by have := HD.out.1; rw [hk] at this; simp at this; omega
            have HRE2 := Lib.hid (HRE.out.trans (by rw [if_neg (by simp), if_neg (by rw [hk]; simp)]))
            have HKN := Lib.hid hk
            obtain ⟨⟨x0, x1, x2, x3, x4⟩, -⟩ := row5f HX5.out
            clear hk
            go_wp2_with fail
            generalize w4.alloc (.cells #[.string ⟨q1.toArray⟩, .int .i64 q2, .int .i64 q3, .string ⟨q4.toArray⟩, .int .i64 q5] 84) = w5 at *
            generalize w4.heap.size = lx at *
            have HPT := Lib.hid (putStock_any E (w.heap.size + 1) w.heap.size (toM d) (q1, q2, q3) q4 q5 w5 (HS5.out) (HD.out.2.1.inv.few q4) (HG.out _ B5.out).stk)
            simp only [encPlace] at HPT
            have HX0 := Lib.hid (fun hp => HD.out.2.1.next (x := ((q1, q2, q3), q4, q5)) (fun y hy => by rw [HKN.out] at hy; cases hy) hp)
            refine HPT.out.mono ?_
            rintro e w7 ⟨rfl, hS7, t7⟩
            have B7 := Lib.hid (t7.below B5.out (Nat.le_refl _) B5.out.size)
            have HX7 := Lib.hid ((t7.block lx (row_lt HX5.out) (by omega)).trans HX5.out)
            have HL7 := Lib.hid ((t7.block lb (row_lt HL5.out) (by omega)).trans HL5.out)
            obtain ⟨⟨x0, x1, x2, x3, x4⟩, -⟩ := row5f HX7.out
            have HS7 := Lib.hid hS7
            clear hS7 t7 HPT
            generalize putE (toM d) (q1, q2, q3) q4 q5 = pe at *
            by_cases hp0 : pe = 0
            · subst hp0
              rw [errOf_zero]
              obtain ⟨hI8, hM8⟩ := HX0.out rfl
              have HI8 := Lib.hid hI8
              have HM8 := Lib.hid hM8
              have HK8 := Lib.hid (HOK.out (HRE2.out))
              clear hI8 hM8
              go_wp2_with (refine wpList_store_box rfl 84 _ _ rfl lb [.string ⟨q1.toArray⟩, .int .i64 q2, .int .i64 q3, .string ⟨q4.toArray⟩, .int .i64 q5] rfl rfl 84 (encLine z) HL7.out (by kernel_rfl) rfl (encLine_one ((q1, q2, q3), q4, q5)) ?_; intro wf hf tf)
              have hbf := B7.out.trans (tf.below (show w.heap.size ≤ lb by omega))
              have hSf := HS7.out.keep (tf.block _ (by omega)) (tf.block _ (by omega))
              go_roundw
              case rel =>
                refine ⟨k + 1, c, d ++ [((q1, q2, q3), q4, q5)], ((q1, q2, q3), q4, q5), by go_num, rfl, by omega, HK8.out, ⟨by rw [List.length_append, HD.out.1]; rfl, HI8.out, .inr (by simp)⟩, ?_, hf, hbf⟩
                rw [HM8.out]
                exact hSf
              case measure =>
                show (⟨c.toArray⟩ : ByteArray).size < (⟨s'.toArray⟩ : ByteArray).size
                simp [ByteArray.size]
                omega
            · rw [errOf_pos _ _ hp0]
              have HBD := Lib.hid (show R = .inl (pe, k) by have h : rdE d a = pe := HRE2.out; rw [← h]; exact HBAD.out (by rw [h]; exact hp0))
              go_wp2_with fail
              go_ret2
              exact RdEnds.fault HBD.out (B7.out.alloc B7.out.size _) hp0 (heap_alloc_new _ _)
          · have hzl := HD.out.2.2.resolve_left hk
            have hk0 : 0 < k := by
              have := HD.out.1
              cases d with
              | nil => exact absurd rfl hk
              | cons y r => simp at this; omega
            have hki : (0 : Int) < (k : Int) := by omega
            have hzm : z ∈ d := List.mem_of_getLast? hzl
            have hzp : InP z.1 := by
              have h1 := HD.out.2.1.inv.well.well ((z.1, z.2.1), z.2.2.toNat) (List.mem_map.2 ⟨z, hzm, rfl⟩)
              exact InP.of h1.1
            have HCM := Lib.hid (fun W => (cmpLine_any z ((q1, q2, q3), q4, q5) hzp (InP.of hW.1) W).mono fun e w' (h : e = .returned (.int .i64 (cfLine z ((q1, q2, q3), q4, q5))) ∧ ∃ q os', w' = grow (W.drewN q) os') => (show e = .returned (.int .i64 (cfLine z ((q1, q2, q3), q4, q5))) ∧ Below W.heap.size W w' from ⟨h.1, by obtain ⟨q, os, rfl⟩ := h.2; exact below_grown W q os⟩))
            have HLT := Lib.hid (show ltOf cfLine z ((q1, q2, q3), q4, q5) = decide (cfLine z ((q1, q2, q3), q4, q5) < 0) from rfl)
            have HZL := Lib.hid hzl
            have HRE1 : Hid (rdE d a = if ltOf cfLine z ((q1, q2, q3), q4, q5) = false then 10 else putE (toM d) (q1, q2, q3) q4 q5) := by
              refine HRE.out.trans ?_
              rw [if_neg (by simp), HZL.out]
              show (if (!ltOf cfLine z ((q1, q2, q3), q4, q5)) = true then 10 else putE (toM d) (q1, q2, q3) q4 q5) = _
              cases ltOf cfLine z ((q1, q2, q3), q4, q5) <;> rfl
            generalize cfLine z ((q1, q2, q3), q4, q5) = cz at HCM HLT
            clear hk hzl hzm hzp HRE
            obtain ⟨⟨z1, z2, z3⟩, z4, z5⟩ := z
            simp only [encLine] at HCM HL5
            obtain ⟨⟨y0, y1, y2, y3, y4⟩, -⟩ := row5f HL5.out
            obtain ⟨⟨x0, x1, x2, x3, x4⟩, -⟩ := row5f HX5.out
            go_wp2_with fail
            generalize w4.alloc (.cells #[.string ⟨q1.toArray⟩, .int .i64 q2, .int .i64 q3, .string ⟨q4.toArray⟩, .int .i64 q5] 84) = w5 at *
            generalize w4.heap.size = lx at *
            refine (HCM.out _).mono ?_
            rintro e w6 ⟨rfl, b6⟩
            have B6 := Lib.hid (B5.out.trans (b6.mono B5.out.size))
            have HS6 := Lib.hid (HS5.out.below b6)
            have HL6 := Lib.hid (at_b b6 HL5.out (row_lt HL5.out))
            have HX6 := Lib.hid (at_b b6 HX5.out (row_lt HX5.out))
            clear b6 B5 HS5 HL5 HX5 y0 y1 y2 y3 y4 x0 x1 x2 x3 x4 HCM
            obtain ⟨⟨x0, x1, x2, x3, x4⟩, -⟩ := row5f HX6.out
            by_cases hcz : 0 ≤ cz
            · have hlf : ltOf cfLine ((z1, z2, z3), z4, z5) ((q1, q2, q3), q4, q5) = false := by rw [HLT.out]; simpa using hcz
              have HBD := Lib.hid (show R = .inl (10, k) by have h : rdE d a = 10 := HRE1.out.trans (if_pos hlf); rw [← h]; exact HBAD.out (by rw [h]; decide))
              have hg := (HG.out _ B6.out).order
              unfold ErrAt at hg
              clear hlf
              go_wp2_with fail
              go_ret2
              exact RdEnds.fault HBD.out (B6.out.alloc B6.out.size _) (by decide) (heap_alloc_new _ _)
            · have hlf : ltOf cfLine ((z1, z2, z3), z4, z5) ((q1, q2, q3), q4, q5) = true := by rw [HLT.out]; simpa using hcz
              have HRE2 := Lib.hid (HRE1.out.trans (if_neg (by rw [hlf]; simp)))
              have HLF := Lib.hid hlf
              clear hlf
              go_wp2_with fail
              have HPT := Lib.hid (putStock_any E (w.heap.size + 1) w.heap.size (toM d) (q1, q2, q3) q4 q5 w6 (HS6.out) (HD.out.2.1.inv.few q4) (HG.out _ B6.out).stk)
              simp only [encPlace] at HPT
              have HX0 := Lib.hid (fun hp => HD.out.2.1.next (x := ((q1, q2, q3), q4, q5)) (fun y hy => by have h := HZL.out; rw [hy] at h; injection h with h; rw [h]; exact HLF.out) hp)
              refine HPT.out.mono ?_
              rintro e w7 ⟨rfl, hS7, t7⟩
              have B7 := Lib.hid (t7.below B6.out (Nat.le_refl _) B6.out.size)
              have HX7 := Lib.hid ((t7.block lx (row_lt HX6.out) (by omega)).trans HX6.out)
              have HL7 := Lib.hid ((t7.block lb (row_lt HL6.out) (by omega)).trans HL6.out)
              obtain ⟨⟨x0, x1, x2, x3, x4⟩, -⟩ := row5f HX7.out
              have HS7 := Lib.hid hS7
              clear hS7 t7 HPT
              generalize putE (toM d) (q1, q2, q3) q4 q5 = pe at *
              by_cases hp0 : pe = 0
              · subst hp0
                rw [errOf_zero]
                obtain ⟨hI8, hM8⟩ := HX0.out rfl
                have HI8 := Lib.hid hI8
                have HM8 := Lib.hid hM8
                have HK8 := Lib.hid (HOK.out (HRE2.out))
                clear hI8 hM8
                go_wp2_with (refine wpList_store_box rfl 84 _ _ rfl lb [.string ⟨q1.toArray⟩, .int .i64 q2, .int .i64 q3, .string ⟨q4.toArray⟩, .int .i64 q5] rfl rfl 84 (encLine ((z1, z2, z3), z4, z5)) HL7.out (by kernel_rfl) rfl (encLine_one ((q1, q2, q3), q4, q5)) ?_; intro wf hf tf)
                have hbf := B7.out.trans (tf.below (show w.heap.size ≤ lb by omega))
                have hSf := HS7.out.keep (tf.block _ (by omega)) (tf.block _ (by omega))
                go_roundw
                case rel =>
                  refine ⟨k + 1, c, d ++ [((q1, q2, q3), q4, q5)], ((q1, q2, q3), q4, q5), by go_num, rfl, by omega, HK8.out, ⟨by rw [List.length_append, HD.out.1]; rfl, HI8.out, .inr (by simp)⟩, ?_, hf, hbf⟩
                  rw [HM8.out]
                  exact hSf
                case measure =>
                  show (⟨c.toArray⟩ : ByteArray).size < (⟨s'.toArray⟩ : ByteArray).size
                  simp [ByteArray.size]
                  omega
              · rw [errOf_pos _ _ hp0]
                have HBD := Lib.hid (show R = .inl (pe, k) by have h : rdE d a = pe := HRE2.out; rw [← h]; exact HBAD.out (by rw [h]; exact hp0))
                go_wp2_with fail
                go_ret2
                exact RdEnds.fault HBD.out (B7.out.alloc B7.out.size _) hp0 (heap_alloc_new _ _)
        · rw [errOf_pos _ _ hr]
          have HBD := Lib.hid (show R = .inl (rc, k) by have h : rdE d a = rc := HRE.out.trans (if_pos hr); rw [← h]; exact HBAD.out (by rw [h]; exact hr))
          go_wp2_with fail
          go_ret2
          exact RdEnds.fault HBD.out (B5.out.alloc B5.out.size _) hr (heap_new2 _ _ _)
end Go.Proofs.YtmhkcmoepopnoaaGreatDoor
namespace Go.Proofs.YtmhkcmoepopnoaaGreatDoor
open Go.RowKit

/-- Words, a byte between them. -/
def joinL (c : UInt8) : List (List UInt8) → List UInt8
  | [] => []
  | [w] => w
  | w :: v :: r => w ++ c :: joinL c (v :: r)
theorem joinL_cons (c : UInt8) (w v : List UInt8) (r : List (List UInt8)) : joinL c (w :: v :: r) = w ++ c :: joinL c (v :: r) := rfl
theorem splitL_join (c : UInt8) (ws : List (List UInt8)) (h0 : ws ≠ []) (h : ∀ w ∈ ws, c ∉ w) : splitL c (joinL c ws) = ws := by
  induction ws with
  | nil => exact absurd rfl h0
  | cons w r ih =>
    cases r with
    | nil => exact splitL_none (h w (by simp))
    | cons v q => rw [joinL_cons, splitL_at _ _ (h w (by simp)), ih (by simp) fun x hx => h x (by simp [hx])]

theorem alnum_not {l : List UInt8} (h : l.all alnum = true) (c : UInt8) (hc : alnum c = false) : c ∉ l := fun hm => by
  have := List.all_eq_true.1 h c hm
  rw [hc] at this; cases this
theorem name_not {l : List UInt8} (h : nameB l = true) (c : UInt8) (hc : alnum c = false) : c ∉ l := by
  unfold nameB at h
  rw [Bool.and_eq_true] at h
  exact alnum_not h.2 c hc
theorem dec_not (n : Nat) (c : UInt8) (hc : c.toNat < 48 ∨ 57 < c.toNat) : c ∉ Lib.decDigits n := fun hm => by
  have := dec_digit n c hm
  omega
theorem itoa_not {n : Int} (h : 0 ≤ n) (c : UInt8) (hc : c.toNat < 48 ∨ 57 < c.toNat) : c ∉ Lib.itoa n := by
  rw [itoa_nat n h]; exact dec_not _ c hc
theorem numQ_dec (n d : Nat) (h : n ≤ 9223372036854775807) (hd : (Lib.decDigits n).length ≤ d) : numQ (Lib.decDigits n) d = some n :=
  (numQ_iff _ _ _).2 ⟨rfl, hd, h⟩
theorem numQ_itoa {n : Int} (h0 : 0 ≤ n) (d : Nat) (hd : 1 ≤ d) (h : n < 10 ^ d) (hb : n ≤ 9223372036854775807) : numQ (Lib.itoa n) d = some n.toNat := by
  rw [itoa_nat n h0]
  refine numQ_dec _ _ (by omega) (dec_len_le _ _ hd ?_)
  have : ((n.toNat : Nat) : Int) < ((10 ^ d : Nat) : Int) := by
    rw [Int.toNat_of_nonneg h0]; simpa using h
  exact Int.ofNat_lt.1 this
end Go.Proofs.YtmhkcmoepopnoaaGreatDoor
namespace Go.Proofs.YtmhkcmoepopnoaaGreatDoor
open Go.RowKit Go.Sort Go.Proofs

theorem joinL_split (c : UInt8) : ∀ l : List UInt8, joinL c (splitL c l) = l
  | [] => rfl
  | x :: r => by
    have ih := joinL_split c r
    unfold splitL
    by_cases h : x = c
    · rw [if_pos h]
      cases hs : splitL c r with
      | nil => exact absurd hs (splitL_ne c r)
      | cons p q => rw [joinL_cons, ← hs, ih, h]; rfl
    · rw [if_neg h]
      cases hs : splitL c r with
      | nil => exact absurd hs (splitL_ne c r)
      | cons p q =>
        rw [hs] at ih
        cases q with
        | nil =>
          have ih : p = r := ih
          rw [ih]
          rfl
        | cons v q =>
          rw [joinL_cons] at ih
          show joinL c ((x :: p) :: v :: q) = x :: r
          rw [joinL_cons, ← ih]
          rfl
theorem num_back {l : List UInt8} {d n : Nat} (h : numQ l d = some n) : Lib.itoa (n : Int) = l := by
  rw [itoa_nat _ (by omega), Int.toNat_natCast]
  exact ((numQ_iff l d n).1 h).1.symm
theorem placeWords_some {a c d : List UInt8} (h : (placeWords [a, c, d]).2 = 0) : ∃ u v : Nat, numQ c 4 = some u ∧ numQ d 4 = some v ∧ placeWords [a, c, d] = ((a, (u : Int), (v : Int)), 0) := by
  rw [show placeWords [a, c, d] = match numQ c 4, numQ d 4 with
    | some u, some v => if placeE (a, (u : Int), (v : Int)) = 0 then ((a, (u : Int), (v : Int)), 0) else (zeroPlace, placeE (a, (u : Int), (v : Int)))
    | _, _ => (zeroPlace, 1) from rfl] at h ⊢
  cases hc : numQ c 4 with
  | none => rw [hc] at h; cases h
  | some u =>
    cases hd : numQ d 4 with
    | none => rw [hc, hd] at h; cases h
    | some v =>
      rw [hc, hd] at h
      simp only at h
      split at h
      · rename_i h0
        exact ⟨u, v, rfl, rfl, by simp only; rw [if_pos h0]⟩
      · rename_i h0; exact absurd h h0
theorem placeText_back {t : List UInt8} (h : (placeWords (splitL 45 t)).2 = 0) : placeText (placeWords (splitL 45 t)).1 = t := by
  have hj := joinL_split 45 t
  have h0 := placeWords_ok h
  generalize splitL 45 t = ws at h hj h0
  by_cases hl : ws.length = 3
  · obtain ⟨a, c, d, rfl⟩ := three hl
    obtain ⟨u, v, hu, hv, hw⟩ := placeWords_some h
    rw [hw] at h0 ⊢
    unfold placeText
    rw [if_pos h0, num_back hu, num_back hv, ← hj]
    simp [joinL]
  · rw [placeWords_len hl] at h; cases h
theorem lineText_back {t : List UInt8} (h : (lineWords (splitL 32 t)).2 = 0) : lineText (lineWords (splitL 32 t)).1 = t := by
  have hj := joinL_split 32 t
  generalize splitL 32 t = ws at h hj
  by_cases hl : ws.length = 3
  · obtain ⟨a, b, c, rfl⟩ := three hl
    cases hq : numQ c 13 with
    | none => rw [lineWords_none hq] at h; cases h
    | some n =>
      rw [lineWords_some hq] at h ⊢
      by_cases h1 : (placeWords (splitL 45 a)).2 ≠ 0
      · rw [if_pos h1] at h; exact absurd h h1
      rw [if_neg h1] at h ⊢
      by_cases h2 : nameB b = false
      · rw [if_pos h2] at h; cases h
      rw [if_neg h2] at h ⊢
      by_cases h3 : wiB (n : Int) 1 1099511627776 = false
      · rw [if_pos h3] at h; cases h
      rw [if_neg h3]
      unfold lineText
      simp only
      rw [placeText_back (by omega), num_back hq, ← hj]
      simp [joinL]
  · rw [lineWords_len hl] at h; cases h
theorem linesText_snoc (d : List LineV) (x : LineV) : linesText (d ++ [x]) = linesText d ++ (lineText x ++ [10]) := by simp [linesText]
theorem rdGo_text : ∀ (ps : List (List UInt8)) (i : Nat) (d l : List LineV), ps ≠ [] → rdGo ps i d = .inr l → linesText l = linesText d ++ joinL 10 ps
  | [], _, _, _, h, _ => absurd rfl h
  | [t], i, d, l, _, e => by
    rw [rdGo] at e
    split at e
    · rename_i h; injection e with e; rw [← e, h]; simp [joinL]
    · cases e
  | t :: u :: r, i, d, l, _, e => by
    rw [rdGo] at e
    split at e
    · rename_i h0
      rw [rdGo_text (u :: r) _ _ l (by simp) e, linesText_snoc, lineText_back (rdE_zero h0).1, joinL_cons]
      simp
    · cases e
theorem read_text {s : List UInt8} {d : List LineV} (h : rdGo (splitL 10 s) 0 [] = .inr d) : textM (toM d) = s := by
  have hI := rdGo_inv _ _ _ _ RdI.nil h
  unfold textM
  rw [hI.lines, rdGo_text _ _ _ _ (splitL_ne 10 s) h, joinL_split]
  rfl
end Go.Proofs.YtmhkcmoepopnoaaGreatDoor
