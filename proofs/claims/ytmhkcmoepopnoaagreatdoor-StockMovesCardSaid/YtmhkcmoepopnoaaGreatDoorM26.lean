/- A stock read: stock.Read. Equal lines. -/
import Derived.Test.YtmhkcmoepopnoaaGreatDoorM05
import Derived.Test.YtmhkcmoepopnoaaGreatDoorM06
import Derived.Test.YtmhkcmoepopnoaaGreatDoorM16
import Derived.Test.YtmhkcmoepopnoaaGreatDoorM18
import Derived.Test.YtmhkcmoepopnoaaGreatDoorM22
import Derived.Test.YtmhkcmoepopnoaaGreatDoorM24
import Derived.Test.YtmhkcmoepopnoaaGreatDoorM25
namespace Go.Proofs.YtmhkcmoepopnoaaGreatDoor
open Go.RowKit Go.Sort Go.Proofs

structure RdG (E : Nat → Addr) (w : World) : Prop where
  read : ReadG E w
  stk : StkG E w
  order : ErrAt 7 (E 10) w
theorem RdG.below {E : Nat → Addr} {w w' : World} (h : RdG E w) (hb : Below w.heap.size w w') : RdG E w' := ⟨h.read.below hb, h.stk.below hb, h.order.below hb⟩

/-- What reading a stock answers, of what its pieces say. -/
def RdEnds (E : Nat → Addr) (R : (Nat × Nat) ⊕ List LineV) (w : World) (e : Ending) (w' : World) : Prop :=
  Below w.heap.size w w' ∧ match R with
  | .inl (c, i) => ∃ f, e = .returned (.tuple #[.pointer none, .iface 121 (.pointer (some ⟨f, 0, none⟩))]) ∧ w'.heap[f]? = some (.cells #[.int .i64 (i : Nat), errOf E c] 123 (0, 0))
  | .inr d => ∃ p b, e = .returned (.tuple #[.pointer (some ⟨p, 0, none⟩), .nilIface]) ∧ StkAt w' p b (toM d) ∧ w.heap.size ≤ p ∧ w.heap.size ≤ b
theorem RdEnds.fault {E : Nat → Addr} {R : (Nat × Nat) ⊕ List LineV} {w w' : World} {c i f : Nat} (hR : R = .inl (c, i)) (hb : Below w.heap.size w w') (hc : c ≠ 0) (hf : w'.heap[f]? = some (.cells #[.int .i64 (i : Nat), .iface 245 (.pointer (some (E c)))] 123 (0, 0))) :
    RdEnds E R w (.returned (.tuple #[.pointer none, .iface 121 (.pointer (some ⟨f, 0, none⟩))])) w' := by
  subst hR
  exact ⟨hb, f, rfl, by rw [errOf_pos _ _ hc]; exact hf⟩

theorem drewN_heap (w : World) (n : Nat) : (w.drewN n).heap = w.heap := rfl
set_option maxHeartbeats 4000000 in
set_option maxRecDepth 100000 in
theorem readStock_any (E : Nat → Addr) (s : List UInt8) (hs : s.length ≤ 20000) (w : World) (hG : RdG E w) :
    Calls Tryz.prog 31 #[.string ⟨s.toArray⟩] w (RdEnds E (rdGo (splitL 10 s) 0 []) w) := by
  have hbs : (⟨s.toArray⟩ : ByteArray).size = s.length := by simp [ByteArray.size]
  have HG := Lib.hid (fun W (h : Below w.heap.size w W) => hG.below h)
  have HNW := Lib.hid (newStock_any w)
  obtain ⟨R, hR⟩ : ∃ R, R = rdGo (splitL 10 s) 0 [] := ⟨_, rfl⟩
  rw [← hR]
  have HR := Lib.hid hR.symm
  clear hG hR
  go_enter Tryz.func31, Tryz.ntmps31
  go_wp2_with fail
  refine HNW.out.mono ?_
  rintro e w1 ⟨rfl, hS1, b1⟩
  have bx := below_one w1 (.cells #[.string ⟨#[]⟩, .int .i64 0, .int .i64 0, .string ⟨#[]⟩, .int .i64 0] 84)
  have HS2 := Lib.hid (hS1.below bx)
  have HL2 := Lib.hid (heap_alloc_new w1 (.cells #[.string ⟨#[]⟩, .int .i64 0, .int .i64 0, .string ⟨#[]⟩, .int .i64 0] 84))
  have HB2 := Lib.hid (b1.trans (bx.mono b1.size))
  have hlt := hS1.lt
  have hlw := b1.size
  clear hS1 b1 bx HNW
  go_wp2_with fail
  generalize w1.alloc (.cells #[.string ⟨#[]⟩, .int .i64 0, .int .i64 0, .string ⟨#[]⟩, .int .i64 0] 84) = w2 at *
  generalize w1.heap.size = lb at *
  go_loopw [0, 6] (fun t i wr => ∃ (k : Nat) (s' : List UInt8) (d : List LineV) (z : LineV), i = .int .i64 k ∧ t = .string ⟨s'.toArray⟩ ∧ s'.length + k ≤ 20000 ∧ Hid (rdGo (splitL 10 s') k d = R) ∧ Hid (d.length = k ∧ RdI d ∧ (d = [] ∨ d.getLast? = some z)) ∧ StkAt wr (w.heap.size + 1) w.heap.size (toM d) ∧ wr.heap[lb]? = some (.cells (encLine z).toArray 84 (0, 0)) ∧ Below w.heap.size w wr) (fun t _ _ => match t with | .string b => b.size | _ => 0)
  case atStart => exact ⟨0, s, [], zeroLine, rfl, rfl, hs, HR.out, ⟨rfl, RdI.nil, .inl rfl⟩, HS2.out, HL2.out, HB2.out⟩
  case round =>
    obtain ⟨k, s', d, z, rfl, rfl, hsl, HRR, HD, hS, hL, hb⟩ := hrel
    have HS := Lib.hid hS
    have HL := Lib.hid hL
    have HB := Lib.hid hb
    have hss : (⟨s'.toArray⟩ : ByteArray).size = s'.length := by simp [ByteArray.size]
    clear hS hL hb HS2 HL2 HB2
    by_cases h0 : s' = []
    · subst h0
      go_wp2_with fail
      go_ret2
      have h1 := HRR.out
      rw [show splitL 10 [] = [[]] from rfl, rdGo, if_pos rfl] at h1
      rw [← h1]
      exact ⟨HB.out, _, _, rfl, HS.out, by omega, by omega⟩
    · have HC := Lib.hid (fun m W h => Tryz.strings_Cut ⟨s'.toArray⟩ ⟨#[10]⟩ m W (by rw [hss]; omega) h)
      have he : s'.isEmpty = false := by simpa using h0
      obtain ⟨mx, hmx⟩ := (HG.out _ HB.out).read.maxl
      have HC := Lib.hid (HC.out mx wr hmx)
      rcases cut_cases s' 10 with ⟨hno, hc⟩ | ⟨a, c, hac, hno, hc⟩
      · have e1 : Lib.cut (⟨s'.toArray⟩ : ByteArray).data.toList (⟨#[10]⟩ : ByteArray).data.toList = (s', [], false) := hc
        rw [e1] at HC
        have HRB := Lib.hid (show R = .inl (1, k) by rw [← HRR.out, splitL_none hno, rdGo, if_neg h0])
        have HLR := Lib.hid (fun W h => lineRead_any E ⟨s'.toArray⟩ (by rw [hss]; omega) W h)
        generalize lineWords (splitL 32 (bts ⟨s'.toArray⟩)) = r at HLR
        clear hc e1 hno hmx h0
        go_wp2_with fail
        refine HC.out.mono ?_
        rintro e w3 ⟨rfl, j, rfl⟩
        have B3 := Lib.hid (below_drewN HB.out j)
        go_wp2_with fail
        refine (HLR.out _ (HG.out _ B3.out).read).mono ?_
        rintro e w4 ⟨rfl, b4⟩
        obtain ⟨⟨⟨q1, q2, q3⟩, q4, q5⟩, rc⟩ := r
        simp only [encLine]
        have bx := below_one w4 (.cells #[.string ⟨q1.toArray⟩, .int .i64 q2, .int .i64 q3, .string ⟨q4.toArray⟩, .int .i64 q5] 84)
        have B5 := Lib.hid (B3.out.trans ((b4.trans (bx.mono b4.size)).mono B3.out.size))
        have hg := (HG.out _ B5.out).read.text
        unfold ErrAt at hg
        clear b4 bx HC HLR he
        go_wp2_with fail
        go_ret2
        exact RdEnds.fault HRB.out (B5.out.alloc B5.out.size _) (by omega) (heap_new2 _ _ _)
      · have e1 : Lib.cut (⟨s'.toArray⟩ : ByteArray).data.toList (⟨#[10]⟩ : ByteArray).data.toList = (a, c, true) := hc
        rw [e1] at HC
        have hlen : s'.length = a.length + 1 + c.length := by rw [hac]; simp; omega
        have HLR := Lib.hid (fun W h => lineRead_any E ⟨a.toArray⟩ (by show a.toArray.size ≤ _; simp; omega) W h)
        rw [show bts ⟨a.toArray⟩ = a from rfl] at HLR
        have HSP := Lib.hid (show splitL 10 s' = a :: splitL 10 c by rw [hac, splitL_at a c hno])
        have HNE := Lib.hid (splitL_ne 10 c)
        have HBAD := Lib.hid (fun h : rdE d a ≠ 0 => show R = .inl (rdE d a, k) by rw [← HRR.out, HSP.out, rdGo_bad HNE.out h])
        have HOK := Lib.hid (fun h : rdE d a = 0 => show rdGo (splitL 10 c) (k + 1) (d ++ [(lineWords (splitL 32 a)).1]) = R by rw [← HRR.out, HSP.out, rdGo_ok HNE.out h])
        have HRE := Lib.hid (show rdE d a = if (lineWords (splitL 32 a)).2 ≠ 0 then (lineWords (splitL 32 a)).2
          else if (match d.getLast? with | some z => !ltOf cfLine z (lineWords (splitL 32 a)).1 | none => false) = true then 10
          else putE (toM d) (lineWords (splitL 32 a)).1.1 (lineWords (splitL 32 a)).1.2.1 (lineWords (splitL 32 a)).1.2.2 from rfl)
        clear hc e1 hno hmx h0 hac
        go_wp2_with fail
        refine HC.out.mono ?_
        rintro e w3 ⟨rfl, j, rfl⟩
        have B3 := Lib.hid (below_drewN HB.out j)
        go_wp2_with fail
        refine (HLR.out _ (HG.out _ B3.out).read).mono ?_
        rintro e w4 ⟨rfl, b4⟩
        have HWL := Lib.hid (fun h => lineWords_ok (ws := splitL 32 a) h)
        generalize lineWords (splitL 32 a) = r at HRE HOK HWL ⊢
        obtain ⟨⟨⟨q1, q2, q3⟩, q4, q5⟩, rc⟩ := r
        simp only [encLine]
        have bx := below_one w4 (.cells #[.string ⟨q1.toArray⟩, .int .i64 q2, .int .i64 q3, .string ⟨q4.toArray⟩, .int .i64 q5] 84)
        have B5 := Lib.hid (B3.out.trans ((b4.trans (bx.mono b4.size)).mono B3.out.size))
        have hb35 := b4.trans (bx.mono b4.size)
        have HS5 := Lib.hid ((HS.out.below (below_drewN (Below.refl _ _) j)).below hb35)
        have HL5 := Lib.hid ((hb35.block lb (row_lt HL.out)).trans HL.out)
        have HX5 := Lib.hid (heap_alloc_new w4 (.cells #[.string ⟨q1.toArray⟩, .int .i64 q2, .int .i64 q3, .string ⟨q4.toArray⟩, .int .i64 q5] 84))
        have hlx : w.heap.size ≤ wr.heap.size := HB.out.size
        have hlx2 : wr.heap.size ≤ w4.heap.size := b4.size
        have hll := row_lt HL.out
        clear b4 bx hb35 HC HLR he HSP HNE
        by_cases hr : rc = 0
        · subst hr
          rw [errOf_zero]
          have hW := HWL.out rfl
          by_cases hk : d = []
          · have hki : ¬ (0 : Int) < (k : Int) := by have := HD.out.1; rw [hk] at this; simp at this; omega
            have HRE2 := Lib.hid (HRE.out.trans (by rw [if_neg (by simp), if_neg (by rw [hk]; simp)]))
            have HKN := Lib.hid hk
            obtain ⟨⟨x0, x1, x2, x3, x4⟩, -⟩ := row5f HX5.out
            clear hk
            go_wp2_with fail
            generalize w4.alloc (.cells #[.string ⟨q1.toArray⟩, .int .i64 q2, .int .i64 q3, .string ⟨q4.toArray⟩, .int .i64 q5] 84) = w5 at *
            generalize w4.heap.size = lx at *
            have HPT := Lib.hid (putStock_any E (w.heap.size + 1) w.heap.size (toM d) (q1, q2, q3) q4 q5 w5 (HS5.out) (HD.out.2.1.inv.few q4) (HG.out _ B5.out).stk)
            simp only [encPlace] at HPT
            have HX0 := Lib.hid (fun hp => HD.out.2.1.next (x := ((q1, q2, q3), q4, q5)) (fun y hy => by rw [HKN.out] at hy; cases hy) hp)
            refine HPT.out.mono ?_
            rintro e w7 ⟨rfl, hS7, t7⟩
            have B7 := Lib.hid (t7.below B5.out (Nat.le_refl _) B5.out.size)
            have HX7 := Lib.hid ((t7.block lx (row_lt HX5.out) (by omega)).trans HX5.out)
            have HL7 := Lib.hid ((t7.block lb (row_lt HL5.out) (by omega)).trans HL5.out)
            obtain ⟨⟨x0, x1, x2, x3, x4⟩, -⟩ := row5f HX7.out
            have HS7 := Lib.hid hS7
            clear hS7 t7 HPT
            generalize putE (toM d) (q1, q2, q3) q4 q5 = pe at *
            by_cases hp0 : pe = 0
            · subst hp0
              rw [errOf_zero]
              obtain ⟨hI8, hM8⟩ := HX0.out rfl
              have HI8 := Lib.hid hI8
              have HM8 := Lib.hid hM8
              have HK8 := Lib.hid (HOK.out (HRE2.out))
              clear hI8 hM8
              go_wp2_with (refine wpList_store_box rfl 84 _ _ rfl lb [.string ⟨q1.toArray⟩, .int .i64 q2, .int .i64 q3, .string ⟨q4.toArray⟩, .int .i64 q5] rfl rfl 84 (encLine z) HL7.out (by kernel_rfl) rfl (encLine_one ((q1, q2, q3), q4, q5)) ?_; intro wf hf tf)
              have hbf := B7.out.trans (tf.below (show w.heap.size ≤ lb by omega))
              have hSf := HS7.out.keep (tf.block _ (by omega)) (tf.block _ (by omega))
              go_roundw
              case rel =>
                refine ⟨k + 1, c, d ++ [((q1, q2, q3), q4, q5)], ((q1, q2, q3), q4, q5), by go_num, rfl, by omega, HK8.out, ⟨by rw [List.length_append, HD.out.1]; rfl, HI8.out, .inr (by simp)⟩, ?_, hf, hbf⟩
                rw [HM8.out]
                exact hSf
              case measure =>
                show (⟨c.toArray⟩ : ByteArray).size < (⟨s'.toArray⟩ : ByteArray).size
                simp [ByteArray.size]
                omega
            · rw [errOf_pos _ _ hp0]
              have HBD := Lib.hid (show R = .inl (pe, k) by have h : rdE d a = pe := HRE2.out; rw [← h]; exact HBAD.out (by rw [h]; exact hp0))
              go_wp2_with fail
              go_ret2
              exact RdEnds.fault HBD.out (B7.out.alloc B7.out.size _) hp0 (heap_alloc_new _ _)
          · have hzl := HD.out.2.2.resolve_left hk
            have hk0 : 0 < k := by
              have := HD.out.1
              cases d with
              | nil => exact absurd rfl hk
              | cons y r => simp at this; omega
            have hki : (0 : Int) < (k : Int) := by omega
            have hzm : z ∈ d := List.mem_of_getLast? hzl
            have hzp : InP z.1 := by
              have h1 := HD.out.2.1.inv.well.well ((z.1, z.2.1), z.2.2.toNat) (List.mem_map.2 ⟨z, hzm, rfl⟩)
              exact InP.of h1.1
            have HCM := Lib.hid (fun W => (cmpLine_any z ((q1, q2, q3), q4, q5) hzp (InP.of hW.1) W).mono fun e w' (h : e = .returned (.int .i64 (cfLine z ((q1, q2, q3), q4, q5))) ∧ ∃ q os', w' = grow (W.drewN q) os') => (show e = .returned (.int .i64 (cfLine z ((q1, q2, q3), q4, q5))) ∧ Below W.heap.size W w' from ⟨h.1, by obtain ⟨q, os, rfl⟩ := h.2; exact below_grown W q os⟩))
            have HLT := Lib.hid (show ltOf cfLine z ((q1, q2, q3), q4, q5) = decide (cfLine z ((q1, q2, q3), q4, q5) < 0) from rfl)
            have HZL := Lib.hid hzl
            have HRE1 : Hid (rdE d a = if ltOf cfLine z ((q1, q2, q3), q4, q5) = false then 10 else putE (toM d) (q1, q2, q3) q4 q5) := by
              refine HRE.out.trans ?_
              rw [if_neg (by simp), HZL.out]
              show (if (!ltOf cfLine z ((q1, q2, q3), q4, q5)) = true then 10 else putE (toM d) (q1, q2, q3) q4 q5) = _
              cases ltOf cfLine z ((q1, q2, q3), q4, q5) <;> rfl
            generalize cfLine z ((q1, q2, q3), q4, q5) = cz at HCM HLT
            clear hk hzl hzm hzp HRE
            obtain ⟨⟨z1, z2, z3⟩, z4, z5⟩ := z
            simp only [encLine] at HCM HL5
            obtain ⟨⟨y0, y1, y2, y3, y4⟩, -⟩ := row5f HL5.out
            obtain ⟨⟨x0, x1, x2, x3, x4⟩, -⟩ := row5f HX5.out
            go_wp2_with fail
            generalize w4.alloc (.cells #[.string ⟨q1.toArray⟩, .int .i64 q2, .int .i64 q3, .string ⟨q4.toArray⟩, .int .i64 q5] 84) = w5 at *
            generalize w4.heap.size = lx at *
            refine (HCM.out _).mono ?_
            rintro e w6 ⟨rfl, b6⟩
            have B6 := Lib.hid (B5.out.trans (b6.mono B5.out.size))
            have HS6 := Lib.hid (HS5.out.below b6)
            have HL6 := Lib.hid (at_b b6 HL5.out (row_lt HL5.out))
            have HX6 := Lib.hid (at_b b6 HX5.out (row_lt HX5.out))
            clear b6 B5 HS5 HL5 HX5 y0 y1 y2 y3 y4 x0 x1 x2 x3 x4 HCM
            obtain ⟨⟨x0, x1, x2, x3, x4⟩, -⟩ := row5f HX6.out
            by_cases hcz : 0 ≤ cz
            · have hlf : ltOf cfLine ((z1, z2, z3), z4, z5) ((q1, q2, q3), q4, q5) = false := by rw [HLT.out]; simpa using hcz
              have HBD := Lib.hid (show R = .inl (10, k) by have h : rdE d a = 10 := HRE1.out.trans (if_pos hlf); rw [← h]; exact HBAD.out (by rw [h]; decide))
              have hg := (HG.out _ B6.out).order
              unfold ErrAt at hg
              clear hlf
              go_wp2_with fail
              go_ret2
              exact RdEnds.fault HBD.out (B6.out.alloc B6.out.size _) (by decide) (heap_alloc_new _ _)
            · have hlf : ltOf cfLine ((z1, z2, z3), z4, z5) ((q1, q2, q3), q4, q5) = true := by rw [HLT.out]; simpa using hcz
              have HRE2 := Lib.hid (HRE1.out.trans (if_neg (by rw [hlf]; simp)))
              have HLF := Lib.hid hlf
              clear hlf
              go_wp2_with fail
              have HPT := Lib.hid (putStock_any E (w.heap.size + 1) w.heap.size (toM d) (q1, q2, q3) q4 q5 w6 (HS6.out) (HD.out.2.1.inv.few q4) (HG.out _ B6.out).stk)
              simp only [encPlace] at HPT
              have HX0 := Lib.hid (fun hp => HD.out.2.1.next (x := ((q1, q2, q3), q4, q5)) (fun y hy => by have h := HZL.out; rw [hy] at h; injection h with h; rw [h]; exact HLF.out) hp)
              refine HPT.out.mono ?_
              rintro e w7 ⟨rfl, hS7, t7⟩
              have B7 := Lib.hid (t7.below B6.out (Nat.le_refl _) B6.out.size)
              have HX7 := Lib.hid ((t7.block lx (row_lt HX6.out) (by omega)).trans HX6.out)
              have HL7 := Lib.hid ((t7.block lb (row_lt HL6.out) (by omega)).trans HL6.out)
              obtain ⟨⟨x0, x1, x2, x3, x4⟩, -⟩ := row5f HX7.out
              have HS7 := Lib.hid hS7
              clear hS7 t7 HPT
              generalize putE (toM d) (q1, q2, q3) q4 q5 = pe at *
              by_cases hp0 : pe = 0
              · subst hp0
                rw [errOf_zero]
                obtain ⟨hI8, hM8⟩ := HX0.out rfl
                have HI8 := Lib.hid hI8
                have HM8 := Lib.hid hM8
                have HK8 := Lib.hid (HOK.out (HRE2.out))
                clear hI8 hM8
                go_wp2_with (refine wpList_store_box rfl 84 _ _ rfl lb [.string ⟨q1.toArray⟩, .int .i64 q2, .int .i64 q3, .string ⟨q4.toArray⟩, .int .i64 q5] rfl rfl 84 (encLine ((z1, z2, z3), z4, z5)) HL7.out (by kernel_rfl) rfl (encLine_one ((q1, q2, q3), q4, q5)) ?_; intro wf hf tf)
                have hbf := B7.out.trans (tf.below (show w.heap.size ≤ lb by omega))
                have hSf := HS7.out.keep (tf.block _ (by omega)) (tf.block _ (by omega))
                go_roundw
                case rel =>
                  refine ⟨k + 1, c, d ++ [((q1, q2, q3), q4, q5)], ((q1, q2, q3), q4, q5), by go_num, rfl, by omega, HK8.out, ⟨by rw [List.length_append, HD.out.1]; rfl, HI8.out, .inr (by simp)⟩, ?_, hf, hbf⟩
                  rw [HM8.out]
                  exact hSf
                case measure =>
                  show (⟨c.toArray⟩ : ByteArray).size < (⟨s'.toArray⟩ : ByteArray).size
                  simp [ByteArray.size]
                  omega
              · rw [errOf_pos _ _ hp0]
                have HBD := Lib.hid (show R = .inl (pe, k) by have h : rdE d a = pe := HRE2.out; rw [← h]; exact HBAD.out (by rw [h]; exact hp0))
                go_wp2_with fail
                go_ret2
                exact RdEnds.fault HBD.out (B7.out.alloc B7.out.size _) hp0 (heap_alloc_new _ _)
        · rw [errOf_pos _ _ hr]
          have HBD := Lib.hid (show R = .inl (rc, k) by have h : rdE d a = rc := HRE.out.trans (if_pos hr); rw [← h]; exact HBAD.out (by rw [h]; exact hr))
          go_wp2_with fail
          go_ret2
          exact RdEnds.fault HBD.out (B5.out.alloc B5.out.size _) hr (heap_new2 _ _ _)
end Go.Proofs.YtmhkcmoepopnoaaGreatDoor
namespace Go.Proofs.YtmhkcmoepopnoaaGreatDoor
open Go.RowKit Go.Sort Go.Proofs

theorem eqInLine (x y : LineV) (W : World) : (Op.equalIn 10000 84 (.agg (encLine x).toArray) (.agg (encLine y).toArray)).run Tryz.prog W = .ok (decide (x = y)) W := by
  have u3 := Tryz.underlying3
  have u9 := Tryz.underlying9
  have hS : Tryz.prog.underlying 84 = some (.struct (Tryz.prog.fieldsOf 84)) := by kernel_rfl
  have hp : Tryz.prog.stoodInHeld 84 = false := by kernel_rfl
  have pS : Tryz.prog.underlying 24 = some (.struct (Tryz.prog.fieldsOf 24)) := by kernel_rfl
  have pp : Tryz.prog.stoodInHeld 24 = false := by kernel_rfl
  have eP : ∀ (a1 b1 : List UInt8) (a2 a3 b2 b3 : Int) (W : World), (Op.equalIn 9999 24 (.agg #[.string ⟨a1.toArray⟩, .int .i64 a2, .int .i64 a3]) (.agg #[.string ⟨b1.toArray⟩, .int .i64 b2, .int .i64 b3])).run Tryz.prog W = .ok (decide (a1 = b1 ∧ a2 = b2 ∧ a3 = b3)) W := fun a1 b1 a2 a3 b2 b3 W => by
    rw [show (9999 : Nat) = 9998 + 1 from rfl, run_equalIn_agg W 9998 24 _ _ pS pp]
    simp only [Program.fieldsOf, Tryz.underlying24]
    go_simp
    by_cases h1 : a1 = b1 <;> by_cases h2 : a2 = b2 <;> by_cases h3 : a3 = b3 <;> simp [h1, h2, h3]
  simp only [encLine]
  rw [show (10000 : Nat) = 9999 + 1 from rfl, run_equalIn_agg W 9999 84 _ _ hS hp]
  clear hS hp pS pp
  simp only [Program.fieldsOf, Tryz.underlying84]
  go_simp
  obtain ⟨⟨a1, a2, a3⟩, a4, a5⟩ := x
  obtain ⟨⟨b1, b2, b3⟩, b4, b5⟩ := y
  by_cases h1 : a1 = b1 <;> by_cases h2 : a2 = b2 <;> by_cases h3 : a3 = b3 <;> by_cases h4 : a4 = b4 <;> by_cases h5 : a5 = b5 <;> simp [h1, h2, h3, h4, h5]
theorem neqLine (x y : LineV) (W : World) : (binOp .neq 84 (.agg (encLine x).toArray) (.agg (encLine y).toArray)).run Tryz.prog W = .ok (.bool (!decide (x = y))) W := by
  rw [run_neq_struct, eqInLine]
  rfl
theorem eqLine (x y : LineV) (W : World) : (binOp .eql 84 (.agg (encLine x).toArray) (.agg (encLine y).toArray)).run Tryz.prog W = .ok (.bool (decide (x = y))) W := by
  rw [run_eql_struct, eqInLine]
  rfl
end Go.Proofs.YtmhkcmoepopnoaaGreatDoor
