/- The law CostLayers, walked. -/
import Derived.Test.YtnblbliehfgnkaaDoorKeeps
import Derived.Test.YtnblbliehfgnkaaDoorRCost
namespace Go.Proofs.YtnblbliehfgnkaaDoor
open Go.RowKit

set_option maxHeartbeats 1600000 in
set_option maxRecDepth 100000 in
theorem layers_out (E : Nat → Addr) (A : Option Addr) (len cap : Nat) (w : World) (hG : LayersG E w) (h1 : 60 < len) :
    Calls Tryd.prog 6 #[.slice A len cap] w fun e w' => e = .returned (.bool true) ∧ Below w.heap.size w w' := by
  go_enter Tryd.func6, Tryd.ntmps6
  go_wp2_with fail
  refine (cheap_any _ hG.tab).mono ?_
  rintro e w1 ⟨rfl, b1⟩
  go_wp2
  go_ret
  exact ⟨rfl, b1⟩

set_option maxHeartbeats 1600000 in
set_option maxRecDepth 100000 in
theorem layers_in (E : Nat → Addr) (A : Option Addr) (len cap : Nat) (fs : Nat → Int × Int) (w : World) (hG : LayersG E w) (hF : FlowsAt w A len fs) (h1 : len ≤ 60) :
    Calls Tryd.prog 6 #[.slice A len cap] w fun e w' => e = .returned (.bool true) ∧ Below w.heap.size w w' := by
  go_enter Tryd.func6, Tryd.ntmps6
  go_wp2_with fail
  refine (cheap_any _ hG.tab).mono ?_
  rintro e w1 ⟨rfl, b1⟩
  go_wp2_with fail
  refine (new_any _).mono ?_
  rintro e w2 ⟨rfl, rfl⟩
  go_wp2_with fail
  obtain ⟨w3, hw3⟩ : ∃ w3, w3 = (w1.alloc (.cells #[.slice none 0 0] 84)).alloc (.cells #[.slice none 0 0] 60) := ⟨_, rfl⟩
  have b3 : Below w.heap.size w w3 := by rw [hw3]; exact (b1.alloc b1.size _).alloc (by simp; have := b1.size; omega) _
  have t3 : TwoR w.heap.size w3 w1.heap.size w1.heap.size (w1.heap.size + 1) (w1.heap.size + 1) [] := by
    refine ⟨.inl ⟨rfl, rfl, ?_⟩, .inl ⟨rfl, rfl, ?_⟩, b1.size, b1.size, ?_, ?_, by omega, by omega, by omega, by omega⟩
    · rw [hw3, heap_alloc_old _ _ (by simp)]; exact heap_alloc_new _ _
    · rw [hw3]; have := heap_alloc_new (w1.alloc (.cells #[.slice none 0 0] 84)) (.cells #[.slice none 0 0] 60); simpa using this
    · have := b1.size; omega
    · have := b1.size; omega
  rw [← hw3]
  have hX : w1.heap.size + 1 ≤ w3.heap.size := by rw [hw3]; simp
  generalize w1.heap.size + 1 = py at *
  generalize w1.heap.size = px at *
  clear hw3 b1
  go_loopw [6] (fun i wr => ∃ (k : Nat) (ls : Ls) (gx gy : Nat), k ≤ len ∧ i = .int .i64 k ∧ OkL ls ∧ ls.length ≤ k ∧ TwoR w.heap.size wr px gx py gy ls ∧ Below w.heap.size w wr) (fun i _ => len - (intOf i).toNat)
  case atStart => exact ⟨0, [], px, py, by omega, rfl, ⟨by simp [hasL], by simp, by simp⟩, by simp, t3, b3⟩
  case round =>
    obtain ⟨k, ls, gx, gy, hk, rfl, hok, hll, ht, hb⟩ := hrel
    have hlen : ls.length ≤ 1000000 := by omega
    by_cases hkl : k < len
    · rcases hF with h0 | ⟨lb, lo, rfl, hlb, hcells⟩
      · omega
      obtain ⟨c1, c2⟩ := hcells k hkl
      clear hcells
      obtain ⟨n, hn⟩ : ∃ n, n = (fs k).1 := ⟨_, rfl⟩
      obtain ⟨c, hc⟩ : ∃ c, c = (fs k).2 := ⟨_, rfl⟩
      rw [← hn] at c1
      rw [← hc] at c2
      clear hn hc
      have d1 := (hb.cell (p := ⟨lb, lo + k * 2, none⟩) hlb).trans c1
      have d2 := (hb.cell (p := ⟨lb, lo + k * 2 + 1, none⟩) hlb).trans c2
      have HG := Lib.hid (hG.below (hb.mono (Nat.le_refl _)))
      by_cases hc0 : 0 ≤ c
      · have HD := Lib.hid (show LayersG E wr.drew from HG.out.below (Below.refl _ _).drew)
        have htd : TwoR w.heap.size wr.drew px gx py gy ls := ht.below (Below.refl _ _).drew
        have hbd : Below w.heap.size w wr.drew := hb.drew
        go_wp2_with fail
        go_region_held3 (fun w' => w'.cell? ⟨lb, lo + k * 2, none⟩ = some (.int .i64 n) ∧ w'.cell? ⟨lb, lo + k * 2 + 1, none⟩ = some (.int .i64 c) ∧ Below w.heap.size w w')
          (first | exact ⟨d1, d2, hb.drew⟩ | exact ⟨(b4.cell hlb).trans c1, (b4.cell hlb).trans c2, b4⟩ | exact ⟨(b5.cell hlb).trans c1, (b5.cell hlb).trans c2, b5⟩ | exact ⟨(b6.cell hlb).trans c1, (b6.cell hlb).trans c2, b6⟩ | go_keep)
          (first
            | (go_at_call 24; refine (rin_gen py gy ls n c _ y4 hok hlen).mono ?_; rintro e w5 ⟨rfl, gy', l5, o5, s5⟩; obtain ⟨t5, b5⟩ := htd.both hbd hbd.size l4 o4 s4 l5 o5 (s5.imp_right Or.inr))
            | (go_at_call 23; refine (coded2_same E (inE ls n c) (inE_le _ _ _) _ (hG.below b5).err).mono ?_; rintro e w6 ⟨rfl, bb6⟩; have b6 : Below w.heap.size w w6 := b5.trans (bb6.mono b5.size))
            | (go_at_call 15; refine (in_gen E px gx ls n c _ HD.out.bound htd.x hok hlen).mono ?_; rintro e w4 ⟨rfl, gx', l4, o4, s4⟩; obtain ⟨y4, b4, -⟩ := htd.first hbd hbd.size l4 o4 s4))
        have t6 := t5.below bb6
        have okz := inS_ok ls n c hok
        have lnz : (inS ls n c).length ≤ ls.length + 1 := inS_length ls n c
        have lmz : (inS ls n c).length ≤ 1000000 := by omega
        obtain ⟨lz, hz⟩ : ∃ lz, lz = inS ls n c := ⟨_, rfl⟩
        rw [← hz] at okz lnz lmz t6
        clear hz
        go_wp2_with fail
        refine (has_any px gx' lz _ t6.x okz lmz).mono ?_
        rintro e z1 ⟨rfl, a1⟩
        have T1 := t6.below a1
        have B1 := b6.trans (a1.mono b6.size)
        go_wp2_with fail
        refine (rhas_any py gy' lz _ T1.y okz lmz).mono ?_
        rintro e z2 ⟨rfl, a2⟩
        have T2 := T1.below a2
        have B2 := B1.trans (a2.mono B1.size)
        go_wp2_with fail
        refine (worth_any px gx' lz _ T2.x okz lmz).mono ?_
        rintro e z3 ⟨rfl, a3⟩
        have T3 := T2.below a3
        have B3 := B2.trans (a3.mono B2.size)
        go_wp2_with fail
        refine (rworth_any py gy' lz _ T3.y okz lmz).mono ?_
        rintro e z4 ⟨rfl, a4⟩
        have T4 := T3.below a4
        have B4 := B3.trans (a4.mono B3.size)
        go_wp2_with fail
        refine (text_any px gx' lz _ (hG.below B4).tab T4.x okz lmz).mono ?_
        rintro e z5 ⟨rfl, a5⟩
        have T5 := T4.below a5
        have B5 := B4.trans (a5.mono B4.size)
        go_wp2_with fail
        refine (rtext_any py gy' lz _ T5.y okz lmz).mono ?_
        rintro e z6 ⟨rfl, a6⟩
        have T6 := T5.below a6
        have B6 := B5.trans (a6.mono B5.size)
        go_wp2
        exact ⟨⟨k + 1, lz, gx', gy', by omega, by simp, okz, by omega, T6, B6⟩, by simp [intOf]; omega⟩
      · go_wp2_with fail
        refine (out_gen E px gx ls n _ HG.out.bound HG.out.short ht.x hok hlen).mono ?_
        rintro e w4 ⟨rfl, l4, o4⟩
        obtain ⟨y4, b4, -⟩ := ht.first hb hb.size l4 o4 (.inl rfl)
        have e1 := (b4.cell (p := ⟨lb, lo + k * 2, none⟩) hlb).trans c1
        go_wp2_with fail
        refine (rout_gen py gy ls n _ y4 hok hlen).mono ?_
        rintro e w5 ⟨rfl, ⟨gy', l5, s5⟩, o5⟩
        obtain ⟨t5, b5⟩ := ht.both hb hb.size l4 o4 (.inl rfl) l5 o5 s5
        go_wp2_with fail
        refine (coded2_same E (outE ls n) (outE_le _ _) _ (hG.below b5).err).mono ?_
        rintro e w6 ⟨rfl, bb6⟩
        have b6 := b5.trans (bb6.mono b5.size)
        have t6 := t5.below bb6
        have okz := outS_ok ls n hok
        have lnz : (outS ls n).length ≤ ls.length + 1 := Nat.le_succ_of_le (outS_length ls n)
        have lmz : (outS ls n).length ≤ 1000000 := by omega
        obtain ⟨lz, hz⟩ : ∃ lz, lz = outS ls n := ⟨_, rfl⟩
        rw [← hz] at okz lnz lmz t6
        clear hz
        go_wp2_with fail
        refine (has_any px gx lz _ t6.x okz lmz).mono ?_
        rintro e z1 ⟨rfl, a1⟩
        have T1 := t6.below a1
        have B1 := b6.trans (a1.mono b6.size)
        go_wp2_with fail
        refine (rhas_any py gy' lz _ T1.y okz lmz).mono ?_
        rintro e z2 ⟨rfl, a2⟩
        have T2 := T1.below a2
        have B2 := B1.trans (a2.mono B1.size)
        go_wp2_with fail
        refine (worth_any px gx lz _ T2.x okz lmz).mono ?_
        rintro e z3 ⟨rfl, a3⟩
        have T3 := T2.below a3
        have B3 := B2.trans (a3.mono B2.size)
        go_wp2_with fail
        refine (rworth_any py gy' lz _ T3.y okz lmz).mono ?_
        rintro e z4 ⟨rfl, a4⟩
        have T4 := T3.below a4
        have B4 := B3.trans (a4.mono B3.size)
        go_wp2_with fail
        refine (text_any px gx lz _ (hG.below B4).tab T4.x okz lmz).mono ?_
        rintro e z5 ⟨rfl, a5⟩
        have T5 := T4.below a5
        have B5 := B4.trans (a5.mono B4.size)
        go_wp2_with fail
        refine (rtext_any py gy' lz _ T5.y okz lmz).mono ?_
        rintro e z6 ⟨rfl, a6⟩
        have T6 := T5.below a6
        have B6 := B5.trans (a6.mono B5.size)
        go_wp2
        exact ⟨⟨k + 1, lz, gx, gy', by omega, by simp, okz, by omega, T6, B6⟩, by simp [intOf]; omega⟩
    · go_wp2_with fail
      have e1 : inE ls 1 (-1) = 2 := if_pos (by omega)
      have s1 : inS ls 1 (-1) = ls := by unfold inS; rw [if_neg (by omega)]
      refine (in_gen E px gx ls 1 (-1) _ (hG.below hb).bound ht.x hok hlen).mono ?_
      rintro e w4 ⟨rfl, gx', l4, o4, s4⟩
      obtain ⟨y4, b4, -⟩ := ht.first hb hb.size l4 o4 s4
      rw [e1, s1] at *
      go_wp2_with fail
      refine (coded2_same E 2 (by omega) _ (hG.below b4).err).mono ?_
      rintro e w5 ⟨rfl, bb5⟩
      have b5 := b4.trans (bb5.mono b4.size)
      have l5 := l4.below bb5
      go_wp2_with fail
      have e2 : inE ls 1 1048577 = 2 := if_pos (by omega)
      refine (in_gen E px gx' ls 1 1048577 _ (hG.below b5).bound l5 hok hlen).mono ?_
      rintro e w6 ⟨rfl, gx'', l6, o6, s6⟩
      have b6 := o6.below b5 ht.bpx (by have := ht.bgx; have := hb.size; omega) b5.size
      rw [e2]
      go_wp2_with fail
      refine (coded2_same E 2 (by omega) _ (hG.below b6).err).mono ?_
      rintro e w7 ⟨rfl, bb7⟩
      have b7 := b6.trans (bb7.mono b6.size)
      go_wp2
      go_ret
      exact ⟨rfl, b7⟩

theorem layers_walk (E : Nat → Addr) (A : Option Addr) (len cap : Nat) (fs : Nat → Int × Int) (w : World) (hG : LayersG E w) (hF : FlowsAt w A len fs) :
    Calls Tryd.prog 6 #[.slice A len cap] w fun e w' => e = .returned (.bool true) ∧ Below w.heap.size w w' := by
  by_cases h : 60 < len
  · exact layers_out E A len cap w hG h
  · exact layers_in E A len cap fs w hG hF (by omega)

end Go.Proofs.YtnblbliehfgnkaaDoor
