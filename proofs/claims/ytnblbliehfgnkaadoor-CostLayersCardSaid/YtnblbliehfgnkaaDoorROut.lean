/- The document's layers: Out. -/
import Derived.Test.YtnblbliehfgnkaaDoorRIn
import Derived.Test.YtnblbliehfgnkaaDoorText
namespace Go.Proofs.YtnblbliehfgnkaaDoor
open Go.RowKit

/-- What is left of a layer. -/
def remL (m : Nat) (x : Nat × Nat) : Ls := if m < x.1 then [(x.1 - m, x.2)] else []
theorem remL_some {m : Nat} {x : Nat × Nat} (h : m < x.1) : remL m x = [(x.1 - m, x.2)] := if_pos h
theorem remL_none {m : Nat} {x : Nat × Nat} (h : ¬ m < x.1) : remL m x = [] := if_neg h
theorem outL_snoc (l : Ls) (x : Nat × Nat) (n : Nat) (hx : 1 ≤ x.1) : (outL (l ++ [x]) n).2 = (outL l n).2 ++ remL (n - hasL l) x := by
  induction l generalizing n with
  | nil =>
    rw [List.nil_append, show n - hasL [] = n from rfl]
    by_cases h : n < x.1
    · rw [outL_part _ _ _ h, remL_some h]; rfl
    · rw [outL_full _ _ _ (by omega), remL_none h]; rfl
  | cons y r ih =>
    rw [List.cons_append]
    by_cases h : n < y.1
    · rw [outL_part _ _ _ h, outL_part _ _ _ h, remL_some (by simp only [hasL]; omega)]
      rw [show n - hasL (y :: r) = 0 by simp only [hasL]; omega, Nat.sub_zero]; rfl
    · rw [outL_full _ _ _ (by omega), outL_full _ _ _ (by omega)]
      simp only
      rw [ih, show n - hasL (y :: r) = n - y.1 - hasL r by simp only [hasL]; omega]
theorem outL_take (l : Ls) (k n : Nat) (h : k < l.length) (hk : ∀ x ∈ l, 1 ≤ x.1) : (outL (l.take (k + 1)) n).2 = (outL (l.take k) n).2 ++ remL (n - hasL (l.take k)) l[k] := by
  rw [List.take_succ_eq_append_getElem h]
  exact outL_snoc _ _ _ (hk _ (List.getElem_mem h))
theorem oldsL_append (a b : Ls) : oldsL (a ++ b) = oldsL a ++ oldsL b := by
  induction a with
  | nil => rfl
  | cons x r ih => simp only [List.cons_append, oldsL, ih]

/-- A row of the call's own, stored into the block. -/
theorem LayT.own {tp te : TypeId} {w w1 : World} {p g : Nat} {ls : Ls} {v0 v : Value} (hb : Below w.heap.size w w1) (hA : w.heap[p]? = some (.cells #[v0] tp (0, 0))) (ho : w1.ownsRow w.heap.size te 2 v ls.length (oldsL ls)) :
    (∃ g', LayT tp te (w1.setCell ⟨p, 0, none⟩ v) p g' ls ∧ (g' = p ∨ w.heap.size ≤ g')) ∧ Only p g w (w1.setCell ⟨p, 0, none⟩ v) := by
  have hpl := lt_of_heap hA
  have bA := (hb.block p hpl).trans hA
  have p3 := heap_setCell_same _ p 0 _ tp v bA
  refine ⟨?_, ⟨hb.os, hb.tape, hb.output, by simpa using hb.size, fun k hk k1 _ => (heap_setCell_other _ _ _ _ k1).trans (hb.block k hk)⟩⟩
  rcases ho.2 with ⟨rfl, h0⟩ | ⟨gg, cap, cur, rfl, h1, h2, h3, h4, h5, h6⟩
  · exact ⟨p, .inl ⟨List.eq_nil_of_length_eq_zero h0, rfl, by simpa using p3⟩, .inl rfl⟩
  · have hne : gg ≠ p := by omega
    have g3 := (heap_setCell_other _ ⟨p, 0, none⟩ gg (.slice (some ⟨gg, 0, none⟩) ls.length cap) hne).trans h2
    refine ⟨gg, .inr ⟨hne, 0, cap, cur, by simpa using p3, g3, h3, by omega, fun i hi => ?_⟩, .inr h1⟩
    have hg := oldsL_get ls i hi
    rw [← h6] at hg
    rw [List.getElem?_take_of_lt (by omega), List.getElem?_take_of_lt (by omega), Array.getElem?_toList, Array.getElem?_toList] at hg
    simpa using hg

set_option maxHeartbeats 400000 in
theorem rout_bound (p : Nat) (n : Int) (w : World) (h : n < 1 ∨ 1099511627776 < n) :
    Calls Tryd.prog 25 #[.pointer (some ⟨p, 0, none⟩), .int .i64 n] w fun e w' => e = .returned (.tuple #[.int .i64 0, .int .i64 2]) ∧ Below w.heap.size w w' := by
  by_cases h1 : n < 1
  · go_enter Tryd.func25, Tryd.ntmps25
    go_wp2
    go_ret2
    exact ⟨rfl, Below.refl _ _⟩
  · have h2 : 1099511627776 < n := by omega
    go_enter Tryd.func25, Tryd.ntmps25
    go_wp2
    go_ret2
    exact ⟨rfl, Below.refl _ _⟩

set_option maxHeartbeats 400000 in
theorem rout_short (p g : Nat) (ls : Ls) (n : Int) (w : World) (hL : LayR w p g ls) (hk : OkL ls) (hlen : ls.length ≤ 1000000) (h1 : 1 ≤ n) (h2 : n ≤ 1099511627776) (h3 : (hasL ls : Int) < n) :
    Calls Tryd.prog 25 #[.pointer (some ⟨p, 0, none⟩), .int .i64 n] w fun e w' => e = .returned (.tuple #[.int .i64 0, .int .i64 9]) ∧ Below w.heap.size w w' := by
  go_enter Tryd.func25, Tryd.ntmps25
  go_wp2_with fail
  refine (rhas_any p g ls _ hL hk hlen).mono ?_
  rintro e w1 ⟨rfl, hb⟩
  go_wp2
  go_ret2
  exact ⟨rfl, hb⟩

set_option maxHeartbeats 1600000 in
set_option maxRecDepth 100000 in
theorem rout_yes (p g : Nat) (ls : Ls) (n : Nat) (w : World) (hL : LayR w p g ls) (hk : OkL ls) (hlen : ls.length ≤ 1000000) (h1 : 1 ≤ n) (h3 : n ≤ hasL ls) :
    Calls Tryd.prog 25 #[.pointer (some ⟨p, 0, none⟩), .int .i64 (n : Nat)] w fun e w' => e = .returned (.tuple #[.int .i64 ((outL ls n).1 : Nat), .int .i64 0]) ∧
      (∃ g', LayR w' p g' (outL ls n).2 ∧ (g' = p ∨ w.heap.size ≤ g')) ∧ Only p g w w' := by
  obtain ⟨i0, hi, hz0, hz1, hz2⟩ := info_parts rlayerInfo
  have hh := hk.has
  have hlt := hL.lt
  have KL := Lib.hid hk
  go_enter Tryd.func25, Tryd.ntmps25
  go_wp2_with fail
  refine (rhas_any p g ls _ hL hk hlen).mono ?_
  rintro e w1 ⟨rfl, b1⟩
  have L1 := hL.below b1
  go_wp2_with fail
  refine (rworth_any p g ls _ L1 hk hlen).mono ?_
  rintro e w2 ⟨rfl, b2⟩
  have L2 := L1.below b2
  have bb2 := b1.trans (b2.mono b1.size)
  obtain ⟨A, cap, hA, hc1, hc2, hcell⟩ := L2.reads
  have HC := Lib.hid hcell
  have hp2 := Nat.lt_of_lt_of_le hlt.1 bb2.size
  have hg2 := Nat.lt_of_lt_of_le hlt.2 bb2.size
  clear hcell
  go_wp2
  go_loopw [1, 7, 8] (fun nn left i wr => ∃ k : Nat, k ≤ ls.length ∧ i = .int .i64 k ∧ nn = .int .i64 (n - hasL (ls.take k) : Nat) ∧
    wr.ownsRow w2.heap.size 92 2 left (outL (ls.take k) n).2.length (oldsL (outL (ls.take k) n).2) ∧ Below w2.heap.size w2 wr) (fun _ _ i _ => ls.length - (intOf i).toNat)
  case atStart => exact ⟨0, by omega, rfl, by simp [hasL], World.ownsRow_nil _ _ _ _, Below.refl _ _⟩
  case round =>
    obtain ⟨k, hkl, rfl, rfl, hown, hb⟩ := hrel
    have dA := (hb.cell (p := ⟨p, 0, none⟩) hp2).trans hA
    by_cases hkn : k < ls.length
    · obtain ⟨off, rfl, hcells⟩ := HC.out (by omega)
      obtain ⟨c1, c2⟩ := hcells k hkn
      have d1 := (hb.cell (p := ⟨g, off + k * 2, none⟩) hg2).trans c1
      have d2 := (hb.cell (p := ⟨g, off + k * 2 + 1, none⟩) hg2).trans c2
      have q1 : ls[k].1 ≤ 1099511627776 := Nat.le_trans (of_mem_has ls k hkn) hh
      have q2 : ls[k].2 ≤ 1048576 := KL.out.cost _ (List.getElem_mem hkn)
      have HO := Lib.hid (outL_take ls k n hkn KL.out.pos)
      have hts := hasL_take ls k hkn
      obtain ⟨xn, hxn⟩ : ∃ xn, xn = ls[k].1 := ⟨_, rfl⟩
      obtain ⟨xc, hxc⟩ : ∃ xc, xc = ls[k].2 := ⟨_, rfl⟩
      rw [← hxn] at d1 q1 hts
      rw [← hxc] at d2 q2
      have HX := Lib.hid (show ls[k] = (xn, xc) by rw [hxn, hxc])
      rw [HX.out] at HO
      clear c1 c2 hcells hxn hxc
      obtain ⟨m, hm⟩ : ∃ m, m = n - hasL (ls.take k) := ⟨_, rfl⟩
      have hm1 : n - hasL (ls.take (k + 1)) = m - xn := by omega
      have hmb : m ≤ 1099511627776 := by omega
      rw [← hm] at HO ⊢
      have HM1 := Lib.hid hm1
      clear hm hm1 hts
      have hll : (outL (ls.take k) n).2.length ≤ 1000000 := Nat.le_trans (outL_length _ _) (by rw [List.length_take]; omega)
      have HOWN := Lib.hid hown
      obtain ⟨lk, hlk⟩ : ∃ lk, lk = (outL (ls.take k) n).2 := ⟨_, rfl⟩
      rw [← hlk] at HO hll HOWN hown
      clear hlk
      by_cases hc : m < xn
      · have HR := Lib.hid (remL_some (m := m) (x := (xn, xc)) hc)
        have hB : Below wr.heap.size wr ((wr.alloc (.cells #[.int .i64 ((xn : Int) - m), .int .i64 (xc : Nat)] 92)).alloc (.cells #[.int .i64 ((xn : Int) - m), .int .i64 (xc : Nat)] 92)) :=
          ((Below.refl _ _).alloc (Nat.le_refl _) _).alloc (by simp) _
        go_wp2_with (at_builtin; refine wpList_append_lies _ rfl (.tmp 56) (.tmp 58) 58 rfl w2.heap.size 92 i0 (.agg #[.int .i64 0, .int .i64 0]) 2 16 Tryd.underlying58 hi hz0 hz1 hz2 rfl (by decide) u7 lk.length (oldsL lk) rfl (own_below HOWN.out hB) ⟨wr.heap.size + 1, 0, none⟩ 1 1 [.int .i64 ((xn : Int) - m), .int .i64 (xc : Nat)] rfl rfl ?c1 ?c2 (by omega) ?b1 ?b2 ?base _ rfl ?k)
        case c2 => exact ⟨rfl, rfl⟩
        case b1 => unfold maxLen; omega
        case b2 => omega
        case base => have := hb.size; simp; omega
        case k =>
          intro gg cap' w3 hown3 hgrow hat hlt3
          have hbel : Below w2.heap.size w2 w3 := (hb.trans (hB.mono hb.size)).grown hgrow (by have := hb.size; simp; omega) (fun j hj => (HOWN.out.lt j hj).1)
          have FIN := Lib.hid (And.intro hown3 hbel)
          clear hown3 hgrow hat hlt3 hbel
          go_wp2
          refine ⟨⟨k + 1, by omega, by simp, by rw [HM1.out]; congr 1; omega, ?_, FIN.out.2⟩, by simp [intOf]; omega⟩
          rw [HO.out, HR.out, oldsL_append, List.length_append]
          have := FIN.out.1
          simp only [oldsL, List.length_cons, List.length_nil]
          rw [show ((xn - m : Nat) : Int) = (xn : Int) - m by omega]
          exact this
      · have hc' : xn ≤ m := by omega
        have HR := Lib.hid (remL_none (m := m) (x := (xn, xc)) hc)
        have hB := Below.alloc (Below.refl wr.heap.size wr) (Nat.le_refl _) (.cells #[.int .i64 0, .int .i64 (xc : Nat)] 92)
        go_wp2
        refine ⟨⟨k + 1, by omega, by simp, by rw [HM1.out]; congr 1; omega, ?_, hb.trans (hB.mono hb.size)⟩, by simp [intOf]; omega⟩
        rw [HO.out, HR.out, List.append_nil]
        exact own_below HOWN.out hB
    · have hkn : ls.length ≤ k := by omega
      obtain rfl : k = ls.length := by omega
      rw [List.take_of_length_le (Nat.le_refl _)] at hown
      have hAw : ∃ v0, w.heap[p]? = some (.cells #[v0] 60 (0, 0)) := by
        rcases hL with ⟨_, _, h⟩ | ⟨_, _, _, _, h, _⟩
        · exact ⟨_, h⟩
        · exact ⟨_, h⟩
      obtain ⟨v0, hAw⟩ := hAw
      have hbw : Below w.heap.size w wr := bb2.trans (hb.mono bb2.size)
      have hown' : wr.ownsRow w.heap.size 92 2 u7 (outL ls n).2.length (oldsL (outL ls n).2) := by
        refine ⟨hown.1, ?_⟩
        rcases hown.2 with h | ⟨gg, cap', cur, h1, h2, h3⟩
        · exact .inl h
        · exact .inr ⟨gg, cap', cur, h1, Nat.le_trans bb2.size h2, h3⟩
      have FIN := Lib.hid (LayT.own (g := g) hbw hAw hown')
      have fA : wr.frozen? ⟨p, 0, none⟩ = false := free_of_block ((hbw.block p hlt.1).trans hAw) 0
      have hokf := outL_ok ls n KL.out h3
      have hlf := Nat.le_trans (outL_length ls n) hlen
      have hwf := outL_worth ls n
      have hwb := KL.out.worth
      have HU : (∃ gg cap', u7 = .slice (some ⟨gg, 0, none⟩) (outL ls n).2.length cap') ∨ u7 = .slice none 0 0 := by
        rcases hown.2 with ⟨h, _⟩ | ⟨gg, cap', cur, h1, _⟩
        · exact .inr h
        · exact .inl ⟨_, _, h1⟩
      clear hown hown' hA
      rcases HU with ⟨gg, cap', rfl⟩ | rfl
      · go_wp2_with fail
        obtain ⟨⟨g', lf, df⟩, of⟩ := FIN.out
        refine (rworth_any p g' _ _ lf hokf hlf).mono ?_
        rintro e w4 ⟨rfl, b4⟩
        have lf4 := lf.below b4
        have of4 := of.trans (Only.of_below (p := p) (g := g) b4) (.inl rfl)
        have HE := Lib.hid (show ((worthL ls : Nat) : Int) - (worthL (outL ls n).2 : Nat) = ((outL ls n).1 : Nat) by omega)
        clear FIN
        go_wp2
        go_ret2
        refine ⟨?_, ⟨g', lf4, df⟩, of4⟩
        rw [← HE.out]; rfl
      · go_wp2_with fail
        obtain ⟨⟨g', lf, df⟩, of⟩ := FIN.out
        refine (rworth_any p g' _ _ lf hokf hlf).mono ?_
        rintro e w4 ⟨rfl, b4⟩
        have lf4 := lf.below b4
        have of4 := of.trans (Only.of_below (p := p) (g := g) b4) (.inl rfl)
        have HE := Lib.hid (show ((worthL ls : Nat) : Int) - (worthL (outL ls n).2 : Nat) = ((outL ls n).1 : Nat) by omega)
        clear FIN
        go_wp2
        go_ret2
        refine ⟨?_, ⟨g', lf4, df⟩, of4⟩
        rw [← HE.out]; rfl

end Go.Proofs.YtnblbliehfgnkaaDoor
