/- The document's layers: In. The document's layers: Out. -/
import Derived.StillTailTactics
import Derived.Test.YtphgakobfegpcaaGreatDoorLCostOf01
import Derived.Test.YtphgakobfegpcaaGreatDoorLCostOf02
import Derived.Test.YtphgakobfegpcaaGreatDoorLCostOf03
import Derived.Test.YtphgakobfegpcaaGreatDoorLCostOf05
namespace Go.Proofs.YtphgakobfegpcaaGreatDoor
open Go.RowKit

set_option maxHeartbeats 400000 in
theorem rin_no (p g : Nat) (ls : Ls) (n c : Int) (w : World) (hL : LayR w p g ls) (hk : OkL ls) (hlen : ls.length ≤ 1000000)
    (hn : n < 1 ∨ 1099511627776 < n ∨ c < 0 ∨ 1048576 < c ∨ 1099511627776 - (hasL ls : Int) < n) :
    Calls Tryz.prog 56 #[.pointer (some ⟨p, 0, none⟩), .int .i64 n, .int .i64 c] w fun e w' => e = .returned (.int .i64 2) ∧ Below w.heap.size w w' := by
  have hh := hk.has
  by_cases h1 : n < 1
  · go_enter Tryz.func56, Tryz.ntmps56
    go_wp2
    go_ret
    exact ⟨rfl, Below.refl _ _⟩
  by_cases h2 : 1099511627776 < n
  · go_enter Tryz.func56, Tryz.ntmps56
    go_wp2
    go_ret
    exact ⟨rfl, Below.refl _ _⟩
  by_cases h3 : c < 0
  · go_enter Tryz.func56, Tryz.ntmps56
    go_wp2
    go_ret
    exact ⟨rfl, Below.refl _ _⟩
  by_cases h4 : 1048576 < c
  · go_enter Tryz.func56, Tryz.ntmps56
    go_wp2
    go_ret
    exact ⟨rfl, Below.refl _ _⟩
  have h5 : 1099511627776 < (hasL ls : Int) + n := by omega
  go_enter Tryz.func56, Tryz.ntmps56
  go_wp2_with fail
  refine (rhas_any p g ls _ hL hk hlen).mono ?_
  rintro e w1 ⟨rfl, hb⟩
  go_wp2
  go_ret
  exact ⟨rfl, hb⟩

set_option maxHeartbeats 1600000 in
set_option maxRecDepth 100000 in
/-- The last layer cost the same. -/
theorem rin_same (p g off cap : Nat) (ls : Ls) (cur : Array Value) (n c : Nat) (w : World) (hL : LayR w p g ls) (hk : OkL ls) (hlen : ls.length ≤ 1000000) (hn1 : 1 ≤ n) (hn2 : hasL ls + n ≤ 1099511627776) (hc2 : c ≤ 1048576)
    (h : ls.length - 1 < ls.length) (he : ls[ls.length - 1].2 = c) (hA : w.heap[p]? = some (.cells #[.slice (some ⟨g, off, none⟩) ls.length cap] 109 (0, 0))) (hG : w.heap[g]? = some (.cells cur 126 (0, 0)))
    (_ : ls.length ≤ cap) (hcells : ∀ i (h : i < ls.length), cur[off + i * 2]? = some (.int .i64 (ls[i].1 : Nat)) ∧ cur[off + i * 2 + 1]? = some (.int .i64 (ls[i].2 : Nat))) :
    Calls Tryz.prog 56 #[.pointer (some ⟨p, 0, none⟩), .int .i64 (n : Nat), .int .i64 (c : Nat)] w fun e w' => e = .returned (.int .i64 0) ∧
      ∃ w1, Below w.heap.size w w1 ∧ w' = w1.setCell ⟨g, off + (ls.length - 1) * 2, none⟩ (.int .i64 (ls[ls.length - 1].1 + n : Nat)) := by
  have hh := hk.has
  have hlt := hL.lt
  obtain ⟨c1, c2⟩ := hcells _ h
  rw [← cell_of_block hG] at c1 c2
  have cA : w.cell? ⟨p, 0, none⟩ = some (.slice (some ⟨g, off, none⟩) ls.length cap) := by rw [cell_of_block hA]; rfl
  have fG := free_of_block hG (off + (ls.length - 1) * 2)
  go_enter Tryz.func56, Tryz.ntmps56
  go_wp2_with fail
  refine (rhas_any p g ls _ hL hk hlen).mono ?_
  rintro e w1 ⟨rfl, hb⟩
  have hb' := Lib.hid hb
  have d1 := (hb.cell (p := ⟨g, off + (ls.length - 1) * 2, none⟩) hlt.2).trans c1
  have d2 := (hb.cell (p := ⟨g, off + (ls.length - 1) * 2 + 1, none⟩) hlt.2).trans c2
  have dA := (hb.cell (p := ⟨p, 0, none⟩) hlt.1).trans cA
  have dF := (hb.frozen (p := ⟨g, off + (ls.length - 1) * 2, none⟩) hlt.2).trans fG
  clear c1 c2 cA fG hb hA hG hL
  have hx : ls[ls.length - 1].1 ≤ hasL ls := by
    have := hasL_set ls (ls.length - 1) h (0, 0)
    simp only at this; omega
  go_wp2_with fail
  go_region
  go_wp2
  go_ret
  exact ⟨rfl, w1.drew, hb'.out.drew, rfl⟩

theorem rlayerInfo : (Tryz.prog.info? 126).map (fun i => (i.zero, i.size, i.bytes)) = some (some (.agg #[.int .i64 0, .int .i64 0]), 2, 16) := by kernel_rfl

set_option maxHeartbeats 400000 in
set_option maxRecDepth 100000 in
/-- A new layer, behind others. -/
theorem rin_new (p g off cap : Nat) (ls : Ls) (cur : Array Value) (n c : Nat) (w : World) (hL : LayR w p g ls) (hk : OkL ls) (hlen : ls.length ≤ 1000000) (hn1 : 1 ≤ n) (hn2 : hasL ls + n ≤ 1099511627776) (hc2 : c ≤ 1048576)
    (he : ∀ h : ls.length - 1 < ls.length, ls[ls.length - 1].2 ≠ c) (hne : g ≠ p) (hA : w.heap[p]? = some (.cells #[.slice (some ⟨g, off, none⟩) ls.length cap] 109 (0, 0))) (hG : w.heap[g]? = some (.cells cur 126 (0, 0)))
    (hcap : ls.length ≤ cap) (hoff : off + cap * 2 ≤ cur.size) (hcells : ∀ i (h : i < ls.length), cur[off + i * 2]? = some (.int .i64 (ls[i].1 : Nat)) ∧ cur[off + i * 2 + 1]? = some (.int .i64 (ls[i].2 : Nat))) :
    Calls Tryz.prog 56 #[.pointer (some ⟨p, 0, none⟩), .int .i64 (n : Nat), .int .i64 (c : Nat)] w fun e w' => e = .returned (.int .i64 0) ∧
      ∃ g', LayR w' p g' (ls ++ [(n, c)]) ∧ Only p g w w' ∧ (g' = g ∨ w.heap.size ≤ g') := by
  obtain ⟨i0, hi, hz0, hz1, hz2⟩ := info_parts rlayerInfo
  have hh := hk.has
  have hlt := hL.lt
  have cA : w.cell? ⟨p, 0, none⟩ = some (.slice (some ⟨g, off, none⟩) ls.length cap) := by rw [cell_of_block hA]; rfl
  have fA := free_of_block hA 0
  have HC := Lib.hid hcells
  clear hcells
  go_enter Tryz.func56, Tryz.ntmps56
  go_wp2_with fail
  refine (rhas_any p g ls _ hL hk hlen).mono ?_
  rintro e w1 ⟨rfl, hb⟩
  have HA := Lib.hid hA
  have HG := Lib.hid hG
  have dA := (hb.cell (p := ⟨p, 0, none⟩) hlt.1).trans cA
  have dF := (hb.frozen (p := ⟨p, 0, none⟩) hlt.1).trans fA
  have hpl0 := hlt.1
  clear hA hG hL
  have hgetc : ∀ j, (w.cell? ⟨g, j, none⟩) = cur[j]? := fun j => cell_of_block HG.out _
  have hgetf : ∀ j, (w.frozen? ⟨g, j, none⟩) = false := fun j => free_of_block HG.out _
  have hgl := hlt.2
  have hpl := hlt.1
  have HGC := Lib.hid hgetc
  have HGF := Lib.hid hgetf
  clear hgetc hgetf
  rcases Nat.eq_zero_or_pos ls.length with h0 | h0
  · obtain rfl := List.eq_nil_of_length_eq_zero h0
    go_wp2_with (at_builtin; refine wpList_append_arg _ rfl (.tmp 66) (.tmp 70) 107 rfl 126 i0 (.agg #[.int .i64 0, .int .i64 0]) 2 16 Tryz.underlying107 hi hz0 hz1 hz2 rfl (by decide) g off 0 cap [] rfl ?lo ?olds ⟨w1.heap.size, 0, none⟩ 1 1 [.int .i64 (n : Nat), .int .i64 (c : Nat)] rfl rfl ?c1 ?c2 ?spare ?b1 ?b2 ?room ?grow)
    case lo => exact rfl
    case olds =>
      intro j u hu; simp at hu
    case c1 => intro j u hj; match j, hj with | 0, hj => simp at hj; subst hj; simp [Addr.add] | 1, hj => simp at hj; subst hj; simp [Addr.add]
    case c2 => intro u hu; simp at hu; rcases hu with rfl | rfl <;> rfl
    case spare =>
      intro hr j hj
      have hj : j < 2 := hj
      rw [World.cell?_alloc_past _ _ _ (by have := hb.size; simp; omega), World.frozen?_alloc_past _ _ _ (by have := hb.size; simp; omega), hb.cell hgl, hb.frozen hgl, HGC.out, HGF.out]
      refine ⟨?_, rfl⟩
      rw [Array.getElem?_eq_getElem (by omega)]; rfl
    case b1 => unfold maxLen; omega
    case b2 => omega
    case room =>
      intro hr
      have hR := Lib.hid (LayT.room (tp := 109) (te := 126) (ls := []) n c (hb.alloc hb.size (.cells #[.int .i64 (n : Nat), .int .i64 (c : Nat)] 126)) hne HA.out HG.out hr hoff HC.out)
      have k0 : ((w1.alloc (.cells #[.int .i64 (n : Nat), .int .i64 (c : Nat)] 126)).setCells g (off + 0 * 2) [.int .i64 (n : Nat), .int .i64 (c : Nat)]).cell? ⟨p, 0, none⟩ = some (.slice (some ⟨g, off, none⟩) 0 cap) :=
        (World.cell?_setCells_out _ _ _ _ _ (fun h => absurd h (Ne.symm hne))).trans ((World.cell?_alloc_past _ _ _ (Nat.lt_of_lt_of_le hpl hb.size)).trans dA)
      have k1 : ((w1.alloc (.cells #[.int .i64 (n : Nat), .int .i64 (c : Nat)] 126)).setCells g (off + 0 * 2) [.int .i64 (n : Nat), .int .i64 (c : Nat)]).frozen? ⟨p, 0, none⟩ = false :=
        (World.frozen?_setCells _ _ _ _ _).trans ((World.frozen?_alloc_past _ _ _ (Nat.lt_of_lt_of_le hpl hb.size)).trans dF)
      simp only [Nat.zero_mul, Nat.add_zero, List.nil_append, List.length_nil, Nat.zero_add] at hR k0 k1 ⊢
      obtain ⟨W, hW⟩ : ∃ W, W = (w1.alloc (.cells #[.int .i64 (n : Nat), .int .i64 (c : Nat)] 126)).setCells g off [.int .i64 (n : Nat), .int .i64 (c : Nat)] := ⟨_, rfl⟩
      rw [← hW] at hR k0 k1 ⊢
      clear hW
      go_wp2
      go_ret
      exact ⟨rfl, g, hR.out.1, hR.out.2, .inl rfl⟩
    case grow =>
      intro hg v' w' hown hgrow
      have hbel : Below w.heap.size w w' := (hb.alloc hb.size _).grown hgrow (by have := hb.size; simp; omega) (fun k h => by cases h)
      obtain ⟨gg, cap', cur', rfl, hnew, hG', hc1, hc2, hs, hx⟩ : ∃ gg cap' cur', v' = .slice (some ⟨gg, 0, none⟩) (0 + 1) cap' ∧ w.heap.size ≤ gg ∧ w'.heap[gg]? = some (.cells cur' 126 (0, 0)) ∧ 0 + 1 ≤ cap' ∧ cap' ≤ maxLen ∧ cur'.size = cap' * 2 ∧ cur'.toList.take ((0 + 1) * 2) = [] ++ [.int .i64 (n : Nat), .int .i64 (c : Nat)] := by
        rcases hown.2 with ⟨_, h⟩ | ⟨gg, cap', cur', h1, h2, h3, h4, h5, h6, h7⟩
        · omega
        · exact ⟨gg, cap', cur', h1, by have := hb.size; omega, h3, h4, h5, h6, h7⟩
      have hR := Lib.hid (LayT.grown (g := g) (tp := 109) (te := 126) (ls := []) n c hbel HA.out hnew hG' hc1 hs [] hx rfl (fun i h => by simp at h))
      have k0 := (hbel.cell (p := ⟨p, 0, none⟩) hpl).trans cA
      have k1 := (hbel.frozen (p := ⟨p, 0, none⟩) hpl).trans fA
      clear hown hx hG' hs
      go_wp2
      go_ret
      exact ⟨rfl, gg, hR.out.1, hR.out.2, .inr hnew⟩
  · have h : ls.length - 1 < ls.length := by omega
    have he' := he h
    obtain ⟨c1, c2⟩ := HC.out _ h
    rw [← HGC.out] at c1 c2
    have d1 := (hb.cell (p := ⟨g, off + (ls.length - 1) * 2, none⟩) hlt.2).trans c1
    have d2 := (hb.cell (p := ⟨g, off + (ls.length - 1) * 2 + 1, none⟩) hlt.2).trans c2
    clear c1 c2
    go_wp2_with (at_builtin; refine wpList_append_arg _ rfl (.tmp 66) (.tmp 70) 107 rfl 126 i0 (.agg #[.int .i64 0, .int .i64 0]) 2 16 Tryz.underlying107 hi hz0 hz1 hz2 rfl (by decide) g off ls.length cap (oldsL ls) rfl ?lo ?olds ⟨w1.heap.size, 0, none⟩ 1 1 [.int .i64 (n : Nat), .int .i64 (c : Nat)] rfl rfl ?c1 ?c2 ?spare ?b1 ?b2 ?room ?grow)
    case lo => exact oldsL_length ls
    case olds =>
      intro j u hu
      have hj : j < ls.length * 2 := by have := (List.getElem?_eq_some_iff.1 hu).1; rw [oldsL_length] at this; exact this
      rw [World.cell?_alloc_past _ _ _ (Nat.lt_of_lt_of_le hgl hb.size), hb.cell hgl, HGC.out, oldsL_at HC.out j hj]
      exact hu
    case c1 => intro j u hj; match j, hj with | 0, hj => simp at hj; subst hj; simp [Addr.add] | 1, hj => simp at hj; subst hj; simp [Addr.add]
    case c2 => intro u hu; simp at hu; rcases hu with rfl | rfl <;> rfl
    case spare =>
      intro hr j hj
      have hj : j < 2 := hj
      rw [World.cell?_alloc_past _ _ _ (by have := hb.size; simp; omega), World.frozen?_alloc_past _ _ _ (by have := hb.size; simp; omega), hb.cell hgl, hb.frozen hgl, HGC.out, HGF.out]
      refine ⟨?_, rfl⟩
      rw [Array.getElem?_eq_getElem (by omega)]; rfl
    case b1 => unfold maxLen; omega
    case b2 => omega
    case room =>
      intro hr
      have hR := Lib.hid (LayT.room (tp := 109) (te := 126) (ls := ls) n c (hb.alloc hb.size (.cells #[.int .i64 (n : Nat), .int .i64 (c : Nat)] 126)) hne HA.out HG.out hr hoff HC.out)
      have k0 : ((w1.alloc (.cells #[.int .i64 (n : Nat), .int .i64 (c : Nat)] 126)).setCells g (off + ls.length * 2) [.int .i64 (n : Nat), .int .i64 (c : Nat)]).cell? ⟨p, 0, none⟩ = some (.slice (some ⟨g, off, none⟩) ls.length cap) :=
        (World.cell?_setCells_out _ _ _ _ _ (fun h => absurd h (Ne.symm hne))).trans ((World.cell?_alloc_past _ _ _ (Nat.lt_of_lt_of_le hpl hb.size)).trans dA)
      have k1 : ((w1.alloc (.cells #[.int .i64 (n : Nat), .int .i64 (c : Nat)] 126)).setCells g (off + ls.length * 2) [.int .i64 (n : Nat), .int .i64 (c : Nat)]).frozen? ⟨p, 0, none⟩ = false :=
        (World.frozen?_setCells _ _ _ _ _).trans ((World.frozen?_alloc_past _ _ _ (Nat.lt_of_lt_of_le hpl hb.size)).trans dF)
      simp only [Nat.add_assoc] at hR k0 k1 ⊢
      obtain ⟨W, hW⟩ : ∃ W, W = (w1.alloc (.cells #[.int .i64 (n : Nat), .int .i64 (c : Nat)] 126)).setCells g (off + ls.length * 2) [.int .i64 (n : Nat), .int .i64 (c : Nat)] := ⟨_, rfl⟩
      rw [← hW] at hR k0 k1 ⊢
      clear hW
      go_wp2
      go_ret
      exact ⟨rfl, g, hR.out.1, hR.out.2, .inl rfl⟩
    case grow =>
      intro hg v' w' hown hgrow
      have hbel : Below w.heap.size w w' := (hb.alloc hb.size _).grown hgrow (by have := hb.size; simp; omega) (fun k h => by cases h)
      obtain ⟨gg, cap', cur', rfl, hnew, hG', hc1, hc2, hs, hx⟩ : ∃ gg cap' cur', v' = .slice (some ⟨gg, 0, none⟩) (ls.length + 1) cap' ∧ w.heap.size ≤ gg ∧ w'.heap[gg]? = some (.cells cur' 126 (0, 0)) ∧ ls.length + 1 ≤ cap' ∧ cap' ≤ maxLen ∧ cur'.size = cap' * 2 ∧ cur'.toList.take ((ls.length + 1) * 2) = (oldsL ls) ++ [.int .i64 (n : Nat), .int .i64 (c : Nat)] := by
        rcases hown.2 with ⟨_, h⟩ | ⟨gg, cap', cur', h1, h2, h3, h4, h5, h6, h7⟩
        · omega
        · exact ⟨gg, cap', cur', h1, by have := hb.size; omega, h3, h4, h5, h6, h7⟩
      have hR := Lib.hid (LayT.grown (g := g) (tp := 109) (te := 126) (ls := ls) n c hbel HA.out hnew hG' hc1 hs (oldsL ls) hx (oldsL_length ls) (oldsL_get ls))
      have k0 := (hbel.cell (p := ⟨p, 0, none⟩) hpl).trans cA
      have k1 := (hbel.frozen (p := ⟨p, 0, none⟩) hpl).trans fA
      clear hown hx hG' hs
      go_wp2
      go_ret
      exact ⟨rfl, gg, hR.out.1, hR.out.2, .inr hnew⟩

set_option maxHeartbeats 400000 in
set_option maxRecDepth 100000 in
/-- The first layer. -/
theorem rin_first (p : Nat) (n c : Nat) (w : World) (hn1 : 1 ≤ n) (hn2 : n ≤ 1099511627776) (hc2 : c ≤ 1048576) (hA : w.heap[p]? = some (.cells #[.slice none 0 0] 109 (0, 0))) :
    Calls Tryz.prog 56 #[.pointer (some ⟨p, 0, none⟩), .int .i64 (n : Nat), .int .i64 (c : Nat)] w fun e w' => e = .returned (.int .i64 0) ∧
      ∃ g', LayR w' p g' [(n, c)] ∧ Only p p w w' ∧ w.heap.size ≤ g' := by
  obtain ⟨i0, hi, hz0, hz1, hz2⟩ := info_parts rlayerInfo
  have hpl := lt_of_heap hA
  have cA : w.cell? ⟨p, 0, none⟩ = some (.slice none 0 0) := by rw [cell_of_block hA]; rfl
  have fA := free_of_block hA 0
  have hL : LayR w p p [] := .inl ⟨rfl, rfl, hA⟩
  go_enter Tryz.func56, Tryz.ntmps56
  go_wp2_with fail
  refine (rhas_any p p [] _ hL ⟨by simp [hasL], by simp, by simp⟩ (by simp)).mono ?_
  rintro e w1 ⟨rfl, hb⟩
  have HA := Lib.hid hA
  have dA := (hb.cell (p := ⟨p, 0, none⟩) hpl).trans cA
  have dF := (hb.frozen (p := ⟨p, 0, none⟩) hpl).trans fA
  have hh : hasL [] = 0 := rfl
  clear hA hL
  go_wp2_with (at_builtin; refine wpList_append_grows _ rfl (.tmp 66) (.tmp 70) 107 rfl 126 i0 (.agg #[.int .i64 0, .int .i64 0]) 2 16 Tryz.underlying107 hi hz0 hz1 hz2 rfl (by decide) none 0 0 [] rfl (fun _ => ⟨rfl, rfl⟩) rfl (by intro b hb; cases hb) ⟨w1.heap.size, 0, none⟩ 1 1 [.int .i64 (n : Nat), .int .i64 (c : Nat)] rfl rfl ?c1 ?c2 (by omega) (by unfold maxLen; omega) (by omega) ?grow)
  case c1 => intro j u hj; match j, hj with | 0, hj => simp at hj; subst hj; simp [Addr.add] | 1, hj => simp at hj; subst hj; simp [Addr.add]
  case c2 => intro u hu; simp at hu; rcases hu with rfl | rfl <;> rfl
  case grow =>
    intro v' w' hown hgrow
    have hbel : Below w.heap.size w w' := (hb.alloc hb.size _).grown hgrow (by have := hb.size; simp; omega) (fun k h => by cases h)
    obtain ⟨gg, cap', cur', rfl, hnew, hG', hc1, hc2, hs, hx⟩ : ∃ gg cap' cur', v' = .slice (some ⟨gg, 0, none⟩) (0 + 1) cap' ∧ w.heap.size ≤ gg ∧ w'.heap[gg]? = some (.cells cur' 126 (0, 0)) ∧ 0 + 1 ≤ cap' ∧ cap' ≤ maxLen ∧ cur'.size = cap' * 2 ∧ cur'.toList.take ((0 + 1) * 2) = [] ++ [.int .i64 (n : Nat), .int .i64 (c : Nat)] := by
      rcases hown.2 with ⟨_, h⟩ | ⟨gg, cap', cur', h1, h2, h3, h4, h5, h6, h7⟩
      · omega
      · exact ⟨gg, cap', cur', h1, by have := hb.size; omega, h3, h4, h5, h6, h7⟩
    have hR := Lib.hid (LayT.grown (g := p) (tp := 109) (te := 126) (ls := []) n c hbel HA.out hnew hG' hc1 hs [] hx rfl (fun i h => by simp at h))
    have k0 := (hbel.cell (p := ⟨p, 0, none⟩) hpl).trans cA
    have k1 := (hbel.frozen (p := ⟨p, 0, none⟩) hpl).trans fA
    clear hown hx hG' hs
    go_wp2
    go_ret
    exact ⟨rfl, gg, hR.out.1, hR.out.2, hnew⟩

/-- Pieces come. -/
theorem rin_yes (p g : Nat) (ls : Ls) (n c : Nat) (w : World) (hL : LayR w p g ls) (hk : OkL ls) (hlen : ls.length ≤ 1000000) (hn1 : 1 ≤ n) (hn2 : hasL ls + n ≤ 1099511627776) (hc2 : c ≤ 1048576) :
    Calls Tryz.prog 56 #[.pointer (some ⟨p, 0, none⟩), .int .i64 (n : Nat), .int .i64 (c : Nat)] w fun e w' => e = .returned (.int .i64 0) ∧
      ∃ g', LayR w' p g' (inL ls n c) ∧ Only p g w w' ∧ (g' = g ∨ w.heap.size ≤ g') := by
  have hL0 := hL
  rcases hL with ⟨rfl, rfl, hA⟩ | ⟨hne, off, cap, cur, hA, hG, h3, h4, h5⟩
  · refine (rin_first _ n c w hn1 (by have : hasL [] = 0 := rfl; omega) hc2 hA).mono ?_
    rintro e w' ⟨rfl, g', h1, h2, h3⟩
    exact ⟨rfl, g', h1, h2, .inr h3⟩
  · by_cases hq : ∃ h : ls.length - 1 < ls.length, ls[ls.length - 1].2 = c
    · obtain ⟨h, he⟩ := hq
      refine (rin_same p g off cap ls cur n c w hL0 hk hlen hn1 hn2 hc2 h he hA hG h3 h5).mono ?_
      rintro e w' ⟨rfl, w1, hb, rfl⟩
      have hpl := lt_of_heap hA
      have hgl := lt_of_heap hG
      have p1 := (heap_setCell_other w1 ⟨g, off + (ls.length - 1) * 2, none⟩ p (.int .i64 (ls[ls.length - 1].1 + n : Nat)) (Ne.symm hne)).trans ((hb.block p hpl).trans hA)
      have g1 := heap_setCell_same w1 g (off + (ls.length - 1) * 2) cur _ (.int .i64 (ls[ls.length - 1].1 + n : Nat)) ((hb.block g hgl).trans hG)
      refine ⟨rfl, g, .inr ⟨hne, off, cap, _, ?_, g1, ?_, by simpa using h4, ?_⟩, ⟨hb.os, hb.tape, hb.output, by simpa using hb.size, fun k hk k1 k2 => ?_⟩, .inl rfl⟩
      · rw [inL_same ls n c h he, List.length_set]; exact p1
      · rw [inL_same ls n c h he, List.length_set]; exact h3
      · intro i hi
        simp only [inL_same ls n c h he, List.length_set] at hi ⊢
        have h6 := h5 i hi
        by_cases hil : i = ls.length - 1
        · subst hil
          rw [Array.getElem?_setIfInBounds_self_of_lt (by omega), Array.getElem?_setIfInBounds_ne (by omega)]
          simp [h6.2]
        · rw [Array.getElem?_setIfInBounds_ne (by omega), Array.getElem?_setIfInBounds_ne (by omega), List.getElem_set_ne (by omega)]
          exact h6
      · rw [heap_setCell_other _ _ _ _ k2]
        exact hb.block k hk
    · have he : ∀ h : ls.length - 1 < ls.length, ls[ls.length - 1].2 ≠ c := fun h e => hq ⟨h, e⟩
      have e : inL ls n c = ls ++ [(n, c)] := by
        rcases Nat.eq_zero_or_pos ls.length with h0 | h0
        · obtain rfl := List.eq_nil_of_length_eq_zero h0; rfl
        · exact inL_other ls n c (by omega) (he (by omega))
      rw [e]
      exact rin_new p g off cap ls cur n c w hL0 hk hlen hn1 hn2 hc2 he hne hA hG h3 h4 h5

end Go.Proofs.YtphgakobfegpcaaGreatDoor
namespace Go.Proofs.YtphgakobfegpcaaGreatDoor
open Go.RowKit

/-- What is left of a layer. -/
def remL (m : Nat) (x : Nat × Nat) : Ls := if m < x.1 then [(x.1 - m, x.2)] else []
theorem remL_some {m : Nat} {x : Nat × Nat} (h : m < x.1) : remL m x = [(x.1 - m, x.2)] := if_pos h
theorem remL_none {m : Nat} {x : Nat × Nat} (h : ¬ m < x.1) : remL m x = [] := if_neg h
theorem outL_snoc (l : Ls) (x : Nat × Nat) (n : Nat) (hx : 1 ≤ x.1) : (outL (l ++ [x]) n).2 = (outL l n).2 ++ remL (n - hasL l) x := by
  induction l generalizing n with
  | nil =>
    rw [List.nil_append, show n - hasL [] = n from rfl]
    by_cases h : n < x.1
    · rw [outL_part _ _ _ h, remL_some h]; rfl
    · rw [outL_full _ _ _ (by omega), remL_none h]; rfl
  | cons y r ih =>
    rw [List.cons_append]
    by_cases h : n < y.1
    · rw [outL_part _ _ _ h, outL_part _ _ _ h, remL_some (by simp only [hasL]; omega)]
      rw [show n - hasL (y :: r) = 0 by simp only [hasL]; omega, Nat.sub_zero]; rfl
    · rw [outL_full _ _ _ (by omega), outL_full _ _ _ (by omega)]
      simp only
      rw [ih, show n - hasL (y :: r) = n - y.1 - hasL r by simp only [hasL]; omega]
theorem outL_take (l : Ls) (k n : Nat) (h : k < l.length) (hk : ∀ x ∈ l, 1 ≤ x.1) : (outL (l.take (k + 1)) n).2 = (outL (l.take k) n).2 ++ remL (n - hasL (l.take k)) l[k] := by
  rw [List.take_succ_eq_append_getElem h]
  exact outL_snoc _ _ _ (hk _ (List.getElem_mem h))
theorem oldsL_append (a b : Ls) : oldsL (a ++ b) = oldsL a ++ oldsL b := by
  induction a with
  | nil => rfl
  | cons x r ih => simp only [List.cons_append, oldsL, ih]

/-- A row of the call's own, stored into the block. -/
theorem LayT.own {tp te : TypeId} {w w1 : World} {p g : Nat} {ls : Ls} {v0 v : Value} (hb : Below w.heap.size w w1) (hA : w.heap[p]? = some (.cells #[v0] tp (0, 0))) (ho : w1.ownsRow w.heap.size te 2 v ls.length (oldsL ls)) :
    (∃ g', LayT tp te (w1.setCell ⟨p, 0, none⟩ v) p g' ls ∧ (g' = p ∨ w.heap.size ≤ g')) ∧ Only p g w (w1.setCell ⟨p, 0, none⟩ v) := by
  have hpl := lt_of_heap hA
  have bA := (hb.block p hpl).trans hA
  have p3 := heap_setCell_same _ p 0 _ tp v bA
  refine ⟨?_, ⟨hb.os, hb.tape, hb.output, by simpa using hb.size, fun k hk k1 _ => (heap_setCell_other _ _ _ _ k1).trans (hb.block k hk)⟩⟩
  rcases ho.2 with ⟨rfl, h0⟩ | ⟨gg, cap, cur, rfl, h1, h2, h3, h4, h5, h6⟩
  · exact ⟨p, .inl ⟨List.eq_nil_of_length_eq_zero h0, rfl, by simpa using p3⟩, .inl rfl⟩
  · have hne : gg ≠ p := by omega
    have g3 := (heap_setCell_other _ ⟨p, 0, none⟩ gg (.slice (some ⟨gg, 0, none⟩) ls.length cap) hne).trans h2
    refine ⟨gg, .inr ⟨hne, 0, cap, cur, by simpa using p3, g3, h3, by omega, fun i hi => ?_⟩, .inr h1⟩
    have hg := oldsL_get ls i hi
    rw [← h6] at hg
    rw [List.getElem?_take_of_lt (by omega), List.getElem?_take_of_lt (by omega), Array.getElem?_toList, Array.getElem?_toList] at hg
    simpa using hg

set_option maxHeartbeats 400000 in
theorem rout_bound (p : Nat) (n : Int) (w : World) (h : n < 1 ∨ 1099511627776 < n) :
    Calls Tryz.prog 57 #[.pointer (some ⟨p, 0, none⟩), .int .i64 n] w fun e w' => e = .returned (.tuple #[.int .i64 0, .int .i64 2]) ∧ Below w.heap.size w w' := by
  by_cases h1 : n < 1
  · go_enter Tryz.func57, Tryz.ntmps57
    go_wp2
    go_ret2
    exact ⟨rfl, Below.refl _ _⟩
  · have h2 : 1099511627776 < n := by omega
    go_enter Tryz.func57, Tryz.ntmps57
    go_wp2
    go_ret2
    exact ⟨rfl, Below.refl _ _⟩

set_option maxHeartbeats 400000 in
theorem rout_short (p g : Nat) (ls : Ls) (n : Int) (w : World) (hL : LayR w p g ls) (hk : OkL ls) (hlen : ls.length ≤ 1000000) (h1 : 1 ≤ n) (h2 : n ≤ 1099511627776) (h3 : (hasL ls : Int) < n) :
    Calls Tryz.prog 57 #[.pointer (some ⟨p, 0, none⟩), .int .i64 n] w fun e w' => e = .returned (.tuple #[.int .i64 0, .int .i64 9]) ∧ Below w.heap.size w w' := by
  go_enter Tryz.func57, Tryz.ntmps57
  go_wp2_with fail
  refine (rhas_any p g ls _ hL hk hlen).mono ?_
  rintro e w1 ⟨rfl, hb⟩
  go_wp2
  go_ret2
  exact ⟨rfl, hb⟩

set_option maxHeartbeats 1600000 in
set_option maxRecDepth 100000 in
theorem rout_yes (p g : Nat) (ls : Ls) (n : Nat) (w : World) (hL : LayR w p g ls) (hk : OkL ls) (hlen : ls.length ≤ 1000000) (h1 : 1 ≤ n) (h3 : n ≤ hasL ls) :
    Calls Tryz.prog 57 #[.pointer (some ⟨p, 0, none⟩), .int .i64 (n : Nat)] w fun e w' => e = .returned (.tuple #[.int .i64 ((outL ls n).1 : Nat), .int .i64 0]) ∧
      (∃ g', LayR w' p g' (outL ls n).2 ∧ (g' = p ∨ w.heap.size ≤ g')) ∧ Only p g w w' := by
  obtain ⟨i0, hi, hz0, hz1, hz2⟩ := info_parts rlayerInfo
  have hh := hk.has
  have hlt := hL.lt
  have KL := Lib.hid hk
  go_enter Tryz.func57, Tryz.ntmps57
  go_wp2_with fail
  refine (rhas_any p g ls _ hL hk hlen).mono ?_
  rintro e w1 ⟨rfl, b1⟩
  have L1 := hL.below b1
  go_wp2_with fail
  refine (rworth_any p g ls _ L1 hk hlen).mono ?_
  rintro e w2 ⟨rfl, b2⟩
  have L2 := L1.below b2
  have bb2 := b1.trans (b2.mono b1.size)
  obtain ⟨A, cap, hA, hc1, hc2, hcell⟩ := L2.reads
  have HC := Lib.hid hcell
  have hp2 := Nat.lt_of_lt_of_le hlt.1 bb2.size
  have hg2 := Nat.lt_of_lt_of_le hlt.2 bb2.size
  clear hcell
  go_wp2
  go_loopw [1, 7, 8] (fun nn left i wr => ∃ k : Nat, k ≤ ls.length ∧ i = .int .i64 k ∧ nn = .int .i64 (n - hasL (ls.take k) : Nat) ∧
    wr.ownsRow w2.heap.size 126 2 left (outL (ls.take k) n).2.length (oldsL (outL (ls.take k) n).2) ∧ Below w2.heap.size w2 wr) (fun _ _ i _ => ls.length - (intOf i).toNat)
  case atStart => exact ⟨0, by omega, rfl, by simp [hasL], World.ownsRow_nil _ _ _ _, Below.refl _ _⟩
  case round =>
    obtain ⟨k, hkl, rfl, rfl, hown, hb⟩ := hrel
    have dA := (hb.cell (p := ⟨p, 0, none⟩) hp2).trans hA
    by_cases hkn : k < ls.length
    · obtain ⟨off, rfl, hcells⟩ := HC.out (by omega)
      obtain ⟨c1, c2⟩ := hcells k hkn
      have d1 := (hb.cell (p := ⟨g, off + k * 2, none⟩) hg2).trans c1
      have d2 := (hb.cell (p := ⟨g, off + k * 2 + 1, none⟩) hg2).trans c2
      have q1 : ls[k].1 ≤ 1099511627776 := Nat.le_trans (of_mem_has ls k hkn) hh
      have q2 : ls[k].2 ≤ 1048576 := KL.out.cost _ (List.getElem_mem hkn)
      have HO := Lib.hid (outL_take ls k n hkn KL.out.pos)
      have hts := hasL_take ls k hkn
      obtain ⟨xn, hxn⟩ : ∃ xn, xn = ls[k].1 := ⟨_, rfl⟩
      obtain ⟨xc, hxc⟩ : ∃ xc, xc = ls[k].2 := ⟨_, rfl⟩
      rw [← hxn] at d1 q1 hts
      rw [← hxc] at d2 q2
      have HX := Lib.hid (show ls[k] = (xn, xc) by rw [hxn, hxc])
      rw [HX.out] at HO
      clear c1 c2 hcells hxn hxc
      obtain ⟨m, hm⟩ : ∃ m, m = n - hasL (ls.take k) := ⟨_, rfl⟩
      have hm1 : n - hasL (ls.take (k + 1)) = m - xn := by omega
      have hmb : m ≤ 1099511627776 := by omega
      rw [← hm] at HO ⊢
      have HM1 := Lib.hid hm1
      clear hm hm1 hts
      have hll : (outL (ls.take k) n).2.length ≤ 1000000 := Nat.le_trans (outL_length _ _) (by rw [List.length_take]; omega)
      have HOWN := Lib.hid hown
      obtain ⟨lk, hlk⟩ : ∃ lk, lk = (outL (ls.take k) n).2 := ⟨_, rfl⟩
      rw [← hlk] at HO hll HOWN hown
      clear hlk
      by_cases hc : m < xn
      · have HR := Lib.hid (remL_some (m := m) (x := (xn, xc)) hc)
        have hB : Below wr.heap.size wr ((wr.alloc (.cells #[.int .i64 ((xn : Int) - m), .int .i64 (xc : Nat)] 126)).alloc (.cells #[.int .i64 ((xn : Int) - m), .int .i64 (xc : Nat)] 126)) :=
          ((Below.refl _ _).alloc (Nat.le_refl _) _).alloc (by simp) _
        go_wp2_with (at_builtin; refine wpList_append_lies _ rfl (.tmp 56) (.tmp 58) 107 rfl w2.heap.size 126 i0 (.agg #[.int .i64 0, .int .i64 0]) 2 16 Tryz.underlying107 hi hz0 hz1 hz2 rfl (by decide) u7 lk.length (oldsL lk) rfl (own_below HOWN.out hB) ⟨wr.heap.size + 1, 0, none⟩ 1 1 [.int .i64 ((xn : Int) - m), .int .i64 (xc : Nat)] rfl rfl ?c1 ?c2 (by omega) ?b1 ?b2 ?base _ rfl ?k)
        case c2 => exact ⟨rfl, rfl⟩
        case b1 => unfold maxLen; omega
        case b2 => omega
        case base => have := hb.size; simp; omega
        case k =>
          intro gg cap' w3 hown3 hgrow hat hlt3
          have hbel : Below w2.heap.size w2 w3 := (hb.trans (hB.mono hb.size)).grown hgrow (by have := hb.size; simp; omega) (fun j hj => (HOWN.out.lt j hj).1)
          have FIN := Lib.hid (And.intro hown3 hbel)
          clear hown3 hgrow hat hlt3 hbel
          go_wp2
          refine ⟨⟨k + 1, by omega, by simp, by rw [HM1.out]; congr 1; omega, ?_, FIN.out.2⟩, by simp [intOf]; omega⟩
          rw [HO.out, HR.out, oldsL_append, List.length_append]
          have := FIN.out.1
          simp only [oldsL, List.length_cons, List.length_nil]
          rw [show ((xn - m : Nat) : Int) = (xn : Int) - m by omega]
          exact this
      · have hc' : xn ≤ m := by omega
        have HR := Lib.hid (remL_none (m := m) (x := (xn, xc)) hc)
        have hB := Below.alloc (Below.refl wr.heap.size wr) (Nat.le_refl _) (.cells #[.int .i64 0, .int .i64 (xc : Nat)] 126)
        go_wp2
        refine ⟨⟨k + 1, by omega, by simp, by rw [HM1.out]; congr 1; omega, ?_, hb.trans (hB.mono hb.size)⟩, by simp [intOf]; omega⟩
        rw [HO.out, HR.out, List.append_nil]
        exact own_below HOWN.out hB
    · have hkn : ls.length ≤ k := by omega
      obtain rfl : k = ls.length := by omega
      rw [List.take_of_length_le (Nat.le_refl _)] at hown
      have hAw : ∃ v0, w.heap[p]? = some (.cells #[v0] 109 (0, 0)) := by
        rcases hL with ⟨_, _, h⟩ | ⟨_, _, _, _, h, _⟩
        · exact ⟨_, h⟩
        · exact ⟨_, h⟩
      obtain ⟨v0, hAw⟩ := hAw
      have hbw : Below w.heap.size w wr := bb2.trans (hb.mono bb2.size)
      have hown' : wr.ownsRow w.heap.size 126 2 u7 (outL ls n).2.length (oldsL (outL ls n).2) := by
        refine ⟨hown.1, ?_⟩
        rcases hown.2 with h | ⟨gg, cap', cur, h1, h2, h3⟩
        · exact .inl h
        · exact .inr ⟨gg, cap', cur, h1, Nat.le_trans bb2.size h2, h3⟩
      have FIN := Lib.hid (LayT.own (g := g) hbw hAw hown')
      have fA : wr.frozen? ⟨p, 0, none⟩ = false := free_of_block ((hbw.block p hlt.1).trans hAw) 0
      have hokf := outL_ok ls n KL.out h3
      have hlf := Nat.le_trans (outL_length ls n) hlen
      have hwf := outL_worth ls n
      have hwb := KL.out.worth
      have HU : (∃ gg cap', u7 = .slice (some ⟨gg, 0, none⟩) (outL ls n).2.length cap') ∨ u7 = .slice none 0 0 := by
        rcases hown.2 with ⟨h, _⟩ | ⟨gg, cap', cur, h1, _⟩
        · exact .inr h
        · exact .inl ⟨_, _, h1⟩
      clear hown hown' hA
      rcases HU with ⟨gg, cap', rfl⟩ | rfl
      · go_wp2_with fail
        obtain ⟨⟨g', lf, df⟩, of⟩ := FIN.out
        refine (rworth_any p g' _ _ lf hokf hlf).mono ?_
        rintro e w4 ⟨rfl, b4⟩
        have lf4 := lf.below b4
        have of4 := of.trans (Only.of_below (p := p) (g := g) b4) (.inl rfl)
        have HE := Lib.hid (show ((worthL ls : Nat) : Int) - (worthL (outL ls n).2 : Nat) = ((outL ls n).1 : Nat) by omega)
        clear FIN
        go_wp2
        go_ret2
        refine ⟨?_, ⟨g', lf4, df⟩, of4⟩
        rw [← HE.out]; rfl
      · go_wp2_with fail
        obtain ⟨⟨g', lf, df⟩, of⟩ := FIN.out
        refine (rworth_any p g' _ _ lf hokf hlf).mono ?_
        rintro e w4 ⟨rfl, b4⟩
        have lf4 := lf.below b4
        have of4 := of.trans (Only.of_below (p := p) (g := g) b4) (.inl rfl)
        have HE := Lib.hid (show ((worthL ls : Nat) : Int) - (worthL (outL ls n).2 : Nat) = ((outL ls n).1 : Nat) by omega)
        clear FIN
        go_wp2
        go_ret2
        refine ⟨?_, ⟨g', lf4, df⟩, of4⟩
        rw [← HE.out]; rfl

end Go.Proofs.YtphgakobfegpcaaGreatDoor
