/- The document's layers: In. -/
import Derived.StillTailTactics
import Derived.Test.YtnblbliehfgnkaaDoorRHas
import Derived.Test.YtnblbliehfgnkaaDoorIn
import Derived.Test.YtnblbliehfgnkaaDoorFlow
namespace Go.Proofs.YtnblbliehfgnkaaDoor
open Go.RowKit

set_option maxHeartbeats 400000 in
theorem rin_no (p g : Nat) (ls : Ls) (n c : Int) (w : World) (hL : LayR w p g ls) (hk : OkL ls) (hlen : ls.length ≤ 1000000)
    (hn : n < 1 ∨ 1099511627776 < n ∨ c < 0 ∨ 1048576 < c ∨ 1099511627776 - (hasL ls : Int) < n) :
    Calls Tryd.prog 24 #[.pointer (some ⟨p, 0, none⟩), .int .i64 n, .int .i64 c] w fun e w' => e = .returned (.int .i64 2) ∧ Below w.heap.size w w' := by
  have hh := hk.has
  by_cases h1 : n < 1
  · go_enter Tryd.func24, Tryd.ntmps24
    go_wp2
    go_ret
    exact ⟨rfl, Below.refl _ _⟩
  by_cases h2 : 1099511627776 < n
  · go_enter Tryd.func24, Tryd.ntmps24
    go_wp2
    go_ret
    exact ⟨rfl, Below.refl _ _⟩
  by_cases h3 : c < 0
  · go_enter Tryd.func24, Tryd.ntmps24
    go_wp2
    go_ret
    exact ⟨rfl, Below.refl _ _⟩
  by_cases h4 : 1048576 < c
  · go_enter Tryd.func24, Tryd.ntmps24
    go_wp2
    go_ret
    exact ⟨rfl, Below.refl _ _⟩
  have h5 : 1099511627776 < (hasL ls : Int) + n := by omega
  go_enter Tryd.func24, Tryd.ntmps24
  go_wp2_with fail
  refine (rhas_any p g ls _ hL hk hlen).mono ?_
  rintro e w1 ⟨rfl, hb⟩
  go_wp2
  go_ret
  exact ⟨rfl, hb⟩

set_option maxHeartbeats 1600000 in
set_option maxRecDepth 100000 in
/-- The last layer cost the same. -/
theorem rin_same (p g off cap : Nat) (ls : Ls) (cur : Array Value) (n c : Nat) (w : World) (hL : LayR w p g ls) (hk : OkL ls) (hlen : ls.length ≤ 1000000) (hn1 : 1 ≤ n) (hn2 : hasL ls + n ≤ 1099511627776) (hc2 : c ≤ 1048576)
    (h : ls.length - 1 < ls.length) (he : ls[ls.length - 1].2 = c) (hA : w.heap[p]? = some (.cells #[.slice (some ⟨g, off, none⟩) ls.length cap] 60 (0, 0))) (hG : w.heap[g]? = some (.cells cur 92 (0, 0)))
    (_ : ls.length ≤ cap) (hcells : ∀ i (h : i < ls.length), cur[off + i * 2]? = some (.int .i64 (ls[i].1 : Nat)) ∧ cur[off + i * 2 + 1]? = some (.int .i64 (ls[i].2 : Nat))) :
    Calls Tryd.prog 24 #[.pointer (some ⟨p, 0, none⟩), .int .i64 (n : Nat), .int .i64 (c : Nat)] w fun e w' => e = .returned (.int .i64 0) ∧
      ∃ w1, Below w.heap.size w w1 ∧ w' = w1.setCell ⟨g, off + (ls.length - 1) * 2, none⟩ (.int .i64 (ls[ls.length - 1].1 + n : Nat)) := by
  have hh := hk.has
  have hlt := hL.lt
  obtain ⟨c1, c2⟩ := hcells _ h
  rw [← cell_of_block hG] at c1 c2
  have cA : w.cell? ⟨p, 0, none⟩ = some (.slice (some ⟨g, off, none⟩) ls.length cap) := by rw [cell_of_block hA]; rfl
  have fG := free_of_block hG (off + (ls.length - 1) * 2)
  go_enter Tryd.func24, Tryd.ntmps24
  go_wp2_with fail
  refine (rhas_any p g ls _ hL hk hlen).mono ?_
  rintro e w1 ⟨rfl, hb⟩
  have hb' := Lib.hid hb
  have d1 := (hb.cell (p := ⟨g, off + (ls.length - 1) * 2, none⟩) hlt.2).trans c1
  have d2 := (hb.cell (p := ⟨g, off + (ls.length - 1) * 2 + 1, none⟩) hlt.2).trans c2
  have dA := (hb.cell (p := ⟨p, 0, none⟩) hlt.1).trans cA
  have dF := (hb.frozen (p := ⟨g, off + (ls.length - 1) * 2, none⟩) hlt.2).trans fG
  clear c1 c2 cA fG hb hA hG hL
  have hx : ls[ls.length - 1].1 ≤ hasL ls := by
    have := hasL_set ls (ls.length - 1) h (0, 0)
    simp only at this; omega
  go_wp2_with fail
  go_region
  go_wp2
  go_ret
  exact ⟨rfl, w1.drew, hb'.out.drew, rfl⟩

theorem rlayerInfo : (Tryd.prog.info? 92).map (fun i => (i.zero, i.size, i.bytes)) = some (some (.agg #[.int .i64 0, .int .i64 0]), 2, 16) := by kernel_rfl

set_option maxHeartbeats 400000 in
set_option maxRecDepth 100000 in
/-- A new layer, behind others. -/
theorem rin_new (p g off cap : Nat) (ls : Ls) (cur : Array Value) (n c : Nat) (w : World) (hL : LayR w p g ls) (hk : OkL ls) (hlen : ls.length ≤ 1000000) (hn1 : 1 ≤ n) (hn2 : hasL ls + n ≤ 1099511627776) (hc2 : c ≤ 1048576)
    (he : ∀ h : ls.length - 1 < ls.length, ls[ls.length - 1].2 ≠ c) (hne : g ≠ p) (hA : w.heap[p]? = some (.cells #[.slice (some ⟨g, off, none⟩) ls.length cap] 60 (0, 0))) (hG : w.heap[g]? = some (.cells cur 92 (0, 0)))
    (hcap : ls.length ≤ cap) (hoff : off + cap * 2 ≤ cur.size) (hcells : ∀ i (h : i < ls.length), cur[off + i * 2]? = some (.int .i64 (ls[i].1 : Nat)) ∧ cur[off + i * 2 + 1]? = some (.int .i64 (ls[i].2 : Nat))) :
    Calls Tryd.prog 24 #[.pointer (some ⟨p, 0, none⟩), .int .i64 (n : Nat), .int .i64 (c : Nat)] w fun e w' => e = .returned (.int .i64 0) ∧
      ∃ g', LayR w' p g' (ls ++ [(n, c)]) ∧ Only p g w w' ∧ (g' = g ∨ w.heap.size ≤ g') := by
  obtain ⟨i0, hi, hz0, hz1, hz2⟩ := info_parts rlayerInfo
  have hh := hk.has
  have hlt := hL.lt
  have cA : w.cell? ⟨p, 0, none⟩ = some (.slice (some ⟨g, off, none⟩) ls.length cap) := by rw [cell_of_block hA]; rfl
  have fA := free_of_block hA 0
  have HC := Lib.hid hcells
  clear hcells
  go_enter Tryd.func24, Tryd.ntmps24
  go_wp2_with fail
  refine (rhas_any p g ls _ hL hk hlen).mono ?_
  rintro e w1 ⟨rfl, hb⟩
  have HA := Lib.hid hA
  have HG := Lib.hid hG
  have dA := (hb.cell (p := ⟨p, 0, none⟩) hlt.1).trans cA
  have dF := (hb.frozen (p := ⟨p, 0, none⟩) hlt.1).trans fA
  have hpl0 := hlt.1
  clear hA hG hL
  have hgetc : ∀ j, (w.cell? ⟨g, j, none⟩) = cur[j]? := fun j => cell_of_block HG.out _
  have hgetf : ∀ j, (w.frozen? ⟨g, j, none⟩) = false := fun j => free_of_block HG.out _
  have hgl := hlt.2
  have hpl := hlt.1
  have HGC := Lib.hid hgetc
  have HGF := Lib.hid hgetf
  clear hgetc hgetf
  rcases Nat.eq_zero_or_pos ls.length with h0 | h0
  · obtain rfl := List.eq_nil_of_length_eq_zero h0
    go_wp2_with (at_builtin; refine wpList_append_arg _ rfl (.tmp 66) (.tmp 70) 58 rfl 92 i0 (.agg #[.int .i64 0, .int .i64 0]) 2 16 Tryd.underlying58 hi hz0 hz1 hz2 rfl (by decide) g off 0 cap [] rfl ?lo ?olds ⟨w1.heap.size, 0, none⟩ 1 1 [.int .i64 (n : Nat), .int .i64 (c : Nat)] rfl rfl ?c1 ?c2 ?spare ?b1 ?b2 ?room ?grow)
    case lo => exact rfl
    case olds =>
      intro j u hu; simp at hu
    case c1 => intro j u hj; match j, hj with | 0, hj => simp at hj; subst hj; simp [Addr.add] | 1, hj => simp at hj; subst hj; simp [Addr.add]
    case c2 => intro u hu; simp at hu; rcases hu with rfl | rfl <;> rfl
    case spare =>
      intro hr j hj
      have hj : j < 2 := hj
      rw [World.cell?_alloc_past _ _ _ (by have := hb.size; simp; omega), World.frozen?_alloc_past _ _ _ (by have := hb.size; simp; omega), hb.cell hgl, hb.frozen hgl, HGC.out, HGF.out]
      refine ⟨?_, rfl⟩
      rw [Array.getElem?_eq_getElem (by omega)]; rfl
    case b1 => unfold maxLen; omega
    case b2 => omega
    case room =>
      intro hr
      have hR := Lib.hid (LayT.room (tp := 60) (te := 92) (ls := []) n c (hb.alloc hb.size (.cells #[.int .i64 (n : Nat), .int .i64 (c : Nat)] 92)) hne HA.out HG.out hr hoff HC.out)
      have k0 : ((w1.alloc (.cells #[.int .i64 (n : Nat), .int .i64 (c : Nat)] 92)).setCells g (off + 0 * 2) [.int .i64 (n : Nat), .int .i64 (c : Nat)]).cell? ⟨p, 0, none⟩ = some (.slice (some ⟨g, off, none⟩) 0 cap) :=
        (World.cell?_setCells_out _ _ _ _ _ (fun h => absurd h (Ne.symm hne))).trans ((World.cell?_alloc_past _ _ _ (Nat.lt_of_lt_of_le hpl hb.size)).trans dA)
      have k1 : ((w1.alloc (.cells #[.int .i64 (n : Nat), .int .i64 (c : Nat)] 92)).setCells g (off + 0 * 2) [.int .i64 (n : Nat), .int .i64 (c : Nat)]).frozen? ⟨p, 0, none⟩ = false :=
        (World.frozen?_setCells _ _ _ _ _).trans ((World.frozen?_alloc_past _ _ _ (Nat.lt_of_lt_of_le hpl hb.size)).trans dF)
      simp only [Nat.zero_mul, Nat.add_zero, List.nil_append, List.length_nil, Nat.zero_add] at hR k0 k1 ⊢
      obtain ⟨W, hW⟩ : ∃ W, W = (w1.alloc (.cells #[.int .i64 (n : Nat), .int .i64 (c : Nat)] 92)).setCells g off [.int .i64 (n : Nat), .int .i64 (c : Nat)] := ⟨_, rfl⟩
      rw [← hW] at hR k0 k1 ⊢
      clear hW
      go_wp2
      go_ret
      exact ⟨rfl, g, hR.out.1, hR.out.2, .inl rfl⟩
    case grow =>
      intro hg v' w' hown hgrow
      have hbel : Below w.heap.size w w' := (hb.alloc hb.size _).grown hgrow (by have := hb.size; simp; omega) (fun k h => by cases h)
      obtain ⟨gg, cap', cur', rfl, hnew, hG', hc1, hc2, hs, hx⟩ : ∃ gg cap' cur', v' = .slice (some ⟨gg, 0, none⟩) (0 + 1) cap' ∧ w.heap.size ≤ gg ∧ w'.heap[gg]? = some (.cells cur' 92 (0, 0)) ∧ 0 + 1 ≤ cap' ∧ cap' ≤ maxLen ∧ cur'.size = cap' * 2 ∧ cur'.toList.take ((0 + 1) * 2) = [] ++ [.int .i64 (n : Nat), .int .i64 (c : Nat)] := by
        rcases hown.2 with ⟨_, h⟩ | ⟨gg, cap', cur', h1, h2, h3, h4, h5, h6, h7⟩
        · omega
        · exact ⟨gg, cap', cur', h1, by have := hb.size; omega, h3, h4, h5, h6, h7⟩
      have hR := Lib.hid (LayT.grown (g := g) (tp := 60) (te := 92) (ls := []) n c hbel HA.out hnew hG' hc1 hs [] hx rfl (fun i h => by simp at h))
      have k0 := (hbel.cell (p := ⟨p, 0, none⟩) hpl).trans cA
      have k1 := (hbel.frozen (p := ⟨p, 0, none⟩) hpl).trans fA
      clear hown hx hG' hs
      go_wp2
      go_ret
      exact ⟨rfl, gg, hR.out.1, hR.out.2, .inr hnew⟩
  · have h : ls.length - 1 < ls.length := by omega
    have he' := he h
    obtain ⟨c1, c2⟩ := HC.out _ h
    rw [← HGC.out] at c1 c2
    have d1 := (hb.cell (p := ⟨g, off + (ls.length - 1) * 2, none⟩) hlt.2).trans c1
    have d2 := (hb.cell (p := ⟨g, off + (ls.length - 1) * 2 + 1, none⟩) hlt.2).trans c2
    clear c1 c2
    go_wp2_with (at_builtin; refine wpList_append_arg _ rfl (.tmp 66) (.tmp 70) 58 rfl 92 i0 (.agg #[.int .i64 0, .int .i64 0]) 2 16 Tryd.underlying58 hi hz0 hz1 hz2 rfl (by decide) g off ls.length cap (oldsL ls) rfl ?lo ?olds ⟨w1.heap.size, 0, none⟩ 1 1 [.int .i64 (n : Nat), .int .i64 (c : Nat)] rfl rfl ?c1 ?c2 ?spare ?b1 ?b2 ?room ?grow)
    case lo => exact oldsL_length ls
    case olds =>
      intro j u hu
      have hj : j < ls.length * 2 := by have := (List.getElem?_eq_some_iff.1 hu).1; rw [oldsL_length] at this; exact this
      rw [World.cell?_alloc_past _ _ _ (Nat.lt_of_lt_of_le hgl hb.size), hb.cell hgl, HGC.out, oldsL_at HC.out j hj]
      exact hu
    case c1 => intro j u hj; match j, hj with | 0, hj => simp at hj; subst hj; simp [Addr.add] | 1, hj => simp at hj; subst hj; simp [Addr.add]
    case c2 => intro u hu; simp at hu; rcases hu with rfl | rfl <;> rfl
    case spare =>
      intro hr j hj
      have hj : j < 2 := hj
      rw [World.cell?_alloc_past _ _ _ (by have := hb.size; simp; omega), World.frozen?_alloc_past _ _ _ (by have := hb.size; simp; omega), hb.cell hgl, hb.frozen hgl, HGC.out, HGF.out]
      refine ⟨?_, rfl⟩
      rw [Array.getElem?_eq_getElem (by omega)]; rfl
    case b1 => unfold maxLen; omega
    case b2 => omega
    case room =>
      intro hr
      have hR := Lib.hid (LayT.room (tp := 60) (te := 92) (ls := ls) n c (hb.alloc hb.size (.cells #[.int .i64 (n : Nat), .int .i64 (c : Nat)] 92)) hne HA.out HG.out hr hoff HC.out)
      have k0 : ((w1.alloc (.cells #[.int .i64 (n : Nat), .int .i64 (c : Nat)] 92)).setCells g (off + ls.length * 2) [.int .i64 (n : Nat), .int .i64 (c : Nat)]).cell? ⟨p, 0, none⟩ = some (.slice (some ⟨g, off, none⟩) ls.length cap) :=
        (World.cell?_setCells_out _ _ _ _ _ (fun h => absurd h (Ne.symm hne))).trans ((World.cell?_alloc_past _ _ _ (Nat.lt_of_lt_of_le hpl hb.size)).trans dA)
      have k1 : ((w1.alloc (.cells #[.int .i64 (n : Nat), .int .i64 (c : Nat)] 92)).setCells g (off + ls.length * 2) [.int .i64 (n : Nat), .int .i64 (c : Nat)]).frozen? ⟨p, 0, none⟩ = false :=
        (World.frozen?_setCells _ _ _ _ _).trans ((World.frozen?_alloc_past _ _ _ (Nat.lt_of_lt_of_le hpl hb.size)).trans dF)
      simp only [Nat.add_assoc] at hR k0 k1 ⊢
      obtain ⟨W, hW⟩ : ∃ W, W = (w1.alloc (.cells #[.int .i64 (n : Nat), .int .i64 (c : Nat)] 92)).setCells g (off + ls.length * 2) [.int .i64 (n : Nat), .int .i64 (c : Nat)] := ⟨_, rfl⟩
      rw [← hW] at hR k0 k1 ⊢
      clear hW
      go_wp2
      go_ret
      exact ⟨rfl, g, hR.out.1, hR.out.2, .inl rfl⟩
    case grow =>
      intro hg v' w' hown hgrow
      have hbel : Below w.heap.size w w' := (hb.alloc hb.size _).grown hgrow (by have := hb.size; simp; omega) (fun k h => by cases h)
      obtain ⟨gg, cap', cur', rfl, hnew, hG', hc1, hc2, hs, hx⟩ : ∃ gg cap' cur', v' = .slice (some ⟨gg, 0, none⟩) (ls.length + 1) cap' ∧ w.heap.size ≤ gg ∧ w'.heap[gg]? = some (.cells cur' 92 (0, 0)) ∧ ls.length + 1 ≤ cap' ∧ cap' ≤ maxLen ∧ cur'.size = cap' * 2 ∧ cur'.toList.take ((ls.length + 1) * 2) = (oldsL ls) ++ [.int .i64 (n : Nat), .int .i64 (c : Nat)] := by
        rcases hown.2 with ⟨_, h⟩ | ⟨gg, cap', cur', h1, h2, h3, h4, h5, h6, h7⟩
        · omega
        · exact ⟨gg, cap', cur', h1, by have := hb.size; omega, h3, h4, h5, h6, h7⟩
      have hR := Lib.hid (LayT.grown (g := g) (tp := 60) (te := 92) (ls := ls) n c hbel HA.out hnew hG' hc1 hs (oldsL ls) hx (oldsL_length ls) (oldsL_get ls))
      have k0 := (hbel.cell (p := ⟨p, 0, none⟩) hpl).trans cA
      have k1 := (hbel.frozen (p := ⟨p, 0, none⟩) hpl).trans fA
      clear hown hx hG' hs
      go_wp2
      go_ret
      exact ⟨rfl, gg, hR.out.1, hR.out.2, .inr hnew⟩

set_option maxHeartbeats 400000 in
set_option maxRecDepth 100000 in
/-- The first layer. -/
theorem rin_first (p : Nat) (n c : Nat) (w : World) (hn1 : 1 ≤ n) (hn2 : n ≤ 1099511627776) (hc2 : c ≤ 1048576) (hA : w.heap[p]? = some (.cells #[.slice none 0 0] 60 (0, 0))) :
    Calls Tryd.prog 24 #[.pointer (some ⟨p, 0, none⟩), .int .i64 (n : Nat), .int .i64 (c : Nat)] w fun e w' => e = .returned (.int .i64 0) ∧
      ∃ g', LayR w' p g' [(n, c)] ∧ Only p p w w' ∧ w.heap.size ≤ g' := by
  obtain ⟨i0, hi, hz0, hz1, hz2⟩ := info_parts rlayerInfo
  have hpl := lt_of_heap hA
  have cA : w.cell? ⟨p, 0, none⟩ = some (.slice none 0 0) := by rw [cell_of_block hA]; rfl
  have fA := free_of_block hA 0
  have hL : LayR w p p [] := .inl ⟨rfl, rfl, hA⟩
  go_enter Tryd.func24, Tryd.ntmps24
  go_wp2_with fail
  refine (rhas_any p p [] _ hL ⟨by simp [hasL], by simp, by simp⟩ (by simp)).mono ?_
  rintro e w1 ⟨rfl, hb⟩
  have HA := Lib.hid hA
  have dA := (hb.cell (p := ⟨p, 0, none⟩) hpl).trans cA
  have dF := (hb.frozen (p := ⟨p, 0, none⟩) hpl).trans fA
  have hh : hasL [] = 0 := rfl
  clear hA hL
  go_wp2_with (at_builtin; refine wpList_append_grows _ rfl (.tmp 66) (.tmp 70) 58 rfl 92 i0 (.agg #[.int .i64 0, .int .i64 0]) 2 16 Tryd.underlying58 hi hz0 hz1 hz2 rfl (by decide) none 0 0 [] rfl (fun _ => ⟨rfl, rfl⟩) rfl (by intro b hb; cases hb) ⟨w1.heap.size, 0, none⟩ 1 1 [.int .i64 (n : Nat), .int .i64 (c : Nat)] rfl rfl ?c1 ?c2 (by omega) (by unfold maxLen; omega) (by omega) ?grow)
  case c1 => intro j u hj; match j, hj with | 0, hj => simp at hj; subst hj; simp [Addr.add] | 1, hj => simp at hj; subst hj; simp [Addr.add]
  case c2 => intro u hu; simp at hu; rcases hu with rfl | rfl <;> rfl
  case grow =>
    intro v' w' hown hgrow
    have hbel : Below w.heap.size w w' := (hb.alloc hb.size _).grown hgrow (by have := hb.size; simp; omega) (fun k h => by cases h)
    obtain ⟨gg, cap', cur', rfl, hnew, hG', hc1, hc2, hs, hx⟩ : ∃ gg cap' cur', v' = .slice (some ⟨gg, 0, none⟩) (0 + 1) cap' ∧ w.heap.size ≤ gg ∧ w'.heap[gg]? = some (.cells cur' 92 (0, 0)) ∧ 0 + 1 ≤ cap' ∧ cap' ≤ maxLen ∧ cur'.size = cap' * 2 ∧ cur'.toList.take ((0 + 1) * 2) = [] ++ [.int .i64 (n : Nat), .int .i64 (c : Nat)] := by
      rcases hown.2 with ⟨_, h⟩ | ⟨gg, cap', cur', h1, h2, h3, h4, h5, h6, h7⟩
      · omega
      · exact ⟨gg, cap', cur', h1, by have := hb.size; omega, h3, h4, h5, h6, h7⟩
    have hR := Lib.hid (LayT.grown (g := p) (tp := 60) (te := 92) (ls := []) n c hbel HA.out hnew hG' hc1 hs [] hx rfl (fun i h => by simp at h))
    have k0 := (hbel.cell (p := ⟨p, 0, none⟩) hpl).trans cA
    have k1 := (hbel.frozen (p := ⟨p, 0, none⟩) hpl).trans fA
    clear hown hx hG' hs
    go_wp2
    go_ret
    exact ⟨rfl, gg, hR.out.1, hR.out.2, hnew⟩

/-- Pieces come. -/
theorem rin_yes (p g : Nat) (ls : Ls) (n c : Nat) (w : World) (hL : LayR w p g ls) (hk : OkL ls) (hlen : ls.length ≤ 1000000) (hn1 : 1 ≤ n) (hn2 : hasL ls + n ≤ 1099511627776) (hc2 : c ≤ 1048576) :
    Calls Tryd.prog 24 #[.pointer (some ⟨p, 0, none⟩), .int .i64 (n : Nat), .int .i64 (c : Nat)] w fun e w' => e = .returned (.int .i64 0) ∧
      ∃ g', LayR w' p g' (inL ls n c) ∧ Only p g w w' ∧ (g' = g ∨ w.heap.size ≤ g') := by
  have hL0 := hL
  rcases hL with ⟨rfl, rfl, hA⟩ | ⟨hne, off, cap, cur, hA, hG, h3, h4, h5⟩
  · refine (rin_first _ n c w hn1 (by have : hasL [] = 0 := rfl; omega) hc2 hA).mono ?_
    rintro e w' ⟨rfl, g', h1, h2, h3⟩
    exact ⟨rfl, g', h1, h2, .inr h3⟩
  · by_cases hq : ∃ h : ls.length - 1 < ls.length, ls[ls.length - 1].2 = c
    · obtain ⟨h, he⟩ := hq
      refine (rin_same p g off cap ls cur n c w hL0 hk hlen hn1 hn2 hc2 h he hA hG h3 h5).mono ?_
      rintro e w' ⟨rfl, w1, hb, rfl⟩
      have hpl := lt_of_heap hA
      have hgl := lt_of_heap hG
      have p1 := (heap_setCell_other w1 ⟨g, off + (ls.length - 1) * 2, none⟩ p (.int .i64 (ls[ls.length - 1].1 + n : Nat)) (Ne.symm hne)).trans ((hb.block p hpl).trans hA)
      have g1 := heap_setCell_same w1 g (off + (ls.length - 1) * 2) cur _ (.int .i64 (ls[ls.length - 1].1 + n : Nat)) ((hb.block g hgl).trans hG)
      refine ⟨rfl, g, .inr ⟨hne, off, cap, _, ?_, g1, ?_, by simpa using h4, ?_⟩, ⟨hb.os, hb.tape, hb.output, by simpa using hb.size, fun k hk k1 k2 => ?_⟩, .inl rfl⟩
      · rw [inL_same ls n c h he, List.length_set]; exact p1
      · rw [inL_same ls n c h he, List.length_set]; exact h3
      · intro i hi
        simp only [inL_same ls n c h he, List.length_set] at hi ⊢
        have h6 := h5 i hi
        by_cases hil : i = ls.length - 1
        · subst hil
          rw [Array.getElem?_setIfInBounds_self_of_lt (by omega), Array.getElem?_setIfInBounds_ne (by omega)]
          simp [h6.2]
        · rw [Array.getElem?_setIfInBounds_ne (by omega), Array.getElem?_setIfInBounds_ne (by omega), List.getElem_set_ne (by omega)]
          exact h6
      · rw [heap_setCell_other _ _ _ _ k2]
        exact hb.block k hk
    · have he : ∀ h : ls.length - 1 < ls.length, ls[ls.length - 1].2 ≠ c := fun h e => hq ⟨h, e⟩
      have e : inL ls n c = ls ++ [(n, c)] := by
        rcases Nat.eq_zero_or_pos ls.length with h0 | h0
        · obtain rfl := List.eq_nil_of_length_eq_zero h0; rfl
        · exact inL_other ls n c (by omega) (he (by omega))
      rw [e]
      exact rin_new p g off cap ls cur n c w hL0 hk hlen hn1 hn2 hc2 he hne hA hG h3 h4 h5

end Go.Proofs.YtnblbliehfgnkaaDoor
