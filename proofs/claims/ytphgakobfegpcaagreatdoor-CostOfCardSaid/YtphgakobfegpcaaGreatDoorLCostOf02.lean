/- Layers.In. Layers.Out. -/
import Derived.Test.YtphgakobfegpcaaGreatDoorLCostOf01
namespace Go.Proofs.YtphgakobfegpcaaGreatDoor
open Go.RowKit

set_option maxHeartbeats 400000 in
theorem in_no (a : Addr) (p g : Nat) (ls : Ls) (n c : Int) (w : World) (hE : ErrAt 2 a w) (hL : Lay w p g ls) (hk : OkL ls) (hlen : ls.length ≤ 1000000)
    (hn : n < 1 ∨ 1099511627776 < n ∨ c < 0 ∨ 1048576 < c ∨ 1099511627776 - (hasL ls : Int) < n) :
    Calls Tryz.prog 51 #[.pointer (some ⟨p, 0, none⟩), .int .i64 n, .int .i64 c] w fun e w' => e = .returned (.iface 326 (.pointer (some a))) ∧ Below w.heap.size w w' := by
  have hE' := hE
  unfold ErrAt at hE
  have hh := hk.has
  by_cases h1 : n < 1 ∨ 1099511627776 < n
  · go_enter Tryz.func51, Tryz.ntmps51
    go_wp2_with fail
    refine (within_no n 1 1099511627776 _ h1).mono ?_
    rintro e w1 ⟨rfl, rfl⟩
    go_wp2
    go_ret
    exact ⟨rfl, Below.refl _ _⟩
  · have hn1 : 1 ≤ n := by omega
    have hn2 : n ≤ 1099511627776 := by omega
    by_cases h2 : c < 0 ∨ 1048576 < c
    · go_enter Tryz.func51, Tryz.ntmps51
      go_wp2_with fail
      refine (within_yes n 1 1099511627776 _ hn1 hn2).mono ?_
      rintro e w1 ⟨rfl, rfl⟩
      go_wp2_with fail
      refine (within_no c 0 1048576 _ h2).mono ?_
      rintro e w1 ⟨rfl, rfl⟩
      go_wp2
      go_ret
      exact ⟨rfl, Below.refl _ _⟩
    · have hc1 : 0 ≤ c := by omega
      have hc2 : c ≤ 1048576 := by omega
      have h3 : 1099511627776 - (hasL ls : Int) < n := by omega
      go_enter Tryz.func51, Tryz.ntmps51
      go_wp2_with fail
      refine (within_yes n 1 1099511627776 _ hn1 hn2).mono ?_
      rintro e w1 ⟨rfl, rfl⟩
      go_wp2_with fail
      refine (within_yes c 0 1048576 _ hc1 hc2).mono ?_
      rintro e w1 ⟨rfl, rfl⟩
      go_wp2_with fail
      refine (has_any p g ls _ hL hk hlen).mono ?_
      rintro e w1 ⟨rfl, hb⟩
      have hE1 := hE'.below hb
      unfold ErrAt at hE1
      go_wp2
      go_ret
      exact ⟨rfl, hb⟩

set_option maxHeartbeats 400000 in
/-- The last layer cost the same. -/
theorem in_same (p g off cap : Nat) (ls : Ls) (cur : Array Value) (n c : Nat) (w : World) (hL : Lay w p g ls) (hk : OkL ls) (hlen : ls.length ≤ 1000000) (hn1 : 1 ≤ n) (hn2 : hasL ls + n ≤ 1099511627776) (hc2 : c ≤ 1048576)
    (h : ls.length - 1 < ls.length) (he : ls[ls.length - 1].2 = c) (hA : w.heap[p]? = some (.cells #[.slice (some ⟨g, off, none⟩) ls.length cap] 120 (0, 0))) (hG : w.heap[g]? = some (.cells cur 122 (0, 0)))
    (_ : ls.length ≤ cap) (hcells : ∀ i (h : i < ls.length), cur[off + i * 2]? = some (.int .i64 (ls[i].1 : Nat)) ∧ cur[off + i * 2 + 1]? = some (.int .i64 (ls[i].2 : Nat))) :
    Calls Tryz.prog 51 #[.pointer (some ⟨p, 0, none⟩), .int .i64 (n : Nat), .int .i64 (c : Nat)] w fun e w' => e = .returned .nilIface ∧
      ∃ w1, Below w.heap.size w w1 ∧ w' = w1.setCell ⟨g, off + (ls.length - 1) * 2, none⟩ (.int .i64 (ls[ls.length - 1].1 + n : Nat)) := by
  have hh := hk.has
  have hlt := hL.lt
  obtain ⟨c1, c2⟩ := hcells _ h
  rw [← cell_of_block hG] at c1 c2
  have cA : w.cell? ⟨p, 0, none⟩ = some (.slice (some ⟨g, off, none⟩) ls.length cap) := by rw [cell_of_block hA]; rfl
  have fG := free_of_block hG (off + (ls.length - 1) * 2)
  go_enter Tryz.func51, Tryz.ntmps51
  go_wp2_with fail
  refine (within_yes _ 1 1099511627776 _ (by omega) (by omega)).mono ?_
  rintro e w1 ⟨rfl, rfl⟩
  go_wp2_with fail
  refine (within_yes _ 0 1048576 _ (by omega) (by omega)).mono ?_
  rintro e w1 ⟨rfl, rfl⟩
  go_wp2_with fail
  refine (has_any p g ls _ hL hk hlen).mono ?_
  rintro e w1 ⟨rfl, hb⟩
  have hb' := Lib.hid hb
  have d1 := (hb.cell (p := ⟨g, off + (ls.length - 1) * 2, none⟩) hlt.2).trans c1
  have d2 := (hb.cell (p := ⟨g, off + (ls.length - 1) * 2 + 1, none⟩) hlt.2).trans c2
  have dA := (hb.cell (p := ⟨p, 0, none⟩) hlt.1).trans cA
  have dF := (hb.frozen (p := ⟨g, off + (ls.length - 1) * 2, none⟩) hlt.2).trans fG
  clear c1 c2 cA fG hb hA hG hL
  have hx : ls[ls.length - 1].1 ≤ hasL ls := by
    have := hasL_set ls (ls.length - 1) h (0, 0)
    simp only at this; omega
  go_wp2
  go_ret
  exact ⟨rfl, _, hb'.out, by congr 2⟩

theorem layerInfo : (Tryz.prog.info? 122).map (fun i => (i.zero, i.size, i.bytes)) = some (some (.agg #[.int .i64 0, .int .i64 0]), 2, 16) := by kernel_rfl

/-- The cells of layers. -/
def oldsL : Ls → List Value
  | [] => []
  | x :: r => .int .i64 (x.1 : Nat) :: .int .i64 (x.2 : Nat) :: oldsL r
theorem oldsL_length (l : Ls) : (oldsL l).length = l.length * 2 := by
  induction l with
  | nil => rfl
  | cons x r ih => simp only [oldsL, List.length_cons, ih]; omega
theorem oldsL_get (l : Ls) (i : Nat) (h : i < l.length) : (oldsL l)[i * 2]? = some (.int .i64 (l[i].1 : Nat)) ∧ (oldsL l)[i * 2 + 1]? = some (.int .i64 (l[i].2 : Nat)) := by
  induction l generalizing i with
  | nil => simp at h
  | cons x r ih =>
    cases i with
    | zero => exact ⟨rfl, rfl⟩
    | succ k =>
      have h1 := ih k (by simpa using h)
      rw [show (k + 1) * 2 = k * 2 + 1 + 1 by omega]
      simpa [oldsL] using h1
theorem oldsL_at {l : Ls} {off : Nat} {cur : Array Value} (h : ∀ i (h : i < l.length), cur[off + i * 2]? = some (.int .i64 (l[i].1 : Nat)) ∧ cur[off + i * 2 + 1]? = some (.int .i64 (l[i].2 : Nat))) (j : Nat) (hj : j < l.length * 2) : cur[off + j]? = (oldsL l)[j]? := by
  have hi : j / 2 < l.length := by omega
  obtain ⟨a, b⟩ := h _ hi
  obtain ⟨c, d⟩ := oldsL_get l _ hi
  rcases Nat.mod_two_eq_zero_or_one j with e | e
  · have : j = j / 2 * 2 := by omega
    rw [this, a, c]
  · have : j = j / 2 * 2 + 1 := by omega
    rw [this, ← Nat.add_assoc, b, d]

set_option maxHeartbeats 400000 in
set_option maxRecDepth 100000 in
/-- A new layer, behind others. -/
theorem in_new (p g off cap : Nat) (ls : Ls) (cur : Array Value) (n c : Nat) (w : World) (hL : Lay w p g ls) (hk : OkL ls) (hlen : ls.length ≤ 1000000) (hn1 : 1 ≤ n) (hn2 : hasL ls + n ≤ 1099511627776) (hc2 : c ≤ 1048576)
    (he : ∀ h : ls.length - 1 < ls.length, ls[ls.length - 1].2 ≠ c) (hne : g ≠ p) (hA : w.heap[p]? = some (.cells #[.slice (some ⟨g, off, none⟩) ls.length cap] 120 (0, 0))) (hG : w.heap[g]? = some (.cells cur 122 (0, 0)))
    (hcap : ls.length ≤ cap) (hoff : off + cap * 2 ≤ cur.size) (hcells : ∀ i (h : i < ls.length), cur[off + i * 2]? = some (.int .i64 (ls[i].1 : Nat)) ∧ cur[off + i * 2 + 1]? = some (.int .i64 (ls[i].2 : Nat))) :
    Calls Tryz.prog 51 #[.pointer (some ⟨p, 0, none⟩), .int .i64 (n : Nat), .int .i64 (c : Nat)] w fun e w' => e = .returned .nilIface ∧
      ∃ g', Lay w' p g' (ls ++ [(n, c)]) ∧ Only p g w w' ∧ (g' = g ∨ w.heap.size ≤ g') := by
  obtain ⟨i0, hi, hz0, hz1, hz2⟩ := info_parts layerInfo
  have hh := hk.has
  have hlt := hL.lt
  have cA : w.cell? ⟨p, 0, none⟩ = some (.slice (some ⟨g, off, none⟩) ls.length cap) := by rw [cell_of_block hA]; rfl
  have fA := free_of_block hA 0
  have HC := Lib.hid hcells
  clear hcells
  go_enter Tryz.func51, Tryz.ntmps51
  go_wp2_with fail
  refine (within_yes _ 1 1099511627776 _ (by omega) (by omega)).mono ?_
  rintro e w1 ⟨rfl, rfl⟩
  go_wp2_with fail
  refine (within_yes _ 0 1048576 _ (by omega) (by omega)).mono ?_
  rintro e w1 ⟨rfl, rfl⟩
  go_wp2_with fail
  refine (has_any p g ls _ hL hk hlen).mono ?_
  rintro e w1 ⟨rfl, hb⟩
  have HA := Lib.hid hA
  have HG := Lib.hid hG
  have dA := (hb.cell (p := ⟨p, 0, none⟩) hlt.1).trans cA
  have dF := (hb.frozen (p := ⟨p, 0, none⟩) hlt.1).trans fA
  have hpl0 := hlt.1
  clear hA hG hL
  have hgetc : ∀ j, (w.cell? ⟨g, j, none⟩) = cur[j]? := fun j => cell_of_block HG.out _
  have hgetf : ∀ j, (w.frozen? ⟨g, j, none⟩) = false := fun j => free_of_block HG.out _
  have hgl := hlt.2
  have hpl := hlt.1
  have HGC := Lib.hid hgetc
  have HGF := Lib.hid hgetf
  clear hgetc hgetf
  rcases Nat.eq_zero_or_pos ls.length with h0 | h0
  · obtain rfl := List.eq_nil_of_length_eq_zero h0
    go_wp2_with (at_builtin; refine wpList_append_arg _ rfl (.tmp 60) (.tmp 64) 118 rfl 122 i0 (.agg #[.int .i64 0, .int .i64 0]) 2 16 Tryz.underlying118 hi hz0 hz1 hz2 rfl (by decide) g off 0 cap [] rfl ?lo ?olds ⟨w1.heap.size, 0, none⟩ 1 1 [.int .i64 (n : Nat), .int .i64 (c : Nat)] rfl rfl ?c1 ?c2 ?spare ?b1 ?b2 ?room ?grow)
    case lo => exact rfl
    case olds =>
      intro j u hu; simp at hu
    case c1 => intro j u hj; match j, hj with | 0, hj => simp at hj; subst hj; simp [Addr.add] | 1, hj => simp at hj; subst hj; simp [Addr.add]
    case c2 => intro u hu; simp at hu; rcases hu with rfl | rfl <;> rfl
    case spare =>
      intro hr j hj
      have hj : j < 2 := hj
      rw [World.cell?_alloc_past _ _ _ (by have := hb.size; simp; omega), World.frozen?_alloc_past _ _ _ (by have := hb.size; simp; omega), hb.cell hgl, hb.frozen hgl, HGC.out, HGF.out]
      refine ⟨?_, rfl⟩
      rw [Array.getElem?_eq_getElem (by omega)]; rfl
    case b1 => unfold maxLen; omega
    case b2 => omega
    case room =>
      intro hr
      have hR := Lib.hid (LayT.room (tp := 120) (te := 122) (ls := []) n c (hb.alloc hb.size (.cells #[.int .i64 (n : Nat), .int .i64 (c : Nat)] 122)) hne HA.out HG.out hr hoff HC.out)
      have k0 : ((w1.alloc (.cells #[.int .i64 (n : Nat), .int .i64 (c : Nat)] 122)).setCells g (off + 0 * 2) [.int .i64 (n : Nat), .int .i64 (c : Nat)]).cell? ⟨p, 0, none⟩ = some (.slice (some ⟨g, off, none⟩) 0 cap) :=
        (World.cell?_setCells_out _ _ _ _ _ (fun h => absurd h (Ne.symm hne))).trans ((World.cell?_alloc_past _ _ _ (Nat.lt_of_lt_of_le hpl hb.size)).trans dA)
      have k1 : ((w1.alloc (.cells #[.int .i64 (n : Nat), .int .i64 (c : Nat)] 122)).setCells g (off + 0 * 2) [.int .i64 (n : Nat), .int .i64 (c : Nat)]).frozen? ⟨p, 0, none⟩ = false :=
        (World.frozen?_setCells _ _ _ _ _).trans ((World.frozen?_alloc_past _ _ _ (Nat.lt_of_lt_of_le hpl hb.size)).trans dF)
      simp only [Nat.zero_mul, Nat.add_zero, List.nil_append, List.length_nil, Nat.zero_add] at hR k0 k1 ⊢
      obtain ⟨W, hW⟩ : ∃ W, W = (w1.alloc (.cells #[.int .i64 (n : Nat), .int .i64 (c : Nat)] 122)).setCells g off [.int .i64 (n : Nat), .int .i64 (c : Nat)] := ⟨_, rfl⟩
      rw [← hW] at hR k0 k1 ⊢
      clear hW
      go_wp2
      go_ret
      exact ⟨rfl, g, hR.out.1, hR.out.2, .inl rfl⟩
    case grow =>
      intro hg v' w' hown hgrow
      have hbel : Below w.heap.size w w' := (hb.alloc hb.size _).grown hgrow (by have := hb.size; simp; omega) (fun k h => by cases h)
      obtain ⟨gg, cap', cur', rfl, hnew, hG', hc1, hc2, hs, hx⟩ : ∃ gg cap' cur', v' = .slice (some ⟨gg, 0, none⟩) (0 + 1) cap' ∧ w.heap.size ≤ gg ∧ w'.heap[gg]? = some (.cells cur' 122 (0, 0)) ∧ 0 + 1 ≤ cap' ∧ cap' ≤ maxLen ∧ cur'.size = cap' * 2 ∧ cur'.toList.take ((0 + 1) * 2) = [] ++ [.int .i64 (n : Nat), .int .i64 (c : Nat)] := by
        rcases hown.2 with ⟨_, h⟩ | ⟨gg, cap', cur', h1, h2, h3, h4, h5, h6, h7⟩
        · omega
        · exact ⟨gg, cap', cur', h1, by have := hb.size; omega, h3, h4, h5, h6, h7⟩
      have hR := Lib.hid (LayT.grown (g := g) (tp := 120) (te := 122) (ls := []) n c hbel HA.out hnew hG' hc1 hs [] hx rfl (fun i h => by simp at h))
      have k0 := (hbel.cell (p := ⟨p, 0, none⟩) hpl).trans cA
      have k1 := (hbel.frozen (p := ⟨p, 0, none⟩) hpl).trans fA
      clear hown hx hG' hs
      go_wp2
      go_ret
      exact ⟨rfl, gg, hR.out.1, hR.out.2, .inr hnew⟩
  · have h : ls.length - 1 < ls.length := by omega
    have he' := he h
    obtain ⟨c1, c2⟩ := HC.out _ h
    rw [← HGC.out] at c1 c2
    have d1 := (hb.cell (p := ⟨g, off + (ls.length - 1) * 2, none⟩) hlt.2).trans c1
    have d2 := (hb.cell (p := ⟨g, off + (ls.length - 1) * 2 + 1, none⟩) hlt.2).trans c2
    clear c1 c2
    go_wp2_with (at_builtin; refine wpList_append_arg _ rfl (.tmp 60) (.tmp 64) 118 rfl 122 i0 (.agg #[.int .i64 0, .int .i64 0]) 2 16 Tryz.underlying118 hi hz0 hz1 hz2 rfl (by decide) g off ls.length cap (oldsL ls) rfl ?lo ?olds ⟨w1.heap.size, 0, none⟩ 1 1 [.int .i64 (n : Nat), .int .i64 (c : Nat)] rfl rfl ?c1 ?c2 ?spare ?b1 ?b2 ?room ?grow)
    case lo => exact oldsL_length ls
    case olds =>
      intro j u hu
      have hj : j < ls.length * 2 := by have := (List.getElem?_eq_some_iff.1 hu).1; rw [oldsL_length] at this; exact this
      rw [World.cell?_alloc_past _ _ _ (Nat.lt_of_lt_of_le hgl hb.size), hb.cell hgl, HGC.out, oldsL_at HC.out j hj]
      exact hu
    case c1 => intro j u hj; match j, hj with | 0, hj => simp at hj; subst hj; simp [Addr.add] | 1, hj => simp at hj; subst hj; simp [Addr.add]
    case c2 => intro u hu; simp at hu; rcases hu with rfl | rfl <;> rfl
    case spare =>
      intro hr j hj
      have hj : j < 2 := hj
      rw [World.cell?_alloc_past _ _ _ (by have := hb.size; simp; omega), World.frozen?_alloc_past _ _ _ (by have := hb.size; simp; omega), hb.cell hgl, hb.frozen hgl, HGC.out, HGF.out]
      refine ⟨?_, rfl⟩
      rw [Array.getElem?_eq_getElem (by omega)]; rfl
    case b1 => unfold maxLen; omega
    case b2 => omega
    case room =>
      intro hr
      have hR := Lib.hid (LayT.room (tp := 120) (te := 122) (ls := ls) n c (hb.alloc hb.size (.cells #[.int .i64 (n : Nat), .int .i64 (c : Nat)] 122)) hne HA.out HG.out hr hoff HC.out)
      have k0 : ((w1.alloc (.cells #[.int .i64 (n : Nat), .int .i64 (c : Nat)] 122)).setCells g (off + ls.length * 2) [.int .i64 (n : Nat), .int .i64 (c : Nat)]).cell? ⟨p, 0, none⟩ = some (.slice (some ⟨g, off, none⟩) ls.length cap) :=
        (World.cell?_setCells_out _ _ _ _ _ (fun h => absurd h (Ne.symm hne))).trans ((World.cell?_alloc_past _ _ _ (Nat.lt_of_lt_of_le hpl hb.size)).trans dA)
      have k1 : ((w1.alloc (.cells #[.int .i64 (n : Nat), .int .i64 (c : Nat)] 122)).setCells g (off + ls.length * 2) [.int .i64 (n : Nat), .int .i64 (c : Nat)]).frozen? ⟨p, 0, none⟩ = false :=
        (World.frozen?_setCells _ _ _ _ _).trans ((World.frozen?_alloc_past _ _ _ (Nat.lt_of_lt_of_le hpl hb.size)).trans dF)
      simp only [Nat.add_assoc] at hR k0 k1 ⊢
      obtain ⟨W, hW⟩ : ∃ W, W = (w1.alloc (.cells #[.int .i64 (n : Nat), .int .i64 (c : Nat)] 122)).setCells g (off + ls.length * 2) [.int .i64 (n : Nat), .int .i64 (c : Nat)] := ⟨_, rfl⟩
      rw [← hW] at hR k0 k1 ⊢
      clear hW
      go_wp2
      go_ret
      exact ⟨rfl, g, hR.out.1, hR.out.2, .inl rfl⟩
    case grow =>
      intro hg v' w' hown hgrow
      have hbel : Below w.heap.size w w' := (hb.alloc hb.size _).grown hgrow (by have := hb.size; simp; omega) (fun k h => by cases h)
      obtain ⟨gg, cap', cur', rfl, hnew, hG', hc1, hc2, hs, hx⟩ : ∃ gg cap' cur', v' = .slice (some ⟨gg, 0, none⟩) (ls.length + 1) cap' ∧ w.heap.size ≤ gg ∧ w'.heap[gg]? = some (.cells cur' 122 (0, 0)) ∧ ls.length + 1 ≤ cap' ∧ cap' ≤ maxLen ∧ cur'.size = cap' * 2 ∧ cur'.toList.take ((ls.length + 1) * 2) = (oldsL ls) ++ [.int .i64 (n : Nat), .int .i64 (c : Nat)] := by
        rcases hown.2 with ⟨_, h⟩ | ⟨gg, cap', cur', h1, h2, h3, h4, h5, h6, h7⟩
        · omega
        · exact ⟨gg, cap', cur', h1, by have := hb.size; omega, h3, h4, h5, h6, h7⟩
      have hR := Lib.hid (LayT.grown (g := g) (tp := 120) (te := 122) (ls := ls) n c hbel HA.out hnew hG' hc1 hs (oldsL ls) hx (oldsL_length ls) (oldsL_get ls))
      have k0 := (hbel.cell (p := ⟨p, 0, none⟩) hpl).trans cA
      have k1 := (hbel.frozen (p := ⟨p, 0, none⟩) hpl).trans fA
      clear hown hx hG' hs
      go_wp2
      go_ret
      exact ⟨rfl, gg, hR.out.1, hR.out.2, .inr hnew⟩

set_option maxHeartbeats 400000 in
set_option maxRecDepth 100000 in
/-- The first layer. -/
theorem in_first (p : Nat) (n c : Nat) (w : World) (hn1 : 1 ≤ n) (hn2 : n ≤ 1099511627776) (hc2 : c ≤ 1048576) (hA : w.heap[p]? = some (.cells #[.slice none 0 0] 120 (0, 0))) :
    Calls Tryz.prog 51 #[.pointer (some ⟨p, 0, none⟩), .int .i64 (n : Nat), .int .i64 (c : Nat)] w fun e w' => e = .returned .nilIface ∧
      ∃ g', Lay w' p g' [(n, c)] ∧ Only p p w w' ∧ w.heap.size ≤ g' := by
  obtain ⟨i0, hi, hz0, hz1, hz2⟩ := info_parts layerInfo
  have hpl := lt_of_heap hA
  have cA : w.cell? ⟨p, 0, none⟩ = some (.slice none 0 0) := by rw [cell_of_block hA]; rfl
  have fA := free_of_block hA 0
  have hL : Lay w p p [] := .inl ⟨rfl, rfl, hA⟩
  go_enter Tryz.func51, Tryz.ntmps51
  go_wp2_with fail
  refine (within_yes _ 1 1099511627776 _ (by omega) (by omega)).mono ?_
  rintro e w1 ⟨rfl, rfl⟩
  go_wp2_with fail
  refine (within_yes _ 0 1048576 _ (by omega) (by omega)).mono ?_
  rintro e w1 ⟨rfl, rfl⟩
  go_wp2_with fail
  refine (has_any p p [] _ hL ⟨by simp [hasL], by simp, by simp⟩ (by simp)).mono ?_
  rintro e w1 ⟨rfl, hb⟩
  have HA := Lib.hid hA
  have dA := (hb.cell (p := ⟨p, 0, none⟩) hpl).trans cA
  have dF := (hb.frozen (p := ⟨p, 0, none⟩) hpl).trans fA
  have hh : hasL [] = 0 := rfl
  clear hA hL
  go_wp2_with (at_builtin; refine wpList_append_grows _ rfl (.tmp 60) (.tmp 64) 118 rfl 122 i0 (.agg #[.int .i64 0, .int .i64 0]) 2 16 Tryz.underlying118 hi hz0 hz1 hz2 rfl (by decide) none 0 0 [] rfl (fun _ => ⟨rfl, rfl⟩) rfl (by intro b hb; cases hb) ⟨w1.heap.size, 0, none⟩ 1 1 [.int .i64 (n : Nat), .int .i64 (c : Nat)] rfl rfl ?c1 ?c2 (by omega) (by unfold maxLen; omega) (by omega) ?grow)
  case c1 => intro j u hj; match j, hj with | 0, hj => simp at hj; subst hj; simp [Addr.add] | 1, hj => simp at hj; subst hj; simp [Addr.add]
  case c2 => intro u hu; simp at hu; rcases hu with rfl | rfl <;> rfl
  case grow =>
    intro v' w' hown hgrow
    have hbel : Below w.heap.size w w' := (hb.alloc hb.size _).grown hgrow (by have := hb.size; simp; omega) (fun k h => by cases h)
    obtain ⟨gg, cap', cur', rfl, hnew, hG', hc1, hc2, hs, hx⟩ : ∃ gg cap' cur', v' = .slice (some ⟨gg, 0, none⟩) (0 + 1) cap' ∧ w.heap.size ≤ gg ∧ w'.heap[gg]? = some (.cells cur' 122 (0, 0)) ∧ 0 + 1 ≤ cap' ∧ cap' ≤ maxLen ∧ cur'.size = cap' * 2 ∧ cur'.toList.take ((0 + 1) * 2) = [] ++ [.int .i64 (n : Nat), .int .i64 (c : Nat)] := by
      rcases hown.2 with ⟨_, h⟩ | ⟨gg, cap', cur', h1, h2, h3, h4, h5, h6, h7⟩
      · omega
      · exact ⟨gg, cap', cur', h1, by have := hb.size; omega, h3, h4, h5, h6, h7⟩
    have hR := Lib.hid (LayT.grown (g := p) (tp := 120) (te := 122) (ls := []) n c hbel HA.out hnew hG' hc1 hs [] hx rfl (fun i h => by simp at h))
    have k0 := (hbel.cell (p := ⟨p, 0, none⟩) hpl).trans cA
    have k1 := (hbel.frozen (p := ⟨p, 0, none⟩) hpl).trans fA
    clear hown hx hG' hs
    go_wp2
    go_ret
    exact ⟨rfl, gg, hR.out.1, hR.out.2, hnew⟩

/-- Pieces come. -/
theorem in_yes (p g : Nat) (ls : Ls) (n c : Nat) (w : World) (hL : Lay w p g ls) (hk : OkL ls) (hlen : ls.length ≤ 1000000) (hn1 : 1 ≤ n) (hn2 : hasL ls + n ≤ 1099511627776) (hc2 : c ≤ 1048576) :
    Calls Tryz.prog 51 #[.pointer (some ⟨p, 0, none⟩), .int .i64 (n : Nat), .int .i64 (c : Nat)] w fun e w' => e = .returned .nilIface ∧
      ∃ g', Lay w' p g' (inL ls n c) ∧ Only p g w w' ∧ (g' = g ∨ w.heap.size ≤ g') := by
  have hL0 := hL
  rcases hL with ⟨rfl, rfl, hA⟩ | ⟨hne, off, cap, cur, hA, hG, h3, h4, h5⟩
  · refine (in_first _ n c w hn1 (by have : hasL [] = 0 := rfl; omega) hc2 hA).mono ?_
    rintro e w' ⟨rfl, g', h1, h2, h3⟩
    exact ⟨rfl, g', h1, h2, .inr h3⟩
  · by_cases hq : ∃ h : ls.length - 1 < ls.length, ls[ls.length - 1].2 = c
    · obtain ⟨h, he⟩ := hq
      refine (in_same p g off cap ls cur n c w hL0 hk hlen hn1 hn2 hc2 h he hA hG h3 h5).mono ?_
      rintro e w' ⟨rfl, w1, hb, rfl⟩
      have hpl := lt_of_heap hA
      have hgl := lt_of_heap hG
      have p1 := (heap_setCell_other w1 ⟨g, off + (ls.length - 1) * 2, none⟩ p (.int .i64 (ls[ls.length - 1].1 + n : Nat)) (Ne.symm hne)).trans ((hb.block p hpl).trans hA)
      have g1 := heap_setCell_same w1 g (off + (ls.length - 1) * 2) cur _ (.int .i64 (ls[ls.length - 1].1 + n : Nat)) ((hb.block g hgl).trans hG)
      refine ⟨rfl, g, .inr ⟨hne, off, cap, _, ?_, g1, ?_, by simpa using h4, ?_⟩, ⟨hb.os, hb.tape, hb.output, by simpa using hb.size, fun k hk k1 k2 => ?_⟩, .inl rfl⟩
      · rw [inL_same ls n c h he, List.length_set]; exact p1
      · rw [inL_same ls n c h he, List.length_set]; exact h3
      · intro i hi
        simp only [inL_same ls n c h he, List.length_set] at hi ⊢
        have h6 := h5 i hi
        by_cases hil : i = ls.length - 1
        · subst hil
          rw [Array.getElem?_setIfInBounds_self_of_lt (by omega), Array.getElem?_setIfInBounds_ne (by omega)]
          simp [h6.2]
        · rw [Array.getElem?_setIfInBounds_ne (by omega), Array.getElem?_setIfInBounds_ne (by omega), List.getElem_set_ne (by omega)]
          exact h6
      · rw [heap_setCell_other _ _ _ _ k2]
        exact hb.block k hk
    · have he : ∀ h : ls.length - 1 < ls.length, ls[ls.length - 1].2 ≠ c := fun h e => hq ⟨h, e⟩
      have e : inL ls n c = ls ++ [(n, c)] := by
        rcases Nat.eq_zero_or_pos ls.length with h0 | h0
        · obtain rfl := List.eq_nil_of_length_eq_zero h0; rfl
        · exact inL_other ls n c (by omega) (he (by omega))
      rw [e]
      exact in_new p g off cap ls cur n c w hL0 hk hlen hn1 hn2 hc2 he hne hA hG h3 h4 h5

end Go.Proofs.YtphgakobfegpcaaGreatDoor
namespace Go.Proofs.YtphgakobfegpcaaGreatDoor
open Go.RowKit

set_option maxHeartbeats 400000 in
theorem out_bound (a : Addr) (p : Nat) (n : Int) (w : World) (hE : ErrAt 2 a w) (h : n < 1 ∨ 1099511627776 < n) :
    Calls Tryz.prog 52 #[.pointer (some ⟨p, 0, none⟩), .int .i64 n] w fun e w' => e = .returned (.tuple #[.int .i64 0, .iface 326 (.pointer (some a))]) ∧ Below w.heap.size w w' := by
  unfold ErrAt at hE
  go_enter Tryz.func52, Tryz.ntmps52
  go_wp2_with fail
  refine (within_no n 1 1099511627776 _ h).mono ?_
  rintro e w1 ⟨rfl, rfl⟩
  go_wp2_with fail
  go_quiet (fail)
  go_wp2_with fail
  go_ret2
  exact ⟨rfl, below_drewN (Below.refl _ _) _⟩

set_option maxHeartbeats 400000 in
theorem out_short (a : Addr) (p g : Nat) (ls : Ls) (n : Int) (w : World) (hE : ErrAt 3 a w) (hL : Lay w p g ls) (hk : OkL ls) (hlen : ls.length ≤ 1000000) (h1 : 1 ≤ n) (h2 : n ≤ 1099511627776) (h3 : (hasL ls : Int) < n) :
    Calls Tryz.prog 52 #[.pointer (some ⟨p, 0, none⟩), .int .i64 n] w fun e w' => e = .returned (.tuple #[.int .i64 0, .iface 326 (.pointer (some a))]) ∧ Below w.heap.size w w' := by
  go_enter Tryz.func52, Tryz.ntmps52
  go_wp2_with fail
  refine (within_yes n 1 1099511627776 _ h1 h2).mono ?_
  rintro e w1 ⟨rfl, rfl⟩
  go_wp2_with fail
  refine (has_any p g ls _ hL hk hlen).mono ?_
  rintro e w1 ⟨rfl, hb⟩
  have hE1 := hE.below hb
  unfold ErrAt at hE1
  go_wp2_with fail
  go_quiet (fail)
  go_wp2_with fail
  go_ret2
  exact ⟨rfl, below_drewN hb _⟩

set_option maxHeartbeats 400000 in
set_option maxRecDepth 100000 in
theorem out_yes (p g : Nat) (ls : Ls) (n : Nat) (w : World) (hL : Lay w p g ls) (hk : OkL ls) (hlen : ls.length ≤ 1000000) (h1 : 1 ≤ n) (h3 : n ≤ hasL ls) :
    Calls Tryz.prog 52 #[.pointer (some ⟨p, 0, none⟩), .int .i64 (n : Nat)] w fun e w' => e = .returned (.tuple #[.int .i64 ((outL ls n).1 : Nat), .nilIface]) ∧ Lay w' p g (outL ls n).2 ∧ Only p g w w' := by
  have hh := hk.has
  have hW := hk.worth
  go_enter Tryz.func52, Tryz.ntmps52
  go_wp2_with fail
  refine (within_yes _ 1 1099511627776 _ (by omega) (by omega)).mono ?_
  rintro e w1 ⟨rfl, rfl⟩
  go_wp2_with fail
  refine (has_any p g ls _ hL hk hlen).mono ?_
  rintro e w1 ⟨rfl, hb⟩
  have hL1 := hL.below hb
  have ho := Only.of_below (p := p) (g := g) hb
  have hk' := hk
  clear hL hk hb
  go_wp2
  go_loopw [1, 6] (fun nn al wr => ∃ (m q : Nat) (l : Ls), nn = .int .i64 m ∧ al = .int .i64 q ∧ m ≤ hasL l ∧ OkL l ∧ (outL ls n).1 = q + (outL l m).1 ∧ (outL ls n).2 = (outL l m).2 ∧ Lay wr p g l ∧ Only p g w wr) (fun nn _ _ => (intOf nn).toNat)
  case atStart => exact ⟨n, 0, ls, rfl, rfl, h3, hk', by omega, rfl, hL1, ho⟩
  case round =>
    obtain ⟨m, q, l, rfl, rfl, hm, hkl, e1, e2, hLr, hor⟩ := hrel
    by_cases hm0 : m = 0
    · subst hm0
      have hz := outL_zero l hkl.pos
      rw [hz] at e1 e2
      have E1 := Lib.hid e1
      have E2 := Lib.hid e2
      clear e1 e2 hz
      go_wp2
      go_ret2
      refine ⟨?_, ?_, hor⟩
      · show Ending.returned (.tuple #[.int .i64 (q : Nat), .nilIface]) = _
        rw [E1.out]; rfl
      · rw [E2.out]; exact hLr
    · cases l with
      | nil => simp [hasL] at hm; omega
      | cons x r =>
        obtain ⟨xn, xc⟩ := x
        rcases hLr with ⟨h0, _⟩ | ⟨hne, off, cap, cur, hA, hG, hl1, hl2, hcells⟩
        · cases h0
        have hx1 : 1 ≤ xn := hkl.pos (xn, xc) (by simp)
        have hx2 : xc ≤ 1048576 := hkl.cost (xn, xc) (by simp)
        have hhas : xn ≤ 1099511627776 := by have := hkl.has; simp only [hasL] at this; omega
        have hmB : (m : Int) ≤ 1099511627776 := by have := hkl.has; omega
        have hwl := outL_worth ls n
        have hne' : p ≠ g := Ne.symm hne
        have cA : wr.cell? ⟨p, 0, none⟩ = some (.slice (some ⟨g, off, none⟩) (r.length + 1) cap) := by rw [cell_of_block hA]; rfl
        have fA := free_of_block hA 0
        have c1 : wr.cell? ⟨g, off, none⟩ = some (.int .i64 (xn : Nat)) := by rw [cell_of_block hG]; exact (hcells 0 (by simp)).1
        have c2 : wr.cell? ⟨g, off + 1, none⟩ = some (.int .i64 (xc : Nat)) := by rw [cell_of_block hG]; exact (hcells 0 (by simp)).2
        have fG := free_of_block hG off
        have HA := Lib.hid hA
        have HG := Lib.hid hG
        have HC := Lib.hid hcells
        have KL := Lib.hid hkl
        have HM := Lib.hid hm
        clear hA hG hcells hkl hm
        simp only [List.length_cons] at hl1
        by_cases hc : m < xn
        · rw [outL_part _ _ _ hc] at e1 e2
          have p0 : (0 : Int) ≤ (m : Int) * (xc : Int) := Int.mul_nonneg (by omega) (by omega)
          have p2 : ((m * xc : Nat) : Int) = (m : Int) * (xc : Int) := by simp
          have p1 : (q : Int) + (m : Int) * (xc : Int) ≤ 1152921504606846976 := by simp only at e1; omega
          have E1 := Lib.hid e1
          have E2 := Lib.hid e2
          have hmin : min (m : Int) (xn : Int) = m := by omega
          clear p2 e1 e2 hwl
          go_wp2
          refine ⟨⟨0, q + m * xc, (xn - m, xc) :: r, by simp, by simp, by omega, ?_, ?_, ?_, ?_, ?_⟩, by simp [intOf]; omega⟩
          · refine ⟨by have := KL.out.has; simp only [hasL] at this ⊢; omega, fun y hy => ?_, fun y hy => ?_⟩
            · rcases List.mem_cons.1 hy with rfl | hy
              · exact hx2
              · exact KL.out.cost _ (List.mem_cons_of_mem _ hy)
            · rcases List.mem_cons.1 hy with rfl | hy
              · simp only; omega
              · exact KL.out.pos _ (List.mem_cons_of_mem _ hy)
          · have e1 := E1.out
            rw [outL_part _ _ _ (by simp only; omega)]
            simp only at e1 ⊢; omega
          · rw [E2.out, outL_part _ _ _ (by simp only; omega)]; rfl
          · have g1 := heap_setCell_same wr g off cur _ (.int .i64 ((xn : Int) - m)) HG.out
            have p1 := (heap_setCell_other wr ⟨g, off, none⟩ p (.int .i64 ((xn : Int) - m)) hne').trans HA.out
            refine .inr ⟨hne, off, cap, _, p1, g1, hl1, by simpa using hl2, fun i hi => ?_⟩
            have h6 := HC.out i (by simpa using hi)
            cases i with
            | zero =>
              rw [Nat.zero_mul, Nat.add_zero] at h6 ⊢
              rw [Array.getElem?_setIfInBounds_self_of_lt (by omega), Array.getElem?_setIfInBounds_ne (by omega)]
              refine ⟨?_, h6.2⟩
              simp only [List.getElem_cons_zero]
              congr 2; omega
            | succ i =>
              rw [Array.getElem?_setIfInBounds_ne (by omega), Array.getElem?_setIfInBounds_ne (by omega)]
              exact h6
          · refine hor.trans ⟨rfl, rfl, rfl, by simp, fun k hk k1 k2 => ?_⟩ (.inl rfl)
            exact heap_setCell_other _ _ _ _ k2
        · rw [outL_full _ _ _ (by simp only; omega)] at e1 e2
          have p0 : (0 : Int) ≤ (xn : Int) * (xc : Int) := Int.mul_nonneg (by omega) (by omega)
          have p2 : ((xn * xc : Nat) : Int) = (xn : Int) * (xc : Int) := by simp
          have p1 : (q : Int) + (xn : Int) * (xc : Int) ≤ 1152921504606846976 := by simp only at e1; omega
          have E1 := Lib.hid e1
          have E2 := Lib.hid e2
          have hmin : min (m : Int) (xn : Int) = xn := by omega
          have hc' : (xn : Int) ≤ m := by omega
          clear p2 e1 e2 hwl
          go_wp2
          have hkr : OkL r := ⟨by have := KL.out.has; simp only [hasL] at this; omega, fun y hy => KL.out.cost _ (List.mem_cons_of_mem _ hy), fun y hy => KL.out.pos _ (List.mem_cons_of_mem _ hy)⟩
          refine ⟨⟨m - xn, q + xn * xc, r, by congr 1; omega, by simp, by have hm := HM.out; simp only [hasL] at hm; omega, hkr, ?_, E2.out, ?_, ?_⟩, by simp [intOf]; omega⟩
          · have e1 := E1.out
            simp only at e1; omega
          · have g1 := heap_setCell_same wr g off cur _ (.int .i64 0) HG.out
            have p1 := (heap_setCell_other wr ⟨g, off, none⟩ p (.int .i64 0) hne').trans HA.out
            have g2 := (heap_setCell_other _ ⟨p, 0, none⟩ g (.slice (if cap = 1 then some ⟨g, off, none⟩ else some ⟨g, off + 2, none⟩) r.length (cap - 1)) hne).trans g1
            have p2 := heap_setCell_same _ p 0 _ _ (.slice (if cap = 1 then some ⟨g, off, none⟩ else some ⟨g, off + 2, none⟩) r.length (cap - 1)) p1
            refine .inr ⟨hne, if cap = 1 then off else off + 2, cap - 1, _, ?_, g2, by omega, by simp; split <;> omega, fun i hi => ?_⟩
            · rw [p2]
              by_cases h1 : cap = 1 <;> simp [h1]
            · have h1 : ¬ cap = 1 := by omega
              have h6 := HC.out (i + 1) (by simpa using hi)
              rw [if_neg h1, Array.getElem?_setIfInBounds_ne (by omega), Array.getElem?_setIfInBounds_ne (by omega), show off + 2 + i * 2 = off + (i + 1) * 2 by omega]
              exact h6
          · refine hor.trans ⟨rfl, rfl, rfl, by simp, fun k hk k1 k2 => ?_⟩ (.inl rfl)
            exact (heap_setCell_other _ _ _ _ k1).trans (heap_setCell_other _ _ _ _ k2)

end Go.Proofs.YtphgakobfegpcaaGreatDoor
