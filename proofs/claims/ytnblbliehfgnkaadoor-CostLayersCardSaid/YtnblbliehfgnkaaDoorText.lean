/- Layers.Text. -/
import Derived.Test.YtnblbliehfgnkaaDoorHas
import Derived.Test.YtnblbliehfgnkaaDoorFlow
import Derived.Deep.AppendLies
import Derived.Lib.ItoaLen
import Derived.Lib.Join
namespace Go.Proofs.YtnblbliehfgnkaaDoor
open Go.RowKit

theorem own_below {w w' : World} {B e size n : Nat} {v : Value} {xs : List Value} (h : w.ownsRow B e size v n xs) (hb : Below w.heap.size w w') : w'.ownsRow B e size v n xs := by
  refine ⟨h.1, ?_⟩
  rcases h.2 with h0 | ⟨g, cap, cur, h1, h2, h3, h4⟩
  · exact .inl h0
  · exact .inr ⟨g, cap, cur, h1, h2, (hb.block g (lt_of_heap h3)).trans h3, h4⟩

/-- A layer's text; the layers' texts. -/
def itemL (x : Nat × Nat) : List UInt8 := Lib.itoa x.1 ++ [64] ++ Lib.itoa x.2
def textL (ls : Ls) : List UInt8 := Lib.join (ls.map itemL) [32]
def cellsL (ls : Ls) : List Value := ls.map fun x => .string ⟨(itemL x).toArray⟩
theorem itemL_length (x : Nat × Nat) (h1 : x.1 ≤ 1099511627776) (h2 : x.2 ≤ 1048576) : (itemL x).length ≤ 43 := by
  have a := Lib.itoa_length_le (x.1 : Int) (by omega) (by omega)
  have b := Lib.itoa_length_le (x.2 : Int) (by omega) (by omega)
  simp only [itemL, List.length_append, List.length_singleton]; omega

theorem stringInfo : (Tryd.prog.info? 9).map (fun i => (i.zero, i.size, i.bytes)) = some (some (.string ⟨#[]⟩), 1, 16) := by kernel_rfl

theorem of_mem_has (ls : Ls) (k : Nat) (h : k < ls.length) : ls[k].1 ≤ hasL ls := by
  have := hasL_set ls k h (0, 0)
  simp only at this; omega

theorem lens_items (ls : Ls) (h : ∀ x ∈ ls, x.1 ≤ 1099511627776 ∧ x.2 ≤ 1048576) : Lib.lens (ls.map itemL) ≤ ls.length * 43 := by
  induction ls with
  | nil => simp [Lib.lens]
  | cons x r ih =>
    have h1 := ih (fun y hy => h y (List.mem_cons_of_mem _ hy))
    have h2 := itemL_length x (h x List.mem_cons_self).1 (h x List.mem_cons_self).2
    simp only [Lib.lens, List.map_cons, List.sum_cons, List.length_cons] at h1 ⊢
    omega
theorem textL_length (ls : Ls) (h : ∀ x ∈ ls, x.1 ≤ 1099511627776 ∧ x.2 ≤ 1048576) : (textL ls).length ≤ ls.length * 44 := by
  cases ls with
  | nil => simp [textL, Lib.join_nil]
  | cons x r =>
    have h1 := lens_items _ h
    have h2 := Lib.join_length (itemL x) (r.map itemL) [32]
    simp only [textL, List.map_cons, List.length_cons, List.length_map, List.length_nil] at h1 h2 ⊢
    omega
theorem okL_small {ls : Ls} (hk : OkL ls) : ∀ x ∈ ls, x.1 ≤ 1099511627776 ∧ x.2 ≤ 1048576 := fun x hx => by
  obtain ⟨k, hk', rfl⟩ := List.getElem_of_mem hx
  exact ⟨Nat.le_trans (of_mem_has ls k hk') hk.has, hk.cost _ hx⟩

/-- The texts, joined. -/
theorem join_any (gg cap : Nat) (ls : Ls) (cur : Array Value) (w : World) (h1 : w.heap[gg]? = some (.cells cur 9 (0, 0))) (h2 : ls.length ≤ cap) (h3 : cur.toList.take ls.length = cellsL ls) (hk : OkL ls) (hlen : ls.length ≤ 1000000) :
    Calls Tryd.prog 43 #[.slice (some ⟨gg, 0, none⟩) ls.length cap, .string ⟨#[32]⟩] w fun e w' => e = .returned (.string ⟨(textL ls).toArray⟩) ∧ Below w.heap.size w w' := by
  have hT := textL_length ls (okL_small hk)
  have e : (ls.map fun x => (⟨(itemL x).toArray⟩ : ByteArray)).map (·.data.toList) = ls.map itemL := by simp [Function.comp_def]
  have h := Tryd.strings_Join gg 0 cap (ls.map fun x => (⟨(itemL x).toArray⟩ : ByteArray)) ⟨#[32]⟩ w (fun j x hx => ?_) (lt_of_heap h1) (by simp; omega) (by simpa using h2) (by rw [e]; show (textL ls).length ≤ _; omega)
  · rw [e, List.length_map] at h
    exact h
  · obtain ⟨hj, hx⟩ := List.getElem?_eq_some_iff.1 hx
    have hj : j < ls.length := by simpa using hj
    rw [cell_of_block h1, Nat.zero_add, ← Array.getElem?_toList, ← List.getElem?_take_of_lt hj, h3]
    simp only [cellsL, List.getElem?_map, List.getElem?_eq_getElem hj]
    simp at hx
    simp [hx]

set_option maxHeartbeats 1600000 in
set_option maxRecDepth 100000 in
theorem text_any (p g : Nat) (ls : Ls) (w : World) (hT : TabG w) (hL : Lay w p g ls) (hk : OkL ls) (hlen : ls.length ≤ 1000000) :
    Calls Tryd.prog 18 #[.pointer (some ⟨p, 0, none⟩)] w fun e w' => e = .returned (.string ⟨(textL ls).toArray⟩) ∧ Below w.heap.size w w' := by
  obtain ⟨i0, hi, hz0, hz1, hz2⟩ := info_parts stringInfo
  obtain ⟨A, cap, hA, hc1, hc2, hcell⟩ := hL.reads
  have hlt := hL.lt
  have KL := Lib.hid hk
  clear hL hk
  have HC := Lib.hid hcell
  clear hcell
  go_enter Tryd.func18, Tryd.ntmps18
  go_wp2
  go_loopw [3, 11] (fun out i wr => ∃ k : Nat, k ≤ ls.length ∧ i = .int .i64 k ∧ wr.ownsRow w.heap.size 9 1 out k (cellsL (ls.take k)) ∧ Below w.heap.size w wr) (fun _ i _ => ls.length - (intOf i).toNat)
  case atStart => exact ⟨0, by omega, rfl, World.ownsRow_nil _ _ _ _, Below.refl _ _⟩
  case round =>
    obtain ⟨k, hk, rfl, hown, hb⟩ := hrel
    by_cases hkl : k < ls.length
    · obtain ⟨off, rfl, hcells⟩ := HC.out (by omega)
      obtain ⟨c1, c2⟩ := hcells k hkl
      have d1 : wr.cell? ⟨g, off + k * 2, none⟩ = some (.int .i64 (ls[k].1 : Nat)) := (hb.cell hlt.2).trans c1
      have d2 : wr.cell? ⟨g, off + k * 2 + 1, none⟩ = some (.int .i64 (ls[k].2 : Nat)) := (hb.cell hlt.2).trans c2
      have q1 : ls[k].1 ≤ 1099511627776 := Nat.le_trans (of_mem_has ls k hkl) KL.out.has
      have q2 : ls[k].2 ≤ 1048576 := KL.out.cost _ (List.getElem_mem hkl)
      have hn1 := Lib.itoa_length_le (ls[k].1 : Int) (by omega) (by omega)
      have hn2 := Lib.itoa_length_le (ls[k].2 : Int) (by omega) (by omega)
      obtain ⟨n, hn⟩ : ∃ n, n = ls[k].1 := ⟨_, rfl⟩
      obtain ⟨c, hc⟩ : ∃ c, c = ls[k].2 := ⟨_, rfl⟩
      have HX := Lib.hid (show ls[k] = (n, c) by rw [hn, hc])
      rw [← hn] at d1 q1 hn1
      rw [← hc] at d2 q2 hn2
      clear c1 c2 hcells hA hn hc
      have HB := Lib.hid hb
      have HT := Lib.hid (hT.below hb)
      have bd1 : (-9223372036854775808 : Int) ≤ (n : Int) := by omega
      have bd2 : (n : Int) ≤ 9223372036854775807 := by omega
      have bd3 : (-9223372036854775808 : Int) ≤ (c : Int) := by omega
      have bd4 : (c : Int) ≤ 9223372036854775807 := by omega
      go_wp2_with fail
      obtain ⟨W1, hW1⟩ : ∃ W1, W1 = wr.alloc (.cells #[.int .i64 (n : Nat), .int .i64 (c : Nat)] 86) := ⟨_, rfl⟩
      have cx0 : W1.cell? ⟨wr.heap.size, 0, none⟩ = some (.int .i64 (n : Nat)) := by rw [hW1, cell_of_block (heap_alloc_new _ _)]; rfl
      have cx1 : W1.cell? ⟨wr.heap.size, 1, none⟩ = some (.int .i64 (c : Nat)) := by rw [hW1, cell_of_block (heap_alloc_new _ _)]; rfl
      have lx : wr.heap.size < W1.heap.size := by rw [hW1]; simp
      have HO : W1.ownsRow w.heap.size 9 1 u3 k (cellsL (ls.take k)) := by rw [hW1]; exact hown.alloc _
      have HB1 : Below w.heap.size w W1 := by rw [hW1]; exact hb.alloc hb.size _
      have HT1 : TabG W1 := hT.below (HB1)
      rw [← hW1]
      generalize wr.heap.size = X at *
      clear hW1
      have hv1 : ¬ 9223372036854775807 < (Lib.itoa (n : Int)).length + 1 := by omega
      have hv2 : ¬ 9223372036854775807 < (Lib.itoa (n : Int)).length + 1 + (Lib.itoa (c : Int)).length := by omega
      go_region_law (first
        | (go_simp; go_at_call_of 42 (Value.int .i64 (n : Int)); refine (itoa_any _ bd1 bd2 _ (by first | exact HT1.drew | exact HT1.drew.below hb2)).mono ?_; rintro e w1 ⟨rfl, hb1⟩; try have ck1 := (hb1.cell (p := ⟨X, 1, none⟩) lx).trans cx1)
        | (go_simp; go_at_call_of 42 (Value.int .i64 (c : Int)); refine (itoa_any _ bd3 bd4 _ (by first | exact HT1.drew | exact HT1.drew.below hb1)).mono ?_; rintro e w2 ⟨rfl, hb2⟩; try have ck0 := (hb2.cell (p := ⟨X, 0, none⟩) lx).trans cx0)
        | (refine step_append_lies _ rfl (.tmp 15) (.tmp 24) 67 rfl w.heap.size 9 i0 (.string ⟨#[]⟩) 1 16 Tryd.underlying67 hi hz0 hz1 hz2 rfl (by decide) u3 k (cellsL (ls.take k)) (by simp [Act.eval]) ((by first | exact ((own_below (own_below HO.drew hb1) hb2).alloc _) | exact ((own_below (own_below HO.drew hb2) hb1).alloc _)) : World.ownsRow _ _ _ _ _ _ _) _ 1 1 [.string _] (by simp [Act.eval]) (by rfl) (World.news_of_block (cs := #[.string _]) (t := 9) (fr := (0, 0)) (heap_alloc_new _ _)) (by simp [Value.oneCell']) (by omega) (by unfold maxLen; omega) (by omega) ((by have := HB1.size; have := hb1.size; have := hb2.size; simp; simp at *; omega)) _ rfl ?_; intro gg cap' w3 hown3 hgrow hat hlt3))
      all_goals
        have hcell : cellsL (ls.take (k + 1)) = cellsL (ls.take k) ++ [Value.string ((⟨(Lib.itoa (n : Int)).toArray⟩ : ByteArray) ++ (⟨#[64]⟩ : ByteArray) ++ (⟨(Lib.itoa (c : Int)).toArray⟩ : ByteArray))] := by
          rw [List.take_succ_eq_append_getElem hkl, HX.out]
          simp only [cellsL, List.map_append, List.map_cons, List.map_nil]
          rw [show (⟨#[64]⟩ : ByteArray) = ⟨[64].toArray⟩ from rfl, mk_app, mk_app]
          rfl
        have HCL := Lib.hid hcell
        have HFIN := Lib.hid hown3
        have hbel : Below w.heap.size w w3 := ((((HB1.drew.trans (hb1.mono HB1.size)).trans (hb2.mono (Nat.le_trans HB1.size hb1.size))).alloc (Nat.le_trans HB1.size (Nat.le_trans hb1.size hb2.size)) _).grown hgrow (by have := HB1.size; have := hb1.size; have := hb2.size; simp at *; omega) (fun j hj => (HO.lt j hj).1))
        have HBEL := Lib.hid hbel
        clear hcell hown3 hgrow hat hlt3 hbel
        go_wp2
      all_goals exact ⟨⟨k + 1, by omega, by simp, by rw [HCL.out]; exact HFIN.out, HBEL.out⟩, by simp [intOf]; omega⟩
    · have hkn : ls.length ≤ k := by omega
      obtain rfl : k = ls.length := by omega
      rw [List.take_of_length_le (Nat.le_refl _)] at hown
      clear hA
      rcases Nat.eq_zero_or_pos ls.length with h0 | h0
      · obtain rfl := List.eq_nil_of_length_eq_zero h0
        obtain ⟨ao, cc, rfl⟩ : ∃ ao cc, u3 = .slice ao 0 cc := by
          rcases hown.2 with ⟨rfl, _⟩ | ⟨gg, cap', cur, rfl, _⟩
          · exact ⟨_, _, rfl⟩
          · exact ⟨_, _, rfl⟩
        go_wp2_with fail
        refine (Tryd.strings_Join_none ao cc ⟨#[32]⟩ _).mono ?_
        rintro e w2 ⟨rfl, rfl⟩
        go_wp2
        go_ret
        exact ⟨rfl, hb⟩
      · obtain ⟨gg, cap', cur, rfl, hg1, hg2, hg3, hg4, hg5, hg6⟩ : ∃ gg cap' cur, u3 = .slice (some ⟨gg, 0, none⟩) ls.length cap' ∧ w.heap.size ≤ gg ∧ wr.heap[gg]? = some (.cells cur 9 (0, 0)) ∧ ls.length ≤ cap' ∧ cap' ≤ maxLen ∧ cur.size = cap' * 1 ∧ cur.toList.take (ls.length * 1) = cellsL ls := by
          rcases hown.2 with ⟨_, h⟩ | h
          · omega
          · exact h
        have hJ := join_any gg cap' ls cur wr hg2 hg3 (by simpa using hg6) KL.out hlen
        go_wp2_with fail
        refine hJ.mono ?_
        rintro e w2 ⟨rfl, hb2⟩
        go_wp2
        go_ret
        exact ⟨rfl, hb.trans (hb2.mono hb.size)⟩

end Go.Proofs.YtnblbliehfgnkaaDoor
