/- Layers.Text. Package cost as its callers use it. Cost of entries, plainly: which layers they leave. No program in sight. Cost: an entry's pieces in the layers; the book's Pack. -/
import Derived.Deep.AppendLies
import Derived.Lib.ItoaLen
import Derived.Lib.Join
import Derived.Test.YtphgakobfegpcaaGreatDoorM13
import Derived.Test.YtphgakobfegpcaaGreatDoorM15
import Derived.Test.YtphgakobfegpcaaGreatDoorM18
import Derived.Test.YtphgakobfegpcaaGreatDoorM20
import Derived.Test.YtphgakobfegpcaaGreatDoorM22
import Derived.Test.YtphgakobfegpcaaGreatDoorLCostOf01
import Derived.Test.YtphgakobfegpcaaGreatDoorLCostOf02
namespace Go.Proofs.YtphgakobfegpcaaGreatDoor
open Go.RowKit

theorem own_below {w w' : World} {B e size n : Nat} {v : Value} {xs : List Value} (h : w.ownsRow B e size v n xs) (hb : Below w.heap.size w w') : w'.ownsRow B e size v n xs := by
  refine ⟨h.1, ?_⟩
  rcases h.2 with h0 | ⟨g, cap, cur, h1, h2, h3, h4⟩
  · exact .inl h0
  · exact .inr ⟨g, cap, cur, h1, h2, (hb.block g (lt_of_heap h3)).trans h3, h4⟩

/-- A layer's text; the layers' texts. -/
def itemL (x : Nat × Nat) : List UInt8 := Lib.itoa x.1 ++ [64] ++ Lib.itoa x.2
def textL (ls : Ls) : List UInt8 := Lib.join (ls.map itemL) [32]
def cellsL (ls : Ls) : List Value := ls.map fun x => .string ⟨(itemL x).toArray⟩
theorem itemL_length (x : Nat × Nat) (h1 : x.1 ≤ 1099511627776) (h2 : x.2 ≤ 1048576) : (itemL x).length ≤ 43 := by
  have a := Lib.itoa_length_le (x.1 : Int) (by omega) (by omega)
  have b := Lib.itoa_length_le (x.2 : Int) (by omega) (by omega)
  simp only [itemL, List.length_append, List.length_singleton]; omega

theorem stringInfo : (Tryz.prog.info? 9).map (fun i => (i.zero, i.size, i.bytes)) = some (some (.string ⟨#[]⟩), 1, 16) := by kernel_rfl

theorem of_mem_has (ls : Ls) (k : Nat) (h : k < ls.length) : ls[k].1 ≤ hasL ls := by
  have := hasL_set ls k h (0, 0)
  simp only at this; omega

theorem lens_items (ls : Ls) (h : ∀ x ∈ ls, x.1 ≤ 1099511627776 ∧ x.2 ≤ 1048576) : Lib.lens (ls.map itemL) ≤ ls.length * 43 := by
  induction ls with
  | nil => simp [Lib.lens]
  | cons x r ih =>
    have h1 := ih (fun y hy => h y (List.mem_cons_of_mem _ hy))
    have h2 := itemL_length x (h x List.mem_cons_self).1 (h x List.mem_cons_self).2
    simp only [Lib.lens, List.map_cons, List.sum_cons, List.length_cons] at h1 ⊢
    omega
theorem textL_length (ls : Ls) (h : ∀ x ∈ ls, x.1 ≤ 1099511627776 ∧ x.2 ≤ 1048576) : (textL ls).length ≤ ls.length * 44 := by
  cases ls with
  | nil => simp [textL, Lib.join_nil]
  | cons x r =>
    have h1 := lens_items _ h
    have h2 := Lib.join_length (itemL x) (r.map itemL) [32]
    simp only [textL, List.map_cons, List.length_cons, List.length_map, List.length_nil] at h1 h2 ⊢
    omega
theorem okL_small {ls : Ls} (hk : OkL ls) : ∀ x ∈ ls, x.1 ≤ 1099511627776 ∧ x.2 ≤ 1048576 := fun x hx => by
  obtain ⟨k, hk', rfl⟩ := List.getElem_of_mem hx
  exact ⟨Nat.le_trans (of_mem_has ls k hk') hk.has, hk.cost _ hx⟩

/-- The texts, joined. -/
theorem join_any (gg cap : Nat) (ls : Ls) (cur : Array Value) (w : World) (h1 : w.heap[gg]? = some (.cells cur 9 (0, 0))) (h2 : ls.length ≤ cap) (h3 : cur.toList.take ls.length = cellsL ls) (hk : OkL ls) (hlen : ls.length ≤ 1000000) :
    Calls Tryz.prog 62 #[.slice (some ⟨gg, 0, none⟩) ls.length cap, .string ⟨#[32]⟩] w fun e w' => e = .returned (.string ⟨(textL ls).toArray⟩) ∧ Below w.heap.size w w' := by
  have hT := textL_length ls (okL_small hk)
  have e : (ls.map fun x => (⟨(itemL x).toArray⟩ : ByteArray)).map (·.data.toList) = ls.map itemL := by simp [Function.comp_def]
  have h := Tryz.strings_Join gg 0 cap (ls.map fun x => (⟨(itemL x).toArray⟩ : ByteArray)) ⟨#[32]⟩ w (fun j x hx => ?_) (lt_of_heap h1) (by simp; omega) (by simpa using h2) (by rw [e]; show (textL ls).length ≤ _; omega)
  · rw [e, List.length_map] at h
    exact h
  · obtain ⟨hj, hx⟩ := List.getElem?_eq_some_iff.1 hx
    have hj : j < ls.length := by simpa using hj
    rw [cell_of_block h1, Nat.zero_add, ← Array.getElem?_toList, ← List.getElem?_take_of_lt hj, h3]
    simp only [cellsL, List.getElem?_map, List.getElem?_eq_getElem hj]
    simp at hx
    simp [hx]

set_option maxHeartbeats 1600000 in
set_option maxRecDepth 100000 in
theorem text_any (p g : Nat) (ls : Ls) (w : World) (hT : TabG w) (hL : Lay w p g ls) (hk : OkL ls) (hlen : ls.length ≤ 1000000) :
    Calls Tryz.prog 14 #[.pointer (some ⟨p, 0, none⟩)] w fun e w' => e = .returned (.string ⟨(textL ls).toArray⟩) ∧ Below w.heap.size w w' := by
  obtain ⟨i0, hi, hz0, hz1, hz2⟩ := info_parts stringInfo
  obtain ⟨A, cap, hA, hc1, hc2, hcell⟩ := hL.reads
  have hlt := hL.lt
  have KL := Lib.hid hk
  clear hL hk
  have HC := Lib.hid hcell
  clear hcell
  go_enter Tryz.func14, Tryz.ntmps14
  go_wp2
  go_loopw [3, 11] (fun out i wr => ∃ k : Nat, k ≤ ls.length ∧ i = .int .i64 k ∧ wr.ownsRow w.heap.size 9 1 out k (cellsL (ls.take k)) ∧ Below w.heap.size w wr) (fun _ i _ => ls.length - (intOf i).toNat)
  case atStart => exact ⟨0, by omega, rfl, World.ownsRow_nil _ _ _ _, Below.refl _ _⟩
  case round =>
    obtain ⟨k, hk, rfl, hown, hb⟩ := hrel
    by_cases hkl : k < ls.length
    · obtain ⟨off, rfl, hcells⟩ := HC.out (by omega)
      obtain ⟨c1, c2⟩ := hcells k hkl
      have d1 : wr.cell? ⟨g, off + k * 2, none⟩ = some (.int .i64 (ls[k].1 : Nat)) := (hb.cell hlt.2).trans c1
      have d2 : wr.cell? ⟨g, off + k * 2 + 1, none⟩ = some (.int .i64 (ls[k].2 : Nat)) := (hb.cell hlt.2).trans c2
      have q1 : ls[k].1 ≤ 1099511627776 := Nat.le_trans (of_mem_has ls k hkl) KL.out.has
      have q2 : ls[k].2 ≤ 1048576 := KL.out.cost _ (List.getElem_mem hkl)
      have hn1 := Lib.itoa_length_le (ls[k].1 : Int) (by omega) (by omega)
      have hn2 := Lib.itoa_length_le (ls[k].2 : Int) (by omega) (by omega)
      obtain ⟨n, hn⟩ : ∃ n, n = ls[k].1 := ⟨_, rfl⟩
      obtain ⟨c, hc⟩ : ∃ c, c = ls[k].2 := ⟨_, rfl⟩
      have HX := Lib.hid (show ls[k] = (n, c) by rw [hn, hc])
      rw [← hn] at d1 q1 hn1
      rw [← hc] at d2 q2 hn2
      clear c1 c2 hcells hA hn hc
      have HB := Lib.hid hb
      have HT := Lib.hid (hT.below hb)
      have bd1 : (-9223372036854775808 : Int) ≤ (n : Int) := by omega
      have bd2 : (n : Int) ≤ 9223372036854775807 := by omega
      have bd3 : (-9223372036854775808 : Int) ≤ (c : Int) := by omega
      have bd4 : (c : Int) ≤ 9223372036854775807 := by omega
      go_wp2_with fail
      obtain ⟨W1, hW1⟩ : ∃ W1, W1 = wr.alloc (.cells #[.int .i64 (n : Nat), .int .i64 (c : Nat)] 122) := ⟨_, rfl⟩
      have cx0 : W1.cell? ⟨wr.heap.size, 0, none⟩ = some (.int .i64 (n : Nat)) := by rw [hW1, cell_of_block (heap_alloc_new _ _)]; rfl
      have cx1 : W1.cell? ⟨wr.heap.size, 1, none⟩ = some (.int .i64 (c : Nat)) := by rw [hW1, cell_of_block (heap_alloc_new _ _)]; rfl
      have lx : wr.heap.size < W1.heap.size := by rw [hW1]; simp
      have HO : W1.ownsRow w.heap.size 9 1 u3 k (cellsL (ls.take k)) := by rw [hW1]; exact hown.alloc _
      have HB1 : Below w.heap.size w W1 := by rw [hW1]; exact hb.alloc hb.size _
      have HT1 : TabG W1 := hT.below (HB1)
      rw [← hW1]
      generalize wr.heap.size = X at *
      clear hW1
      have hv1 : ¬ 9223372036854775807 < (Lib.itoa (n : Int)).length + 1 := by omega
      have hv2 : ¬ 9223372036854775807 < (Lib.itoa (n : Int)).length + 1 + (Lib.itoa (c : Int)).length := by omega
      go_region_law (first
        | (go_simp; go_at_call_of 61 (Value.int .i64 (n : Int)); refine (itoa_any _ bd1 bd2 _ (by first | exact HT1.drew | exact HT1.drew.below hb2)).mono ?_; rintro e w1 ⟨rfl, hb1⟩; try have ck1 := (hb1.cell (p := ⟨X, 1, none⟩) lx).trans cx1)
        | (go_simp; go_at_call_of 61 (Value.int .i64 (c : Int)); refine (itoa_any _ bd3 bd4 _ (by first | exact HT1.drew | exact HT1.drew.below hb1)).mono ?_; rintro e w2 ⟨rfl, hb2⟩; try have ck0 := (hb2.cell (p := ⟨X, 0, none⟩) lx).trans cx0)
        | (refine step_append_lies _ rfl (.tmp 15) (.tmp 24) 44 rfl w.heap.size 9 i0 (.string ⟨#[]⟩) 1 16 Tryz.underlying44 hi hz0 hz1 hz2 rfl (by decide) u3 k (cellsL (ls.take k)) (by simp [Act.eval]) ((by first | exact ((own_below (own_below HO.drew hb1) hb2).alloc _) | exact ((own_below (own_below HO.drew hb2) hb1).alloc _)) : World.ownsRow _ _ _ _ _ _ _) _ 1 1 [.string _] (by simp [Act.eval]) (by rfl) (World.news_of_block (cs := #[.string _]) (t := 9) (fr := (0, 0)) (heap_alloc_new _ _)) (by simp [Value.oneCell']) (by omega) (by unfold maxLen; omega) (by omega) ((by have := HB1.size; have := hb1.size; have := hb2.size; simp; simp at *; omega)) _ rfl ?_; intro gg cap' w3 hown3 hgrow hat hlt3))
      all_goals
        have hcell : cellsL (ls.take (k + 1)) = cellsL (ls.take k) ++ [Value.string ((⟨(Lib.itoa (n : Int)).toArray⟩ : ByteArray) ++ (⟨#[64]⟩ : ByteArray) ++ (⟨(Lib.itoa (c : Int)).toArray⟩ : ByteArray))] := by
          rw [List.take_succ_eq_append_getElem hkl, HX.out]
          simp only [cellsL, List.map_append, List.map_cons, List.map_nil]
          rw [show (⟨#[64]⟩ : ByteArray) = ⟨[64].toArray⟩ from rfl, mk_app, mk_app]
          rfl
        have HCL := Lib.hid hcell
        have HFIN := Lib.hid hown3
        have hbel : Below w.heap.size w w3 := ((((HB1.drew.trans (hb1.mono HB1.size)).trans (hb2.mono (Nat.le_trans HB1.size hb1.size))).alloc (Nat.le_trans HB1.size (Nat.le_trans hb1.size hb2.size)) _).grown hgrow (by have := HB1.size; have := hb1.size; have := hb2.size; simp at *; omega) (fun j hj => (HO.lt j hj).1))
        have HBEL := Lib.hid hbel
        clear hcell hown3 hgrow hat hlt3 hbel
        go_wp2
      all_goals exact ⟨⟨k + 1, by omega, by simp, by rw [HCL.out]; exact HFIN.out, HBEL.out⟩, by simp [intOf]; omega⟩
    · have hkn : ls.length ≤ k := by omega
      obtain rfl : k = ls.length := by omega
      rw [List.take_of_length_le (Nat.le_refl _)] at hown
      clear hA
      rcases Nat.eq_zero_or_pos ls.length with h0 | h0
      · obtain rfl := List.eq_nil_of_length_eq_zero h0
        obtain ⟨ao, cc, rfl⟩ : ∃ ao cc, u3 = .slice ao 0 cc := by
          rcases hown.2 with ⟨rfl, _⟩ | ⟨gg, cap', cur, rfl, _⟩
          · exact ⟨_, _, rfl⟩
          · exact ⟨_, _, rfl⟩
        go_wp2_with fail
        refine (Tryz.strings_Join_none ao cc ⟨#[32]⟩ _).mono ?_
        rintro e w2 ⟨rfl, rfl⟩
        go_wp2
        go_ret
        exact ⟨rfl, hb⟩
      · obtain ⟨gg, cap', cur, rfl, hg1, hg2, hg3, hg4, hg5, hg6⟩ : ∃ gg cap' cur, u3 = .slice (some ⟨gg, 0, none⟩) ls.length cap' ∧ w.heap.size ≤ gg ∧ wr.heap[gg]? = some (.cells cur 9 (0, 0)) ∧ ls.length ≤ cap' ∧ cap' ≤ maxLen ∧ cur.size = cap' * 1 ∧ cur.toList.take (ls.length * 1) = cellsL ls := by
          rcases hown.2 with ⟨_, h⟩ | h
          · omega
          · exact h
        have hJ := join_any gg cap' ls cur wr hg2 hg3 (by simpa using hg6) KL.out hlen
        go_wp2_with fail
        refine hJ.mono ?_
        rintro e w2 ⟨rfl, hb2⟩
        go_wp2
        go_ret
        exact ⟨rfl, hb.trans (hb2.mono hb.size)⟩

end Go.Proofs.YtphgakobfegpcaaGreatDoor
namespace Go.Proofs.YtphgakobfegpcaaGreatDoor
open Go.RowKit

theorem new_any (w : World) : Calls Tryz.prog 50 #[] w fun e w' => e = .returned (.pointer (some ⟨w.heap.size, 0, none⟩)) ∧ w' = w.alloc (.cells #[.slice none 0 0] 120) := by
  go_enter Tryz.func50, Tryz.ntmps50
  go_wp2
  go_ret
  exact ⟨rfl, rfl⟩

/-- What layers are behind an In; behind an Out; what Out answers. -/
def inS (ls : Ls) (n c : Int) : Ls := if inE ls n c = 0 then inL ls n.toNat c.toNat else ls
def outS (ls : Ls) (n : Int) : Ls := if outE ls n = 0 then (outL ls n.toNat).2 else ls
def outN (ls : Ls) (n : Int) : Nat := if outE ls n = 0 then (outL ls n.toNat).1 else 0

theorem in_gen (E : Nat → Addr) (p g : Nat) (ls : Ls) (n c : Int) (w : World) (hE : ErrAt 2 (E 2) w) (hL : Lay w p g ls) (hk : OkL ls) (hlen : ls.length ≤ 1000000) :
    Calls Tryz.prog 51 #[.pointer (some ⟨p, 0, none⟩), .int .i64 n, .int .i64 c] w fun e w' => e = .returned (errOf E (inE ls n c)) ∧
      ∃ g', Lay w' p g' (inS ls n c) ∧ Only p g w w' ∧ (g' = g ∨ w.heap.size ≤ g') := by
  by_cases h : n < 1 ∨ 1099511627776 < n ∨ c < 0 ∨ 1048576 < c ∨ 1099511627776 - (hasL ls : Int) < n
  · have e : inE ls n c = 2 := if_pos h
    refine (in_no (E 2) p g ls n c w hE hL hk hlen h).mono ?_
    rintro e' w' ⟨rfl, hb⟩
    refine ⟨by rw [e]; rfl, g, ?_, Only.of_below hb, .inl rfl⟩
    simp only [inS, e]
    exact hL.below hb
  · have e : inE ls n c = 0 := if_neg h
    obtain ⟨m, rfl⟩ := Int.eq_ofNat_of_zero_le (show (0 : Int) ≤ n by omega)
    obtain ⟨d, rfl⟩ := Int.eq_ofNat_of_zero_le (show (0 : Int) ≤ c by omega)
    refine (in_yes p g ls m d w hL hk hlen (by omega) (by omega) (by omega)).mono ?_
    rintro e' w' ⟨rfl, g', h1, h2, h3⟩
    refine ⟨by rw [e]; rfl, g', ?_, h2, h3⟩
    simp only [inS, e]
    exact h1

theorem out_gen (E : Nat → Addr) (p g : Nat) (ls : Ls) (n : Int) (w : World) (hE : ErrAt 2 (E 2) w) (hE9 : ErrAt 3 (E 9) w) (hL : Lay w p g ls) (hk : OkL ls) (hlen : ls.length ≤ 1000000) :
    Calls Tryz.prog 52 #[.pointer (some ⟨p, 0, none⟩), .int .i64 n] w fun e w' => e = .returned (.tuple #[.int .i64 (outN ls n : Nat), errOf E (outE ls n)]) ∧
      Lay w' p g (outS ls n) ∧ Only p g w w' := by
  by_cases h : n < 1 ∨ 1099511627776 < n
  · have e : outE ls n = 2 := if_pos h
    refine (out_bound (E 2) p n w hE h).mono ?_
    rintro e' w' ⟨rfl, hb⟩
    refine ⟨by rw [e]; simp only [outN, e]; rfl, ?_, Only.of_below hb⟩
    simp only [outS, e]
    exact hL.below hb
  · by_cases h2 : (hasL ls : Int) < n
    · have e : outE ls n = 9 := by unfold outE; rw [if_neg h, if_pos h2]
      refine (out_short (E 9) p g ls n w hE9 hL hk hlen (by omega) (by omega) h2).mono ?_
      rintro e' w' ⟨rfl, hb⟩
      refine ⟨by rw [e]; simp only [outN, e]; rfl, ?_, Only.of_below hb⟩
      simp only [outS, e]
      exact hL.below hb
    · have e : outE ls n = 0 := by unfold outE; rw [if_neg h, if_neg h2]
      obtain ⟨m, rfl⟩ := Int.eq_ofNat_of_zero_le (show (0 : Int) ≤ n by omega)
      refine (out_yes p g ls m w hL hk hlen (by omega) (by omega)).mono ?_
      rintro e' w' ⟨rfl, h1, h2⟩
      refine ⟨by rw [e]; simp only [outN, e]; rfl, ?_, h2⟩
      simp only [outS, e]
      exact h1

/-- Layers stay as they can be. -/
theorem inS_ok (ls : Ls) (n c : Int) (hk : OkL ls) : OkL (inS ls n c) := by
  unfold inS
  split
  · next h =>
    unfold inE at h
    split at h
    · cases h
    · exact inL_ok ls _ _ hk (by omega) (by omega) (by omega)
  · exact hk
theorem inS_length (ls : Ls) (n c : Int) : (inS ls n c).length ≤ ls.length + 1 := by
  unfold inS
  split
  · exact inL_length _ _ _
  · omega
theorem outS_ok (ls : Ls) (n : Int) (hk : OkL ls) : OkL (outS ls n) := by
  unfold outS
  split
  · next h =>
    unfold outE at h
    split at h
    · cases h
    · split at h
      · cases h
      · exact outL_ok ls _ hk (by omega)
  · exact hk
theorem outS_length (ls : Ls) (n : Int) : (outS ls n).length ≤ ls.length := by
  unfold outS
  split
  · exact outL_length _ _
  · omega
theorem outS_worth (ls : Ls) (n : Int) : outN ls n + worthL (outS ls n) = worthL ls := by
  unfold outS outN
  split
  · exact outL_worth _ _
  · omega
theorem inS_worth (ls : Ls) (n c : Int) : (worthL (inS ls n c) : Int) = worthL ls + (if inE ls n c = 0 then n * c else 0) := by
  unfold inS
  split
  · next h =>
    unfold inE at h
    split at h
    · cases h
    · rw [inL_worth]
      obtain ⟨m, rfl⟩ := Int.eq_ofNat_of_zero_le (show (0 : Int) ≤ n by omega)
      obtain ⟨d, rfl⟩ := Int.eq_ofNat_of_zero_le (show (0 : Int) ≤ c by omega)
      simp
  · omega

set_option maxHeartbeats 800000 in
set_option maxRecDepth 100000 in
theorem cheap_any (w : World) (hT : TabG w) : Calls Tryz.prog 9 #[] w fun e w' => e = .returned (.bool true) ∧ Below w.heap.size w w' := by
  go_enter Tryz.func9, Tryz.ntmps9
  go_wp2_with fail
  refine (new_any _).mono ?_
  rintro e w1 ⟨rfl, rfl⟩
  have L1 : Lay (w.alloc (.cells #[.slice none 0 0] 120)) w.heap.size w.heap.size [] := .inl ⟨rfl, rfl, heap_alloc_new _ _⟩
  have b1 := (Below.refl w.heap.size w).alloc (Nat.le_refl _) (.cells #[.slice none 0 0] 120)
  go_wp2_with fail
  refine (in_yes w.heap.size w.heap.size [] 3 5 _ L1 ⟨by simp [hasL], by simp, by simp⟩ (by simp) (by omega) (by simp [hasL]) (by omega)).mono ?_
  rintro e w2 ⟨rfl, g2, L2, o2, d2⟩
  have b2 := o2.below b1 (Nat.le_refl _) (Nat.le_refl _) b1.size
  have hg2 : w.heap.size ≤ g2 := by have := b1.size; omega
  go_wp2_with fail
  refine (in_yes w.heap.size g2 [(3, 5)] 2 7 _ L2 ⟨by simp [hasL], by simp, by simp⟩ (by simp) (by omega) (by simp [hasL]) (by omega)).mono ?_
  rintro e w3 ⟨rfl, g3, L3, o3, d3⟩
  have b3 := o3.below b2 (Nat.le_refl _) hg2 b2.size
  have hg3 : w.heap.size ≤ g3 := by have := b2.size; omega
  go_wp2_with fail
  refine (out_yes w.heap.size g3 [(3, 5), (2, 7)] 4 _ L3 ⟨by simp [hasL], by simp, by simp⟩ (by simp) (by omega) (by simp [hasL])).mono ?_
  rintro e w4 ⟨rfl, L4, o4⟩
  have b4 := o4.below b3 (Nat.le_refl _) hg3 b3.size
  have e4 : outL [(3, 5), (2, 7)] 4 = (22, [(1, 7)]) := by decide
  rw [e4] at L4 ⊢
  go_wp2_with fail
  refine (text_any w.heap.size g3 [(1, 7)] _ (hT.below b4) L4 ⟨by simp [hasL], by simp, by simp⟩ (by simp)).mono ?_
  rintro e w5 ⟨rfl, b5⟩
  have e5 : textL [(1, 7)] = [49, 64, 55] := by
    simp only [textL, List.map_cons, List.map_nil, Lib.join_one, itemL]
    rw [itoa_nat _ (by omega), itoa_nat _ (by omega), Lib.decDigits_one (by omega), Lib.decDigits_one (by omega)]; rfl
  rw [e5]
  go_wp2
  go_ret
  exact ⟨rfl, b4.trans (b5.mono b4.size)⟩

end Go.Proofs.YtphgakobfegpcaaGreatDoor
namespace Go.Proofs.YtphgakobfegpcaaGreatDoor
open Go.RowKit Go.Sort Go.Proofs

/-- An entry's pieces, at a cost: the error, the layers behind it, what went. -/
def flowE (ls : Ls) (x : EntV) (c : Int) : Nat := if x.1 = kIn ∨ x.1 = kMore then inE ls x.2.2.2.2.2 c else if x.1 = kOut ∨ x.1 = kLess then outE ls x.2.2.2.2.2 else 0
def flowS (ls : Ls) (x : EntV) (c : Int) : Ls := if x.1 = kIn ∨ x.1 = kMore then inS ls x.2.2.2.2.2 c else if x.1 = kOut ∨ x.1 = kLess then outS ls x.2.2.2.2.2 else ls
def flowN (ls : Ls) (x : EntV) : Nat := if x.1 = kIn ∨ x.1 = kMore then 0 else if x.1 = kOut ∨ x.1 = kLess then outN ls x.2.2.2.2.2 else 0
/-- The lot of an entry behind it, if it is one of the goods. -/
def coLot (B : BkV) (code : List UInt8) (x : EntV) : Option LotV := ((fL B x.2.2.1.1).filter fun y => decide (y.1.2.1 = code)).map (·.1)
def coE (B : BkV) (ls : Ls) (code : List UInt8) (x : EntV) : Nat := match coLot B code x with | some y => flowE ls x y.2.2.2 | none => 0
def coS (B : BkV) (ls : Ls) (code : List UInt8) (x : EntV) : Ls := match coLot B code x with | some y => flowS ls x y.2.2.2 | none => ls
def coN (B : BkV) (ls : Ls) (code : List UInt8) (x : EntV) : Nat := match coLot B code x with | some _ => flowN ls x | none => 0
/-- Entries one behind the other: the book, the layers, what went; or a fault. -/
def coGo (code : List UInt8) : BkV → Ls → Int → Nat → List EntV → (BkV × Ls × Int) ⊕ (Nat × Nat)
  | B, ls, a, _, [] => .inl (B, ls, a)
  | B, ls, a, i, x :: r => if doE B x ≠ 0 then .inr (doE B x, i) else if coE (doB B x) ls code x ≠ 0 then .inr (coE (doB B x) ls code x, i)
    else coGo code (doB B x) (coS (doB B x) ls code x) (IntKind.i64.wrap (a + (coN (doB B x) ls code x : Nat))) (i + 1) r
theorem coGo_step (code : List UInt8) (B : BkV) (ls : Ls) (a : Int) (l : List EntV) (k : Nat) (h : k < l.length) :
    coGo code B ls a k (l.drop k) = if doE B l[k] ≠ 0 then .inr (doE B l[k], k) else if coE (doB B l[k]) ls code l[k] ≠ 0 then .inr (coE (doB B l[k]) ls code l[k], k)
      else coGo code (doB B l[k]) (coS (doB B l[k]) ls code l[k]) (IntKind.i64.wrap (a + (coN (doB B l[k]) ls code l[k] : Nat))) (k + 1) (l.drop (k + 1)) := by
  rw [List.drop_eq_getElem_cons h]
  rfl
theorem flowE_tw (ls : Ls) (x : EntV) (c : Int) : flowE ls x c ≤ 12 := by
  unfold flowE
  split
  · unfold inE; split <;> omega
  split
  · unfold outE; split <;> (try split) <;> omega
  · omega
theorem coE_tw (B : BkV) (ls : Ls) (code : List UInt8) (x : EntV) : coE B ls code x ≤ 12 := by
  unfold coE
  split
  · exact flowE_tw _ _ _
  · omega
theorem coS_ok {B : BkV} {ls : Ls} {code : List UInt8} {x : EntV} (h : OkL ls) : OkL (coS B ls code x) ∧ (coS B ls code x).length ≤ ls.length + 1 := by
  unfold coS
  split
  · unfold flowS
    split
    · exact ⟨inS_ok _ _ _ h, inS_length _ _ _⟩
    split
    · exact ⟨outS_ok _ _ h, Nat.le_succ_of_le (outS_length _ _)⟩
    · exact ⟨h, Nat.le_succ _⟩
  · exact ⟨h, Nat.le_succ _⟩
/-- The last fault is an error; layers stay as they can be. -/
theorem coGo_err : ∀ {code : List UInt8} {l : List EntV} {B : BkV} {ls : Ls} {a : Int} {i k j : Nat}, (∀ x ∈ l, ∀ B, doE B x ≤ 12) → coGo code B ls a i l = .inr (k, j) → k ≠ 0 ∧ k ≤ 12
  | code, [], B, ls, a, i, k, j, _, h => by cases h
  | code, x :: r, B, ls, a, i, k, j, hd, h => by
    unfold coGo at h
    split at h
    · rename_i h1
      simp only [Sum.inr.injEq, Prod.mk.injEq] at h
      exact ⟨h.1 ▸ h1, h.1 ▸ hd x List.mem_cons_self B⟩
    split at h
    · rename_i h1
      simp only [Sum.inr.injEq, Prod.mk.injEq] at h
      exact ⟨h.1 ▸ h1, h.1 ▸ coE_tw _ _ _ _⟩
    · exact coGo_err (fun y hy => hd y (List.mem_cons_of_mem _ hy)) h
theorem coGo_ok : ∀ {code : List UInt8} {l : List EntV} {B : BkV} {ls : Ls} {a : Int} {i : Nat} {B' : BkV} {ls' : Ls} {a' : Int}, OkL ls → coGo code B ls a i l = .inl (B', ls', a') → OkL ls' ∧ ls'.length ≤ ls.length + l.length
  | code, [], B, ls, a, i, B', ls', a', ho, h => by
    simp only [coGo, Sum.inl.injEq, Prod.mk.injEq] at h
    rw [← h.2.1]
    exact ⟨ho, Nat.le_refl _⟩
  | code, x :: r, B, ls, a, i, B', ls', a', ho, h => by
    unfold coGo at h
    split at h
    · cases h
    split at h
    · cases h
    · obtain ⟨h1, h2⟩ := coS_ok (B := doB B x) (code := code) (x := x) ho
      obtain ⟨h3, h4⟩ := coGo_ok h1 h
      exact ⟨h3, by simp only [List.length_cons]; omega⟩
end Go.Proofs.YtphgakobfegpcaaGreatDoor
namespace Go.Proofs.YtphgakobfegpcaaGreatDoor
open Go.RowKit Go.Sort Go.Proofs

theorem onlyF {p g : Nat} {w w' : World} (h : Only p g w w') : ButF [p, g] w w' := ⟨h.os, h.tape, h.output, h.size, fun k hk hf => h.block k hk (fun e => hf (by simp [e])) (fun e => hf (by simp [e]))⟩
theorem LayT.butF {tp te : TypeId} {w w' : World} {p g : Nat} {ls : Ls} {F : List Nat} (h : LayT tp te w p g ls) (hb : ButF F w w') (hp : p ∉ F) (hg : g ∉ F) : LayT tp te w' p g ls :=
  h.keep (hb.block _ h.lt.1 hp) (hb.block _ h.lt.2 hg)

set_option maxHeartbeats 1600000 in
set_option maxRecDepth 100000 in
theorem flow_any (E : Nat → Addr) (p g : Nat) (ls : Ls) (x : EntV) (c : Int) (w : World) (hE : ErrAt 2 (E 2) w) (hE9 : ErrAt 3 (E 9) w) (hL : Lay w p g ls) (hk : OkL ls) (hlen : ls.length ≤ 1000000) :
    Calls Tryz.prog 53 #[.pointer (some ⟨p, 0, none⟩), .agg (encEnt x).toArray, .int .i64 c] w fun e w' => e = .returned (.tuple #[.int .i64 (flowN ls x : Nat), errOf E (flowE ls x c)]) ∧
      ∃ g', Lay w' p g' (flowS ls x c) ∧ Only p g w w' ∧ (g' = g ∨ w.heap.size ≤ g') := by
  have c0 : (encEnt x)[0]? = some (.string ⟨x.1.toArray⟩) := rfl
  have c13 : (encEnt x)[13]? = some (.int .i64 x.2.2.2.2.2) := rfl
  have h0 := heap_alloc_new w (.cells (encEnt x).toArray 69)
  have b0 := below_one w (.cells (encEnt x).toArray 69)
  have HI := Lib.hid (in_gen E p g ls x.2.2.2.2.2 c _ (hE.below b0) (hL.below b0) hk hlen)
  have HO := Lib.hid (out_gen E p g ls x.2.2.2.2.2 _ (hE.below b0) (hE9.below b0) (hL.below b0) hk hlen)
  have HLB := Lib.hid (hL.below b0)
  have B0 := Lib.hid b0
  obtain ⟨rN, hN⟩ : ∃ rN, rN = flowN ls x := ⟨_, rfl⟩
  obtain ⟨rE, hR⟩ : ∃ rE, rE = flowE ls x c := ⟨_, rfl⟩
  obtain ⟨rS, hS⟩ : ∃ rS, rS = flowS ls x c := ⟨_, rfl⟩
  rw [← hN, ← hR, ← hS]
  have HRN : Hid (rN = _) := hN
  have HRE : Hid (rE = _) := hR
  have HRS : Hid (rS = _) := hS
  unfold flowN at HRN
  unfold flowE at HRE
  unfold flowS at HRS
  clear hN hR hS
  clear hL b0 hE hE9
  generalize x.2.2.2.2.2 = n at *
  generalize x.1 = k at *
  generalize encEnt x = LX at *
  go_enter Tryz.func53, Tryz.ntmps53
  go_upto_region 1 with fail
  generalize w.alloc (.cells LX.toArray 69) = W0 at h0 B0 HI HO HLB ⊢
  have e0 : W0.cell? ⟨w.heap.size, 0, none⟩ = some (.string ⟨k.toArray⟩) := (cell_of_row _ _ _ _ _ _ h0).trans (by simpa using c0)
  have e13 : W0.cell? ⟨w.heap.size, 13, none⟩ = some (.int .i64 n) := (cell_of_row _ _ _ _ _ _ h0).trans (by simpa using c13)
  clear c0 c13 h0
  have hin : ∀ e (w' : World), (e = Ending.returned (errOf E (inE ls n c)) ∧ ∃ g', Lay w' p g' (inS ls n c) ∧ Only p g W0 w' ∧ (g' = g ∨ W0.heap.size ≤ g')) → ∃ g', Lay w' p g' (inS ls n c) ∧ Only p g w w' ∧ (g' = g ∨ w.heap.size ≤ g') := by
    rintro e w' ⟨-, g', h1, h2, h3⟩
    have hs := B0.out.size
    exact ⟨g', h1, (Only.of_below B0.out).trans h2 (.inl rfl), by omega⟩
  have HIN := Lib.hid hin
  clear hin
  by_cases k0 : k = kIn
  · have b0 : (k == [105, 110]) = true := by rw [k0]; rfl
    have H0 := Lib.hid k0
    clear k0 HO
    go_wp2_with fail
    refine HI.out.mono ?_
    rintro e w1 h1
    have H1 := Lib.hid (HIN.out e w1 h1)
    obtain ⟨rfl, -⟩ := h1
    clear HI HIN
    go_wp2_with fail
    go_ret2
    rw [HRN.out, HRE.out, HRS.out]
    repeat rw [if_pos (.inl H0.out)]
    exact ⟨rfl, H1.out⟩
  have b0 : (k == [105, 110]) = false := by simpa [kIn] using k0
  by_cases k1 : k = kMore
  · have b1 : (k == [109, 111, 114, 101]) = true := by rw [k1]; rfl
    have H0 := Lib.hid k1
    clear k0 k1 HO
    go_wp2_with fail
    refine HI.out.mono ?_
    rintro e w1 h1
    have H1 := Lib.hid (HIN.out e w1 h1)
    obtain ⟨rfl, -⟩ := h1
    clear HI HIN
    go_wp2_with fail
    go_ret2
    rw [HRN.out, HRE.out, HRS.out]
    repeat rw [if_pos (.inr H0.out)]
    exact ⟨rfl, H1.out⟩
  have b1 : (k == [109, 111, 114, 101]) = false := by simpa [kMore] using k1
  have HN : Hid (¬ (k = kIn ∨ k = kMore)) := fun h => h.elim k0 k1
  clear k0 k1 HI HIN
  by_cases k2 : k = kOut
  · have b2 : (k == [111, 117, 116]) = true := by rw [k2]; rfl
    have H0 := Lib.hid k2
    clear k2
    go_wp2_with fail
    refine HO.out.mono ?_
    rintro e w1 ⟨rfl, h1, h2⟩
    have H1 := Lib.hid h1
    have H2 := Lib.hid h2
    clear HO h1 h2
    go_wp2_with fail
    go_ret2
    rw [HRN.out, HRE.out, HRS.out]
    repeat rw [if_neg HN.out]
    repeat rw [if_pos (.inl H0.out)]
    exact ⟨rfl, g, H1.out, (Only.of_below B0.out).trans H2.out (.inl rfl), .inl rfl⟩
  have b2 : (k == [111, 117, 116]) = false := by simpa [kOut] using k2
  by_cases k3 : k = kLess
  · have b3 : (k == [108, 101, 115, 115]) = true := by rw [k3]; rfl
    have H0 := Lib.hid k3
    clear k2 k3
    go_wp2_with fail
    refine HO.out.mono ?_
    rintro e w1 ⟨rfl, h1, h2⟩
    have H1 := Lib.hid h1
    have H2 := Lib.hid h2
    clear HO h1 h2
    go_wp2_with fail
    go_ret2
    rw [HRN.out, HRE.out, HRS.out]
    repeat rw [if_neg HN.out]
    repeat rw [if_pos (.inr H0.out)]
    exact ⟨rfl, g, H1.out, (Only.of_below B0.out).trans H2.out (.inl rfl), .inl rfl⟩
  have b3 : (k == [108, 101, 115, 115]) = false := by simpa [kLess] using k3
  have HM : Hid (¬ (k = kOut ∨ k = kLess)) := fun h => h.elim k2 k3
  clear k2 k3 HO
  go_wp2_with fail
  go_ret2
  rw [HRN.out, HRE.out, HRS.out]
  repeat rw [if_neg HN.out]
  repeat rw [if_neg HM.out]
  exact ⟨rfl, g, HLB.out, Only.of_below B0.out, .inl rfl⟩

set_option maxHeartbeats 800000 in
set_option maxRecDepth 100000 in
theorem packBk_any {p : Nat} {F : List Nat} {B : BkV} {w : World} (H : BookIs w p F B) (code : List UInt8) :
    Calls Tryz.prog 54 #[.pointer (some ⟨p, 0, none⟩), .string ⟨code.toArray⟩] w fun e w' => (∃ n, e = .returned (.tuple #[.int .i64 n, .bool (fG B code).isSome])) ∧ Below w.heap.size w w' := by
  obtain ⟨g, l, h, s, q, c, -, -, hm⟩ := H
  obtain ⟨⟨c0, -, -, -, -⟩, -⟩ := hm.cells
  have b0 := below_one w (.cells #[.string ⟨#[]⟩, .int .i64 0] 50)
  have c0' := (b0.cell (p := ⟨p, 0, none⟩) (lt_of_cell c0)).trans c0
  have hr := heap_alloc_new w (.cells #[.string ⟨#[]⟩, .int .i64 0] 50)
  have hl0 := hm.goods.look (P := Tryz.prog) (t := 133) (kt := 9) (by kernel_rfl) Tryz.underlying133 (zeroGoodsE _) code true
  have hl := (hm.goods.below b0).look (P := Tryz.prog) (t := 133) (kt := 9) (by kernel_rfl) Tryz.underlying133 (zeroGoodsE _) code true
  have hs : (goodsF B code).isSome = (fG B code).isSome := by unfold goodsF; simp
  rw [hs] at hl hl0
  clear hm hs
  generalize (goodsF B code).getD zeroGoods = z at hl hl0
  generalize (fG B code).isSome = is at hl hl0 ⊢
  simp only [eGoods, if_true] at hl hl0
  obtain ⟨z1, z2⟩ := z
  simp only [encGoods] at hl hl0
  go_enter Tryz.func54, Tryz.ntmps54
  go_wp2_with fail
  go_ret2
  exact ⟨⟨z2, rfl⟩, below_one _ _⟩
end Go.Proofs.YtphgakobfegpcaaGreatDoor
