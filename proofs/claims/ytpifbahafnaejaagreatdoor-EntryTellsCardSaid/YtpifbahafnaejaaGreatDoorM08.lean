/- A slice of strings appended to one that the call owns. Slices of strings that a call owns: one more appended; joined. Entries' text: entry.Text. Printed by gen/entx.py. -/
import Derived.Maps.AppendAt
import Derived.OwnWalk
import Derived.Lib.Join
import Derived.Test.YtpifbahafnaejaaGreatDoorM02
import Derived.Test.YtpifbahafnaejaaGreatDoorM03
import Derived.Test.YtpifbahafnaejaaGreatDoorM05
import Derived.Test.YtpifbahafnaejaaGreatDoorM06
namespace Go.Proofs.YtpifbahafnaejaaGreatDoor
open Go.RowKit

theorem run_append_strs (w : World) (base : Nat) (v : Value) (n : Nat) (xs : List Value) (hown : w.ownsRow base 9 1 v n xs) (A : Option Addr) (c : Nat) (ys : List (List UInt8)) (hS : StrsAt w A ys) (hn : n + ys.length ≤ 1000000000) (hbase : base ≤ w.heap.size) (ty : TypeId) :
    ∃ v' w', (Builtin.append_ #[42, 42] ty #[v, .slice A ys.length c]).run Tryz.prog w = .ok v' w' ∧ w'.ownsRow base 9 1 v' (n + ys.length) (xs ++ strVals ys) ∧ w.grownBy w' v.ownBlock := by
  obtain ⟨i, hi, hz, hs1, hb1⟩ := info_parts stringInfo1
  have ht := Tryz.underlying42
  cases A with
  | none =>
    have h0 : ys = [] := by
      rcases hS with h | ⟨b, o, h, _⟩
      · exact h
      · cases h
    subst h0
    refine ⟨v, w, ?_, by simpa [strVals] using hown, World.grownBy.refl w _⟩
    rcases hown.2 with ⟨rfl, rfl⟩ | ⟨g, cap, cur, rfl, _, _, hnc, _⟩
    · simp [Builtin.append_, run_underlying ht, sizeOf, typeInfo, hi, Builtin.lenOf, Builtin.firstCells]
    · simp [Builtin.append_, run_underlying ht, sizeOf, typeInfo, hi, Builtin.lenOf, Builtin.firstCells, hnc, storeCells]
  | some ad =>
    have hc : ∀ j u, (strVals ys)[j]? = some u → w.cell? (ad.add j) = some u := by
      intro j u hj
      have hjl : j < ys.length := by simpa [strVals] using (List.getElem?_eq_some_iff.1 hj).1
      rcases hS with h | ⟨b, o, h, _, h3⟩
      · subst h; simp at hjl
      · cases h
        have hplain : (⟨b, o, none⟩ : Addr).add j = ⟨b, o + j, none⟩ := by unfold Addr.add; split <;> simp_all
        rw [hplain, h3 j hjl]
        simp [strVals, List.getElem?_eq_getElem hjl] at hj
        rw [← hj]
    obtain ⟨v', w', h1, h2, h3, _, _⟩ := run_append_own_at (P := Tryz.prog) w base 42 ty 9 i (.string ⟨#[]⟩) 1 16 ht hi hz hs1 hb1 rfl (by decide) v n xs hown ad ys.length c (strVals ys) (by simp [strVals]) hc (by simp [strVals, Value.oneCell']) (by unfold maxLen; omega) (by omega) hbase
    exact ⟨v', w', h1, h2, h3⟩
theorem wpList_append_strs {ops : Array Oper} {rest : List Oper} {o : Oper} {a : Act} {Q : Exit → Act → World → Prop} (w : World) (hgd : o.guard = none) (s x : Operand)
    (ho : o.op = .call { callee := .builtin .append, args := #[s, x], argTypes := #[42, 42] })
    (base : Nat) (v : Value) (n : Nat) (xs : List Value) (hs : a.eval s = v) (hown : w.ownsRow base 9 1 v n xs) (A : Option Addr) (c : Nat) (ys : List (List UInt8)) (hx : a.eval x = .slice A ys.length c) (hS : StrsAt w A ys) (hn : n + ys.length ≤ 1000000000) (hbase : base ≤ w.heap.size)
    (h : ∀ v' w', Hid (w'.ownsRow base 9 1 v' (n + ys.length) (xs ++ strVals ys)) → Below base w w' → wpList Tryz.prog ops Q rest (a.put o.dst v') w') : wpList Tryz.prog ops Q (o :: rest) a w := by
  refine wpList_plain hgd fun K hK => ?_
  obtain ⟨v', w', hr, h2, h3⟩ := run_append_strs w base v n xs hown A c ys hS hn hbase o.type
  unfold Oper.wp execOp
  simp only [ho, resolve, invoke, builtin, Sem.run_bind, Sem.run_pure, Result.andThen_ok, List.map_toArray, List.map_cons, List.map_nil, hs, hx, hr]
  exact hK _ _ (h v' w' h2 ((Below.refl base w).grown h3 hbase (fun j hj => (hown.lt j hj).1)))
theorem StrsAt.belowB {w w' : World} {A : Option Addr} {xs : List (List UInt8)} {B : Nat} (h : StrsAt w A xs) (hb : Below B w w') (hA : ∀ a, A = some a → a.block < B) : StrsAt w' A xs := by
  rcases h with h | ⟨b, o, h1, h2, h3⟩
  · exact .inl h
  · exact .inr ⟨b, o, h1, Nat.lt_of_lt_of_le h2 hb.size, fun i hi => (hb.cell (p := ⟨b, o + i, none⟩) (show b < B from hA _ h1)).trans (h3 i hi)⟩
theorem StrsAt.lt {w : World} {A : Option Addr} {xs : List (List UInt8)} (h : StrsAt w A xs) (hx : xs ≠ []) : ∀ a, A = some a → a.block < w.heap.size := by
  rcases h with h | ⟨b, o, h1, h2, _⟩
  · exact absurd h hx
  · intro a ha
    rw [h1] at ha
    cases ha
    exact h2
end Go.Proofs.YtpifbahafnaejaaGreatDoor
namespace Go.Proofs.YtpifbahafnaejaaGreatDoor
open Go.RowKit

theorem wpList_append_strs2 {ops : Array Oper} {rest : List Oper} {o : Oper} {a : Act} {Q : Exit → Act → World → Prop} (w : World) (hgd : o.guard = none) (s x : Operand)
    (ho : o.op = .call { callee := .builtin .append, args := #[s, x], argTypes := #[42, 42] })
    (base : Nat) (v : Value) (n : Nat) (xs : List Value) (hs : a.eval s = v) (hown : w.ownsRow base 9 1 v n xs) (A : Option Addr) (c : Nat) (ys : List (List UInt8)) (hx : a.eval x = .slice A ys.length c) (hS : StrsAt w A ys) (hn : n + ys.length ≤ 1000000000) (hbase : base ≤ w.heap.size)
    (h : ∀ v' w', Hid (w'.ownsRow base 9 1 v' (n + ys.length) (xs ++ strVals ys)) → w.grownBy w' v.ownBlock → wpList Tryz.prog ops Q rest (a.put o.dst v') w') : wpList Tryz.prog ops Q (o :: rest) a w := by
  refine wpList_plain hgd fun K hK => ?_
  obtain ⟨v', w', hr, h2, h3⟩ := run_append_strs w base v n xs hown A c ys hS hn hbase o.type
  unfold Oper.wp execOp
  simp only [ho, resolve, invoke, builtin, Sem.run_bind, Sem.run_pure, Result.andThen_ok, List.map_toArray, List.map_cons, List.map_nil, hs, hx, hr]
  exact hK _ _ (h v' w' h2 h3)
/-- A row of strings that is new. -/
theorem own_new (w : World) (B : Nat) (ys : List (List UInt8)) (hB : B ≤ w.heap.size) (hl : ys.length ≤ 1000000000) : (w.alloc (.cells (strVals ys).toArray 9)).ownsRow B 9 1 (.slice (some ⟨w.heap.size, 0, none⟩) ys.length ys.length) ys.length (strVals ys) :=
  ⟨by simp [strVals], .inr ⟨w.heap.size, ys.length, _, rfl, hB, heap_alloc_new _ _, Nat.le_refl _, by unfold maxLen; omega, by simp [strVals], by simp [strVals, ← List.map_take]⟩⟩
theorem strs_new (w : World) (ys : List (List UInt8)) : StrsAt (w.alloc (.cells (strVals ys).toArray 9)) (some ⟨w.heap.size, 0, none⟩) ys :=
  .inr ⟨w.heap.size, 0, rfl, by simp, fun i hi => by
    rw [cell_of_row _ _ _ _ _ _ (heap_alloc_new _ _), Nat.zero_add]
    simp [strVals, hi]⟩
theorem own_keep {w w' : World} {B e size n : Nat} {v : Value} {xs : List Value} (h : w.ownsRow B e size v n xs) (hb : Below w.heap.size w w') : w'.ownsRow B e size v n xs := by
  refine ⟨h.1, ?_⟩
  rcases h.2 with h0 | ⟨g, cap, cur, h1, h2, h3, h4⟩
  · exact .inl h0
  · exact .inr ⟨g, cap, cur, h1, h2, (hb.block g (Array.getElem?_eq_some_iff.1 h3).1).trans h3, h4⟩
theorem bsz {B : Nat} {w w' : World} (h : B ≤ w.heap.size) (hb : Below B w w') : B ≤ w'.heap.size := Nat.le_trans h hb.size
theorem lt_own {w : World} {B e size g o n cap m : Nat} {xs : List Value} (h : w.ownsRow B e size (.slice (some ⟨g, o, none⟩) n cap) m xs) : g < w.heap.size := (h.lt g rfl).2
theorem below_cell {w w' : World} {a : Addr} {v : Value} (hb : Below w.heap.size w w') (h : w.cell? a = some v) : w'.cell? a = some v := (hb.cell (lt_of_cell h)).trans h
theorem join_joinL (c : UInt8) (xs : List (List UInt8)) : Lib.join xs [c] = joinL c xs := by
  induction xs with
  | nil => rfl
  | cons x r ih =>
    rw [Lib.join_cons]
    cases r with
    | nil => simp [Lib.joinTail, joinL]
    | cons y q =>
      rw [joinL_cons, ← ih, Lib.join_cons]
      simp [Lib.joinTail]
/-- strings.Join at a row that the call owns. -/
theorem joinOwn_any (c : UInt8) (B : Nat) (v : Value) (xs : List (List UInt8)) (w : World) (h : w.ownsRow B 9 1 v xs.length (strVals xs)) (hl : xs.length ≤ 1000000) (hj : (joinL c xs).length ≤ 140737488355328) :
    Calls Tryz.prog 17 #[v, .string ⟨#[c]⟩] w fun e w' => e = .returned (.string ⟨(joinL c xs).toArray⟩) ∧ Below w.heap.size w w' := by
  rcases h.2 with ⟨rfl, h0⟩ | ⟨g, cap, cur, rfl, hB, hg, hc, _, _, ht⟩
  · obtain rfl := List.eq_nil_of_length_eq_zero h0
    exact (Tryz.strings_Join_none none 0 ⟨#[c]⟩ w).mono fun e w' hh => by
      obtain ⟨he, rfl⟩ := hh
      exact ⟨he, Below.refl _ _⟩
  · have e : (xs.map fun x => (⟨x.toArray⟩ : ByteArray)).map (·.data.toList) = xs := by simp [Function.comp_def]
    have hgl : g < w.heap.size := by
      rcases Nat.lt_or_ge g w.heap.size with hl | hl
      · exact hl
      · rw [Array.getElem?_eq_none hl] at hg; cases hg
    have h := Tryz.strings_Join g 0 cap (xs.map fun x => (⟨x.toArray⟩ : ByteArray)) ⟨#[c]⟩ w (fun j x hx => ?_) hgl (by simp; omega) (by simpa using hc) (by rw [e]; show (Lib.join xs [c]).length ≤ _; rw [join_joinL]; exact hj)
    · rw [e, List.length_map] at h
      rw [← join_joinL]
      exact h
    · obtain ⟨hj, hx⟩ := List.getElem?_eq_some_iff.1 hx
      have hj : j < xs.length := by simpa using hj
      rw [cell_of_row _ _ _ _ _ _ hg, Nat.zero_add, ← Array.getElem?_toList, ← List.getElem?_take_of_lt (l := cur.toList) (show j < xs.length * 1 by omega), ht]
      simp only [strVals, List.getElem?_map, List.getElem?_eq_getElem hj]
      simp at hx
      simp [hx]
/-- strings.Join at a row that lies there. -/
theorem joinLies_any (c : UInt8) (A : Option Addr) (cap : Nat) (xs : List (List UInt8)) (w : World) (h : StrsAt w A xs) (hc : xs.length ≤ cap) (hl : xs.length ≤ 1000000) (hj : (joinL c xs).length ≤ 140737488355328) :
    Calls Tryz.prog 17 #[.slice A xs.length cap, .string ⟨#[c]⟩] w fun e w' => e = .returned (.string ⟨(joinL c xs).toArray⟩) ∧ Below w.heap.size w w' := by
  rcases h with rfl | ⟨g, o, rfl, hgl, hx⟩
  · exact (Tryz.strings_Join_none A cap ⟨#[c]⟩ w).mono fun e w' hh => by
      obtain ⟨he, rfl⟩ := hh
      exact ⟨he, Below.refl _ _⟩
  · have e : (xs.map fun x => (⟨x.toArray⟩ : ByteArray)).map (·.data.toList) = xs := by simp [Function.comp_def]
    have h := Tryz.strings_Join g o cap (xs.map fun x => (⟨x.toArray⟩ : ByteArray)) ⟨#[c]⟩ w (fun j x hx' => ?_) hgl (by simp; omega) (by simpa using hc) (by rw [e]; show (Lib.join xs [c]).length ≤ _; rw [join_joinL]; exact hj)
    · rw [e, List.length_map] at h
      rw [← join_joinL]
      exact h
    · obtain ⟨hj, hx2⟩ := List.getElem?_eq_some_iff.1 hx'
      have hj : j < xs.length := by simpa using hj
      rw [hx j hj]
      simp at hx2
      simp [hx2]
end Go.Proofs.YtpifbahafnaejaaGreatDoor
namespace Go.Proofs.YtpifbahafnaejaaGreatDoor
open Go.RowKit Go.Sort Go.Proofs

theorem entP_len (x : EntV) : (encPlace x.2.2.2.1).length = 3 ∧ (encPlace x.2.2.2.2.1).length = 3 ∧ (encLot x.2.2.1).length = 4 := ⟨rfl, rfl, rfl⟩
theorem ent_from {w : World} {b : Nat} {x : EntV} (h : Lies w b 0 (encEnt x)) : Lies w b 7 (encPlace x.2.2.2.1) := fun j v hv => by
  have hj : j < 3 := (List.getElem?_eq_some_iff.1 hv).1
  have := h (7 + j) v (by match j, hj, hv with | 0, _, hv => exact hv | 1, _, hv => exact hv | 2, _, hv => exact hv)
  simpa using this
theorem ent_to {w : World} {b : Nat} {x : EntV} (h : Lies w b 0 (encEnt x)) : Lies w b 10 (encPlace x.2.2.2.2.1) := fun j v hv => by
  have hj : j < 3 := (List.getElem?_eq_some_iff.1 hv).1
  have := h (10 + j) v (by match j, hj, hv with | 0, _, hv => exact hv | 1, _, hv => exact hv | 2, _, hv => exact hv)
  simpa using this
theorem ent_lot {w : World} {b : Nat} {x : EntV} (h : Lies w b 0 (encEnt x)) : Lies w b 3 (encLot x.2.2.1) := fun j v hv => by
  have hj : j < 4 := (List.getElem?_eq_some_iff.1 hv).1
  have := h (3 + j) v (by match j, hj, hv with | 0, _, hv => exact hv | 1, _, hv => exact hv | 2, _, hv => exact hv | 3, _, hv => exact hv)
  simpa using this
theorem isP_len {k : List UInt8} (h : isP k = true) : k.length ≤ 10 := by
  unfold isP at h
  simp only [decide_eq_true_eq] at h
  rcases h with rfl | rfl | rfl | rfl | rfl | rfl | rfl <;> decide
theorem goods_zero {x : EntV} (h : entE x = 0) (hk : x.1 = kGoods) : nameB x.2.1.1 = true ∧ 1 ≤ x.2.1.2 ∧ x.2.1.2 ≤ 1000 := by
  unfold entE at h
  rw [if_pos hk] at h
  split at h
  · rename_i h1; exact absurd h h1
  rename_i h1
  simp only [Decidable.not_not] at h1
  unfold goodsE at h1
  split at h1
  · cases h1
  split at h1
  · cases h1
  rename_i h3 h4
  unfold wiB at h4
  simp only [decide_eq_false_iff_not, Decidable.not_not] at h4
  exact ⟨by simpa using h3, h4⟩
theorem lot_zero {x : EntV} (h : entE x = 0) (hk : x.1 = kLot) : lotE x.2.2.1 = 0 := by
  unfold entE at h
  rw [if_neg (by rw [hk]; decide), if_pos hk] at h
  split at h
  · rename_i h1; exact absurd h h1
  · rename_i h1; simpa using h1
theorem lotText_len (x : LotV) (h : lotE x = 0) : (lotText x).length ≤ 100 := by
  have h0 := h
  unfold lotE at h
  split at h
  · cases h
  split at h
  · cases h
  rename_i h1 h2
  simp at h1
  have a1 := (nameB_len h1.1).2
  have a2 := (nameB_len h1.2).2
  have a3 := Lib.itoa_length_le x.2.2.1 (by omega) (by omega)
  have a4 := Lib.itoa_length_le x.2.2.2 (by omega) (by omega)
  unfold lotText
  rw [if_pos h0]
  simp only [List.length_append, List.length_singleton]
  omega
theorem placeText_len (x : PlaceV) : (placeText x).length ≤ 100 := by
  unfold placeText
  split
  · rename_i h
    obtain ⟨h1, h2, h3, h4, h5⟩ := placeE_zero.1 h
    have a1 := (nameB_len h1).2
    have a3 := Lib.itoa_length_le x.2.1 (by omega) (by omega)
    have a4 := Lib.itoa_length_le x.2.2 (by omega) (by omega)
    simp only [List.length_append, List.length_singleton]
    omega
  · simp
theorem Lies.at {w : World} {b : Nat} {L : List Value} (h : Lies w b 0 L) (i : Nat) (v : Value) (hv : L[i]? = some v) : w.cell? ⟨b, i, none⟩ = some v := by
  have := h i v hv
  rwa [Nat.zero_add] at this

set_option maxHeartbeats 3200000 in
set_option maxRecDepth 100000 in
theorem textEnt_no (E : Nat → Addr) (x : EntV) (h1 : x.2.2.1.1.length ≤ 1000000000) (h2 : x.2.2.1.2.1.length ≤ 1000000000) (w : World) (hG : EntG E w) (hE : entE x ≠ 0) :
    Calls Tryz.prog 11 #[.agg (encEnt x).toArray] w fun e w' => e = .returned (.string ⟨#[]⟩) ∧ Below w.heap.size w w' := by
  have b0 := below_one w (.cells (encEnt x).toArray 29)
  have hl := Lies.row (w := w.alloc (.cells (encEnt x).toArray 29)) (encEnt x) (heap_alloc_new _ _)
  have HCK := Lib.hid (checkEnt_any E x h1 h2 (w.alloc (.cells (encEnt x).toArray 29)) (hG.below b0))
  rw [errOf_pos _ _ hE] at HCK
  have B0 := Lib.hid b0
  clear b0 hG h1 h2
  generalize entE x = en at HCK
  have hlen : (encEnt x).length = 14 := rfl
  generalize encEnt x = L at HCK hl hlen B0 ⊢
  go_enter Tryz.func11, Tryz.ntmps11
  go_wp2_with (refine wpList_load_at rfl 29 _ rfl w.heap.size 0 rfl L hl _ Tryz.underlying29 rfl (by rw [hlen]; kernel_rfl) ?_)
  refine HCK.out.mono ?_
  rintro e w1 ⟨rfl, b1⟩
  have B1 := Lib.hid (B0.out.trans (b1.mono B0.out.size))
  clear b1
  go_wp2_with fail
  go_ret
  exact ⟨rfl, B1.out⟩

set_option maxHeartbeats 3200000 in
set_option maxRecDepth 100000 in
theorem textEnt_goods (E : Nat → Addr) (x : EntV) (h1 : x.2.2.1.1.length ≤ 1000000000) (h2 : x.2.2.1.2.1.length ≤ 1000000000) (w : World) (hG : EntG E w) (hE : entE x = 0) (hk : x.1 = kGoods) :
    Calls Tryz.prog 11 #[.agg (encEnt x).toArray] w fun e w' => e = .returned (.string ⟨(kGoods ++ [32] ++ x.2.1.1 ++ [32] ++ Lib.itoa x.2.1.2).toArray⟩) ∧ Below w.heap.size w w' := by
  have b0 := below_one w (.cells (encEnt x).toArray 29)
  have hl := Lies.row (w := w.alloc (.cells (encEnt x).toArray 29)) (encEnt x) (heap_alloc_new _ _)
  have HCK := Lib.hid (checkEnt_any E x h1 h2 (w.alloc (.cells (encEnt x).toArray 29)) (hG.below b0))
  rw [hE, errOf_zero] at HCK
  have HG := Lib.hid (fun W (h : Below w.heap.size w W) => hG.below h)
  have B0 := Lib.hid b0
  have hlen : (encEnt x).length = 14 := rfl
  obtain ⟨r, hr⟩ : ∃ r, r = kGoods ++ [32] ++ x.2.1.1 ++ [32] ++ Lib.itoa x.2.1.2 := ⟨_, rfl⟩
  rw [← hr]
  have HR := Lib.hid hr
  clear b0 hG hr
  have hg : nameB x.2.1.1 = true ∧ 1 ≤ x.2.1.2 ∧ x.2.1.2 ≤ 1000 := goods_zero hE hk
  have hnl := (nameB_len hg.1).2
  have hkb : (x.1 == [103, 111, 111, 100, 115]) = true := by rw [hk]; rfl
  go_enter Tryz.func11, Tryz.ntmps11
  go_wp2_with (refine wpList_load_at rfl 29 _ rfl w.heap.size 0 rfl (encEnt x) hl _ Tryz.underlying29 rfl (by rw [hlen]; kernel_rfl) ?_)
  refine HCK.out.mono ?_
  rintro e w1 ⟨rfl, b1⟩
  have hl1 := hl.below b1
  have B1 := Lib.hid (B0.out.trans (b1.mono B0.out.size))
  have hw1 : w.heap.size < w1.heap.size := heap_two b1
  have c0 : w1.cell? ⟨w.heap.size, 0, none⟩ = some (.string ⟨x.1.toArray⟩) := hl1.at 0 _ rfl
  have c1 : w1.cell? ⟨w.heap.size, 1, none⟩ = some (.string ⟨x.2.1.1.toArray⟩) := hl1.at 1 _ rfl
  have c2 : w1.cell? ⟨w.heap.size, 2, none⟩ = some (.int .i64 x.2.1.2) := hl1.at 2 _ rfl
  have hni := Lib.itoa_length_le x.2.1.2 (by omega) (by omega)
  obtain ⟨g0, g1, g2⟩ := hg
  have HT := Lib.hid (fun W h => itoa_any x.2.1.2 (by omega) (by omega) W h)
  clear hl hl1 HCK hk hE b1 g0 h1 h2
  generalize x.2.1.1 = a at c1 hnl HR
  generalize x.2.1.2 = n at c2 hni HT HR
  generalize x.1 = k at c0 hkb
  go_wp2_with fail
  have v1 : ¬ 9223372036854775807 < 6 + a.length := by omega
  have v2 : ¬ 9223372036854775807 < 6 + a.length + 1 := by omega
  have v3 : ¬ 9223372036854775807 < 6 + a.length + 1 + (Lib.itoa n).length := by omega
  have hd := B1.out.drew
  go_region_held3 (fun w' => w'.cell? ⟨w.heap.size, 1, none⟩ = some (.string ⟨a.toArray⟩) ∧ w'.cell? ⟨w.heap.size, 2, none⟩ = some (.int .i64 n) ∧ Below w.heap.size w w')
    (first | exact ⟨c1, c2, hd⟩ | exact ⟨(q3.cell hw1).trans c1, (q3.cell hw1).trans c2, b3⟩ | go_keep)
    (first | (go_at_call_of 34 (Value.int .i64 n); refine (HT.out _ (HG.out _ hd).read.tab).mono ?_; rintro e w3 ⟨rfl, bb3⟩; have q3 : Below w1.heap.size w1 w3 := (Below.refl w1.heap.size w1).drew.trans bb3; have b3 := B1.out.trans (q3.mono B1.out.size)))
  all_goals
    have B3 := Lib.hid b3
    clear b3 q3 bb3 hd c1 c2 c0
    go_wp2_with fail
    go_ret
    refine ⟨?_, B3.out⟩
    rw [HR.out]
    show Ending.returned (.string ((⟨#[103, 111, 111, 100, 115, 32]⟩ : ByteArray) ++ (⟨a.toArray⟩ : ByteArray) ++ (⟨#[32]⟩ : ByteArray) ++ (⟨(Lib.itoa n).toArray⟩ : ByteArray))) = _
    rw [show (⟨#[103, 111, 111, 100, 115, 32]⟩ : ByteArray) = ⟨[103, 111, 111, 100, 115, 32].toArray⟩ from rfl, show (⟨#[32]⟩ : ByteArray) = ⟨[32].toArray⟩ from rfl, mk_app, mk_app, mk_app]
    rfl

set_option maxHeartbeats 3200000 in
set_option maxRecDepth 100000 in
theorem textEnt_lot (E : Nat → Addr) (x : EntV) (h1 : x.2.2.1.1.length ≤ 1000000000) (h2 : x.2.2.1.2.1.length ≤ 1000000000) (w : World) (hG : EntG E w) (hE : entE x = 0) (hk : x.1 = kLot) :
    Calls Tryz.prog 11 #[.agg (encEnt x).toArray] w fun e w' => e = .returned (.string ⟨(kLot ++ [32] ++ lotText x.2.2.1).toArray⟩) ∧ Below w.heap.size w w' := by
  have b0 := below_one w (.cells (encEnt x).toArray 29)
  have hl := Lies.row (w := w.alloc (.cells (encEnt x).toArray 29)) (encEnt x) (heap_alloc_new _ _)
  have HCK := Lib.hid (checkEnt_any E x h1 h2 (w.alloc (.cells (encEnt x).toArray 29)) (hG.below b0))
  rw [hE, errOf_zero] at HCK
  have HG := Lib.hid (fun W (h : Below w.heap.size w W) => hG.below h)
  have B0 := Lib.hid b0
  have hlen : (encEnt x).length = 14 := rfl
  obtain ⟨r, hr⟩ : ∃ r, r = kLot ++ [32] ++ lotText x.2.2.1 := ⟨_, rfl⟩
  rw [← hr]
  have HR := Lib.hid hr
  clear b0 hG hr
  have HLT := Lib.hid (fun W h => textLot_any E x.2.2.1 h1 h2 W h)
  have hll := lotText_len x.2.2.1 (lot_zero hE hk)
  have hkb : (x.1 == [103, 111, 111, 100, 115]) = false := by rw [hk]; rfl
  have hkc : (x.1 == [108, 111, 116]) = true := by rw [hk]; rfl
  go_enter Tryz.func11, Tryz.ntmps11
  go_wp2_with (refine wpList_load_at rfl 29 _ rfl w.heap.size 0 rfl (encEnt x) hl _ Tryz.underlying29 rfl (by rw [hlen]; kernel_rfl) ?_)
  refine HCK.out.mono ?_
  rintro e w1 ⟨rfl, b1⟩
  have hl1 := hl.below b1
  have B1 := Lib.hid (B0.out.trans (b1.mono B0.out.size))
  have hw1 : w.heap.size < w1.heap.size := heap_two b1
  have c0 : w1.cell? ⟨w.heap.size, 0, none⟩ = some (.string ⟨x.1.toArray⟩) := hl1.at 0 _ rfl
  have hx2 := ent_lot hl1
  clear hl hl1 HCK hk hE b1 h1 h2
  have hl4 : (encLot x.2.2.1).length = 4 := rfl
  generalize encLot x.2.2.1 = L at hx2 HLT hl4
  generalize lotText x.2.2.1 = tx at HLT hll HR
  generalize x.1 = k at c0 hkb hkc
  go_wp2_with (refine wpList_load_at rfl 25 _ rfl w.heap.size 3 rfl L hx2 _ Tryz.underlying25 rfl (by rw [hl4]; kernel_rfl) ?_)
  refine (HLT.out w1 (HG.out _ B1.out).read.lot).mono ?_
  rintro e w2 ⟨rfl, b2⟩
  have B2 := Lib.hid (B1.out.trans (b2.mono B1.out.size))
  have v1 : ¬ 9223372036854775807 < 4 + tx.length := by omega
  clear b2 c0 hx2
  go_wp2_with fail
  go_ret
  refine ⟨?_, B2.out⟩
  rw [HR.out]
  show Ending.returned (.string ((⟨#[108, 111, 116, 32]⟩ : ByteArray) ++ (⟨tx.toArray⟩ : ByteArray))) = _
  rw [show (⟨#[108, 111, 116, 32]⟩ : ByteArray) = ⟨[108, 111, 116, 32].toArray⟩ from rfl, mk_app]
  rfl

set_option maxHeartbeats 3200000 in
set_option maxRecDepth 100000 in
theorem textEnt_p00 (E : Nat → Addr) (x : EntV) (h1 : x.2.2.1.1.length ≤ 1000000000) (h2 : x.2.2.1.2.1.length ≤ 1000000000) (w : World) (hG : EntG E w) (hE : entE x = 0) (hP : isP x.1 = true) (hF : hasF x.1 = false) (hT : hasT x.1 = false) :
    Calls Tryz.prog 11 #[.agg (encEnt x).toArray] w fun e w' => e = .returned (.string ⟨(joinL 32 (wordsP x)).toArray⟩) ∧ Below w.heap.size w w' := by
  have b0 := below_one w (.cells (encEnt x).toArray 29)
  have hl := Lies.row (w := w.alloc (.cells (encEnt x).toArray 29)) (encEnt x) (heap_alloc_new _ _)
  have HCK := Lib.hid (checkEnt_any E x h1 h2 (w.alloc (.cells (encEnt x).toArray 29)) (hG.below b0))
  rw [hE, errOf_zero] at HCK
  have HG := Lib.hid (fun W (h : Below w.heap.size w W) => hG.below h)
  have B0 := Lib.hid b0
  have hlen : (encEnt x).length = 14 := rfl
  obtain ⟨r, hr⟩ : ∃ r, r = joinL 32 (wordsP x) := ⟨_, rfl⟩
  rw [← hr]
  have HR := Lib.hid hr
  clear b0 hG hr
  obtain ⟨hn1, hpF, hpT, hn2, hn3, -⟩ := pieces_zero (by rw [← entE_pieces hP]; exact hE)
  have hil := (nameB_len hn1).2
  have hkl : x.1.length ≤ 10 := isP_len hP
  obtain ⟨-, hk1, hk2⟩ := isP_kind hP
  have hkb : (x.1 == [103, 111, 111, 100, 115]) = false := beq_eq_false_iff_ne.2 hk1
  have hkc : (x.1 == [108, 111, 116]) = false := beq_eq_false_iff_ne.2 hk2
  have HFO := Lib.hid (fun W => formOf_any x.1 W)
  rw [hF, hT, hP] at HFO
  have HW := Lib.hid (show wordsP x = [x.1, x.2.2.1.1] ++ [Lib.itoa x.2.2.2.2.2] by unfold wordsP; rw [hF, hT]; simp)
  have HT := Lib.hid (fun W h => itoa_any x.2.2.2.2.2 (by omega) (by omega) W h)
  have hni := Lib.itoa_length_le x.2.2.2.2.2 (by omega) (by omega)
  go_enter Tryz.func11, Tryz.ntmps11
  go_wp2_with (refine wpList_load_at rfl 29 _ rfl w.heap.size 0 rfl (encEnt x) hl _ Tryz.underlying29 rfl (by rw [hlen]; kernel_rfl) ?_)
  refine HCK.out.mono ?_
  rintro e w1 ⟨rfl, b1⟩
  have hl1 := hl.below b1
  have B1 := Lib.hid (B0.out.trans (b1.mono B0.out.size))
  have hw1 : w.heap.size < w1.heap.size := heap_two b1
  have c0 : w1.cell? ⟨w.heap.size, 0, none⟩ = some (.string ⟨x.1.toArray⟩) := hl1.at 0 _ rfl
  have c3 : w1.cell? ⟨w.heap.size, 3, none⟩ = some (.string ⟨x.2.2.1.1.toArray⟩) := hl1.at 3 _ rfl
  have c13 : w1.cell? ⟨w.heap.size, 13, none⟩ = some (.int .i64 x.2.2.2.2.2) := hl1.at 13 _ rfl
  clear hl hl1 HCK hE b1 h1 h2 hP hF hT hn1 hpF hpT hk1 hk2
  replace HR := Lib.hid (HR.out.trans (congrArg (joinL 32) HW.out))
  clear HW
  generalize x.2.2.2.2.2 = n at c13 hn2 hn3 HT hni HR
  generalize x.2.2.1.1 = id at c3 hil HR
  generalize x.1 = k at c0 hkb hkc HFO hkl HR
  go_wp2_with fail
  have hown : (w1.alloc (.cells #[.string ⟨k.toArray⟩, .string ⟨id.toArray⟩] 9)).ownsRow w1.heap.size 9 1 (.slice (some ⟨w1.heap.size, 0, none⟩) 2 2) 2 (strVals [k, id]) := own_new w1 w1.heap.size [k, id] (Nat.le_refl _) (by simp)
  have bb := below_one w1 (.cells #[.string ⟨k.toArray⟩, .string ⟨id.toArray⟩] 9)
  obtain ⟨B, hB⟩ : ∃ B, B = w1.heap.size := ⟨_, rfl⟩
  have HWB := Lib.hid (fun W (h : Below B w1 W) => show Below w.heap.size w W from B1.out.trans (h.mono (by rw [hB]; exact B1.out.size)))
  have HC := Lib.hid (fun W (h : Below B w1 W) => show W.cell? ⟨w.heap.size, 13, none⟩ = some (.int .i64 n) from (h.cell (p := ⟨_, _, none⟩) (by rw [hB]; exact hw1)).trans c13)
  generalize w1.alloc (.cells #[.string ⟨k.toArray⟩, .string ⟨id.toArray⟩] 9) = W2 at hown bb ⊢
  rw [← hB] at hown bb ⊢
  have hsz : B ≤ w1.heap.size := Nat.le_of_eq hB
  clear hB c0 c3 c13 hw1
  refine (HFO.out W2).mono ?_
  rintro e w3 ⟨rfl, b3⟩
  have hown3 := Lib.hid ((own_keep hown b3).alloc (.cells #[.bool false, .bool false, .bool true] 45))
  have B3 := Lib.hid ((bb.trans (b3.mono (bsz hsz bb))).alloc (Nat.le_trans (bsz hsz bb) b3.size) (.cells #[.bool false, .bool false, .bool true] 45))
  have d0 : (w3.alloc (.cells #[.bool false, .bool false, .bool true] 45)).cell? ⟨w3.heap.size, 0, none⟩ = some (.bool false) := cell_of_row _ _ _ _ _ _ (heap_alloc_new _ _)
  have d1 : (w3.alloc (.cells #[.bool false, .bool false, .bool true] 45)).cell? ⟨w3.heap.size, 1, none⟩ = some (.bool false) := cell_of_row _ _ _ _ _ _ (heap_alloc_new _ _)
  have hfb : w3.heap.size ≠ B := by have := lt_own hown; have := b3.size; omega
  clear b3 hown bb HFO hkb hkc
  have c13 := HC.out _ B3.out
  go_wp2_with fail
  refine (HT.out _ (HG.out _ (HWB.out _ B3.out)).read.tab).mono ?_
  rintro e w5 ⟨rfl, b5⟩
  clear c13
  have own5 : (w5.alloc (.cells #[.string ⟨(Lib.itoa n).toArray⟩] 9)).ownsRow B 9 1 (.slice (some ⟨B, 0, none⟩) 2 2) 2 (strVals [k, id]) := (own_keep hown3.out b5).alloc _
  have BB5 : Below B w1 (w5.alloc (.cells #[.string ⟨(Lib.itoa n).toArray⟩] 9)) := (B3.out.trans (b5.mono (bsz hsz B3.out))).alloc (Nat.le_trans (bsz hsz B3.out) b5.size) _
  clear b5
  go_wp2_with (first | (at_builtin; refine wpList_append_strs2 _ rfl (.tmp 53) (.tmp 57) rfl B (.slice (some ⟨B, 0, none⟩) 2 2) 2 (strVals [k, id]) rfl own5 (some ⟨w5.heap.size, 0, none⟩) 1 [Lib.itoa n] rfl (strs_new w5 [Lib.itoa n]) (by simp) (bsz hsz BB5) ?_; intro v6 w6 own6 hg6; have B6 := Lib.hid (BB5.grown hg6 (bsz hsz BB5) (fun j hj => (own5.lt j hj).1))))
  clear own5 BB5 hg6
  refine (joinOwn_any 32 B v6 [k, id, Lib.itoa n] w6 own6.out (by simp) (by simp only [joinL, List.length_append, List.length_cons]; omega)).mono ?_
  rintro e w7 ⟨rfl, b7⟩
  have BZ := Lib.hid (HWB.out _ (B6.out.trans (b7.mono (bsz hsz B6.out))))
  clear b7
  go_wp2_with fail
  go_ret
  rw [HR.out]
  exact ⟨rfl, BZ.out⟩

set_option maxHeartbeats 3200000 in
set_option maxRecDepth 100000 in
theorem textEnt_p01 (E : Nat → Addr) (x : EntV) (h1 : x.2.2.1.1.length ≤ 1000000000) (h2 : x.2.2.1.2.1.length ≤ 1000000000) (w : World) (hG : EntG E w) (hE : entE x = 0) (hP : isP x.1 = true) (hF : hasF x.1 = false) (hT : hasT x.1 = true) :
    Calls Tryz.prog 11 #[.agg (encEnt x).toArray] w fun e w' => e = .returned (.string ⟨(joinL 32 (wordsP x)).toArray⟩) ∧ Below w.heap.size w w' := by
  have b0 := below_one w (.cells (encEnt x).toArray 29)
  have hl := Lies.row (w := w.alloc (.cells (encEnt x).toArray 29)) (encEnt x) (heap_alloc_new _ _)
  have HCK := Lib.hid (checkEnt_any E x h1 h2 (w.alloc (.cells (encEnt x).toArray 29)) (hG.below b0))
  rw [hE, errOf_zero] at HCK
  have HG := Lib.hid (fun W (h : Below w.heap.size w W) => hG.below h)
  have B0 := Lib.hid b0
  have hlen : (encEnt x).length = 14 := rfl
  obtain ⟨r, hr⟩ : ∃ r, r = joinL 32 (wordsP x) := ⟨_, rfl⟩
  rw [← hr]
  have HR := Lib.hid hr
  clear b0 hG hr
  obtain ⟨hn1, hpF, hpT, hn2, hn3, -⟩ := pieces_zero (by rw [← entE_pieces hP]; exact hE)
  have hil := (nameB_len hn1).2
  have hkl : x.1.length ≤ 10 := isP_len hP
  obtain ⟨-, hk1, hk2⟩ := isP_kind hP
  have hkb : (x.1 == [103, 111, 111, 100, 115]) = false := beq_eq_false_iff_ne.2 hk1
  have hkc : (x.1 == [108, 111, 116]) = false := beq_eq_false_iff_ne.2 hk2
  have HFO := Lib.hid (fun W => formOf_any x.1 W)
  rw [hF, hT, hP] at HFO
  have HW := Lib.hid (show wordsP x = [x.1, x.2.2.1.1] ++ [placeText x.2.2.2.2.1] ++ [Lib.itoa x.2.2.2.2.2] by unfold wordsP; rw [hF, hT]; simp)
  have HT := Lib.hid (fun W h => itoa_any x.2.2.2.2.2 (by omega) (by omega) W h)
  have hni := Lib.itoa_length_le x.2.2.2.2.2 (by omega) (by omega)
  have HPT := Lib.hid (fun W h => textPlace_any E x.2.2.2.2.1 W h)
  have hpt := placeText_len x.2.2.2.2.1
  go_enter Tryz.func11, Tryz.ntmps11
  go_wp2_with (refine wpList_load_at rfl 29 _ rfl w.heap.size 0 rfl (encEnt x) hl _ Tryz.underlying29 rfl (by rw [hlen]; kernel_rfl) ?_)
  refine HCK.out.mono ?_
  rintro e w1 ⟨rfl, b1⟩
  have hl1 := hl.below b1
  have B1 := Lib.hid (B0.out.trans (b1.mono B0.out.size))
  have hw1 : w.heap.size < w1.heap.size := heap_two b1
  have c0 : w1.cell? ⟨w.heap.size, 0, none⟩ = some (.string ⟨x.1.toArray⟩) := hl1.at 0 _ rfl
  have c3 : w1.cell? ⟨w.heap.size, 3, none⟩ = some (.string ⟨x.2.2.1.1.toArray⟩) := hl1.at 3 _ rfl
  have c13 : w1.cell? ⟨w.heap.size, 13, none⟩ = some (.int .i64 x.2.2.2.2.2) := hl1.at 13 _ rfl
  have lT := ent_to hl1
  clear hl hl1 HCK hE b1 h1 h2 hP hF hT hn1 hpF hpT hk1 hk2
  replace HR := Lib.hid (HR.out.trans (congrArg (joinL 32) HW.out))
  clear HW
  have hlT : (encPlace x.2.2.2.2.1).length = 3 := rfl
  generalize encPlace x.2.2.2.2.1 = LT at lT HPT hlT
  generalize placeText x.2.2.2.2.1 = pT at HPT hpt HR
  generalize x.2.2.2.2.2 = n at c13 hn2 hn3 HT hni HR
  generalize x.2.2.1.1 = id at c3 hil HR
  generalize x.1 = k at c0 hkb hkc HFO hkl HR
  go_wp2_with fail
  have hown : (w1.alloc (.cells #[.string ⟨k.toArray⟩, .string ⟨id.toArray⟩] 9)).ownsRow w1.heap.size 9 1 (.slice (some ⟨w1.heap.size, 0, none⟩) 2 2) 2 (strVals [k, id]) := own_new w1 w1.heap.size [k, id] (Nat.le_refl _) (by simp)
  have bb := below_one w1 (.cells #[.string ⟨k.toArray⟩, .string ⟨id.toArray⟩] 9)
  obtain ⟨B, hB⟩ : ∃ B, B = w1.heap.size := ⟨_, rfl⟩
  have HWB := Lib.hid (fun W (h : Below B w1 W) => show Below w.heap.size w W from B1.out.trans (h.mono (by rw [hB]; exact B1.out.size)))
  have HC := Lib.hid (fun W (h : Below B w1 W) => show W.cell? ⟨w.heap.size, 13, none⟩ = some (.int .i64 n) from (h.cell (p := ⟨_, _, none⟩) (by rw [hB]; exact hw1)).trans c13)
  have HLT := Lib.hid (fun W (h : Below B w1 W) => show Lies W w.heap.size 10 LT from lT.below (by rw [← hB]; exact h))
  generalize w1.alloc (.cells #[.string ⟨k.toArray⟩, .string ⟨id.toArray⟩] 9) = W2 at hown bb ⊢
  rw [← hB] at hown bb ⊢
  have hsz : B ≤ w1.heap.size := Nat.le_of_eq hB
  clear hB c0 c3 c13 hw1 lT
  refine (HFO.out W2).mono ?_
  rintro e w3 ⟨rfl, b3⟩
  have hown3 := Lib.hid ((own_keep hown b3).alloc (.cells #[.bool false, .bool true, .bool true] 45))
  have B3 := Lib.hid ((bb.trans (b3.mono (bsz hsz bb))).alloc (Nat.le_trans (bsz hsz bb) b3.size) (.cells #[.bool false, .bool true, .bool true] 45))
  have d0 : (w3.alloc (.cells #[.bool false, .bool true, .bool true] 45)).cell? ⟨w3.heap.size, 0, none⟩ = some (.bool false) := cell_of_row _ _ _ _ _ _ (heap_alloc_new _ _)
  have d1 : (w3.alloc (.cells #[.bool false, .bool true, .bool true] 45)).cell? ⟨w3.heap.size, 1, none⟩ = some (.bool true) := cell_of_row _ _ _ _ _ _ (heap_alloc_new _ _)
  have hfb : w3.heap.size ≠ B := by have := lt_own hown; have := b3.size; omega
  clear b3 hown bb HFO hkb hkc
  go_wp2_with (refine wpList_load_at rfl 27 _ rfl w.heap.size 10 rfl LT (HLT.out _ B3.out) _ Tryz.underlying27 rfl (by rw [hlT]; kernel_rfl) ?_)
  refine (HPT.out _ (HG.out _ (HWB.out _ B3.out)).read.place).mono ?_
  rintro e w5 ⟨rfl, b5⟩
  have own5 : (w5.alloc (.cells #[.string ⟨(pT).toArray⟩] 9)).ownsRow B 9 1 (.slice (some ⟨B, 0, none⟩) 2 2) 2 (strVals [k, id]) := (own_keep hown3.out b5).alloc _
  have BB5 : Below B w1 (w5.alloc (.cells #[.string ⟨(pT).toArray⟩] 9)) := (B3.out.trans (b5.mono (bsz hsz B3.out))).alloc (Nat.le_trans (bsz hsz B3.out) b5.size) _
  clear b5
  go_wp2_with (first | (at_builtin; refine wpList_append_strs2 _ rfl (.tmp 47) (.tmp 51) rfl B (.slice (some ⟨B, 0, none⟩) 2 2) 2 (strVals [k, id]) rfl own5 (some ⟨w5.heap.size, 0, none⟩) 1 [pT] rfl (strs_new w5 [pT]) (by simp) (bsz hsz BB5) ?_; intro v6 w6 own6 hg6; have B6 := Lib.hid (BB5.grown hg6 (bsz hsz BB5) (fun j hj => (own5.lt j hj).1)); have c13 := HC.out _ B6.out))
  clear own5 BB5 hg6
  refine (HT.out _ (HG.out _ (HWB.out _ B6.out)).read.tab).mono ?_
  rintro e w7 ⟨rfl, b7⟩
  clear c13
  have own7 : (w7.alloc (.cells #[.string ⟨(Lib.itoa n).toArray⟩] 9)).ownsRow B 9 1 v6 3 (strVals [k, id, pT]) := (own_keep own6.out b7).alloc _
  have BB7 : Below B w1 (w7.alloc (.cells #[.string ⟨(Lib.itoa n).toArray⟩] 9)) := (B6.out.trans (b7.mono (bsz hsz B6.out))).alloc (Nat.le_trans (bsz hsz B6.out) b7.size) _
  clear b7
  go_wp2_with (first | (at_builtin; refine wpList_append_strs2 _ rfl (.tmp 53) (.tmp 57) rfl B v6 3 (strVals [k, id, pT]) rfl own7 (some ⟨w7.heap.size, 0, none⟩) 1 [Lib.itoa n] rfl (strs_new w7 [Lib.itoa n]) (by simp) (bsz hsz BB7) ?_; intro v8 w8 own8 hg8; have B8 := Lib.hid (BB7.grown hg8 (bsz hsz BB7) (fun j hj => (own7.lt j hj).1))))
  clear own7 BB7 hg8
  refine (joinOwn_any 32 B v8 [k, id, pT, Lib.itoa n] w8 own8.out (by simp) (by simp only [joinL, List.length_append, List.length_cons]; omega)).mono ?_
  rintro e w9 ⟨rfl, b9⟩
  have BZ := Lib.hid (HWB.out _ (B8.out.trans (b9.mono (bsz hsz B8.out))))
  clear b9
  go_wp2_with fail
  go_ret
  rw [HR.out]
  exact ⟨rfl, BZ.out⟩

set_option maxHeartbeats 3200000 in
set_option maxRecDepth 100000 in
theorem textEnt_p10 (E : Nat → Addr) (x : EntV) (h1 : x.2.2.1.1.length ≤ 1000000000) (h2 : x.2.2.1.2.1.length ≤ 1000000000) (w : World) (hG : EntG E w) (hE : entE x = 0) (hP : isP x.1 = true) (hF : hasF x.1 = true) (hT : hasT x.1 = false) :
    Calls Tryz.prog 11 #[.agg (encEnt x).toArray] w fun e w' => e = .returned (.string ⟨(joinL 32 (wordsP x)).toArray⟩) ∧ Below w.heap.size w w' := by
  have b0 := below_one w (.cells (encEnt x).toArray 29)
  have hl := Lies.row (w := w.alloc (.cells (encEnt x).toArray 29)) (encEnt x) (heap_alloc_new _ _)
  have HCK := Lib.hid (checkEnt_any E x h1 h2 (w.alloc (.cells (encEnt x).toArray 29)) (hG.below b0))
  rw [hE, errOf_zero] at HCK
  have HG := Lib.hid (fun W (h : Below w.heap.size w W) => hG.below h)
  have B0 := Lib.hid b0
  have hlen : (encEnt x).length = 14 := rfl
  obtain ⟨r, hr⟩ : ∃ r, r = joinL 32 (wordsP x) := ⟨_, rfl⟩
  rw [← hr]
  have HR := Lib.hid hr
  clear b0 hG hr
  obtain ⟨hn1, hpF, hpT, hn2, hn3, -⟩ := pieces_zero (by rw [← entE_pieces hP]; exact hE)
  have hil := (nameB_len hn1).2
  have hkl : x.1.length ≤ 10 := isP_len hP
  obtain ⟨-, hk1, hk2⟩ := isP_kind hP
  have hkb : (x.1 == [103, 111, 111, 100, 115]) = false := beq_eq_false_iff_ne.2 hk1
  have hkc : (x.1 == [108, 111, 116]) = false := beq_eq_false_iff_ne.2 hk2
  have HFO := Lib.hid (fun W => formOf_any x.1 W)
  rw [hF, hT, hP] at HFO
  have HW := Lib.hid (show wordsP x = [x.1, x.2.2.1.1] ++ [placeText x.2.2.2.1] ++ [Lib.itoa x.2.2.2.2.2] by unfold wordsP; rw [hF, hT]; simp)
  have HT := Lib.hid (fun W h => itoa_any x.2.2.2.2.2 (by omega) (by omega) W h)
  have hni := Lib.itoa_length_le x.2.2.2.2.2 (by omega) (by omega)
  have HPF := Lib.hid (fun W h => textPlace_any E x.2.2.2.1 W h)
  have hpf := placeText_len x.2.2.2.1
  go_enter Tryz.func11, Tryz.ntmps11
  go_wp2_with (refine wpList_load_at rfl 29 _ rfl w.heap.size 0 rfl (encEnt x) hl _ Tryz.underlying29 rfl (by rw [hlen]; kernel_rfl) ?_)
  refine HCK.out.mono ?_
  rintro e w1 ⟨rfl, b1⟩
  have hl1 := hl.below b1
  have B1 := Lib.hid (B0.out.trans (b1.mono B0.out.size))
  have hw1 : w.heap.size < w1.heap.size := heap_two b1
  have c0 : w1.cell? ⟨w.heap.size, 0, none⟩ = some (.string ⟨x.1.toArray⟩) := hl1.at 0 _ rfl
  have c3 : w1.cell? ⟨w.heap.size, 3, none⟩ = some (.string ⟨x.2.2.1.1.toArray⟩) := hl1.at 3 _ rfl
  have c13 : w1.cell? ⟨w.heap.size, 13, none⟩ = some (.int .i64 x.2.2.2.2.2) := hl1.at 13 _ rfl
  have lF := ent_from hl1
  clear hl hl1 HCK hE b1 h1 h2 hP hF hT hn1 hpF hpT hk1 hk2
  replace HR := Lib.hid (HR.out.trans (congrArg (joinL 32) HW.out))
  clear HW
  have hlF : (encPlace x.2.2.2.1).length = 3 := rfl
  generalize encPlace x.2.2.2.1 = LF at lF HPF hlF
  generalize placeText x.2.2.2.1 = pF at HPF hpf HR
  generalize x.2.2.2.2.2 = n at c13 hn2 hn3 HT hni HR
  generalize x.2.2.1.1 = id at c3 hil HR
  generalize x.1 = k at c0 hkb hkc HFO hkl HR
  go_wp2_with fail
  have hown : (w1.alloc (.cells #[.string ⟨k.toArray⟩, .string ⟨id.toArray⟩] 9)).ownsRow w1.heap.size 9 1 (.slice (some ⟨w1.heap.size, 0, none⟩) 2 2) 2 (strVals [k, id]) := own_new w1 w1.heap.size [k, id] (Nat.le_refl _) (by simp)
  have bb := below_one w1 (.cells #[.string ⟨k.toArray⟩, .string ⟨id.toArray⟩] 9)
  obtain ⟨B, hB⟩ : ∃ B, B = w1.heap.size := ⟨_, rfl⟩
  have HWB := Lib.hid (fun W (h : Below B w1 W) => show Below w.heap.size w W from B1.out.trans (h.mono (by rw [hB]; exact B1.out.size)))
  have HC := Lib.hid (fun W (h : Below B w1 W) => show W.cell? ⟨w.heap.size, 13, none⟩ = some (.int .i64 n) from (h.cell (p := ⟨_, _, none⟩) (by rw [hB]; exact hw1)).trans c13)
  have HLF := Lib.hid (fun W (h : Below B w1 W) => show Lies W w.heap.size 7 LF from lF.below (by rw [← hB]; exact h))
  generalize w1.alloc (.cells #[.string ⟨k.toArray⟩, .string ⟨id.toArray⟩] 9) = W2 at hown bb ⊢
  rw [← hB] at hown bb ⊢
  have hsz : B ≤ w1.heap.size := Nat.le_of_eq hB
  clear hB c0 c3 c13 hw1 lF
  refine (HFO.out W2).mono ?_
  rintro e w3 ⟨rfl, b3⟩
  have hown3 := Lib.hid ((own_keep hown b3).alloc (.cells #[.bool true, .bool false, .bool true] 45))
  have B3 := Lib.hid ((bb.trans (b3.mono (bsz hsz bb))).alloc (Nat.le_trans (bsz hsz bb) b3.size) (.cells #[.bool true, .bool false, .bool true] 45))
  have d0 : (w3.alloc (.cells #[.bool true, .bool false, .bool true] 45)).cell? ⟨w3.heap.size, 0, none⟩ = some (.bool true) := cell_of_row _ _ _ _ _ _ (heap_alloc_new _ _)
  have d1 : (w3.alloc (.cells #[.bool true, .bool false, .bool true] 45)).cell? ⟨w3.heap.size, 1, none⟩ = some (.bool false) := cell_of_row _ _ _ _ _ _ (heap_alloc_new _ _)
  have hfb : w3.heap.size ≠ B := by have := lt_own hown; have := b3.size; omega
  clear b3 hown bb HFO hkb hkc
  go_wp2_with (refine wpList_load_at rfl 27 _ rfl w.heap.size 7 rfl LF (HLF.out _ B3.out) _ Tryz.underlying27 rfl (by rw [hlF]; kernel_rfl) ?_)
  refine (HPF.out _ (HG.out _ (HWB.out _ B3.out)).read.place).mono ?_
  rintro e w5 ⟨rfl, b5⟩
  have own5 : (w5.alloc (.cells #[.string ⟨(pF).toArray⟩] 9)).ownsRow B 9 1 (.slice (some ⟨B, 0, none⟩) 2 2) 2 (strVals [k, id]) := (own_keep hown3.out b5).alloc _
  have BB5 : Below B w1 (w5.alloc (.cells #[.string ⟨(pF).toArray⟩] 9)) := (B3.out.trans (b5.mono (bsz hsz B3.out))).alloc (Nat.le_trans (bsz hsz B3.out) b5.size) _
  have d1' : (w5.alloc (.cells #[.string ⟨(pF).toArray⟩] 9)).cell? ⟨w3.heap.size, 1, none⟩ = _ := below_cell (below_one w5 _) (below_cell b5 d1)
  clear b5
  go_wp2_with (first | (at_builtin; refine wpList_append_strs2 _ rfl (.tmp 39) (.tmp 43) rfl B (.slice (some ⟨B, 0, none⟩) 2 2) 2 (strVals [k, id]) rfl own5 (some ⟨w5.heap.size, 0, none⟩) 1 [pF] rfl (strs_new w5 [pF]) (by simp) (bsz hsz BB5) ?_; intro v6 w6 own6 hg6; have d2 := hg6.cell d1' (by simp [Value.ownBlock]; exact hfb); have B6 := Lib.hid (BB5.grown hg6 (bsz hsz BB5) (fun j hj => (own5.lt j hj).1)); have c13 := HC.out _ B6.out))
  clear own5 BB5 hg6
  refine (HT.out _ (HG.out _ (HWB.out _ B6.out)).read.tab).mono ?_
  rintro e w7 ⟨rfl, b7⟩
  clear c13
  have own7 : (w7.alloc (.cells #[.string ⟨(Lib.itoa n).toArray⟩] 9)).ownsRow B 9 1 v6 3 (strVals [k, id, pF]) := (own_keep own6.out b7).alloc _
  have BB7 : Below B w1 (w7.alloc (.cells #[.string ⟨(Lib.itoa n).toArray⟩] 9)) := (B6.out.trans (b7.mono (bsz hsz B6.out))).alloc (Nat.le_trans (bsz hsz B6.out) b7.size) _
  clear b7
  go_wp2_with (first | (at_builtin; refine wpList_append_strs2 _ rfl (.tmp 53) (.tmp 57) rfl B v6 3 (strVals [k, id, pF]) rfl own7 (some ⟨w7.heap.size, 0, none⟩) 1 [Lib.itoa n] rfl (strs_new w7 [Lib.itoa n]) (by simp) (bsz hsz BB7) ?_; intro v8 w8 own8 hg8; have B8 := Lib.hid (BB7.grown hg8 (bsz hsz BB7) (fun j hj => (own7.lt j hj).1))))
  clear own7 BB7 hg8
  refine (joinOwn_any 32 B v8 [k, id, pF, Lib.itoa n] w8 own8.out (by simp) (by simp only [joinL, List.length_append, List.length_cons]; omega)).mono ?_
  rintro e w9 ⟨rfl, b9⟩
  have BZ := Lib.hid (HWB.out _ (B8.out.trans (b9.mono (bsz hsz B8.out))))
  clear b9
  go_wp2_with fail
  go_ret
  rw [HR.out]
  exact ⟨rfl, BZ.out⟩

set_option maxHeartbeats 3200000 in
set_option maxRecDepth 100000 in
theorem textEnt_p11 (E : Nat → Addr) (x : EntV) (h1 : x.2.2.1.1.length ≤ 1000000000) (h2 : x.2.2.1.2.1.length ≤ 1000000000) (w : World) (hG : EntG E w) (hE : entE x = 0) (hP : isP x.1 = true) (hF : hasF x.1 = true) (hT : hasT x.1 = true) :
    Calls Tryz.prog 11 #[.agg (encEnt x).toArray] w fun e w' => e = .returned (.string ⟨(joinL 32 (wordsP x)).toArray⟩) ∧ Below w.heap.size w w' := by
  have b0 := below_one w (.cells (encEnt x).toArray 29)
  have hl := Lies.row (w := w.alloc (.cells (encEnt x).toArray 29)) (encEnt x) (heap_alloc_new _ _)
  have HCK := Lib.hid (checkEnt_any E x h1 h2 (w.alloc (.cells (encEnt x).toArray 29)) (hG.below b0))
  rw [hE, errOf_zero] at HCK
  have HG := Lib.hid (fun W (h : Below w.heap.size w W) => hG.below h)
  have B0 := Lib.hid b0
  have hlen : (encEnt x).length = 14 := rfl
  obtain ⟨r, hr⟩ : ∃ r, r = joinL 32 (wordsP x) := ⟨_, rfl⟩
  rw [← hr]
  have HR := Lib.hid hr
  clear b0 hG hr
  obtain ⟨hn1, hpF, hpT, hn2, hn3, -⟩ := pieces_zero (by rw [← entE_pieces hP]; exact hE)
  have hil := (nameB_len hn1).2
  have hkl : x.1.length ≤ 10 := isP_len hP
  obtain ⟨-, hk1, hk2⟩ := isP_kind hP
  have hkb : (x.1 == [103, 111, 111, 100, 115]) = false := beq_eq_false_iff_ne.2 hk1
  have hkc : (x.1 == [108, 111, 116]) = false := beq_eq_false_iff_ne.2 hk2
  have HFO := Lib.hid (fun W => formOf_any x.1 W)
  rw [hF, hT, hP] at HFO
  have HW := Lib.hid (show wordsP x = [x.1, x.2.2.1.1] ++ [placeText x.2.2.2.1] ++ [placeText x.2.2.2.2.1] ++ [Lib.itoa x.2.2.2.2.2] by unfold wordsP; rw [hF, hT]; simp)
  have HT := Lib.hid (fun W h => itoa_any x.2.2.2.2.2 (by omega) (by omega) W h)
  have hni := Lib.itoa_length_le x.2.2.2.2.2 (by omega) (by omega)
  have HPF := Lib.hid (fun W h => textPlace_any E x.2.2.2.1 W h)
  have hpf := placeText_len x.2.2.2.1
  have HPT := Lib.hid (fun W h => textPlace_any E x.2.2.2.2.1 W h)
  have hpt := placeText_len x.2.2.2.2.1
  go_enter Tryz.func11, Tryz.ntmps11
  go_wp2_with (refine wpList_load_at rfl 29 _ rfl w.heap.size 0 rfl (encEnt x) hl _ Tryz.underlying29 rfl (by rw [hlen]; kernel_rfl) ?_)
  refine HCK.out.mono ?_
  rintro e w1 ⟨rfl, b1⟩
  have hl1 := hl.below b1
  have B1 := Lib.hid (B0.out.trans (b1.mono B0.out.size))
  have hw1 : w.heap.size < w1.heap.size := heap_two b1
  have c0 : w1.cell? ⟨w.heap.size, 0, none⟩ = some (.string ⟨x.1.toArray⟩) := hl1.at 0 _ rfl
  have c3 : w1.cell? ⟨w.heap.size, 3, none⟩ = some (.string ⟨x.2.2.1.1.toArray⟩) := hl1.at 3 _ rfl
  have c13 : w1.cell? ⟨w.heap.size, 13, none⟩ = some (.int .i64 x.2.2.2.2.2) := hl1.at 13 _ rfl
  have lF := ent_from hl1
  have lT := ent_to hl1
  clear hl hl1 HCK hE b1 h1 h2 hP hF hT hn1 hpF hpT hk1 hk2
  replace HR := Lib.hid (HR.out.trans (congrArg (joinL 32) HW.out))
  clear HW
  have hlF : (encPlace x.2.2.2.1).length = 3 := rfl
  generalize encPlace x.2.2.2.1 = LF at lF HPF hlF
  generalize placeText x.2.2.2.1 = pF at HPF hpf HR
  have hlT : (encPlace x.2.2.2.2.1).length = 3 := rfl
  generalize encPlace x.2.2.2.2.1 = LT at lT HPT hlT
  generalize placeText x.2.2.2.2.1 = pT at HPT hpt HR
  generalize x.2.2.2.2.2 = n at c13 hn2 hn3 HT hni HR
  generalize x.2.2.1.1 = id at c3 hil HR
  generalize x.1 = k at c0 hkb hkc HFO hkl HR
  go_wp2_with fail
  have hown : (w1.alloc (.cells #[.string ⟨k.toArray⟩, .string ⟨id.toArray⟩] 9)).ownsRow w1.heap.size 9 1 (.slice (some ⟨w1.heap.size, 0, none⟩) 2 2) 2 (strVals [k, id]) := own_new w1 w1.heap.size [k, id] (Nat.le_refl _) (by simp)
  have bb := below_one w1 (.cells #[.string ⟨k.toArray⟩, .string ⟨id.toArray⟩] 9)
  obtain ⟨B, hB⟩ : ∃ B, B = w1.heap.size := ⟨_, rfl⟩
  have HWB := Lib.hid (fun W (h : Below B w1 W) => show Below w.heap.size w W from B1.out.trans (h.mono (by rw [hB]; exact B1.out.size)))
  have HC := Lib.hid (fun W (h : Below B w1 W) => show W.cell? ⟨w.heap.size, 13, none⟩ = some (.int .i64 n) from (h.cell (p := ⟨_, _, none⟩) (by rw [hB]; exact hw1)).trans c13)
  have HLF := Lib.hid (fun W (h : Below B w1 W) => show Lies W w.heap.size 7 LF from lF.below (by rw [← hB]; exact h))
  have HLT := Lib.hid (fun W (h : Below B w1 W) => show Lies W w.heap.size 10 LT from lT.below (by rw [← hB]; exact h))
  generalize w1.alloc (.cells #[.string ⟨k.toArray⟩, .string ⟨id.toArray⟩] 9) = W2 at hown bb ⊢
  rw [← hB] at hown bb ⊢
  have hsz : B ≤ w1.heap.size := Nat.le_of_eq hB
  clear hB c0 c3 c13 hw1 lF lT
  refine (HFO.out W2).mono ?_
  rintro e w3 ⟨rfl, b3⟩
  have hown3 := Lib.hid ((own_keep hown b3).alloc (.cells #[.bool true, .bool true, .bool true] 45))
  have B3 := Lib.hid ((bb.trans (b3.mono (bsz hsz bb))).alloc (Nat.le_trans (bsz hsz bb) b3.size) (.cells #[.bool true, .bool true, .bool true] 45))
  have d0 : (w3.alloc (.cells #[.bool true, .bool true, .bool true] 45)).cell? ⟨w3.heap.size, 0, none⟩ = some (.bool true) := cell_of_row _ _ _ _ _ _ (heap_alloc_new _ _)
  have d1 : (w3.alloc (.cells #[.bool true, .bool true, .bool true] 45)).cell? ⟨w3.heap.size, 1, none⟩ = some (.bool true) := cell_of_row _ _ _ _ _ _ (heap_alloc_new _ _)
  have hfb : w3.heap.size ≠ B := by have := lt_own hown; have := b3.size; omega
  clear b3 hown bb HFO hkb hkc
  go_wp2_with (refine wpList_load_at rfl 27 _ rfl w.heap.size 7 rfl LF (HLF.out _ B3.out) _ Tryz.underlying27 rfl (by rw [hlF]; kernel_rfl) ?_)
  refine (HPF.out _ (HG.out _ (HWB.out _ B3.out)).read.place).mono ?_
  rintro e w5 ⟨rfl, b5⟩
  have own5 : (w5.alloc (.cells #[.string ⟨(pF).toArray⟩] 9)).ownsRow B 9 1 (.slice (some ⟨B, 0, none⟩) 2 2) 2 (strVals [k, id]) := (own_keep hown3.out b5).alloc _
  have BB5 : Below B w1 (w5.alloc (.cells #[.string ⟨(pF).toArray⟩] 9)) := (B3.out.trans (b5.mono (bsz hsz B3.out))).alloc (Nat.le_trans (bsz hsz B3.out) b5.size) _
  have d1' : (w5.alloc (.cells #[.string ⟨(pF).toArray⟩] 9)).cell? ⟨w3.heap.size, 1, none⟩ = _ := below_cell (below_one w5 _) (below_cell b5 d1)
  clear b5
  go_wp2_with (first | (at_builtin; refine wpList_append_strs2 _ rfl (.tmp 39) (.tmp 43) rfl B (.slice (some ⟨B, 0, none⟩) 2 2) 2 (strVals [k, id]) rfl own5 (some ⟨w5.heap.size, 0, none⟩) 1 [pF] rfl (strs_new w5 [pF]) (by simp) (bsz hsz BB5) ?_; intro v6 w6 own6 hg6; have d2 := hg6.cell d1' (by simp [Value.ownBlock]; exact hfb); have B6 := Lib.hid (BB5.grown hg6 (bsz hsz BB5) (fun j hj => (own5.lt j hj).1))) | (refine wpList_load_at rfl 27 _ rfl w.heap.size 10 rfl LT (HLT.out _ B6.out) _ Tryz.underlying27 rfl (by rw [hlT]; kernel_rfl) ?_))
  clear own5 BB5 hg6
  refine (HPT.out _ (HG.out _ (HWB.out _ B6.out)).read.place).mono ?_
  rintro e w7 ⟨rfl, b7⟩
  have own7 : (w7.alloc (.cells #[.string ⟨(pT).toArray⟩] 9)).ownsRow B 9 1 v6 3 (strVals [k, id, pF]) := (own_keep own6.out b7).alloc _
  have BB7 : Below B w1 (w7.alloc (.cells #[.string ⟨(pT).toArray⟩] 9)) := (B6.out.trans (b7.mono (bsz hsz B6.out))).alloc (Nat.le_trans (bsz hsz B6.out) b7.size) _
  clear b7
  go_wp2_with (first | (at_builtin; refine wpList_append_strs2 _ rfl (.tmp 47) (.tmp 51) rfl B v6 3 (strVals [k, id, pF]) rfl own7 (some ⟨w7.heap.size, 0, none⟩) 1 [pT] rfl (strs_new w7 [pT]) (by simp) (bsz hsz BB7) ?_; intro v8 w8 own8 hg8; have B8 := Lib.hid (BB7.grown hg8 (bsz hsz BB7) (fun j hj => (own7.lt j hj).1)); have c13 := HC.out _ B8.out))
  clear own7 BB7 hg8
  refine (HT.out _ (HG.out _ (HWB.out _ B8.out)).read.tab).mono ?_
  rintro e w9 ⟨rfl, b9⟩
  clear c13
  have own9 : (w9.alloc (.cells #[.string ⟨(Lib.itoa n).toArray⟩] 9)).ownsRow B 9 1 v8 4 (strVals [k, id, pF, pT]) := (own_keep own8.out b9).alloc _
  have BB9 : Below B w1 (w9.alloc (.cells #[.string ⟨(Lib.itoa n).toArray⟩] 9)) := (B8.out.trans (b9.mono (bsz hsz B8.out))).alloc (Nat.le_trans (bsz hsz B8.out) b9.size) _
  clear b9
  go_wp2_with (first | (at_builtin; refine wpList_append_strs2 _ rfl (.tmp 53) (.tmp 57) rfl B v8 4 (strVals [k, id, pF, pT]) rfl own9 (some ⟨w9.heap.size, 0, none⟩) 1 [Lib.itoa n] rfl (strs_new w9 [Lib.itoa n]) (by simp) (bsz hsz BB9) ?_; intro v10 w10 own10 hg10; have B10 := Lib.hid (BB9.grown hg10 (bsz hsz BB9) (fun j hj => (own9.lt j hj).1))))
  clear own9 BB9 hg10
  refine (joinOwn_any 32 B v10 [k, id, pF, pT, Lib.itoa n] w10 own10.out (by simp) (by simp only [joinL, List.length_append, List.length_cons]; omega)).mono ?_
  rintro e w11 ⟨rfl, b11⟩
  have BZ := Lib.hid (HWB.out _ (B10.out.trans (b11.mono (bsz hsz B10.out))))
  clear b11
  go_wp2_with fail
  go_ret
  rw [HR.out]
  exact ⟨rfl, BZ.out⟩
end Go.Proofs.YtpifbahafnaejaaGreatDoor
