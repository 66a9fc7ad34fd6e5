/- strconv.Itoa, strconv.Atoi and goods.Number as the statements need them: what was there stays as it was. Places: Text. A stock's line: its text. strings.Builder: copyCheck, WriteString (lines of the shelf's own proofs, turned to this dump). Contracts of the library at this translation: laid by the kit's shelf (lay-shelf, lay-plain), those alone that the claim uses. -/
import Derived.Lib.SmallJoins
import Derived.Lib.QuietBelow
import Derived.Lib.ItoaLen
import Derived.Shelf.Strings.Builder1
import Derived.Maps.AppendAt
import Derived.Deep.Onto
import Derived.Test.YteaalifehokgoaaGreatDoorProg
import Derived.Test.YteaalifehokgoaaGreatDoorM01
import Derived.Test.YteaalifehokgoaaGreatDoorM03
import Derived.Test.YteaalifehokgoaaGreatDoorM04
import Derived.Test.YteaalifehokgoaaGreatDoorM07
namespace Go.Proofs.YteaalifehokgoaaGreatDoor
open Go.RowKit
theorem below_grow (w : World) (q : Nat) (os : Array Obj) : Below w.heap.size w (Sort.grow (w.drewN q) os) :=
 ⟨rfl, rfl, rfl, by simp [Sort.grow, World.drewN], fun k hk => by simp [Sort.grow, World.drewN, Array.getElem?_append, hk]⟩
theorem itoa_any (n : Int) (h0 : -9223372036854775808 ≤ n) (h1 : n ≤ 9223372036854775807) (w : World) (hT : TabG w) :
  Calls Tryz.prog 77 #[.int .i64 n] w fun e w' => e = .returned (.string ⟨(Lib.itoa n).toArray⟩) ∧ Below w.heap.size w w' :=
 (Tryz.strconv_Itoa n h0 h1 w hT.1).mono fun e w' h => by
  obtain ⟨he, k, os, rfl⟩ := h
  exact ⟨he, below_grow _ _ _⟩
theorem atoi_ok (s : ByteArray) (hs : s.size ≤ 281474976710656) (v : Int) (h : Lib.atoiAll s.data.toList = .ok v) (w : World) :
  Calls Tryz.prog 177 #[.string s] w fun e w' => e = .returned (.tuple #[.int .i64 v, .nilIface]) ∧ Below w.heap.size w w' :=
 (Tryz.strconv_Atoi_ok s (by omega) v h w).mono fun e w' hh => by
  obtain ⟨he, hw⟩ := hh
  refine ⟨he, ?_⟩
  rcases hw with rfl | ⟨t, rfl⟩
  ·exact Below.refl _ _
  ·exact Joins.below_bytesWorld _ _ _ _ (Nat.le_refl _)
def AtoiFails (w : World) (e : Ending) (w' : World) : Prop :=
 ∃ (m : Int) (p : Addr), -9223372036854775808 ≤ m ∧ m ≤ 9223372036854775807 ∧ e = .returned (.tuple #[.int .i64 m, .iface 303 (.pointer (some p))]) ∧ Below w.heap.size w w'
theorem atoi_no (s : ByteArray) (hs : s.size ≤ 281474976710656) (h : ∀ v, Lib.atoiAll s.data.toList ≠ .ok v) (w : World) (hA : AtoiG w) :
  Calls Tryz.prog 177 #[.string s] w (AtoiFails w) := by
 obtain ⟨⟨t1, p1, h1⟩, ⟨t2, p2, h2⟩⟩ := hA
 cases hx : Lib.atoiAll s.data.toList with
 |ok v => exact absurd hx (h v)
 |_ =>
  first
  |exact (Tryz.strconv_Atoi_range s hs hx _ w h2 (Or.inr ⟨_, _, rfl⟩)).mono fun e w' hh => by
    obtain ⟨N, he, _, _, hb⟩ := hh
    exact ⟨_, _, (Lib.atoiSat_bounds _).1, (Lib.atoiSat_bounds _).2, he, hb⟩
  |exact (show Calls Tryz.prog 177 #[.string s] w fun e w' => ∃ N, e = .returned (.tuple #[.int .i64 (0), .iface 303 (.pointer (some ⟨N, 0, none⟩))]) ∧ w.heap.size ≤ N ∧ w'.heap[N]? = some (.cells #[.string ⟨#[65, 116, 111, 105]⟩, .string s, .iface t1 p1] 312 (0, 0)) ∧ Below w.heap.size w w' from Any.strconv_Atoi_syntax Tryz.laysC172 s hs hx _ w h1 (Or.inr ⟨_, _, rfl⟩)).mono fun e w' hh => by
    obtain ⟨N, he, _, _, hb⟩ := hh
    exact ⟨0, _, by omega, by omega, he, hb⟩
def NumFails (w : World) (e : Ending) (w' : World) : Prop :=
 ∃ m : Int, -9223372036854775808 ≤ m ∧ m ≤ 9223372036854775807 ∧ e = .returned (.tuple #[.int .i64 m, .bool false]) ∧ Below w.heap.size w w'
set_option maxHeartbeats 400000 in
theorem number_yes (s : ByteArray) (d n : Nat) (h : NumIs s.data.toList d n) (hd : d ≤ 100) (w : World) (hT : TabG w) :
  Calls Tryz.prog 145 #[.string s, .int .i64 d] w fun e w' => e = .returned (.tuple #[.int .i64 n, .bool true]) ∧ Below w.heap.size w w' := by
 obtain ⟨h1, h2, h3⟩ := h
 have hsz : s.size = s.data.toList.length := by rw [Array.length_toList]; rfl
 have ha := atoi_dec n h3
 rw [← h1] at ha
 have hi := itoa_nat n (by omega)
 rw [Int.toNat_natCast, ← h1] at hi
 have hs : s.size ≤ d := by omega
 have hs' : decide (s.size ≤ d) = true := by simpa using hs
 have hA := atoi_ok s (by omega) n ha w
 have HI := Lib.hid hi
 have HA := Lib.hid hA
 clear hi hA ha h1 h2 hsz
 go_enter Tryz.func145, Tryz.ntmps145
 go_wp2_with fail
 refine HA.out.mono ?_
 rintro e w1 ⟨rfl, hb⟩
 go_wp2_with fail
 refine (itoa_any n (by omega) (by omega) _ (hT.below hb)).mono ?_
 rintro e w2 ⟨rfl, hb2⟩
 go_wp2_with fail
 go_ret2
 refine ⟨?_, hb.trans (hb2.mono hb.size)⟩
 rw [HI.out]
 simp [Lib.toList_data]
set_option maxHeartbeats 400000 in
theorem number_no (s : ByteArray) (d : Nat) (hs : s.size ≤ 281474976710656) (h : ∀ n, ¬ NumIs s.data.toList d n) (_ : d ≤ 100) (w : World) (hT : TabG w) (hG : AtoiG w) :
  Calls Tryz.prog 145 #[.string s, .int .i64 d] w (NumFails w) := by
 have hsz : s.size = s.data.toList.length := by rw [Array.length_toList]; rfl
 by_cases hx : ∃ v, Lib.atoiAll s.data.toList = .ok v
 ·obtain ⟨v, hv⟩ := hx
  obtain ⟨b0, b1⟩ := Lib.atoiAll_bounds hv
  have hA := atoi_ok s hs v hv w
  have hfin : ¬ (s.size ≤ d ∧ 0 ≤ v ∧ Lib.itoa v = s.data.toList) := by
   rintro ⟨q1, q2, q3⟩
   rw [itoa_nat v q2] at q3
   exact h v.toNat ⟨q3.symm, by omega, by omega⟩
  have HA := Lib.hid hA
  have HF := Lib.hid hfin
  clear hA hfin h hv hG hsz
  by_cases hl : s.size ≤ d
  ·have hl' : decide (s.size ≤ d) = true := by simpa using hl
   by_cases hp : 0 ≤ v
   ·go_enter Tryz.func145, Tryz.ntmps145
    go_wp2_with fail
    refine HA.out.mono ?_
    rintro e w1 ⟨rfl, hb⟩
    go_wp2_with fail
    refine (itoa_any v (by omega) (by omega) _ (hT.below hb)).mono ?_
    rintro e w2 ⟨rfl, hb2⟩
    go_wp2_with fail
    go_ret2
    refine ⟨v, b0, b1, ?_, hb.trans (hb2.mono hb.size)⟩
    have : ¬ Lib.itoa v = s.data.toList := fun q => HF.out ⟨hl, hp, q⟩
    simp [this, Lib.toList_data]
   ·go_enter Tryz.func145, Tryz.ntmps145
    go_wp2_with fail
    refine HA.out.mono ?_
    rintro e w1 ⟨rfl, hb⟩
    go_wp2_with fail
    go_ret2
    exact ⟨v, b0, b1, by simp, hb⟩
  ·have hl' : decide (s.size ≤ d) = false := by simpa using hl
   go_enter Tryz.func145, Tryz.ntmps145
   go_wp2_with fail
   refine HA.out.mono ?_
   rintro e w1 ⟨rfl, hb⟩
   go_wp2_with fail
   go_ret2
   exact ⟨v, b0, b1, by simp, hb⟩
 ·have hA := atoi_no s hs (fun v hv => hx ⟨v, hv⟩) w hG
  have HA := Lib.hid hA
  clear hA h hx hG hsz
  go_enter Tryz.func145, Tryz.ntmps145
  go_wp2_with fail
  refine HA.out.mono ?_
  rintro e w1 ⟨m, p, b0, b1, rfl, hb⟩
  go_wp2_with fail
  go_ret2
  exact ⟨m, b0, b1, by simp, hb⟩
def NumEnds (l : List UInt8) (d : Nat) (w : World) (e : Ending) (w' : World) : Prop :=
 (∃ n : Nat, numQ l d = some n ∧ NumIs l d n ∧ e = .returned (.tuple #[.int .i64 n, .bool true]) ∧ Below w.heap.size w w') ∨ (numQ l d = none ∧ NumFails w e w')
theorem number_any (s : ByteArray) (d : Nat) (hs : s.size ≤ 281474976710656) (hd : d ≤ 100) (w : World) (hT : TabG w) (hG : AtoiG w) :
  Calls Tryz.prog 145 #[.string s, .int .i64 d] w (NumEnds s.data.toList d w) := by
 cases h : numQ s.data.toList d with
 |none => exact (number_no s d hs (numQ_none _ _ h) hd w hT hG).mono fun e w' hh => Or.inr ⟨h, hh⟩
 |some n =>
  have hn := (numQ_iff _ _ _).1 h
  exact (number_yes s d n hn hd w hT).mono fun e w' hh => Or.inl ⟨n, h, hn, hh⟩
end Go.Proofs.YteaalifehokgoaaGreatDoor
namespace Go.Proofs.YteaalifehokgoaaGreatDoor
open Go.RowKit Go.Sort Go.Proofs
def placeText (x : PlaceV) : List UInt8 := if placeE x = 0 then x.1 ++ [45] ++ Lib.itoa x.2.1 ++ [45] ++ Lib.itoa x.2.2 else []
set_option maxHeartbeats 800000 in
theorem textPlace_any (E : Nat → Addr) (x : PlaceV) (w : World) (hG : PlaceG E w) :
  Calls Tryz.prog 83 #[.agg (encPlace x).toArray] w fun e w' => e = .returned (.string ⟨(placeText x).toArray⟩) ∧ Below w.heap.size w w' := by
 have HCK := Lib.hid (fun W h => checkPlace_any E x W h)
 by_cases hE : placeE x = 0
 ·have hx := placeE_zero.1 hE
  have l1 := (nameB_len hx.1).2
  have HTX := Lib.hid (show placeText x = x.1 ++ [45] ++ Lib.itoa x.2.1 ++ [45] ++ Lib.itoa x.2.2 by unfold placeText; rw [if_pos hE])
  have HCK' := Lib.hid (show ∀ W, PlaceG E W → Calls Tryz.prog 137 #[.agg (encPlace x).toArray] W fun e w' => e = .returned .nilIface ∧ Below W.heap.size W w' from fun W h => by have := HCK.out W h; rw [hE] at this; exact this)
  obtain ⟨a1, a2, a3⟩ := x
  simp only [encPlace] at HCK' HTX ⊢
  simp only at hx l1
  obtain ⟨-, x1, x2, x3, x4⟩ := hx
  have HG := Lib.hid hG
  clear hG HCK hE
  have n2 := Lib.itoa_length_le a2 (by omega) (by omega)
  have n3 := Lib.itoa_length_le a3 (by omega) (by omega)
  have s1 : (⟨a1.toArray⟩ : ByteArray).size = a1.length := by simp [ByteArray.size]
  go_enter Tryz.func83, Tryz.ntmps83
  go_wp2_with fail
  have b0 : Below w.heap.size w (w.alloc (.cells #[.string ⟨a1.toArray⟩, .int .i64 a2, .int .i64 a3] 41)) := (Below.refl _ _).alloc (Nat.le_refl _) _
  refine (HCK'.out _ (HG.out.below b0)).mono ?_
  rintro e w1 ⟨rfl, bb1⟩
  have lw := heap_two bb1
  obtain ⟨hc, hf⟩ := bcell bb1
  have b1 := b0.trans (bb1.mono (by simp))
  have c0 : w1.cell? ⟨w.heap.size, 0, none⟩ = some (.string ⟨a1.toArray⟩) := by rw [hc _ _ (by simp)]; go_simp
  have c1 : w1.cell? ⟨w.heap.size, 1, none⟩ = some (.int .i64 a2) := by rw [hc _ _ (by simp)]; go_simp
  have c2 : w1.cell? ⟨w.heap.size, 2, none⟩ = some (.int .i64 a3) := by rw [hc _ _ (by simp)]; go_simp
  clear hc hf b0 bb1 HCK'
  go_wp2_with fail
  have hd : Below w.heap.size w w1.drew := b1.drew
  have HT := Lib.hid (show ∀ W, Below w.heap.size w W → TabG W from fun W h => (HG.out.below h).tab)
  have v1 : ¬ 9223372036854775807 < a1.length + 1 := by omega
  have v2 : ¬ 9223372036854775807 < a1.length + 1 + (Lib.itoa a2).length := by omega
  have v3 : ¬ 9223372036854775807 < a1.length + 1 + (Lib.itoa a2).length + 1 := by omega
  have v4 : ¬ 9223372036854775807 < a1.length + 1 + (Lib.itoa a2).length + 1 + (Lib.itoa a3).length := by omega
  go_region_held3 (fun w' => w'.cell? ⟨w.heap.size, 0, none⟩ = some (.string ⟨a1.toArray⟩) ∧ w'.cell? ⟨w.heap.size, 1, none⟩ = some (.int .i64 a2) ∧ w'.cell? ⟨w.heap.size, 2, none⟩ = some (.int .i64 a3) ∧ Below w.heap.size w w')
   (first | exact ⟨c0, c1, c2, hd⟩ | exact ⟨(q4.cell lw).trans c0, (q4.cell lw).trans c1, (q4.cell lw).trans c2, b4⟩ | exact ⟨(q3.cell lw).trans c0, (q3.cell lw).trans c1, (q3.cell lw).trans c2, b3⟩ | go_keep)
   (first
    |(go_at_call_of 77 (Value.int .i64 a2); refine (itoa_any a2 (by omega) (by omega) _ (HT.out _ hd)).mono ?_; rintro e w3 ⟨rfl, bb3⟩; have q3 : Below w1.heap.size w1 w3 := (Below.refl w1.heap.size w1).drew.trans bb3; have b3 := b1.trans (q3.mono b1.size))
    |(go_at_call_of 77 (Value.int .i64 a3); refine (itoa_any a3 (by omega) (by omega) _ (HT.out _ b3)).mono ?_; rintro e w4 ⟨rfl, bb4⟩; have q4 := q3.trans (bb4.mono q3.size); have b4 := b1.trans (q4.mono b1.size)))
  all_goals
   have B4 := Lib.hid b4
   clear b4 q4 q3 b3 bb3 bb4 hd b1 c0 c1 c2
   go_wp2_with fail
   go_ret
   refine ⟨?_, B4.out⟩
   rw [HTX.out]
   show Ending.returned (.string ((⟨a1.toArray⟩ : ByteArray) ++ (⟨#[45]⟩ : ByteArray) ++ (⟨(Lib.itoa a2).toArray⟩ : ByteArray) ++ (⟨#[45]⟩ : ByteArray) ++ (⟨(Lib.itoa a3).toArray⟩ : ByteArray))) = _
   rw [show (⟨#[45]⟩ : ByteArray) = ⟨[45].toArray⟩ from rfl, mk_app, mk_app, mk_app, mk_app]
 ·have HTX := Lib.hid (show placeText x = [] by unfold placeText; rw [if_neg hE])
  have HCK' := Lib.hid (show ∀ W, PlaceG E W → Calls Tryz.prog 137 #[.agg (encPlace x).toArray] W fun e w' => e = .returned (.iface 318 (.pointer (some (E (placeE x))))) ∧ Below W.heap.size W w' from fun W h => by have := HCK.out W h; rw [errOf_pos _ _ hE] at this; exact this)
  generalize placeE x = k at HCK'
  obtain ⟨a1, a2, a3⟩ := x
  simp only [encPlace] at HCK' ⊢
  have HG := Lib.hid hG
  clear hG HCK hE
  go_enter Tryz.func83, Tryz.ntmps83
  go_wp2_with fail
  have b0 : Below w.heap.size w (w.alloc (.cells #[.string ⟨a1.toArray⟩, .int .i64 a2, .int .i64 a3] 41)) := (Below.refl _ _).alloc (Nat.le_refl _) _
  refine (HCK'.out _ (HG.out.below b0)).mono ?_
  rintro e w1 ⟨rfl, bb1⟩
  have b1 := b0.trans (bb1.mono (by simp))
  clear b0 bb1
  go_wp2_with fail
  go_ret
  rw [HTX.out]
  exact ⟨rfl, b1⟩
end Go.Proofs.YteaalifehokgoaaGreatDoor
namespace Go.Proofs.YteaalifehokgoaaGreatDoor
open Go.RowKit Go.Sort Go.Proofs
def lineText (x : LineV) : List UInt8 := placeText x.1 ++ [32] ++ x.2.1 ++ [32] ++ Lib.itoa x.2.2
theorem placeText_len (x : PlaceV) : (placeText x).length ≤ 60 := by
 unfold placeText
 split
 ·rename_i h
  have hx := placeE_zero.1 h
  have l1 := (nameB_len hx.1).2
  have n2 := Lib.itoa_length_le x.2.1 (by omega) (by omega)
  have n3 := Lib.itoa_length_le x.2.2 (by omega) (by omega)
  simp only [List.length_append, List.length_cons, List.length_nil]
  omega
 ·simp
set_option maxHeartbeats 800000 in
theorem textLine_any (E : Nat → Addr) (x : LineV) (w : World) (hG : PlaceG E w) (hl : x.2.1.length ≤ 1000000000) (h0 : -9223372036854775808 ≤ x.2.2) (h1 : x.2.2 ≤ 9223372036854775807) :
  Calls Tryz.prog 34 #[.agg (encLine x).toArray] w fun e w' => e = .returned (.string ⟨(lineText x).toArray⟩) ∧ Below w.heap.size w w' := by
 have HP := Lib.hid (fun W h => textPlace_any E x.1 W h)
 have n1 := placeText_len x.1
 have HTX := Lib.hid (show lineText x = placeText x.1 ++ [32] ++ x.2.1 ++ [32] ++ Lib.itoa x.2.2 from rfl)
 generalize lineText x = T at HTX ⊢
 generalize placeText x.1 = t at HP n1 HTX
 obtain ⟨⟨a1, a2, a3⟩, a4, a5⟩ := x
 simp only [encPlace, encLine] at HP HTX hl h0 h1 ⊢
 have HI := Lib.hid (fun W h => itoa_any a5 h0 h1 W h)
 have n3 := Lib.itoa_length_le a5 h0 h1
 generalize Lib.itoa a5 = t5 at HI n3 HTX
 have HG := Lib.hid (fun W (h : Below w.heap.size w W) => hG.below h)
 clear hG h0 h1
 go_enter Tryz.func34, Tryz.ntmps34
 go_wp2_with fail
 have b0 : Below w.heap.size w (w.alloc (.cells #[.string ⟨a1.toArray⟩, .int .i64 a2, .int .i64 a3, .string ⟨a4.toArray⟩, .int .i64 a5] 90)) := (Below.refl _ _).alloc (Nat.le_refl _) _
 obtain ⟨W1, hW1⟩ : ∃ W1, W1 = w.alloc (.cells #[.string ⟨a1.toArray⟩, .int .i64 a2, .int .i64 a3, .string ⟨a4.toArray⟩, .int .i64 a5] 90) := ⟨_, rfl⟩
 have c0 : W1.cell? ⟨w.heap.size, 0, none⟩ = some (.string ⟨a1.toArray⟩) := by rw [hW1]; go_simp
 have c1 : W1.cell? ⟨w.heap.size, 1, none⟩ = some (.int .i64 a2) := by rw [hW1]; go_simp
 have c2 : W1.cell? ⟨w.heap.size, 2, none⟩ = some (.int .i64 a3) := by rw [hW1]; go_simp
 have c3 : W1.cell? ⟨w.heap.size, 3, none⟩ = some (.string ⟨a4.toArray⟩) := by rw [hW1]; go_simp
 have c4 : W1.cell? ⟨w.heap.size, 4, none⟩ = some (.int .i64 a5) := by rw [hW1]; go_simp
 have lw : w.heap.size < W1.heap.size := by rw [hW1]; simp
 rw [← hW1] at b0 ⊢
 clear hW1
 have hd : Below w.heap.size w W1.drew := b0.drew
 have qd : Below W1.heap.size W1 W1.drew := (Below.refl _ _).drew
 have v1 : ¬ 9223372036854775807 < t.length + 1 := by omega
 have v2 : ¬ 9223372036854775807 < t.length + 1 + a4.length := by omega
 have v3 : ¬ 9223372036854775807 < t.length + 1 + a4.length + 1 := by omega
 have v4 : ¬ 9223372036854775807 < t.length + 1 + a4.length + 1 + t5.length := by omega
 go_region_held3 (fun w' => w'.cell? ⟨w.heap.size, 0, none⟩ = some (.string ⟨a1.toArray⟩) ∧ w'.cell? ⟨w.heap.size, 1, none⟩ = some (.int .i64 a2) ∧ w'.cell? ⟨w.heap.size, 2, none⟩ = some (.int .i64 a3) ∧ w'.cell? ⟨w.heap.size, 3, none⟩ = some (.string ⟨a4.toArray⟩) ∧ w'.cell? ⟨w.heap.size, 4, none⟩ = some (.int .i64 a5) ∧ Below w.heap.size w w')
  (first | exact ⟨c0, c1, c2, c3, c4, hd⟩ | exact ⟨(q4.cell lw).trans c0, (q4.cell lw).trans c1, (q4.cell lw).trans c2, (q4.cell lw).trans c3, (q4.cell lw).trans c4, b4⟩ | exact ⟨(q3.cell lw).trans c0, (q3.cell lw).trans c1, (q3.cell lw).trans c2, (q3.cell lw).trans c3, (q3.cell lw).trans c4, b3⟩ | go_keep)
  (first
   |(go_at_call 83; refine (HP.out _ (HG.out _ hd)).mono ?_; rintro e w3 ⟨rfl, bb3⟩; have q3 : Below W1.heap.size W1 w3 := qd.trans bb3; have b3 := b0.trans (q3.mono b0.size))
   |(go_at_call 77; refine (HI.out _ (HG.out _ b3).tab).mono ?_; rintro e w4 ⟨rfl, bb4⟩; have q4 := q3.trans (bb4.mono q3.size); have b4 := b0.trans (q4.mono b0.size)))
 all_goals
  have B4 := Lib.hid b4
  clear b4 q4 q3 b3 bb3 bb4 hd b0 qd c0 c1 c2 c3 c4 HP HI HG
  go_wp2_with fail
  go_ret
  refine ⟨?_, B4.out⟩
  rw [HTX.out]
  show Ending.returned (.string ((⟨t.toArray⟩ : ByteArray) ++ (⟨#[32]⟩ : ByteArray) ++ (⟨a4.toArray⟩ : ByteArray) ++ (⟨#[32]⟩ : ByteArray) ++ (⟨t5.toArray⟩ : ByteArray))) = _
  rw [show (⟨#[32]⟩ : ByteArray) = ⟨[32].toArray⟩ from rfl, mk_app, mk_app, mk_app, mk_app]
end Go.Proofs.YteaalifehokgoaaGreatDoor
namespace Go.Proofs.YteaalifehokgoaaGreatDoor
open Go.RowKit
set_option maxHeartbeats 1000000 in
set_option maxRecDepth 100000 in
theorem copyCheck_used (b : Nat) (w : World) (h0 : w.cell? ⟨b, 0, none⟩ = some (.pointer (some ⟨b, 0, none⟩))) :
  Calls Tryz.prog 76 #[.pointer (some ⟨b, 0, none⟩)] w fun e w' => e = .returned (.tuple #[]) ∧ w' = w := by
 obtain ⟨j, hj, _⟩ := Option.map_eq_some_iff.1 (show (Tryz.prog.info? 75).map (·.size) = some 2 by kernel_rfl)
 go_enter Tryz.func76, Tryz.ntmps76
 go_wp2
 rw [Lib.run_neq_ptr_same w _ Tryz.underlying72 hj]
 go_wp2
 go_end0
 exact ⟨rfl, rfl⟩
set_option maxHeartbeats 1000000 in
set_option maxRecDepth 100000 in
theorem copyCheck_fresh (b : Nat) (w : World) (h0 : w.cell? ⟨b, 0, none⟩ = some (.pointer none)) (hsh : w.shape? b = some (75, 2)) (hfz : w.frozen? ⟨b, 0, none⟩ = false) :
  Calls Tryz.prog 76 #[.pointer (some ⟨b, 0, none⟩)] w fun e w' => e = .returned (.tuple #[]) ∧ w' = w.setCell ⟨b, 0, none⟩ (.pointer (some ⟨b, 0, none⟩)) := by
 obtain ⟨j, hj, hjs⟩ := Option.map_eq_some_iff.1 (show (Tryz.prog.info? 75).map (·.size) = some 2 by kernel_rfl)
 go_enter Tryz.func76, Tryz.ntmps76
 go_wp2
 rw [Lib.run_to_unsafe w ⟨b, 0, none⟩ Tryz.underlying72 Tryz.underlying173 hj (by rw [hjs]; decide) hsh (Nat.zero_lt_succ 1)]
 simp only [Result.andThen]
 rw [Oper.upon_value]
 go_wp2
 rw [run_callFunc_extern Tryz.func126 (by kernel_rfl) (by kernel_rfl) (by kernel_rfl) (e := Extern.AbiNoEscape.same) (by kernel_rfl)]
 rw [Lib.run_noEscape]
 simp only [Result.andThen]
 rw [Oper.upon_value]
 go_wp2
 rw [Lib.run_from_unsafe w ⟨b, 0, none⟩ Tryz.underlying173 Tryz.underlying72 hj hsh (by kernel_rfl)]
 simp only [Result.andThen]
 rw [Oper.upon_value]
 go_wp2
 go_end0
 exact ⟨rfl, rfl⟩
theorem byteInfo : (Tryz.prog.info? 5).map (fun i => (i.zero, i.size, i.bytes)) = some (some (.int .u8 0), 1, 1) := by kernel_rfl
structure ButB (B b : Nat) (w w' : World) : Prop where
 os : w'.os = w.os
 tape : w'.tape = w.tape
 output : w'.output = w.output
 size : w.heap.size ≤ w'.heap.size
 block : ∀ k, k < B → k ≠ b → w'.heap[k]? = w.heap[k]?
theorem ButB.refl (B b : Nat) (w : World) : ButB B b w w := ⟨rfl, rfl, rfl, Nat.le_refl _, fun _ _ _ => rfl⟩
theorem ButB.trans {B b : Nat} {w1 w2 w3 : World} (h : ButB B b w1 w2) (k : ButB B b w2 w3) : ButB B b w1 w3 :=
 ⟨k.os.trans h.os, k.tape.trans h.tape, k.output.trans h.output, Nat.le_trans h.size k.size, fun i hi hb => (k.block i hi hb).trans (h.block i hi hb)⟩
theorem ButB.of_below {B b : Nat} {w w' : World} (h : Below B w w') : ButB B b w w' := ⟨h.os, h.tape, h.output, h.size, fun k hk _ => h.block k hk⟩
theorem ButB.below {A B b : Nat} {w w' : World} (h : ButB B b w w') (hA : A ≤ b) (hB : A ≤ B) : Below A w w' := ⟨h.os, h.tape, h.output, h.size, fun k hk => h.block k (by omega) (by omega)⟩
def BldAt (B b : Nat) (bs : List Value) (w : World) : Prop :=
 b < B ∧ ∃ p v, (p = .pointer none ∨ p = .pointer (some ⟨b, 0, none⟩)) ∧ w.heap[b]? = some (.cells #[p, v] 75 (0, 0)) ∧ w.ownsRow B 5 1 v bs.length bs
theorem BldAt.is {B b : Nat} {bs : List Value} {w : World} (h : BldAt B b bs w) : Lib.IsBuilder 75 5 b b bs w := by
 obtain ⟨h1, p, v, hp, hb, hown⟩ := h
 have hne := Lib.ownBlock_ne hown hb (by decide)
 rcases hp with rfl | rfl
 ·exact .inl ⟨Nat.le_refl _, v, hb, hown.mono (Nat.le_of_lt h1), hne⟩
 ·exact .inr ⟨Nat.le_refl _, v, hb, hown.mono (Nat.le_of_lt h1), hne⟩
theorem BldAt.lt {B b : Nat} {bs : List Value} {w : World} (h : BldAt B b bs w) : b < w.heap.size := by
 obtain ⟨_, _, _, _, hb, _⟩ := h
 exact (Array.getElem?_eq_some_iff.1 hb).1
theorem BldAt.keep {B b : Nat} {bs : List Value} {w w' : World} (h : BldAt B b bs w) (hb : Below w.heap.size w w') : BldAt B b bs w' := by
 obtain ⟨h1, p, v, hp, hk, hown⟩ := h
 refine ⟨h1, p, v, hp, (hb.block _ (Array.getElem?_eq_some_iff.1 hk).1).trans hk, hown.1, ?_⟩
 rcases hown.2 with h0 | ⟨g, cap, cur, r1, r2, r3, r4⟩
 ·exact .inl h0
 ·exact .inr ⟨g, cap, cur, r1, r2, (hb.block g (Array.getElem?_eq_some_iff.1 r3).1).trans r3, r4⟩
theorem BldAt.fresh {B b : Nat} {w : World} (h1 : b < B) (hb : w.heap[b]? = some (.cells #[.pointer none, .slice none 0 0] 75 (0, 0))) : BldAt B b [] w :=
 ⟨h1, _, _, .inl rfl, hb, World.ownsRow_nil _ _ _ _⟩
theorem butB_set {B b j : Nat} {v : Value} (w : World) : ButB B b w (w.setCell ⟨b, j, none⟩ v) := ⟨rfl, rfl, rfl, by simp [World.setCell], fun k _ hk => Below.heap_setCell _ _ _ _ hk⟩
theorem own_set {B b j : Nat} {v u : Value} {n : Nat} {xs : List Value} {w : World} (hown : w.ownsRow B 5 1 u n xs) (h : b < B) : (w.setCell ⟨b, j, none⟩ v).ownsRow B 5 1 u n xs := by
 refine ⟨hown.1, ?_⟩
 rcases hown.2 with h0 | ⟨g, cap, cur, r1, r2, r3, r4⟩
 ·exact .inl h0
 ·exact .inr ⟨g, cap, cur, r1, r2, (Below.heap_setCell _ _ _ _ (by show g ≠ b; omega)).trans r3, r4⟩
theorem copyCheck_apart (B b : Nat) (bs : List Value) (w : World) (h : BldAt B b bs w) :
  Calls Tryz.prog 76 #[.pointer (some ⟨b, 0, none⟩)] w fun e w' => e = .returned (.tuple #[]) ∧ (∃ v, w'.heap[b]? = some (.cells #[.pointer (some ⟨b, 0, none⟩), v] 75 (0, 0)) ∧ w'.ownsRow B 5 1 v bs.length bs) ∧ ButB B b w w' := by
 obtain ⟨h1, p, v, hp, hb, hown⟩ := h
 have c0 : w.cell? ⟨b, 0, none⟩ = some p := by rw [Lib.cell_of_heap hb]; rfl
 rcases hp with rfl | rfl
 ·refine (copyCheck_fresh b w c0 (by simp [World.shape?, hb]) (Lib.frozen_of_heap hb 0)).mono ?_
  rintro e w' ⟨rfl, rfl⟩
  exact ⟨rfl, ⟨v, by simp [World.setCell, Array.getElem?_modify, hb], own_set hown h1⟩, butB_set w⟩
 ·refine (copyCheck_used b w c0).mono ?_
  rintro e w' ⟨rfl, rfl⟩
  exact ⟨rfl, ⟨v, hb, hown⟩, ButB.refl _ _ _⟩
set_option maxHeartbeats 1000000 in
set_option maxRecDepth 100000 in
theorem writeString_apart (B b : Nat) (bs : List Value) (s : ByteArray) (w : World) (h : BldAt B b bs w) (hlen : bs.length + s.size ≤ 140737488355328) (hBw : B ≤ w.heap.size) :
  Calls Tryz.prog 27 #[.pointer (some ⟨b, 0, none⟩), .string s] w fun e w' => e = .returned (.tuple #[.int .i64 s.size, .nilIface]) ∧ BldAt B b (bs ++ Lib.strCells s) w' ∧ ButB B b w w' := by
 obtain ⟨i0, hi, hz0, hz1, hz2⟩ := info_parts byteInfo
 have hbB := h.1
 go_enter Tryz.func27, Tryz.ntmps27
 go_wp2_with fail
 refine (copyCheck_apart B b bs _ h).mono ?_
 rintro e w1 ⟨rfl, ⟨v, hbk, hown⟩, hb1⟩
 have c0 : w1.cell? ⟨b, 0, none⟩ = some (.pointer (some ⟨b, 0, none⟩)) := by rw [Lib.cell_of_heap hbk]; rfl
 have c1 : w1.cell? ⟨b, 1, none⟩ = some v := by rw [Lib.cell_of_heap hbk]; rfl
 go_wp2_with (at_builtin; refine Lib.wpList_append_own_string _ rfl _ _ 73 9 rfl B 5 i0 Tryz.underlying73 Tryz.underlying9 hi hz0 hz1 hz2 _ _ _ rfl hown s rfl ?c3 ?c4 ?c5 ?_)
 case c3 => unfold maxLen; omega
 case c4 => omega
 case c5 => have := hb1.size; omega
 intro v' w2 hown' hgrow _
 have hlt : b < w1.heap.size := (Array.getElem?_eq_some_iff.1 hbk).1
 have hno : ∀ k, k < B → some k ≠ v.ownBlock := fun k hk e => by
  have := (hown.lt k e.symm).1
  omega
 have hb2 : w2.heap[b]? = some (.cells #[.pointer (some ⟨b, 0, none⟩), v] 75 (0, 0)) := by
  rw [hgrow.block b hlt (hno b hbB)]
  exact hbk
 have d0 : w2.cell? ⟨b, 0, none⟩ = some (.pointer (some ⟨b, 0, none⟩)) := by rw [Lib.cell_of_heap hb2]; rfl
 have d1 : w2.cell? ⟨b, 1, none⟩ = some v := by rw [Lib.cell_of_heap hb2]; rfl
 have f1 : w2.frozen? ⟨b, 1, none⟩ = false := Lib.frozen_of_heap hb2 1
 have hg2 : ButB B b w1 w2 := ⟨hgrow.os, hgrow.tape, hgrow.output, hgrow.size, fun k hk _ => hgrow.block k (by have := hb1.size; omega) (hno k hk)⟩
 obtain ⟨ao, n', cap, rfl⟩ : ∃ ao n' cap, v' = .slice ao n' cap := by
  rcases hown'.2 with ⟨hv, _⟩ | ⟨g, cap, cur, hv, _⟩
  ·exact ⟨_, _, _, hv⟩
  ·exact ⟨_, _, _, hv⟩
 go_wp2
 go_ret2
 refine ⟨rfl, ⟨hbB, .pointer (some ⟨b, 0, none⟩), .slice ao n' cap, .inr rfl, ?_, own_set ?_ hbB⟩, (hb1.trans hg2).trans (butB_set _)⟩
 ·simp [World.setCell, Array.getElem?_modify, hb2]
 ·simpa [Lib.strCells_length] using hown'
end Go.Proofs.YteaalifehokgoaaGreatDoor
namespace Go.Proofs
open Go.Shelf
def Tryz.lays169_ren : Go.Shelf.Ren := ⟨fun | 169 => 35 | n => n, fun | 70 => 72 | 9 => 9 | 0 => 0 | 72 => 75 | 37 => 73 | 127 => 153 | 3 => 3 | 5 => 5 | n => n, fun | n => n⟩
theorem Tryz.lays169 : Go.Proofs.Lays.n169 Tryz.prog Tryz.lays169_ren := {
 mixed := by kernel_rfl
 f169 := Tryz.func35.trans (congrArg some (by kernel_rfl))
 t0 := Tryz.underlying0
 a0 := Tryz.isAgg0
 z0 := Tryz.sizeOf0
 v0 := Tryz.zeroValue0
 t3 := Tryz.underlying3
 a3 := Tryz.isAgg3
 z3 := Tryz.sizeOf3
 v3 := Tryz.zeroValue3
 t9 := Tryz.underlying9
 a9 := Tryz.isAgg9
 z9 := Tryz.sizeOf9
 v9 := Tryz.zeroValue9
 t37 := Tryz.underlying73
 a37 := Tryz.isAgg73
 z37 := Tryz.sizeOf73
 v37 := Tryz.zeroValue73
 t70 := Tryz.underlying72
 a70 := Tryz.isAgg72
 z70 := Tryz.sizeOf72
 v70 := Tryz.zeroValue72
 t72 := Tryz.underlying75
 a72 := Tryz.isAgg75
 z72 := Tryz.sizeOf75
 v72 := Tryz.zeroValue75
 t127 := Tryz.underlying153
 a127 := Tryz.isAgg153
 z127 := Tryz.sizeOf153
 v127 := Tryz.zeroValue153 }
theorem Tryz.Builder_Extra_169 : Builder.Extra Tryz.prog Tryz.lays169_ren := {
 sizeBuilder := by kernel_rfl
 liesBuilder := by kernel_rfl
 t5 := Tryz.underlying5
 a5 := Tryz.isAgg5
 z5 := Tryz.sizeOf5
 v5 := Tryz.zeroValue5
 infoByte := by kernel_rfl
 cellsByte := by kernel_rfl
 sizeByte := by kernel_rfl
 neB5 := by decide }
open Go.RowKit in
theorem Tryz.Builder_String (B b : Nat) (l : List UInt8) (w : World) (h : Lib.IsBuilder 75 5 B b (Lib.byteCells l) w) (h0 : l ≠ []) :
  Calls Tryz.prog 35 #[.pointer (some ⟨b, 0, none⟩)] w fun e w' => e = .returned (.string ⟨l.toArray⟩) ∧ Below B w w' := Any.Builder_String Tryz.lays169 Tryz.Builder_Extra_169 B b l w h h0
open Go.RowKit in
theorem Tryz.Builder_String_empty (B b : Nat) (w : World) (h : Lib.IsBuilder 75 5 B b [] w) (hBw : B ≤ w.heap.size) :
  Calls Tryz.prog 35 #[.pointer (some ⟨b, 0, none⟩)] w fun e w' => e = .returned (.string ⟨#[]⟩) ∧ Below B w w' := Any.Builder_String_empty Tryz.lays169 Tryz.Builder_Extra_169 B b w h hBw
end Go.Proofs
