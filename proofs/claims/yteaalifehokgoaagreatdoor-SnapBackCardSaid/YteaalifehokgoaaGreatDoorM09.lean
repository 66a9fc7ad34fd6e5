/- Stock: Text. Plain facts: the document's reading of a numeral, held against strconv's. No program in sight. The document's NumberOf, walked. The document's IsName, walked. tithebarnref1.Decimal: a number's digits, as the document writes them. Strings: less than. Places: the document's error, text, order. A stock's lines: the document's text, order. A stock of the document: Find. -/
import Derived.Lib.ItoaLen
import Derived.Lib.ItoaMem
import Derived.Test.YteaalifehokgoaaGreatDoorM01
import Derived.Test.YteaalifehokgoaaGreatDoorM03
import Derived.Test.YteaalifehokgoaaGreatDoorM04
import Derived.Test.YteaalifehokgoaaGreatDoorM06
import Derived.Test.YteaalifehokgoaaGreatDoorM07
import Derived.Test.YteaalifehokgoaaGreatDoorM08
namespace Go.Proofs.YteaalifehokgoaaGreatDoor
open Go.RowKit Go.Sort Go.Proofs
def linesText (l : List LineV) : List UInt8 := (l.map fun x => lineText x ++ [10]).flatten
theorem linesText_take (l : List LineV) (k : Nat) (h : k < l.length) : linesText (l.take (k + 1)) = linesText (l.take k) ++ (lineText l[k] ++ [10]) := by
 unfold linesText
 rw [List.take_succ_eq_append_getElem h, List.map_append, List.flatten_append]
 simp
def WellL (x : LineV) : Prop := placeE x.1 = 0 ∧ nameB x.2.1 = true ∧ 1 ≤ x.2.2 ∧ x.2.2 ≤ 1099511627776
theorem lineText_len {x : LineV} (h : WellL x) : (lineText x).length ≤ 100 := by
 unfold lineText
 have h1 := placeText_len x.1
 have h2 := (nameB_len h.2.1).2
 have h3 := Lib.itoa_length_le x.2.2 (by have := h.2.2.1; omega) (by have := h.2.2.2; omega)
 simp only [List.length_append, List.length_cons, List.length_nil]
 omega
theorem linesText_len {l : List LineV} (h : ∀ x ∈ l, WellL x) : (linesText l).length ≤ l.length * 101 := by
 induction l with
 |nil => simp [linesText]
 |cons x r ih =>
  have h1 := lineText_len (h x List.mem_cons_self)
  have h2 := ih fun y hy => h y (List.mem_cons_of_mem _ hy)
  unfold linesText at *
  simp only [List.map_cons, List.flatten_cons, List.length_append, List.length_cons, List.length_nil]
  omega
structure WellS (m : StkV) : Prop where
 few : m.length ≤ 200
 well : ∀ x ∈ m, placeE x.1.1 = 0 ∧ nameB x.1.2 = true ∧ 1 ≤ x.2 ∧ x.2 ≤ 1099511627776
theorem WellS.inPs {m : StkV} (h : WellS m) : InPs m := fun x hx => InP.of (h.well x hx).1
theorem WellS.lines {m : StkV} (h : WellS m) : ∀ x ∈ linesM m, WellL x := fun x hx => by
 obtain ⟨a, ha, rfl⟩ := List.mem_map.1 ((Stab.srt_perm _ _).mem_iff.1 hx)
 obtain ⟨h1, h2, h3, h4⟩ := h.well a ha
 exact ⟨h1, h2, by simp only [lineOf]; omega, by simp only [lineOf]; omega⟩
theorem linesM_len (m : StkV) : (linesM m).length = m.length := by rw [linesM, Stab.srt_length, List.length_map]
def textM (m : StkV) : List UInt8 := linesText (linesM m)
theorem range5L {x : LineV} {w : World} {b o : Nat} (h : ∀ c v, (encLine x)[c]? = some v → w.cell? ⟨b, o + c, none⟩ = some v) :
  w.cell? ⟨b, o, none⟩ = some (.string ⟨x.1.1.toArray⟩) ∧ w.cell? ⟨b, o + 1, none⟩ = some (.int .i64 x.1.2.1) ∧ w.cell? ⟨b, o + 2, none⟩ = some (.int .i64 x.1.2.2) ∧ w.cell? ⟨b, o + 3, none⟩ = some (.string ⟨x.2.1.toArray⟩) ∧ w.cell? ⟨b, o + 4, none⟩ = some (.int .i64 x.2.2) :=
 ⟨h 0 _ rfl, h 1 _ rfl, h 2 _ rfl, h 3 _ rfl, h 4 _ rfl⟩
set_option maxHeartbeats 1600000 in
set_option maxRecDepth 100000 in
theorem textStock_any (E : Nat → Addr) (p b : Nat) (m : StkV) (w : World) (h : StkAt w p b m) (hW : WellS m) (hG : PlaceG E w) :
  Calls Tryz.prog 44 #[.pointer (some ⟨p, 0, none⟩)] w fun e w' => e = .returned (.string ⟨(textM m).toArray⟩) ∧ Below w.heap.size w w' := by
 have HLI := Lib.hid (fun W (hb : Below w.heap.size w W) => linesStock_any p b m W (h.below hb) hW.inPs (by have := hW.few; omega))
 have HW := Lib.hid hW.lines
 have HN := Lib.hid (linesM_len m)
 have hlen := hW.few
 have HG := Lib.hid (fun W (h : Below w.heap.size w W) => hG.below h)
 have HT := Lib.hid (show textM m = linesText (linesM m) from rfl)
 generalize textM m = T at HT ⊢
 unfold LinesEnds at HLI
 generalize linesM m = l at HLI HW HN HT
 generalize m.length = N at HLI HN hlen
 clear h hW hG
 go_enter Tryz.func44, Tryz.ntmps44
 go_wp2_with fail
 refine (HLI.out _ (below_one _ _)).mono ?_
 rintro e w2 ⟨A, cap, rfl, hrow, hA, hb2⟩
 have hq2 : w2.heap[w.heap.size]? = some (.cells #[.pointer none, .slice none 0 0] 75 (0, 0)) := (hb2.block _ (by simp)).trans (heap_alloc_new _ _)
 have hqlt : w.heap.size < w2.heap.size := (Array.getElem?_eq_some_iff.1 hq2).1
 have HBD := Lib.hid (BldAt.fresh hqlt hq2)
 have HB2 : Hid (Below w.heap.size w w2) := (below_one _ _).trans (hb2.mono (by simp))
 have HROW := Lib.hid hrow
 have HA := Lib.hid hA
 clear hb2 hq2 hrow hA HLI
 go_wp2_with fail
 go_loopw [9] (fun n wr => ∃ k : Nat, k ≤ N ∧ n = .int .i64 k ∧ Hid (BldAt w2.heap.size w.heap.size (Lib.byteCells (linesText (l.take k))) wr) ∧ Hid (ButB w2.heap.size w.heap.size w2 wr)) (fun n _ => N - (intOf n).toNat)
 case atStart => exact ⟨0, by omega, rfl, HBD.out, ButB.refl _ _ _⟩
 case round =>
  obtain ⟨k, hk, rfl, HB, HU⟩ := hrel
  by_cases hkN : k < N
  ·have hkx : k < l.length := by rw [HN.out]; exact hkN
   obtain ⟨g, o, rfl, lg, cg⟩ := HROW.out.resolve_left (fun h => by rw [h] at hkx; simp at hkx)
   have hgq : g ≠ w.heap.size := by
    have := HA.out _ rfl
    simp at this
    omega
   obtain ⟨x, hx⟩ : ∃ x, x = l[k] := ⟨_, rfl⟩
   have hwx : WellL x := by rw [hx]; exact HW.out _ (List.getElem_mem hkx)
   have r5 := range5L (x := x) (w := wr) (b := g) (o := o + k * 5) (fun cc v hv => by
    have h1 := cg k hkx cc v (by rw [← hx]; exact hv)
    exact (World.cell?_of_block (HU.out.block g lg hgq)).trans h1)
   have hbw : Below w.heap.size w wr := HB2.out.trans (HU.out.below (Nat.le_refl _) (Nat.le_of_lt hqlt))
   have HL := Lib.hid (fun W h => textLine_any E x W h (by have := (nameB_len hwx.2.1).2; omega) (by have := hwx.2.2.1; omega) (by have := hwx.2.2.2; omega))
   have ht := lineText_len hwx
   have hlt : (linesText (l.take k)).length ≤ 20200 := by
    have := linesText_len (l := l.take k) fun y hy => HW.out y (List.mem_of_mem_take hy)
    rw [List.length_take] at this
    omega
   have HTK := Lib.hid (linesText_take l k hkx)
   rw [← hx] at HTK
   have HWR := Lib.hid hbw
   generalize linesText (l.take k) = lt0 at HTK hlt HB
   generalize lineText x = t at HTK HL ht
   have hsz := HU.out.size
   clear hx hwx hbw cg
   obtain ⟨⟨a1, a2, a3⟩, a4, a5⟩ := x
   obtain ⟨e0, e1, e2, e3, e4⟩ := r5
   simp only [encLine] at HL
   simp only at e0 e1 e2 e3 e4
   have v1 : ¬ 9223372036854775807 < t.length + 1 := by omega
   go_wp2_with fail
   refine (HL.out _ (HG.out _ (HWR.out.alloc HWR.out.size _))).mono ?_
   rintro e w3 ⟨rfl, b3⟩
   have b3' : Below wr.heap.size wr w3 := (below_one _ _).trans (b3.mono (by simp))
   have HB3 := Lib.hid (HB.out.keep b3')
   have HU3 := Lib.hid (HU.out.trans (ButB.of_below (b := w.heap.size) (b3'.mono hsz)))
   have hs3 := b3'.size
   clear b3 b3' e0 e1 e2 e3 e4
   go_wp2_with fail
   refine (writeString_apart _ _ _ _ w3 HB3.out ?_ (by omega)).mono ?_
   ·simp [Lib.byteCells, ByteArray.size]
    omega
   rintro e w4 ⟨rfl, hB4, hU4⟩
   have HB4 := Lib.hid hB4
   have HU4 := Lib.hid hU4
   clear hB4 hU4
   go_wp2_with fail
   go_roundw
   case rel =>
    refine ⟨k + 1, by omega, by go_num, ?_, HU3.out.trans HU4.out⟩
    have h := HB4.out
    rw [HTK.out]
    show BldAt _ _ _ _
    have e : Lib.byteCells lt0 ++ Lib.strCells ((⟨t.toArray⟩ : ByteArray) ++ (⟨#[10]⟩ : ByteArray)) = Lib.byteCells (lt0 ++ (t ++ [10])) := by
     rw [show (⟨#[10]⟩ : ByteArray) = ⟨[10].toArray⟩ from rfl, mk_app]
     simp [Lib.byteCells, Lib.strCells]
    rw [← e]
    exact h
   case measure => simp [intOf]; omega
  ·obtain rfl : k = N := by omega
   have htk : l.take k = l := List.take_of_length_le (by rw [HN.out]; exact Nat.le_refl _)
   rw [htk, ← HT.out] at HB
   have HWR : Hid (Below w.heap.size w wr) := HB2.out.trans (HU.out.below (Nat.le_refl _) (Nat.le_of_lt hqlt))
   by_cases hT : T = []
   ·subst hT
    have hq := HWR.out.size
    go_wp2_with fail
    refine (Tryz.Builder_String_empty w.heap.size w.heap.size wr HB.out.is hq).mono ?_
    rintro e w4 ⟨rfl, b4⟩
    go_wp2_with fail
    go_ret
    exact ⟨rfl, HWR.out.trans b4⟩
   ·go_wp2_with fail
    refine (Tryz.Builder_String w.heap.size w.heap.size T wr HB.out.is hT).mono ?_
    rintro e w4 ⟨rfl, b4⟩
    go_wp2_with fail
    go_ret
    exact ⟨rfl, HWR.out.trans b4⟩
end Go.Proofs.YteaalifehokgoaaGreatDoor
namespace Go.Proofs.YteaalifehokgoaaGreatDoor
open Go.Lib
theorem dec_small {u : Nat} (h : u < 10) : decDigits u = [UInt8.ofNat (48 + u)] := by rw [decDigits, dif_pos h]
end Go.Proofs.YteaalifehokgoaaGreatDoor
namespace Go.Proofs.YteaalifehokgoaaGreatDoor
open Go.RowKit
theorem take_snocL (l : List UInt8) (k : Nat) (h : k < l.length) : l.take (k + 1) = l.take k ++ [l[k]] := List.take_succ_eq_append_getElem h
def bts (s : ByteArray) : List UInt8 := s.data.toList
theorem bts_length (s : ByteArray) : (bts s).length = s.size := rfl
theorem bts_get (s : ByteArray) (k : Nat) (h : k < s.size) : (bts s)[k]'(by rw [bts_length]; exact h) = s[k] := rfl
theorem bts_snoc (s : ByteArray) (k : Nat) (h : k < s.size) : (bts s).take (k + 1) = (bts s).take k ++ [s[k]] := take_snocL (bts s) k (by rw [bts_length]; exact h)
theorem bts_all (s : ByteArray) : (bts s).take s.size = bts s := List.take_of_length_le (by rw [bts_length]; exact Nat.le_refl _)
theorem all_false {p : UInt8 → Bool} (s : ByteArray) (k : Nat) (h : k < s.size) (hc : p s[k] = false) : (bts s).all p = false := by
 cases ha : (bts s).all p
 ·rfl
 ·have := List.all_eq_true.1 ha _ (List.getElem_mem (by rw [bts_length]; exact h) : (bts s)[k]'(by rw [bts_length]; exact h) ∈ bts s)
  rw [bts_get s k h, hc] at this; cases this
theorem all_snoc {p : UInt8 → Bool} (s : ByteArray) (k : Nat) (h : k < s.size) (ha : ((bts s).take k).all p = true) (hc : p s[k] = true) : ((bts s).take (k + 1)).all p = true := by
 rw [bts_snoc s k h, List.all_append, ha]; simp [hc]
end Go.Proofs.YteaalifehokgoaaGreatDoor
namespace Go.Proofs.YteaalifehokgoaaGreatDoor
open Go.RowKit
theorem nameB_no (s : ByteArray) (h : (bts s).all alnum = false) : nameB (bts s) = false := by
 unfold nameB
 rw [h]; simp
theorem nameB_yes (s : ByteArray) (h : (bts s).all alnum = true) : nameB (bts s) = decide (1 ≤ s.size ∧ s.size ≤ 8) := by
 unfold nameB
 rw [h]
 have e : (bts s).length = s.size := rfl
 have : (bts s).isEmpty = decide (s.size = 0) := by
  rw [← e]
  cases bts s with
  |nil => rfl
  |cons x r => simp
 rw [this, e]
 by_cases h0 : s.size = 0
 ·simp [h0]
 ·have h1 : 1 ≤ s.size := by omega
  simp [h0, h1]
set_option maxHeartbeats 1000000 in
theorem isNameB (s : ByteArray) (hl : s.size ≤ 1000000000) (w : World) :
  Calls Tryz.prog 111 #[.string s] w fun e w' => e = .returned (.bool (nameB (bts s))) ∧ w = w' := by
 go_enter Tryz.func111, Tryz.ntmps111
 go_wp2
 go_loop [3, 4, 5] (fun i _ _ => ∃ k : Nat, k ≤ s.size ∧ i = .int .i64 k ∧ Hid (((bts s).take k).all alnum = true)) (fun i _ _ => s.size - (intOf i).toNat)
 case atStart => exact ⟨0, by omega, rfl, rfl⟩
 case round =>
  obtain ⟨k, hk, rfl, HA⟩ := hrel
  by_cases hlt : k < s.size
  ·have HY := Lib.hid (fun h => all_snoc (p := alnum) s k hlt HA.out h)
   have HF := Lib.hid (fun h => nameB_no s (all_false (p := alnum) s k hlt h))
   have HAL := Lib.hid (show alnum s[k] = ((decide (97 ≤ s[k].toNat) && decide (s[k].toNat ≤ 122)) || (decide (48 ≤ s[k].toNat) && decide (s[k].toNat ≤ 57))) from rfl)
   by_cases h1 : 97 ≤ s[k].toNat
   ·have i1 : 97 ≤ (s[k].toNat : Int) := by omega
    have j1 : 48 ≤ (s[k].toNat : Int) := by omega
    have j2 : ¬ (s[k].toNat : Int) ≤ 57 := by omega
    by_cases h2 : s[k].toNat ≤ 122
    ·have i2 : (s[k].toNat : Int) ≤ 122 := by omega
     have HD := Lib.hid (HY.out (by rw [HAL.out]; simp; omega))
     clear h1 h2
     go_wp2
     go_round
     case rel => exact ⟨k + 1, by omega, by go_num, HD⟩
     case measure => simp [intOf]; omega
    ·have i2 : ¬ (s[k].toNat : Int) ≤ 122 := by omega
     have HD := Lib.hid (HF.out (by rw [HAL.out]; simp; omega))
     clear h1 h2
     go_wp2
     go_ret
     exact ⟨by rw [HD.out]; rfl, rfl⟩
   ·have i1 : ¬ 97 ≤ (s[k].toNat : Int) := by omega
    by_cases h2 : 48 ≤ s[k].toNat
    ·have i2 : 48 ≤ (s[k].toNat : Int) := by omega
     by_cases h3 : s[k].toNat ≤ 57
     ·have i3 : (s[k].toNat : Int) ≤ 57 := by omega
      have HD := Lib.hid (HY.out (by rw [HAL.out]; simp; omega))
      clear h1 h2 h3
      go_wp2
      go_round
      case rel => exact ⟨k + 1, by omega, by go_num, HD⟩
      case measure => simp [intOf]; omega
     ·have i3 : ¬ (s[k].toNat : Int) ≤ 57 := by omega
      have HD := Lib.hid (HF.out (by rw [HAL.out]; simp; omega))
      clear h1 h2 h3
      go_wp2
      go_ret
      exact ⟨by rw [HD.out]; rfl, rfl⟩
    ·have i2 : ¬ 48 ≤ (s[k].toNat : Int) := by omega
     have HD := Lib.hid (HF.out (by rw [HAL.out]; simp; omega))
     clear h1 h2
     go_wp2
     go_ret
     exact ⟨by rw [HD.out]; rfl, rfl⟩
  ·obtain rfl : k = s.size := by omega
   have ha := HA.out
   rw [bts_all] at ha
   have HN := Lib.hid (nameB_yes s ha)
   clear ha
   by_cases h1 : 1 ≤ s.size
   ·by_cases h8 : s.size ≤ 8
    ·have hd8 : decide ((s.size : Int) ≤ 8) = true := by simp; omega
     have HM := Lib.hid (show nameB (bts s) = true by rw [HN.out, decide_eq_true ⟨h1, h8⟩])
     go_wp2
     go_ret
     exact ⟨by rw [HM.out]; rfl, rfl⟩
    ·have hd8 : decide ((s.size : Int) ≤ 8) = false := by simp; omega
     have HM := Lib.hid (show nameB (bts s) = false by rw [HN.out]; simp; omega)
     go_wp2
     go_ret
     exact ⟨by rw [HM.out]; rfl, rfl⟩
   ·have hd1 : decide (1 ≤ (s.size : Int)) = false := by simp; omega
    have HM := Lib.hid (show nameB (bts s) = false by rw [HN.out]; simp; omega)
    go_wp2
    go_ret
    exact ⟨by rw [HM.out]; rfl, rfl⟩
theorem isName_any (l : List UInt8) (hl : l.length ≤ 1000000000) (w : World) :
  Calls Tryz.prog 111 #[.string ⟨l.toArray⟩] w fun e w' => e = .returned (.bool (nameB l)) ∧ w = w' :=
 isNameB ⟨l.toArray⟩ (by simpa [ByteArray.size] using hl) w
end Go.Proofs.YteaalifehokgoaaGreatDoor
namespace Go.Proofs.YteaalifehokgoaaGreatDoor
open Go.RowKit
end Go.Proofs.YteaalifehokgoaaGreatDoor
namespace Go.Proofs.YteaalifehokgoaaGreatDoor
open Go.RowKit
theorem less_cmp (a : List UInt8) : ∀ b, Op.bytesLess a b = decide (Lib.compareBytes a b < 0) := by
 induction a with
 |nil => intro b; cases b <;> simp [Op.bytesLess, Lib.compareBytes]
 |cons x r ih =>
  intro b
  cases b with
  |nil => simp [Op.bytesLess, Lib.compareBytes]
  |cons y s =>
   simp only [Op.bytesLess, Lib.compareBytes, ih]
   by_cases h1 : x < y
   ·simp [h1]
   ·by_cases h2 : y < x
    ·have h3 : ¬ x = y := fun e => by subst e; exact h1 h2
     simp [h1, h2, h3]
    ·have h3 : x = y := by
      have a1 : ¬ x.toNat < y.toNat := h1
      have a2 : ¬ y.toNat < x.toNat := h2
      exact UInt8.toNat_inj.1 (by omega)
     subst h3
     simp [h1]
end Go.Proofs.YteaalifehokgoaaGreatDoor
namespace Go.Proofs.YteaalifehokgoaaGreatDoor
open Go.RowKit Go.Sort Go.Proofs
set_option maxHeartbeats 800000 in
theorem refPlaceE_any (x : PlaceV) (h1 : x.1.length ≤ 1000000000) (w : World) :
  Calls Tryz.prog 122 #[.agg (encPlace x).toArray] w fun e w' => e = .returned (.int .i64 (placeE x : Nat)) ∧ Below w.heap.size w w' := by
 have HE := Lib.hid (show placeE x = if nameB x.1 = false then 5 else if x.2.1 < 1 ∨ 20 < x.2.1 ∨ x.2.2 < 1 ∨ 40 < x.2.2 then 2 else 0 from rfl)
 obtain ⟨a1, a2, a3⟩ := x
 have HN1 := Lib.hid (fun W => isName_any a1 h1 W)
 simp only [encPlace] at HE ⊢
 have B1 := Lib.hid (below_one w (.cells #[.string ⟨a1.toArray⟩, .int .i64 a2, .int .i64 a3] 41))
 generalize nameB a1 = n1 at HN1 HE
 have hcase : (n1 = false) ∨ (n1 = true ∧ a2 < 1) ∨ (n1 = true ∧ ¬ a2 < 1 ∧ 20 < a2) ∨ (n1 = true ∧ ¬ a2 < 1 ∧ ¬ 20 < a2 ∧ a3 < 1) ∨ (n1 = true ∧ ¬ a2 < 1 ∧ ¬ 20 < a2 ∧ ¬ a3 < 1 ∧ 40 < a3) ∨ (n1 = true ∧ ¬ a2 < 1 ∧ ¬ 20 < a2 ∧ ¬ a3 < 1 ∧ ¬ 40 < a3) := by
  cases n1
  ·exact .inl rfl
  ·simp only [true_and, Bool.true_eq_false, false_or]
   omega
 go_enter Tryz.func122, Tryz.ntmps122
 go_wp2_with fail
 refine (HN1.out _).mono ?_
 rintro e w1 ⟨rfl, rfl⟩
 rcases hcase with rfl | ⟨rfl, q1⟩ | ⟨rfl, q1, q2⟩ | ⟨rfl, q1, q2, q3⟩ | ⟨rfl, q1, q2, q3, q4⟩ | ⟨rfl, q1, q2, q3, q4⟩
 ·go_wp2
  go_ret
  rw [HE.out, if_pos (by simp)]
  exact ⟨rfl, B1.out⟩
 ·go_wp2
  go_ret
  rw [HE.out, if_neg (by simp), if_pos (by omega)]
  exact ⟨rfl, B1.out⟩
 ·go_wp2
  go_ret
  rw [HE.out, if_neg (by simp), if_pos (by omega)]
  exact ⟨rfl, B1.out⟩
 ·go_wp2
  go_ret
  rw [HE.out, if_neg (by simp), if_pos (by omega)]
  exact ⟨rfl, B1.out⟩
 ·go_wp2
  go_ret
  rw [HE.out, if_neg (by simp), if_pos (by omega)]
  exact ⟨rfl, B1.out⟩
 ·go_wp2
  go_ret
  rw [HE.out, if_neg (by simp), if_neg (by omega)]
  exact ⟨rfl, B1.out⟩
theorem ahead_zone {x y : PlaceV} (h : ¬ x.1 = y.1) : ltOf cfPlace x y = Op.bytesLess x.1 y.1 := by
 rw [less_cmp]
 unfold ltOf cfPlace orL
 rw [if_neg (fun e => h ((cmpB_eq _ _).1 e))]
theorem ahead_row {x y : PlaceV} (h : x.1 = y.1) (h2 : ¬ x.2.1 = y.2.1) : ltOf cfPlace x y = decide (x.2.1 < y.2.1) := by
 unfold ltOf cfPlace orL orL
 rw [if_pos ((cmpB_eq _ _).2 h), if_neg (by omega)]
 exact decide_eq_decide.2 (by omega)
theorem ahead_bay {x y : PlaceV} (h : x.1 = y.1) (h2 : x.2.1 = y.2.1) : ltOf cfPlace x y = if x.2.1 % 2 = 0 then decide (y.2.2 < x.2.2) else decide (x.2.2 < y.2.2) := by
 unfold ltOf cfPlace orL orL orL orL
 rw [if_pos ((cmpB_eq _ _).2 h), if_pos (by omega)]
 by_cases h3 : x.2.1 % 2 = 0
 ·simp only [if_pos h3]
  exact decide_eq_decide.2 (by split <;> omega)
 ·simp only [if_neg h3]
  exact decide_eq_decide.2 (by split <;> omega)
set_option maxHeartbeats 800000 in
theorem refAhead_any (x y : PlaceV) (hx : InP x) (W : World) :
  Calls Tryz.prog 190 #[.agg (encPlace x).toArray, .agg (encPlace y).toArray] W fun e w' => e = .returned (.bool (ltOf cfPlace x y)) ∧ Below W.heap.size W w' := by
 have HZ := Lib.hid (fun h => ahead_zone (x := x) (y := y) h)
 have HR := Lib.hid (fun h h2 => ahead_row (x := x) (y := y) h h2)
 have HB := Lib.hid (fun h h2 => ahead_bay (x := x) (y := y) h h2)
 obtain ⟨a1, a2, a3⟩ := x
 obtain ⟨b1, b2, b3⟩ := y
 obtain ⟨r1, r2, -, -⟩ := hx
 simp only at r1 r2
 simp only [encPlace] at HZ HR HB ⊢
 generalize ltOf cfPlace (a1, a2, a3) (b1, b2, b3) = R at HZ HR HB ⊢
 have B1 := Lib.hid (below_two W (.cells #[.string ⟨a1.toArray⟩, .int .i64 a2, .int .i64 a3] 41) (.cells #[.string ⟨b1.toArray⟩, .int .i64 b2, .int .i64 b3] 41))
 have w1 : IntKind.i64.wrap (a2.tmod 2) = a2 % 2 := by
  rw [Int.tmod_eq_emod_of_nonneg (by omega)]
  rw [IntKind.wrap_i64]
  omega
 by_cases h1 : a1 = b1
 ·by_cases h2 : a2 = b2
  ·have hb2 : (a2 == b2) = true := by simpa using h2
   have hb1 : (a1 == b1) = true := by simpa using h1
   have HV := Lib.hid (HB.out h1 h2)
   by_cases h3 : a2 % 2 = 0
   ·have HV2 := Lib.hid (HV.out.trans (if_pos h3))
    have t3 : (a2 % 2 == 0) = true := by simpa using h3
    clear HV h3 h2 h1
    go_enter Tryz.func190, Tryz.ntmps190
    go_wp2
    go_ret
    refine ⟨?_, B1.out⟩
    rw [HV2.out]; rfl
   ·have HV2 := Lib.hid (HV.out.trans (if_neg h3))
    have t3 : (a2 % 2 == 0) = false := by simpa using h3
    clear HV h3 h2 h1
    go_enter Tryz.func190, Tryz.ntmps190
    go_wp2
    go_ret
    refine ⟨?_, B1.out⟩
    rw [HV2.out]; rfl
  ·have HV := Lib.hid (HR.out h1 h2)
   have hb2 : (a2 == b2) = false := by simpa using h2
   have hb1 : (a1 == b1) = true := by simpa using h1
   clear h2 h1
   go_enter Tryz.func190, Tryz.ntmps190
   go_wp2
   go_ret
   refine ⟨?_, B1.out⟩
   rw [HV.out]; rfl
 ·have HV := Lib.hid (HZ.out h1)
  have hb1 : (a1 == b1) = false := by simpa using h1
  clear h1
  go_enter Tryz.func190, Tryz.ntmps190
  go_wp2
  go_ret
  refine ⟨?_, B1.out⟩
  rw [HV.out]; rfl
end Go.Proofs.YteaalifehokgoaaGreatDoor
namespace Go.Proofs.YteaalifehokgoaaGreatDoor
open Go.RowKit Go.Sort Go.Proofs
theorem ahead_same {x y : LineV} (h : x.1 = y.1) : ltOf cfLine x y = Op.bytesLess x.2.1 y.2.1 := by
 rw [less_cmp]
 unfold ltOf cfLine orL orL orL
 rw [if_pos ((cfPlace_zero _ _).2 h)]
 split
 ·rename_i h2; rw [h2]
 ·rfl
theorem ahead_other {x y : LineV} (h : ¬ x.1 = y.1) : ltOf cfLine x y = ltOf cfPlace x.1 y.1 := by
 unfold ltOf cfLine orL
 rw [if_neg (fun e => h ((cfPlace_zero _ _).1 e))]
set_option maxHeartbeats 800000 in
theorem refLineAhead_any (x y : LineV) (hx : InP x.1) (W : World) :
  Calls Tryz.prog 158 #[.agg (encLine x).toArray, .agg (encLine y).toArray] W fun e w' => e = .returned (.bool (ltOf cfLine x y)) ∧ Below W.heap.size W w' := by
 have HS := Lib.hid (fun h => ahead_same (x := x) (y := y) h)
 have HO := Lib.hid (fun h => ahead_other (x := x) (y := y) h)
 have HA := Lib.hid (fun W => refAhead_any x.1 y.1 hx W)
 have HQ := Lib.hid (fun W => neqPlace x.1 y.1 W)
 have B1 := Lib.hid (below_two W (.cells (encLine x).toArray 90) (.cells (encLine y).toArray 90))
 clear hx
 by_cases h1 : x.1 = y.1
 ·have HV := Lib.hid (HS.out h1)
  rw [decide_eq_true h1] at HQ
  obtain ⟨⟨a1, a2, a3⟩, a4, a5⟩ := x
  obtain ⟨⟨b1, b2, b3⟩, b4, b5⟩ := y
  simp only [encLine, encPlace] at HV HQ B1 ⊢
  have hq := HQ.out
  clear h1 HS HO HA HQ
  go_enter Tryz.func158, Tryz.ntmps158
  go_wp2
  go_ret
  refine ⟨?_, B1.out⟩
  rw [HV.out]; rfl
 ·have HV := Lib.hid (HO.out h1)
  rw [decide_eq_false h1] at HQ
  obtain ⟨⟨a1, a2, a3⟩, a4, a5⟩ := x
  obtain ⟨⟨b1, b2, b3⟩, b4, b5⟩ := y
  simp only [encLine, encPlace] at HV HQ HA B1 ⊢
  have hq := HQ.out
  clear h1 HS HO HQ
  go_enter Tryz.func158, Tryz.ntmps158
  go_wp2_with fail
  refine (HA.out _).mono ?_
  rintro e w1 ⟨rfl, b1⟩
  have B2 := Lib.hid (B1.out.trans (b1.mono B1.out.size))
  clear b1
  go_wp2_with fail
  go_ret
  refine ⟨?_, B2.out⟩
  rw [HV.out]; rfl
end Go.Proofs.YteaalifehokgoaaGreatDoor
namespace Go.Proofs.YteaalifehokgoaaGreatDoor
open Go.RowKit Go.Sort Go.Proofs
def isAt (p : PlaceV) (lot : List UInt8) (x : LineV) : Bool := decide (x.1 = p ∧ x.2.1 = lot)
def fndI (l : List LineV) (p : PlaceV) (lot : List UInt8) : Int := match l.findIdx? (isAt p lot) with | some i => (i : Int) | none => -1
set_option maxHeartbeats 1600000 in
set_option maxRecDepth 100000 in
theorem refFind_any (A : Option Addr) (cap : Nat) (l : List LineV) (p : PlaceV) (lot : List UInt8) (w : World) (hrow : RowAt encLine 5 w A l) (hl : l.length ≤ 100000) :
  Calls Tryz.prog 123 #[.agg #[.slice A l.length cap], .agg (encPlace p).toArray, .string ⟨lot.toArray⟩] w fun e w' => e = .returned (.int .i64 (fndI l p lot)) ∧ Below w.heap.size w w' := by
 obtain ⟨N, hN⟩ : ∃ N, N = l.length := ⟨_, rfl⟩
 have HN := Lib.hid hN
 have HROW := Lib.hid hrow
 have HB0 := Lib.hid (below_two w (.cells #[.slice A l.length cap] 69) (.cells (encPlace p).toArray 41))
 have HQ := Lib.hid (fun x : LineV => fun W => eqPlace x.1 p W)
 rw [← hN] at hl HB0 ⊢
 have HF : Hid (∀ k, (∀ j (h : j < l.length), j < k → isAt p lot l[j] = false) → (∀ h : k < l.length, isAt p lot l[k] = true) → fndI l p lot = if k < l.length then (k : Int) else -1) := fun k h1 h2 => by
  unfold fndI
  by_cases hk : k < l.length
  ·have : l.findIdx? (isAt p lot) = some k := List.findIdx?_eq_some_iff_getElem.2 ⟨hk, h2 hk, fun j hj => by simpa using h1 j (by omega) hj⟩
   rw [this, if_pos hk]
  ·have : l.findIdx? (isAt p lot) = none := by
    rw [List.findIdx?_eq_none_iff]
    intro x hx
    obtain ⟨j, hj, rfl⟩ := List.mem_iff_getElem.1 hx
    exact h1 j hj (by omega)
   rw [this, if_neg hk]
 generalize fndI l p lot = R at HF ⊢
 clear hN hrow
 obtain ⟨p1, p2, p3⟩ := p
 simp only [encPlace] at HB0 HQ ⊢
 have hc0 := cell_of_row _ _ 0 _ _ _ (((below_one (w.alloc (.cells #[.slice A N cap] 69)) (.cells #[.string ⟨p1.toArray⟩, .int .i64 p2, .int .i64 p3] 41)).block w.heap.size (by simp)).trans (heap_alloc_new w (.cells #[.slice A N cap] 69)))
 have hc1 := fun j => cell_of_row _ _ j _ _ _ (heap_new2 w (.cells #[.slice A N cap] 69) (.cells #[.string ⟨p1.toArray⟩, .int .i64 p2, .int .i64 p3] 41))
 have HC0 := Lib.hid hc0
 have HC1 := Lib.hid hc1
 clear hc0 hc1
 go_enter Tryz.func123, Tryz.ntmps123
 go_wp2_with fail
 obtain ⟨W0, hW0⟩ : ∃ W0, W0 = (w.alloc (.cells #[.slice A N cap] 69)).alloc (.cells #[.string ⟨p1.toArray⟩, .int .i64 p2, .int .i64 p3] 41) := ⟨_, rfl⟩
 rw [← hW0] at HB0 HC0 HC1 ⊢
 have hs0 : W0.heap.size = w.heap.size + 2 := by rw [hW0]; simp
 clear hW0
 go_loopw [7] (fun n wr => ∃ k : Nat, k ≤ N ∧ n = .int .i64 k ∧ Hid (∀ j (h : j < l.length), j < k → isAt (p1, p2, p3) lot l[j] = false) ∧ Below W0.heap.size W0 wr) (fun n _ => N - (intOf n).toNat)
 case atStart => exact ⟨0, by omega, rfl, fun j _ h => absurd h (Nat.not_lt_zero _), Below.refl _ _⟩
 case round =>
  obtain ⟨k, hk, rfl, HNO, hb⟩ := hrel
  have HB := Lib.hid hb
  have c0 : wr.cell? ⟨w.heap.size, 0, none⟩ = some (.slice A N cap) := (hb.cell (p := ⟨_, 0, none⟩) (by show w.heap.size < _; omega)).trans HC0.out
  have d0 : wr.cell? ⟨w.heap.size + 1, 0, none⟩ = some (.string ⟨p1.toArray⟩) := (hb.cell (p := ⟨_, 0, none⟩) (by show w.heap.size + 1 < _; omega)).trans (HC1.out 0)
  have d1 : wr.cell? ⟨w.heap.size + 1, 1, none⟩ = some (.int .i64 p2) := (hb.cell (p := ⟨_, 1, none⟩) (by show w.heap.size + 1 < _; omega)).trans (HC1.out 1)
  have d2 : wr.cell? ⟨w.heap.size + 1, 2, none⟩ = some (.int .i64 p3) := (hb.cell (p := ⟨_, 2, none⟩) (by show w.heap.size + 1 < _; omega)).trans (HC1.out 2)
  clear hb
  by_cases hkN : k < N
  ·have hkx : k < l.length := by rw [← HN.out]; exact hkN
   obtain ⟨g, o, rfl, lg, cg⟩ := HROW.out.resolve_left (fun h => by rw [h] at hkx; simp at hkx)
   obtain ⟨x, hx⟩ : ∃ x, x = l[k] := ⟨_, rfl⟩
   have r5 := range5L (x := x) (w := wr) (b := g) (o := o + k * 5) (fun cc v hv => by
    have h1 := cg k hkx cc v (by rw [← hx]; exact hv)
    have h2 := (HB0.out.cell (p := ⟨g, o + k * 5 + cc, none⟩) lg).trans h1
    exact (HB.out.cell (p := ⟨g, o + k * 5 + cc, none⟩) (lt_of_cell h2)).trans h2)
   have HX := Lib.hid hx
   have HI := Lib.hid (show isAt (p1, p2, p3) lot x = decide (x.1 = (p1, p2, p3) ∧ x.2.1 = lot) from rfl)
   have hq := HQ.out x
   clear hx cg HQ
   by_cases h1 : x.1 = (p1, p2, p3)
   ·rw [decide_eq_true h1] at hq
    by_cases h2 : x.2.1 = lot
    ·have HT : Hid (R = (k : Int)) := by
      have := HF.out k HNO.out (fun h => by rw [← HX.out, HI.out, decide_eq_true ⟨h1, h2⟩])
      rw [if_pos hkx] at this
      exact this
     obtain ⟨⟨a1, a2, a3⟩, a4, a5⟩ := x
     obtain ⟨e0, e1, e2, e3, e4⟩ := r5
     simp only at e0 e1 e2 e3 e4 hq h2
     have hb4 : (a4 == lot) = true := by simpa using h2
     clear h1 h2 HF
     go_wp2_with fail
     go_region
     all_goals
      go_wp2
      go_ret
      rw [HT.out]
      exact ⟨rfl, HB0.out.trans ((HB.out.drew).mono (by omega))⟩
    ·have HNX : Hid (∀ j (h : j < l.length), j < k + 1 → isAt (p1, p2, p3) lot l[j] = false) := fun j hj hjk => by
      rcases Nat.lt_succ_iff_lt_or_eq.1 hjk with h | rfl
      ·exact HNO.out j hj h
      ·rw [← HX.out, HI.out, decide_eq_false (fun h => h2 h.2)]
     obtain ⟨⟨a1, a2, a3⟩, a4, a5⟩ := x
     obtain ⟨e0, e1, e2, e3, e4⟩ := r5
     simp only at e0 e1 e2 e3 e4 hq h2
     have hb4 : (a4 == lot) = false := by simpa using h2
     clear h1 h2 HF
     go_wp2_with fail
     go_region
     all_goals
      go_wp2
      go_roundw
      case rel => exact ⟨k + 1, by omega, by go_num, HNX.out, HB.out.drew⟩
      case measure => simp [intOf]; omega
   ·have HNX : Hid (∀ j (h : j < l.length), j < k + 1 → isAt (p1, p2, p3) lot l[j] = false) := fun j hj hjk => by
     rcases Nat.lt_succ_iff_lt_or_eq.1 hjk with h | rfl
     ·exact HNO.out j hj h
     ·rw [← HX.out, HI.out, decide_eq_false (fun h => h1 h.1)]
    rw [decide_eq_false h1] at hq
    obtain ⟨⟨a1, a2, a3⟩, a4, a5⟩ := x
    obtain ⟨e0, e1, e2, e3, e4⟩ := r5
    simp only at e0 e1 e2 e3 e4 hq
    clear h1 HF
    go_wp2_with fail
    go_region
    all_goals
     go_wp2
     go_roundw
     case rel => exact ⟨k + 1, by omega, by go_num, HNX.out, HB.out.drew⟩
     case measure => simp [intOf]; omega
  ·obtain rfl : k = N := by omega
   have HT : Hid (R = -1) := by
    have := HF.out k HNO.out (fun h => by rw [← HN.out] at h; omega)
    rw [if_neg (by rw [← HN.out]; omega)] at this
    exact this
   go_wp2_with fail
   go_ret
   rw [HT.out]
   exact ⟨rfl, HB0.out.trans (HB.out.mono (by omega))⟩
end Go.Proofs.YteaalifehokgoaaGreatDoor
