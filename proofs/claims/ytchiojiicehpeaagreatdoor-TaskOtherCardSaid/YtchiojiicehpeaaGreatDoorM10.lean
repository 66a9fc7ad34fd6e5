/- The document's NumberOf, walked. The document's IsName, walked. tithebarnref1.Decimal: a number's digits, as the document writes them. Strings: less than. Places: the document's error, text, order. A stock's lines: the document's text, order. -/
import Derived.Lib.ItoaLen
import Derived.Lib.ItoaMem
import Derived.Test.YtchiojiicehpeaaGreatDoorM01
import Derived.Test.YtchiojiicehpeaaGreatDoorM03
import Derived.Test.YtchiojiicehpeaaGreatDoorM04
import Derived.Test.YtchiojiicehpeaaGreatDoorM06
import Derived.Test.YtchiojiicehpeaaGreatDoorM08
import Derived.Test.YtchiojiicehpeaaGreatDoorM09
namespace Go.Proofs.YtchiojiicehpeaaGreatDoor
open Go.RowKit
theorem ret_i64 {a b : Int} (h : a = b) : Ending.returned (.int .i64 a) = .returned (.int .i64 b) := by rw [h]
theorem take_snocL (l : List UInt8) (k : Nat) (h : k < l.length) : l.take (k + 1) = l.take k ++ [l[k]] := List.take_succ_eq_append_getElem h
def bts (s : ByteArray) : List UInt8 := s.data.toList
theorem bts_length (s : ByteArray) : (bts s).length = s.size := rfl
theorem bts_get (s : ByteArray) (k : Nat) (h : k < s.size) : (bts s)[k]'(by rw [bts_length]; exact h) = s[k] := rfl
theorem bts_snoc (s : ByteArray) (k : Nat) (h : k < s.size) : (bts s).take (k + 1) = (bts s).take k ++ [s[k]] := take_snocL (bts s) k (by rw [bts_length]; exact h)
theorem bts_all (s : ByteArray) : (bts s).take s.size = bts s := List.take_of_length_le (by rw [bts_length]; exact Nat.le_refl _)
theorem bts_head (s : ByteArray) (h : 0 < s.size) : (bts s).head? = some s[0] := by
 rw [← bts_get s 0 h]
 have h' : 0 < (bts s).length := by rw [bts_length]; exact h
 rw [List.head?_eq_getElem?, List.getElem?_eq_getElem h']
theorem all_false {p : UInt8 → Bool} (s : ByteArray) (k : Nat) (h : k < s.size) (hc : p s[k] = false) : (bts s).all p = false := by
 cases ha : (bts s).all p
 ·rfl
 ·have := List.all_eq_true.1 ha _ (List.getElem_mem (by rw [bts_length]; exact h) : (bts s)[k]'(by rw [bts_length]; exact h) ∈ bts s)
  rw [bts_get s k h, hc] at this; cases this
theorem all_snoc {p : UInt8 → Bool} (s : ByteArray) (k : Nat) (h : k < s.size) (ha : ((bts s).take k).all p = true) (hc : p s[k] = true) : ((bts s).take (k + 1)).all p = true := by
 rw [bts_snoc s k h, List.all_append, ha]; simp [hc]
set_option maxHeartbeats 1000000 in
theorem refNumberB (s : ByteArray) (d : Nat) (hd : d ≤ 18) (hl : s.size ≤ 1000000000) (w : World) :
  Calls Tryz.prog 106 #[.string s, .int .i64 d] w fun e w' => e = .returned (.int .i64 (refNum (bts s) d)) ∧ w = w' := by
 by_cases h1 : s.size < 1
 ·have HR := Lib.hid (show refNum (bts s) d = -1 by unfold refNum; rw [if_pos (.inl h1)])
  go_enter Tryz.func106, Tryz.ntmps106
  go_wp2
  go_ret
  exact ⟨ret_i64 HR.out.symm, rfl⟩
 by_cases h2 : d < s.size
 ·have HR := Lib.hid (show refNum (bts s) d = -1 by unfold refNum; rw [if_pos (.inr (.inl h2))])
  go_enter Tryz.func106, Tryz.ntmps106
  go_wp2
  go_ret
  exact ⟨ret_i64 HR.out.symm, rfl⟩
 have hb1 : 0 < s.size := by omega
 have HH := Lib.hid (bts_head s hb1)
 by_cases h3 : 1 < s.size ∧ s[0] = 48
 ·obtain ⟨h4, h5⟩ := h3
  have HR := Lib.hid (show refNum (bts s) d = -1 by unfold refNum; rw [if_pos (.inr (.inr (.inl ⟨h4, by rw [HH.out, h5]⟩)))])
  have hb0 : ((s[0].toNat : Int) == 48) = true := by rw [h5]; rfl
  clear h5
  go_enter Tryz.func106, Tryz.ntmps106
  go_wp2
  go_ret
  exact ⟨ret_i64 HR.out.symm, rfl⟩
 have HEq : Hid (refNum (bts s) d = if (bts s).all isDig = false then -1 else (valN (bts s) : Int)) := by
  show _ = _
  unfold refNum
  have e : (bts s).length = s.size := rfl
  by_cases ha : (bts s).all isDig = false
  ·rw [if_pos (.inr (.inr (.inr ha))), if_pos ha]
  ·rw [if_neg (by
    rintro (h | h | ⟨h, h'⟩ | h)
    ·omega
    ·omega
    ·rw [HH.out] at h'
     exact h3 ⟨h, by simpa using h'⟩
    ·exact ha h), if_neg ha]
 have hz : ¬ 1 < s.size ∨ (1 < s.size ∧ ((s[0].toNat : Int) == 48) = false) := by
  by_cases h4 : 1 < s.size
  ·refine .inr ⟨h4, ?_⟩
   have : s[0] ≠ 48 := fun h0 => h3 ⟨h4, h0⟩
   have : s[0].toNat ≠ 48 := fun h0 => this (UInt8.toNat_inj.1 h0)
   simpa using by omega
  ·exact .inl h4
 clear h3
 have hl18 : s.size ≤ 18 := by omega
 rcases hz with hz | ⟨hz, hz'⟩
 all_goals
  go_enter Tryz.func106, Tryz.ntmps106
  go_wp2
  go_loop [5, 6] (fun n i => ∃ k : Nat, k ≤ s.size ∧ i = .int .i64 k ∧ n = .int .i64 (valN ((bts s).take k)) ∧ Hid (((bts s).take k).all isDig = true)) (fun _ i => s.size - (intOf i).toNat)
  case atStart => exact ⟨0, by omega, rfl, rfl, rfl⟩
  case round =>
   obtain ⟨k, hk, rfl, rfl, HA⟩ := hrel
   by_cases hlt : k < s.size
   ·have hv := valN_lt ((bts s).take k) HA.out
    have hv2 : 10 ^ ((bts s).take k).length ≤ 10 ^ 17 := Nat.pow_le_pow_right (by omega) (by rw [List.length_take]; omega)
    have hv4 : (valN ((bts s).take k) : Int) ≤ 100000000000000000 := by omega
    have hv5 : (0 : Int) ≤ (valN ((bts s).take k) : Int) := Int.natCast_nonneg _
    clear hv hv2
    have HS := Lib.hid (bts_snoc s k hlt)
    by_cases hlo : s[k].toNat < 48
    ·have HF := Lib.hid (all_false (p := isDig) s k hlt (by unfold isDig; simp; omega))
     have hlo' : (s[k].toNat : Int) < 48 := by omega
     clear hlo HS
     go_wp2
     go_ret
     exact ⟨ret_i64 (by rw [HEq.out, if_pos HF.out]), rfl⟩
    by_cases hhi : 57 < s[k].toNat
    ·have HF := Lib.hid (all_false (p := isDig) s k hlt (by unfold isDig; simp; omega))
     have hlo' : ¬ (s[k].toNat : Int) < 48 := by omega
     have hhi' : 57 < (s[k].toNat : Int) := by omega
     clear hlo hhi HS
     go_wp2
     go_ret
     exact ⟨ret_i64 (by rw [HEq.out, if_pos HF.out]), rfl⟩
    have HD := Lib.hid (show isDig s[k] = true by unfold isDig; simp; omega)
    have hlo' : 48 ≤ (s[k].toNat : Int) := by omega
    have hhi' : (s[k].toNat : Int) ≤ 57 := by omega
    clear hlo hhi
    go_wp2
    go_round
    case rel =>
     refine ⟨k + 1, by omega, by go_num, ?_, Lib.hid (all_snoc s k hlt HA.out HD.out)⟩
     rw [HS.out, valN_snoc]; go_num
    case measure => simp [intOf]; omega
   ·obtain rfl : k = s.size := by omega
    have ha := HA.out
    rw [bts_all] at ha
    have HT := Lib.hid (bts_all s)
    have HA2 := Lib.hid ha
    clear ha
    go_wp2
    go_ret
    refine ⟨ret_i64 ?_, rfl⟩
    rw [HEq.out, HT.out, if_neg (by rw [HA2.out]; simp)]
theorem refNumber_any (l : List UInt8) (d : Nat) (hd : d ≤ 18) (hl : l.length ≤ 1000000000) (w : World) :
  Calls Tryz.prog 106 #[.string ⟨l.toArray⟩, .int .i64 d] w fun e w' => e = .returned (.int .i64 (refNum l d)) ∧ w = w' :=
 refNumberB ⟨l.toArray⟩ d hd (by simpa [ByteArray.size] using hl) w
end Go.Proofs.YtchiojiicehpeaaGreatDoor
namespace Go.Proofs.YtchiojiicehpeaaGreatDoor
open Go.RowKit
theorem nameB_no (s : ByteArray) (h : (bts s).all alnum = false) : nameB (bts s) = false := by
 unfold nameB
 rw [h]; simp
theorem nameB_yes (s : ByteArray) (h : (bts s).all alnum = true) : nameB (bts s) = decide (1 ≤ s.size ∧ s.size ≤ 8) := by
 unfold nameB
 rw [h]
 have e : (bts s).length = s.size := rfl
 have : (bts s).isEmpty = decide (s.size = 0) := by
  rw [← e]
  cases bts s with
  |nil => rfl
  |cons x r => simp
 rw [this, e]
 by_cases h0 : s.size = 0
 ·simp [h0]
 ·have h1 : 1 ≤ s.size := by omega
  simp [h0, h1]
set_option maxHeartbeats 1000000 in
theorem isNameB (s : ByteArray) (hl : s.size ≤ 1000000000) (w : World) :
  Calls Tryz.prog 72 #[.string s] w fun e w' => e = .returned (.bool (nameB (bts s))) ∧ w = w' := by
 go_enter Tryz.func72, Tryz.ntmps72
 go_wp2
 go_loop [3, 4, 5] (fun i _ _ => ∃ k : Nat, k ≤ s.size ∧ i = .int .i64 k ∧ Hid (((bts s).take k).all alnum = true)) (fun i _ _ => s.size - (intOf i).toNat)
 case atStart => exact ⟨0, by omega, rfl, rfl⟩
 case round =>
  obtain ⟨k, hk, rfl, HA⟩ := hrel
  by_cases hlt : k < s.size
  ·have HY := Lib.hid (fun h => all_snoc (p := alnum) s k hlt HA.out h)
   have HF := Lib.hid (fun h => nameB_no s (all_false (p := alnum) s k hlt h))
   have HAL := Lib.hid (show alnum s[k] = ((decide (97 ≤ s[k].toNat) && decide (s[k].toNat ≤ 122)) || (decide (48 ≤ s[k].toNat) && decide (s[k].toNat ≤ 57))) from rfl)
   by_cases h1 : 97 ≤ s[k].toNat
   ·have i1 : 97 ≤ (s[k].toNat : Int) := by omega
    have j1 : 48 ≤ (s[k].toNat : Int) := by omega
    have j2 : ¬ (s[k].toNat : Int) ≤ 57 := by omega
    by_cases h2 : s[k].toNat ≤ 122
    ·have i2 : (s[k].toNat : Int) ≤ 122 := by omega
     have HD := Lib.hid (HY.out (by rw [HAL.out]; simp; omega))
     clear h1 h2
     go_wp2
     go_round
     case rel => exact ⟨k + 1, by omega, by go_num, HD⟩
     case measure => simp [intOf]; omega
    ·have i2 : ¬ (s[k].toNat : Int) ≤ 122 := by omega
     have HD := Lib.hid (HF.out (by rw [HAL.out]; simp; omega))
     clear h1 h2
     go_wp2
     go_ret
     exact ⟨by rw [HD.out]; rfl, rfl⟩
   ·have i1 : ¬ 97 ≤ (s[k].toNat : Int) := by omega
    by_cases h2 : 48 ≤ s[k].toNat
    ·have i2 : 48 ≤ (s[k].toNat : Int) := by omega
     by_cases h3 : s[k].toNat ≤ 57
     ·have i3 : (s[k].toNat : Int) ≤ 57 := by omega
      have HD := Lib.hid (HY.out (by rw [HAL.out]; simp; omega))
      clear h1 h2 h3
      go_wp2
      go_round
      case rel => exact ⟨k + 1, by omega, by go_num, HD⟩
      case measure => simp [intOf]; omega
     ·have i3 : ¬ (s[k].toNat : Int) ≤ 57 := by omega
      have HD := Lib.hid (HF.out (by rw [HAL.out]; simp; omega))
      clear h1 h2 h3
      go_wp2
      go_ret
      exact ⟨by rw [HD.out]; rfl, rfl⟩
    ·have i2 : ¬ 48 ≤ (s[k].toNat : Int) := by omega
     have HD := Lib.hid (HF.out (by rw [HAL.out]; simp; omega))
     clear h1 h2
     go_wp2
     go_ret
     exact ⟨by rw [HD.out]; rfl, rfl⟩
  ·obtain rfl : k = s.size := by omega
   have ha := HA.out
   rw [bts_all] at ha
   have HN := Lib.hid (nameB_yes s ha)
   clear ha
   by_cases h1 : 1 ≤ s.size
   ·by_cases h8 : s.size ≤ 8
    ·have hd8 : decide ((s.size : Int) ≤ 8) = true := by simp; omega
     have HM := Lib.hid (show nameB (bts s) = true by rw [HN.out, decide_eq_true ⟨h1, h8⟩])
     go_wp2
     go_ret
     exact ⟨by rw [HM.out]; rfl, rfl⟩
    ·have hd8 : decide ((s.size : Int) ≤ 8) = false := by simp; omega
     have HM := Lib.hid (show nameB (bts s) = false by rw [HN.out]; simp; omega)
     go_wp2
     go_ret
     exact ⟨by rw [HM.out]; rfl, rfl⟩
   ·have hd1 : decide (1 ≤ (s.size : Int)) = false := by simp; omega
    have HM := Lib.hid (show nameB (bts s) = false by rw [HN.out]; simp; omega)
    go_wp2
    go_ret
    exact ⟨by rw [HM.out]; rfl, rfl⟩
theorem isName_any (l : List UInt8) (hl : l.length ≤ 1000000000) (w : World) :
  Calls Tryz.prog 72 #[.string ⟨l.toArray⟩] w fun e w' => e = .returned (.bool (nameB l)) ∧ w = w' :=
 isNameB ⟨l.toArray⟩ (by simpa [ByteArray.size] using hl) w
end Go.Proofs.YtchiojiicehpeaaGreatDoor
namespace Go.Proofs.YtchiojiicehpeaaGreatDoor
open Go.RowKit
set_option maxRecDepth 100000 in
theorem byte_any (n : Int) (h0 : 0 ≤ n) (h1 : n < 128) (w : World) : Calls Tryz.prog 213 #[.int .i64 n] w fun e w' => e = .returned (.string ⟨#[UInt8.ofNat n.toNat]⟩) ∧ Below w.heap.size w w' := by
 have kc : (convert 163 9 (.slice (some ⟨w.heap.size, 0, none⟩) 1 1)).run Tryz.prog (w.alloc (.cells #[.int .u8 n] 5)) = .ok (.string ⟨#[UInt8.ofNat n.toNat]⟩) (w.alloc (.cells #[.int .u8 n] 5)) := run_convert_bytes_back (P := Tryz.prog) (w.alloc (.cells #[.int .u8 n] 5)) 163 9 5 ⟨w.heap.size, 0, none⟩ 1 [UInt8.ofNat n.toNat] Tryz.underlying163 Tryz.underlying5 Tryz.underlying9 (by
  intro j hj
  match j, hj with
  |0, _ =>
   rw [Addr.add_zero', show (w.alloc (.cells #[.int .u8 n] 5)).cell? ⟨w.heap.size, 0, none⟩ = some (.int .u8 n) from cell_of_row _ _ 0 _ _ _ (heap_alloc_new w _)]
   congr 2
   simp only [List.getElem_cons_zero, UInt8.toNat_ofNat']
   omega)
 go_enter Tryz.func213, Tryz.ntmps213
 go_wp2
 go_ret
 exact ⟨rfl, (Below.refl _ _).alloc (Nat.le_refl _) _⟩
theorem below_ind (u : Nat) : ∀ (w : World), u ≤ 9223372036854775807 → Calls Tryz.prog 163 #[.int .i64 (-(u : Int))] w fun e w' => e = .returned (.string ⟨(Lib.decDigits u).toArray⟩) ∧ Below w.heap.size w w' := by
 induction u using Nat.strongRecOn with
 |ind u ih =>
  intro w hu
  by_cases h : u < 10
  ·have hb := byte_any (48 + u) (by omega) (by omega)
   have e : Lib.decDigits u = [UInt8.ofNat (48 + u)] := Lib.decDigits_one h
   have e1 : (48 : Int) - (-(u : Int)) = 48 + u := by omega
   have e2 : ((48 : Int) + (u : Int)).toNat = 48 + u := by omega
   have HE := Lib.hid e
   have HE2 := Lib.hid e2
   have HB := Lib.hid hb
   have hlt : -10 < -(u : Int) := by omega
   clear e e2 hb ih
   go_enter Tryz.func163, Tryz.ntmps163
   go_wp2_with fail
   refine (HB.out _).mono ?_
   rintro e w1 ⟨rfl, b1⟩
   go_wp2
   go_ret
   refine ⟨?_, b1⟩
   show Ending.returned (.string ⟨#[UInt8.ofNat ((48 : Int) + (u : Int)).toNat]⟩) = _
   rw [HE.out, HE2.out]
  ·have e : Lib.decDigits u = Lib.decDigits (u / 10) ++ [UInt8.ofNat (48 + u % 10)] := by rw [Lib.decDigits, dif_neg h]
   have hq : (-(u : Int)).tdiv 10 = -((u / 10 : Nat) : Int) := by rw [Int.neg_tdiv, Int.tdiv_eq_ediv_of_nonneg (by omega)]; omega
   have hr : (-(u : Int)).tmod 10 = -((u % 10 : Nat) : Int) := by rw [Int.neg_tmod, Int.tmod_eq_emod_of_nonneg (by omega)]; omega
   have hi := ih (u / 10) (by omega)
   have hb := byte_any (48 + (u % 10 : Nat)) (by omega) (by omega)
   have e1 : (48 : Int) - (-((u % 10 : Nat) : Int)) = 48 + (u % 10 : Nat) := by omega
   have e2 : ((48 : Int) + ((u % 10 : Nat) : Int)).toNat = 48 + u % 10 := by omega
   have hlt : ¬ (-10 < -(u : Int)) := by omega
   have HE := Lib.hid e
   have HE2 := Lib.hid e2
   have HB := Lib.hid hb
   have HI := Lib.hid hi
   have hl : (Lib.decDigits (u / 10)).length ≤ 21 := by
    have := Lib.itoa_length_le ((u / 10 : Nat) : Int) (by omega) (by omega)
    rw [Lib.itoa_nonneg] at this
    exact this
   clear e e2 hb ih hi
   go_enter Tryz.func163, Tryz.ntmps163
   go_wp2_with fail
   rw [show -((u : Int) / 10) = -((u / 10 : Nat) : Int) by omega]
   refine (HI.out _ (by omega)).mono ?_
   rintro e w1 ⟨rfl, b1⟩
   go_wp2_with fail
   rw [show (48 : Int) + (u : Int) % 10 = 48 + ((u % 10 : Nat) : Int) by omega]
   refine (HB.out _).mono ?_
   rintro e w2 ⟨rfl, b2⟩
   rw [HE2.out]
   go_wp2
   go_ret
   refine ⟨?_, b1.trans (b2.mono b1.size)⟩
   show Ending.returned (.string ((⟨(Lib.decDigits (u / 10)).toArray⟩ : ByteArray) ++ (⟨#[48 + UInt8.ofNat (u % 10)]⟩ : ByteArray))) = _
   rw [HE.out, ← mk_app, show UInt8.ofNat (48 + u % 10) = 48 + UInt8.ofNat (u % 10) from UInt8.ofNat_add _ _]
theorem decimal_nat (u : Nat) (hu : u ≤ 9223372036854775807) (w : World) : Calls Tryz.prog 102 #[.int .i64 (u : Nat)] w fun e w' => e = .returned (.string ⟨(Lib.itoa u).toArray⟩) ∧ Below w.heap.size w w' := by
 have HB := Lib.hid (fun w => below_ind u w hu)
 have hu0 : ¬ ((u : Int) < 0) := by omega
 go_enter Tryz.func102, Tryz.ntmps102
 go_wp2_with fail
 refine (HB.out _).mono ?_
 rintro e w1 ⟨rfl, b1⟩
 go_wp2
 go_ret
 refine ⟨?_, b1⟩
 rw [Lib.itoa_nonneg]; rfl
end Go.Proofs.YtchiojiicehpeaaGreatDoor
namespace Go.Proofs.YtchiojiicehpeaaGreatDoor
open Go.RowKit
theorem less_cmp (a : List UInt8) : ∀ b, Op.bytesLess a b = decide (Lib.compareBytes a b < 0) := by
 induction a with
 |nil => intro b; cases b <;> simp [Op.bytesLess, Lib.compareBytes]
 |cons x r ih =>
  intro b
  cases b with
  |nil => simp [Op.bytesLess, Lib.compareBytes]
  |cons y s =>
   simp only [Op.bytesLess, Lib.compareBytes, ih]
   by_cases h1 : x < y
   ·simp [h1]
   ·by_cases h2 : y < x
    ·have h3 : ¬ x = y := fun e => by subst e; exact h1 h2
     simp [h1, h2, h3]
    ·have h3 : x = y := by
      have a1 : ¬ x.toNat < y.toNat := h1
      have a2 : ¬ y.toNat < x.toNat := h2
      exact UInt8.toNat_inj.1 (by omega)
     subst h3
     simp [h1]
end Go.Proofs.YtchiojiicehpeaaGreatDoor
namespace Go.Proofs.YtchiojiicehpeaaGreatDoor
open Go.RowKit Go.Sort Go.Proofs
set_option maxHeartbeats 800000 in
theorem refPlaceE_any (x : PlaceV) (h1 : x.1.length ≤ 1000000000) (w : World) :
  Calls Tryz.prog 136 #[.agg (encPlace x).toArray] w fun e w' => e = .returned (.int .i64 (placeE x : Nat)) ∧ Below w.heap.size w w' := by
 have HE := Lib.hid (show placeE x = if nameB x.1 = false then 5 else if x.2.1 < 1 ∨ 20 < x.2.1 ∨ x.2.2 < 1 ∨ 40 < x.2.2 then 2 else 0 from rfl)
 obtain ⟨a1, a2, a3⟩ := x
 have HN1 := Lib.hid (fun W => isName_any a1 h1 W)
 simp only [encPlace] at HE ⊢
 have B1 := Lib.hid (below_one w (.cells #[.string ⟨a1.toArray⟩, .int .i64 a2, .int .i64 a3] 58))
 generalize nameB a1 = n1 at HN1 HE
 have hcase : (n1 = false) ∨ (n1 = true ∧ a2 < 1) ∨ (n1 = true ∧ ¬ a2 < 1 ∧ 20 < a2) ∨ (n1 = true ∧ ¬ a2 < 1 ∧ ¬ 20 < a2 ∧ a3 < 1) ∨ (n1 = true ∧ ¬ a2 < 1 ∧ ¬ 20 < a2 ∧ ¬ a3 < 1 ∧ 40 < a3) ∨ (n1 = true ∧ ¬ a2 < 1 ∧ ¬ 20 < a2 ∧ ¬ a3 < 1 ∧ ¬ 40 < a3) := by
  cases n1
  ·exact .inl rfl
  ·simp only [true_and, Bool.true_eq_false, false_or]
   omega
 go_enter Tryz.func136, Tryz.ntmps136
 go_wp2_with fail
 refine (HN1.out _).mono ?_
 rintro e w1 ⟨rfl, rfl⟩
 rcases hcase with rfl | ⟨rfl, q1⟩ | ⟨rfl, q1, q2⟩ | ⟨rfl, q1, q2, q3⟩ | ⟨rfl, q1, q2, q3, q4⟩ | ⟨rfl, q1, q2, q3, q4⟩
 ·go_wp2
  go_ret
  rw [HE.out, if_pos (by simp)]
  exact ⟨rfl, B1.out⟩
 ·go_wp2
  go_ret
  rw [HE.out, if_neg (by simp), if_pos (by omega)]
  exact ⟨rfl, B1.out⟩
 ·go_wp2
  go_ret
  rw [HE.out, if_neg (by simp), if_pos (by omega)]
  exact ⟨rfl, B1.out⟩
 ·go_wp2
  go_ret
  rw [HE.out, if_neg (by simp), if_pos (by omega)]
  exact ⟨rfl, B1.out⟩
 ·go_wp2
  go_ret
  rw [HE.out, if_neg (by simp), if_pos (by omega)]
  exact ⟨rfl, B1.out⟩
 ·go_wp2
  go_ret
  rw [HE.out, if_neg (by simp), if_neg (by omega)]
  exact ⟨rfl, B1.out⟩
set_option maxHeartbeats 800000 in
theorem refPlaceText_any (x : PlaceV) (h1 : x.1.length ≤ 1000000000) (w : World) :
  Calls Tryz.prog 165 #[.agg (encPlace x).toArray] w fun e w' => e = .returned (.string ⟨(placeText x).toArray⟩) ∧ Below w.heap.size w w' := by
 have HCK := Lib.hid (fun W => refPlaceE_any x h1 W)
 by_cases hE : placeE x = 0
 ·have hx := placeE_zero.1 hE
  have HTX := Lib.hid (show placeText x = x.1 ++ [45] ++ Lib.itoa x.2.1 ++ [45] ++ Lib.itoa x.2.2 by unfold placeText; rw [if_pos hE])
  rw [hE] at HCK
  obtain ⟨a1, a2, a3⟩ := x
  simp only at hx
  obtain ⟨x1, x2, x3, x4, x5⟩ := hx
  obtain ⟨u, rfl⟩ : ∃ u : Nat, a2 = (u : Int) := ⟨a2.toNat, by omega⟩
  obtain ⟨v, rfl⟩ : ∃ v : Nat, a3 = (v : Int) := ⟨a3.toNat, by omega⟩
  simp only [encPlace] at HCK HTX ⊢
  have l1 := (nameB_len x1).2
  have n3 := Lib.itoa_length_le (u : Int) (by omega) (by omega)
  have n4 := Lib.itoa_length_le (v : Int) (by omega) (by omega)
  have HD1 := Lib.hid (fun W => decimal_nat u (by omega) W)
  have HD2 := Lib.hid (fun W => decimal_nat v (by omega) W)
  clear hE x1 h1
  go_enter Tryz.func165, Tryz.ntmps165
  go_wp2_with fail
  refine (HCK.out _).mono ?_
  rintro e w1 ⟨rfl, bb1⟩
  have hh := (bb1.block w.heap.size (by simp)).trans (heap_alloc_new w (.cells #[.string ⟨a1.toArray⟩, .int .i64 (u : Int), .int .i64 (v : Int)] 58))
  have lw := heap_two bb1
  have b1 := (below_one w (.cells #[.string ⟨a1.toArray⟩, .int .i64 (u : Int), .int .i64 (v : Int)] 58)).trans (bb1.mono (by simp))
  have c0 : w1.cell? ⟨w.heap.size, 0, none⟩ = some (.string ⟨a1.toArray⟩) := by rw [cell_of_row w1 _ _ _ _ _ hh]; rfl
  have c1 : w1.cell? ⟨w.heap.size, 1, none⟩ = some (.int .i64 (u : Int)) := by rw [cell_of_row w1 _ _ _ _ _ hh]; rfl
  have c2 : w1.cell? ⟨w.heap.size, 2, none⟩ = some (.int .i64 (v : Int)) := by rw [cell_of_row w1 _ _ _ _ _ hh]; rfl
  clear hh bb1 HCK
  go_wp2_with fail
  have hd : Below w.heap.size w w1.drew := b1.drew
  have s1 : (⟨a1.toArray⟩ : ByteArray).size = a1.length := by simp [ByteArray.size]
  have v1 : ¬ 9223372036854775807 < a1.length + 1 := by omega
  have v2 : ¬ 9223372036854775807 < a1.length + 1 + (Lib.itoa (u : Int)).length := by omega
  have v3 : ¬ 9223372036854775807 < a1.length + 1 + (Lib.itoa (u : Int)).length + 1 := by omega
  have v4 : ¬ 9223372036854775807 < a1.length + 1 + (Lib.itoa (u : Int)).length + 1 + (Lib.itoa (v : Int)).length := by omega
  go_region_held3 (fun w' => w'.cell? ⟨w.heap.size, 0, none⟩ = some (.string ⟨a1.toArray⟩) ∧ w'.cell? ⟨w.heap.size, 1, none⟩ = some (.int .i64 (u : Int)) ∧ w'.cell? ⟨w.heap.size, 2, none⟩ = some (.int .i64 (v : Int)) ∧ Below w.heap.size w w')
   (first | exact ⟨c0, c1, c2, hd⟩ | exact ⟨(q4.cell lw).trans c0, (q4.cell lw).trans c1, (q4.cell lw).trans c2, b4⟩ | exact ⟨(q3.cell lw).trans c0, (q3.cell lw).trans c1, (q3.cell lw).trans c2, b3⟩ | go_keep)
   (first
    |(go_at_call_of 102 (Value.int .i64 (u : Int)); refine (HD1.out _).mono ?_; rintro e w3 ⟨rfl, bb3⟩; have q3 : Below w1.heap.size w1 w3 := (Below.refl w1.heap.size w1).drew.trans bb3; have b3 := b1.trans (q3.mono b1.size))
    |(go_at_call_of 102 (Value.int .i64 (v : Int)); refine (HD2.out _).mono ?_; rintro e w4 ⟨rfl, bb4⟩; have q4 := q3.trans (bb4.mono q3.size); have b4 := b1.trans (q4.mono b1.size)))
  all_goals
   have B4 := Lib.hid b4
   clear b4 q4 q3 b3 bb3 bb4 hd b1 c0 c1 c2
   go_wp2_with fail
   go_ret
   refine ⟨?_, B4.out⟩
   rw [HTX.out]
   show Ending.returned (.string ((⟨a1.toArray⟩ : ByteArray) ++ (⟨#[45]⟩ : ByteArray) ++ (⟨(Lib.itoa (u : Int)).toArray⟩ : ByteArray) ++ (⟨#[45]⟩ : ByteArray) ++ (⟨(Lib.itoa (v : Int)).toArray⟩ : ByteArray))) = _
   rw [show (⟨#[45]⟩ : ByteArray) = ⟨[45].toArray⟩ from rfl, mk_app, mk_app, mk_app, mk_app]
 ·have HTX := Lib.hid (show placeText x = [] by unfold placeText; rw [if_neg hE])
  have hpos : 0 < placeE x := Nat.pos_of_ne_zero hE
  generalize placeE x = k at HCK hpos
  have hpi : 0 < (k : Int) := by omega
  obtain ⟨a1, a2, a3⟩ := x
  simp only [encPlace] at HCK ⊢
  clear hE
  go_enter Tryz.func165, Tryz.ntmps165
  go_wp2_with fail
  refine (HCK.out _).mono ?_
  rintro e w1 ⟨rfl, bb1⟩
  have B1 := Lib.hid ((below_one w (.cells #[.string ⟨a1.toArray⟩, .int .i64 a2, .int .i64 a3] 58)).trans (bb1.mono (by simp)))
  clear bb1
  go_wp2_with fail
  go_ret
  rw [HTX.out]
  exact ⟨rfl, B1.out⟩
theorem ahead_zone {x y : PlaceV} (h : ¬ x.1 = y.1) : ltOf cfPlace x y = Op.bytesLess x.1 y.1 := by
 rw [less_cmp]
 unfold ltOf cfPlace orL
 rw [if_neg (fun e => h ((cmpB_eq _ _).1 e))]
theorem ahead_row {x y : PlaceV} (h : x.1 = y.1) (h2 : ¬ x.2.1 = y.2.1) : ltOf cfPlace x y = decide (x.2.1 < y.2.1) := by
 unfold ltOf cfPlace orL orL
 rw [if_pos ((cmpB_eq _ _).2 h), if_neg (by omega)]
 exact decide_eq_decide.2 (by omega)
theorem ahead_bay {x y : PlaceV} (h : x.1 = y.1) (h2 : x.2.1 = y.2.1) : ltOf cfPlace x y = if x.2.1 % 2 = 0 then decide (y.2.2 < x.2.2) else decide (x.2.2 < y.2.2) := by
 unfold ltOf cfPlace orL orL orL orL
 rw [if_pos ((cmpB_eq _ _).2 h), if_pos (by omega)]
 by_cases h3 : x.2.1 % 2 = 0
 ·simp only [if_pos h3]
  exact decide_eq_decide.2 (by split <;> omega)
 ·simp only [if_neg h3]
  exact decide_eq_decide.2 (by split <;> omega)
set_option maxHeartbeats 800000 in
theorem refAhead_any (x y : PlaceV) (hx : InP x) (W : World) :
  Calls Tryz.prog 240 #[.agg (encPlace x).toArray, .agg (encPlace y).toArray] W fun e w' => e = .returned (.bool (ltOf cfPlace x y)) ∧ Below W.heap.size W w' := by
 have HZ := Lib.hid (fun h => ahead_zone (x := x) (y := y) h)
 have HR := Lib.hid (fun h h2 => ahead_row (x := x) (y := y) h h2)
 have HB := Lib.hid (fun h h2 => ahead_bay (x := x) (y := y) h h2)
 obtain ⟨a1, a2, a3⟩ := x
 obtain ⟨b1, b2, b3⟩ := y
 obtain ⟨r1, r2, -, -⟩ := hx
 simp only at r1 r2
 simp only [encPlace] at HZ HR HB ⊢
 generalize ltOf cfPlace (a1, a2, a3) (b1, b2, b3) = R at HZ HR HB ⊢
 have B1 := Lib.hid (below_two W (.cells #[.string ⟨a1.toArray⟩, .int .i64 a2, .int .i64 a3] 58) (.cells #[.string ⟨b1.toArray⟩, .int .i64 b2, .int .i64 b3] 58))
 have w1 : IntKind.i64.wrap (a2.tmod 2) = a2 % 2 := by
  rw [Int.tmod_eq_emod_of_nonneg (by omega)]
  rw [IntKind.wrap_i64]
  omega
 by_cases h1 : a1 = b1
 ·by_cases h2 : a2 = b2
  ·have hb2 : (a2 == b2) = true := by simpa using h2
   have hb1 : (a1 == b1) = true := by simpa using h1
   have HV := Lib.hid (HB.out h1 h2)
   by_cases h3 : a2 % 2 = 0
   ·have HV2 := Lib.hid (HV.out.trans (if_pos h3))
    have t3 : (a2 % 2 == 0) = true := by simpa using h3
    clear HV h3 h2 h1
    go_enter Tryz.func240, Tryz.ntmps240
    go_wp2
    go_ret
    refine ⟨?_, B1.out⟩
    rw [HV2.out]; rfl
   ·have HV2 := Lib.hid (HV.out.trans (if_neg h3))
    have t3 : (a2 % 2 == 0) = false := by simpa using h3
    clear HV h3 h2 h1
    go_enter Tryz.func240, Tryz.ntmps240
    go_wp2
    go_ret
    refine ⟨?_, B1.out⟩
    rw [HV2.out]; rfl
  ·have HV := Lib.hid (HR.out h1 h2)
   have hb2 : (a2 == b2) = false := by simpa using h2
   have hb1 : (a1 == b1) = true := by simpa using h1
   clear h2 h1
   go_enter Tryz.func240, Tryz.ntmps240
   go_wp2
   go_ret
   refine ⟨?_, B1.out⟩
   rw [HV.out]; rfl
 ·have HV := Lib.hid (HZ.out h1)
  have hb1 : (a1 == b1) = false := by simpa using h1
  clear h1
  go_enter Tryz.func240, Tryz.ntmps240
  go_wp2
  go_ret
  refine ⟨?_, B1.out⟩
  rw [HV.out]; rfl
end Go.Proofs.YtchiojiicehpeaaGreatDoor
namespace Go.Proofs.YtchiojiicehpeaaGreatDoor
open Go.RowKit Go.Sort Go.Proofs
set_option maxHeartbeats 800000 in
theorem refLineText_any (x : LineV) (w : World) (hz : x.1.1.length ≤ 1000000000) (hl : x.2.1.length ≤ 1000000000) (h0 : 0 ≤ x.2.2) (h1 : x.2.2 ≤ 9223372036854775807) :
  Calls Tryz.prog 104 #[.agg (encLine x).toArray] w fun e w' => e = .returned (.string ⟨(lineText x).toArray⟩) ∧ Below w.heap.size w w' := by
 have HP := Lib.hid (fun W => refPlaceText_any x.1 hz W)
 have n1 := placeText_len x.1
 have HTX := Lib.hid (show lineText x = placeText x.1 ++ [32] ++ x.2.1 ++ [32] ++ Lib.itoa x.2.2 from rfl)
 generalize lineText x = T at HTX ⊢
 generalize placeText x.1 = t at HP n1 HTX
 obtain ⟨⟨a1, a2, a3⟩, a4, a5⟩ := x
 simp only [encPlace, encLine] at HP HTX hl h0 h1 ⊢
 obtain ⟨u, rfl⟩ : ∃ u : Nat, a5 = (u : Int) := ⟨a5.toNat, by omega⟩
 have HI := Lib.hid (fun W => decimal_nat u (by omega) W)
 have n3 := Lib.itoa_length_le (u : Int) (by omega) (by omega)
 generalize Lib.itoa (u : Int) = t5 at HI n3 HTX
 clear h0 h1
 go_enter Tryz.func104, Tryz.ntmps104
 go_wp2_with fail
 have b0 : Below w.heap.size w (w.alloc (.cells #[.string ⟨a1.toArray⟩, .int .i64 a2, .int .i64 a3, .string ⟨a4.toArray⟩, .int .i64 (u : Int)] 60)) := (Below.refl _ _).alloc (Nat.le_refl _) _
 obtain ⟨W1, hW1⟩ : ∃ W1, W1 = w.alloc (.cells #[.string ⟨a1.toArray⟩, .int .i64 a2, .int .i64 a3, .string ⟨a4.toArray⟩, .int .i64 (u : Int)] 60) := ⟨_, rfl⟩
 have c0 : W1.cell? ⟨w.heap.size, 0, none⟩ = some (.string ⟨a1.toArray⟩) := by rw [hW1]; go_simp
 have c1 : W1.cell? ⟨w.heap.size, 1, none⟩ = some (.int .i64 a2) := by rw [hW1]; go_simp
 have c2 : W1.cell? ⟨w.heap.size, 2, none⟩ = some (.int .i64 a3) := by rw [hW1]; go_simp
 have c3 : W1.cell? ⟨w.heap.size, 3, none⟩ = some (.string ⟨a4.toArray⟩) := by rw [hW1]; go_simp
 have c4 : W1.cell? ⟨w.heap.size, 4, none⟩ = some (.int .i64 (u : Int)) := by rw [hW1]; go_simp
 have lw : w.heap.size < W1.heap.size := by rw [hW1]; simp
 rw [← hW1] at b0 ⊢
 clear hW1
 have hd : Below w.heap.size w W1.drew := b0.drew
 have qd : Below W1.heap.size W1 W1.drew := (Below.refl _ _).drew
 have v1 : ¬ 9223372036854775807 < t.length + 1 := by omega
 have v2 : ¬ 9223372036854775807 < t.length + 1 + a4.length := by omega
 have v3 : ¬ 9223372036854775807 < t.length + 1 + a4.length + 1 := by omega
 have v4 : ¬ 9223372036854775807 < t.length + 1 + a4.length + 1 + t5.length := by omega
 go_region_held3 (fun w' => w'.cell? ⟨w.heap.size, 0, none⟩ = some (.string ⟨a1.toArray⟩) ∧ w'.cell? ⟨w.heap.size, 1, none⟩ = some (.int .i64 a2) ∧ w'.cell? ⟨w.heap.size, 2, none⟩ = some (.int .i64 a3) ∧ w'.cell? ⟨w.heap.size, 3, none⟩ = some (.string ⟨a4.toArray⟩) ∧ w'.cell? ⟨w.heap.size, 4, none⟩ = some (.int .i64 (u : Int)) ∧ Below w.heap.size w w')
  (first | exact ⟨c0, c1, c2, c3, c4, hd⟩ | exact ⟨(q4.cell lw).trans c0, (q4.cell lw).trans c1, (q4.cell lw).trans c2, (q4.cell lw).trans c3, (q4.cell lw).trans c4, b4⟩ | exact ⟨(q3.cell lw).trans c0, (q3.cell lw).trans c1, (q3.cell lw).trans c2, (q3.cell lw).trans c3, (q3.cell lw).trans c4, b3⟩ | go_keep)
  (first
   |(go_at_call 165; refine (HP.out _).mono ?_; rintro e w3 ⟨rfl, bb3⟩; have q3 : Below W1.heap.size W1 w3 := qd.trans bb3; have b3 := b0.trans (q3.mono b0.size))
   |(go_at_call 102; refine (HI.out _).mono ?_; rintro e w4 ⟨rfl, bb4⟩; have q4 := q3.trans (bb4.mono q3.size); have b4 := b0.trans (q4.mono b0.size)))
 all_goals
  have B4 := Lib.hid b4
  clear b4 q4 q3 b3 bb3 bb4 hd b0 qd c0 c1 c2 c3 c4 HP HI
  go_wp2_with fail
  go_ret
  refine ⟨?_, B4.out⟩
  rw [HTX.out]
  show Ending.returned (.string ((⟨t.toArray⟩ : ByteArray) ++ (⟨#[32]⟩ : ByteArray) ++ (⟨a4.toArray⟩ : ByteArray) ++ (⟨#[32]⟩ : ByteArray) ++ (⟨t5.toArray⟩ : ByteArray))) = _
  rw [show (⟨#[32]⟩ : ByteArray) = ⟨[32].toArray⟩ from rfl, mk_app, mk_app, mk_app, mk_app]
theorem ahead_same {x y : LineV} (h : x.1 = y.1) : ltOf cfLine x y = Op.bytesLess x.2.1 y.2.1 := by
 rw [less_cmp]
 unfold ltOf cfLine orL orL orL
 rw [if_pos ((cfPlace_zero _ _).2 h)]
 split
 ·rename_i h2; rw [h2]
 ·rfl
theorem ahead_other {x y : LineV} (h : ¬ x.1 = y.1) : ltOf cfLine x y = ltOf cfPlace x.1 y.1 := by
 unfold ltOf cfLine orL
 rw [if_neg (fun e => h ((cfPlace_zero _ _).1 e))]
set_option maxHeartbeats 800000 in
theorem refLineAhead_any (x y : LineV) (hx : InP x.1) (W : World) :
  Calls Tryz.prog 214 #[.agg (encLine x).toArray, .agg (encLine y).toArray] W fun e w' => e = .returned (.bool (ltOf cfLine x y)) ∧ Below W.heap.size W w' := by
 have HS := Lib.hid (fun h => ahead_same (x := x) (y := y) h)
 have HO := Lib.hid (fun h => ahead_other (x := x) (y := y) h)
 have HA := Lib.hid (fun W => refAhead_any x.1 y.1 hx W)
 have HQ := Lib.hid (fun W => neqPlace x.1 y.1 W)
 have B1 := Lib.hid (below_two W (.cells (encLine x).toArray 60) (.cells (encLine y).toArray 60))
 clear hx
 by_cases h1 : x.1 = y.1
 ·have HV := Lib.hid (HS.out h1)
  rw [decide_eq_true h1] at HQ
  obtain ⟨⟨a1, a2, a3⟩, a4, a5⟩ := x
  obtain ⟨⟨b1, b2, b3⟩, b4, b5⟩ := y
  simp only [encLine, encPlace] at HV HQ B1 ⊢
  have hq := HQ.out
  clear h1 HS HO HA HQ
  go_enter Tryz.func214, Tryz.ntmps214
  go_wp2
  go_ret
  refine ⟨?_, B1.out⟩
  rw [HV.out]; rfl
 ·have HV := Lib.hid (HO.out h1)
  rw [decide_eq_false h1] at HQ
  obtain ⟨⟨a1, a2, a3⟩, a4, a5⟩ := x
  obtain ⟨⟨b1, b2, b3⟩, b4, b5⟩ := y
  simp only [encLine, encPlace] at HV HQ HA B1 ⊢
  have hq := HQ.out
  clear h1 HS HO HQ
  go_enter Tryz.func214, Tryz.ntmps214
  go_wp2_with fail
  refine (HA.out _).mono ?_
  rintro e w1 ⟨rfl, b1⟩
  have B2 := Lib.hid (B1.out.trans (b1.mono B1.out.size))
  clear b1
  go_wp2_with fail
  go_ret
  refine ⟨?_, B2.out⟩
  rw [HV.out]; rfl
end Go.Proofs.YtchiojiicehpeaaGreatDoor
