/- Plain facts: the document's reading of a numeral, held against strconv's. No program in sight. The document's NumberOf, walked. The document's IsName, walked. tithebarnref1.Decimal: a number's digits, as the document writes them. Strings: less than. Places: the document's error, text, order. A stock's lines: the document's text, order. A stock of the document: Find. -/
import Derived.Lib.ItoaLen
import Derived.Lib.ItoaMem
import Derived.Test.YthnpemlmfekkgaaGreatDoorM01
import Derived.Test.YthnpemlmfekkgaaGreatDoorM03
import Derived.Test.YthnpemlmfekkgaaGreatDoorM04
import Derived.Test.YthnpemlmfekkgaaGreatDoorM07
import Derived.Test.YthnpemlmfekkgaaGreatDoorM08
import Derived.Test.YthnpemlmfekkgaaGreatDoorM09
namespace Go.Proofs.YthnpemlmfekkgaaGreatDoor
open Go.Lib

def isDig (c : UInt8) : Bool := decide (48 ≤ c.toNat) && decide (c.toNat ≤ 57)
def valN (l : List UInt8) : Nat := l.foldl (fun a c => 10 * a + (c.toNat - 48)) 0
theorem valN_snoc (r : List UInt8) (c : UInt8) : valN (r ++ [c]) = 10 * valN r + (c.toNat - 48) := by simp [valN]
theorem valN_one (c : UInt8) : valN [c] = c.toNat - 48 := by simp [valN]
theorem valN_nil : valN [] = 0 := rfl

theorem snoc_ind {P : List UInt8 → Prop} (h0 : P []) (h1 : ∀ l a, P l → P (l ++ [a])) (l : List UInt8) : P l := by
  have : ∀ r : List UInt8, P r.reverse := fun r => by
    induction r with
    | nil => exact h0
    | cons a r ih => rw [List.reverse_cons]; exact h1 _ _ ih
  have h := this l.reverse
  rwa [List.reverse_reverse] at h

theorem dec_small {u : Nat} (h : u < 10) : decDigits u = [UInt8.ofNat (48 + u)] := by rw [decDigits, dif_pos h]
theorem dec_big {u : Nat} (h : ¬ u < 10) : decDigits u = decDigits (u / 10) ++ [UInt8.ofNat (48 + u % 10)] := by rw [decDigits, dif_neg h]

theorem dec_val (n : Nat) : valN (decDigits n) = n := by
  induction n using Nat.strongRecOn with
  | _ n ih =>
    by_cases h : n < 10
    · rw [dec_small h, valN_one, digit_toNat n h]; omega
    · rw [dec_big h, valN_snoc, ih (n / 10) (by omega), digit_toNat _ (Nat.mod_lt _ (by omega))]; omega
theorem dec_head (n : Nat) (h0 : 0 < n) : (decDigits n).head? ≠ some 48 := by
  induction n using Nat.strongRecOn with
  | _ n ih =>
    by_cases h : n < 10
    · rw [dec_small h]
      simp only [List.head?_cons, ne_eq, Option.some.injEq]
      intro e
      have := congrArg UInt8.toNat e
      rw [digit_toNat n h] at this
      simp at this; omega
    · rw [dec_big h]
      have hne := dec_ne_nil (n / 10)
      have hi := ih (n / 10) (by omega) (by omega)
      cases hd : decDigits (n / 10) with
      | nil => exact absurd hd hne
      | cons x r => rw [hd] at hi; simpa using hi

theorem digits_all (l : List UInt8) : l.all isDig = true ↔ ∀ c ∈ l, 48 ≤ c.toNat ∧ c.toNat ≤ 57 := by
  simp [isDig, List.all_eq_true]
theorem dec_of_val (l : List UInt8) : l.all isDig = true → l ≠ [] → (l.length = 1 ∨ l.head? ≠ some 48) → decDigits (valN l) = l := by
  induction l using snoc_ind with
  | h0 => intro _ h; exact absurd rfl h
  | h1 r c ih =>
    intro ha _ hz
    have ha' := (digits_all _).1 ha
    have hc := ha' c (by simp)
    have hcn : UInt8.ofNat (48 + (c.toNat - 48)) = c := by
      apply UInt8.toNat_inj.1
      rw [digit_toNat _ (by omega)]; omega
    cases r with
    | nil =>
      rw [List.nil_append, valN_one, dec_small (by omega), hcn]
    | cons x q =>
      have hx : x ≠ 48 := by
        rcases hz with hz | hz
        · simp at hz
        · simpa using hz
      have h1 := ih ((digits_all _).2 fun d hd => ha' d (List.mem_append_left _ hd)) (by simp) (.inr (by simpa using hx))
      have hv : 0 < valN (x :: q) := by
        rcases Nat.eq_zero_or_pos (valN (x :: q)) with h | h
        · rw [h, dec_small (by omega)] at h1
          simp at h1
          exact absurd h1.1.symm hx
        · exact h
      rw [valN_snoc, dec_big (by omega), show (10 * valN (x :: q) + (c.toNat - 48)) / 10 = valN (x :: q) by omega, show (10 * valN (x :: q) + (c.toNat - 48)) % 10 = c.toNat - 48 by omega, h1, hcn]
theorem valN_lt (l : List UInt8) (h : l.all isDig = true) : valN l < 10 ^ l.length := by
  induction l using snoc_ind with
  | h0 => simp [valN]
  | h1 r c ih =>
    have ha' := (digits_all _).1 h
    have hc := ha' c (by simp)
    have := ih ((digits_all _).2 fun d hd => ha' d (List.mem_append_left _ hd))
    rw [valN_snoc, List.length_append, List.length_singleton, Nat.pow_succ]; omega

/-- The document's number of a text (-1: none). -/
def refNum (l : List UInt8) (d : Nat) : Int := if l.length < 1 ∨ d < l.length ∨ (1 < l.length ∧ l.head? = some 48) ∨ l.all isDig = false then -1 else (valN l : Int)
theorem refNum_eq (l : List UInt8) (d : Nat) (hd : d ≤ 18) : refNum l d = match numQ l d with | some n => (n : Int) | none => -1 := by
  unfold refNum
  split
  · rename_i h
    cases hq : numQ l d with
    | none => rfl
    | some n =>
      exfalso
      obtain ⟨h1, h2, h3⟩ := (numQ_iff l d n).1 hq
      rcases h with h | h | ⟨h, h'⟩ | h
      · have := dec_ne_nil n
        rw [← h1] at this
        cases l <;> simp_all
      · omega
      · rcases Nat.eq_zero_or_pos n with h0 | h0
        · subst h0
          rw [h1, dec_small (by omega)] at h
          simp at h
        · rw [h1] at h'; exact dec_head n h0 h'
      · have : l.all isDig = true := (digits_all l).2 (by rw [h1]; exact dec_digit n)
        rw [h] at this; cases this
  · rename_i h
    have hn : l ≠ [] := by rintro rfl; simp at h
    have ha : l.all isDig = true := by
      cases hh : l.all isDig
      · exact absurd (.inr (.inr (.inr hh))) h
      · rfl
    have hz : l.length = 1 ∨ l.head? ≠ some 48 := by
      by_cases h1 : l.length = 1
      · exact .inl h1
      · refine .inr fun h2 => h (.inr (.inr (.inl ⟨?_, h2⟩)))
        have := List.length_pos_iff.2 hn
        omega
    have hd1 := dec_of_val l ha hn hz
    have hl : l.length ≤ d := by omega
    have hv := valN_lt l ha
    have : 10 ^ l.length ≤ 10 ^ 18 := Nat.pow_le_pow_right (by omega) (by omega)
    rw [(numQ_iff l d (valN l)).2 ⟨hd1.symm, hl, by omega⟩]
end Go.Proofs.YthnpemlmfekkgaaGreatDoor
namespace Go.Proofs.YthnpemlmfekkgaaGreatDoor
open Go.RowKit

theorem ret_i64 {a b : Int} (h : a = b) : Ending.returned (.int .i64 a) = .returned (.int .i64 b) := by rw [h]
theorem take_snocL (l : List UInt8) (k : Nat) (h : k < l.length) : l.take (k + 1) = l.take k ++ [l[k]] := List.take_succ_eq_append_getElem h
/-- The first bytes of a text. -/
def bts (s : ByteArray) : List UInt8 := s.data.toList
theorem bts_length (s : ByteArray) : (bts s).length = s.size := rfl
theorem bts_get (s : ByteArray) (k : Nat) (h : k < s.size) : (bts s)[k]'(by rw [bts_length]; exact h) = s[k] := rfl
theorem bts_snoc (s : ByteArray) (k : Nat) (h : k < s.size) : (bts s).take (k + 1) = (bts s).take k ++ [s[k]] := take_snocL (bts s) k (by rw [bts_length]; exact h)
theorem bts_all (s : ByteArray) : (bts s).take s.size = bts s := List.take_of_length_le (by rw [bts_length]; exact Nat.le_refl _)
theorem bts_head (s : ByteArray) (h : 0 < s.size) : (bts s).head? = some s[0] := by
  rw [← bts_get s 0 h]
  have h' : 0 < (bts s).length := by rw [bts_length]; exact h
  rw [List.head?_eq_getElem?, List.getElem?_eq_getElem h']
theorem all_false {p : UInt8 → Bool} (s : ByteArray) (k : Nat) (h : k < s.size) (hc : p s[k] = false) : (bts s).all p = false := by
  cases ha : (bts s).all p
  · rfl
  · have := List.all_eq_true.1 ha _ (List.getElem_mem (by rw [bts_length]; exact h) : (bts s)[k]'(by rw [bts_length]; exact h) ∈ bts s)
    rw [bts_get s k h, hc] at this; cases this
theorem all_snoc {p : UInt8 → Bool} (s : ByteArray) (k : Nat) (h : k < s.size) (ha : ((bts s).take k).all p = true) (hc : p s[k] = true) : ((bts s).take (k + 1)).all p = true := by
  rw [bts_snoc s k h, List.all_append, ha]; simp [hc]

end Go.Proofs.YthnpemlmfekkgaaGreatDoor
namespace Go.Proofs.YthnpemlmfekkgaaGreatDoor
open Go.RowKit

theorem nameB_no (s : ByteArray) (h : (bts s).all alnum = false) : nameB (bts s) = false := by
  unfold nameB
  rw [h]; simp
theorem nameB_yes (s : ByteArray) (h : (bts s).all alnum = true) : nameB (bts s) = decide (1 ≤ s.size ∧ s.size ≤ 8) := by
  unfold nameB
  rw [h]
  have e : (bts s).length = s.size := rfl
  have : (bts s).isEmpty = decide (s.size = 0) := by
    rw [← e]
    cases bts s with
    | nil => rfl
    | cons x r => simp
  rw [this, e]
  by_cases h0 : s.size = 0
  · simp [h0]
  · have h1 : 1 ≤ s.size := by omega
    simp [h0, h1]

set_option maxHeartbeats 1000000 in
theorem isNameB (s : ByteArray) (hl : s.size ≤ 1000000000) (w : World) :
    Calls Tryz.prog 96 #[.string s] w fun e w' => e = .returned (.bool (nameB (bts s))) ∧ w = w' := by
  go_enter Tryz.func96, Tryz.ntmps96
  go_wp2
  go_loop [3, 4, 5] (fun i _ _ => ∃ k : Nat, k ≤ s.size ∧ i = .int .i64 k ∧ Hid (((bts s).take k).all alnum = true)) (fun i _ _ => s.size - (intOf i).toNat)
  case atStart => exact ⟨0, by omega, rfl, rfl⟩
  case round =>
    obtain ⟨k, hk, rfl, HA⟩ := hrel
    by_cases hlt : k < s.size
    · have HY := Lib.hid (fun h => all_snoc (p := alnum) s k hlt HA.out h)
      have HF := Lib.hid (fun h => nameB_no s (all_false (p := alnum) s k hlt h))
      have HAL := Lib.hid (show alnum s[k] = ((decide (97 ≤ s[k].toNat) && decide (s[k].toNat ≤ 122)) || (decide (48 ≤ s[k].toNat) && decide (s[k].toNat ≤ 57))) from rfl)
      by_cases h1 : 97 ≤ s[k].toNat
      · have i1 : 97 ≤ (s[k].toNat : Int) := by omega
        have j1 : 48 ≤ (s[k].toNat : Int) := by omega
        have j2 : ¬ (s[k].toNat : Int) ≤ 57 := by omega
        by_cases h2 : s[k].toNat ≤ 122
        · have i2 : (s[k].toNat : Int) ≤ 122 := by omega
          have HD := Lib.hid (HY.out (by rw [HAL.out]; simp; omega))
          clear h1 h2
          go_wp2
          go_round
          case rel => exact ⟨k + 1, by omega, by go_num, HD⟩
          case measure => simp [intOf]; omega
        · have i2 : ¬ (s[k].toNat : Int) ≤ 122 := by omega
          have HD := Lib.hid (HF.out (by rw [HAL.out]; simp; omega))
          clear h1 h2
          go_wp2
          go_ret
          exact ⟨by rw [HD.out]; rfl, rfl⟩
      · have i1 : ¬ 97 ≤ (s[k].toNat : Int) := by omega
        by_cases h2 : 48 ≤ s[k].toNat
        · have i2 : 48 ≤ (s[k].toNat : Int) := by omega
          by_cases h3 : s[k].toNat ≤ 57
          · have i3 : (s[k].toNat : Int) ≤ 57 := by omega
            have HD := Lib.hid (HY.out (by rw [HAL.out]; simp; omega))
            clear h1 h2 h3
            go_wp2
            go_round
            case rel => exact ⟨k + 1, by omega, by go_num, HD⟩
            case measure => simp [intOf]; omega
          · have i3 : ¬ (s[k].toNat : Int) ≤ 57 := by omega
            have HD := Lib.hid (HF.out (by rw [HAL.out]; simp; omega))
            clear h1 h2 h3
            go_wp2
            go_ret
            exact ⟨by rw [HD.out]; rfl, rfl⟩
        · have i2 : ¬ 48 ≤ (s[k].toNat : Int) := by omega
          have HD := Lib.hid (HF.out (by rw [HAL.out]; simp; omega))
          clear h1 h2
          go_wp2
          go_ret
          exact ⟨by rw [HD.out]; rfl, rfl⟩
    · obtain rfl : k = s.size := by omega
      have ha := HA.out
      rw [bts_all] at ha
      have HN := Lib.hid (nameB_yes s ha)
      clear ha
      by_cases h1 : 1 ≤ s.size
      · by_cases h8 : s.size ≤ 8
        · have hd8 : decide ((s.size : Int) ≤ 8) = true := by simp; omega
          have HM := Lib.hid (show nameB (bts s) = true by rw [HN.out, decide_eq_true ⟨h1, h8⟩])
          go_wp2
          go_ret
          exact ⟨by rw [HM.out]; rfl, rfl⟩
        · have hd8 : decide ((s.size : Int) ≤ 8) = false := by simp; omega
          have HM := Lib.hid (show nameB (bts s) = false by rw [HN.out]; simp; omega)
          go_wp2
          go_ret
          exact ⟨by rw [HM.out]; rfl, rfl⟩
      · have hd1 : decide (1 ≤ (s.size : Int)) = false := by simp; omega
        have HM := Lib.hid (show nameB (bts s) = false by rw [HN.out]; simp; omega)
        go_wp2
        go_ret
        exact ⟨by rw [HM.out]; rfl, rfl⟩
theorem isName_any (l : List UInt8) (hl : l.length ≤ 1000000000) (w : World) :
    Calls Tryz.prog 96 #[.string ⟨l.toArray⟩] w fun e w' => e = .returned (.bool (nameB l)) ∧ w = w' :=
  isNameB ⟨l.toArray⟩ (by simpa [ByteArray.size] using hl) w
end Go.Proofs.YthnpemlmfekkgaaGreatDoor
namespace Go.Proofs.YthnpemlmfekkgaaGreatDoor
open Go.RowKit

end Go.Proofs.YthnpemlmfekkgaaGreatDoor
namespace Go.Proofs.YthnpemlmfekkgaaGreatDoor
open Go.RowKit

theorem less_cmp (a : List UInt8) : ∀ b, Op.bytesLess a b = decide (Lib.compareBytes a b < 0) := by
  induction a with
  | nil => intro b; cases b <;> simp [Op.bytesLess, Lib.compareBytes]
  | cons x r ih =>
    intro b
    cases b with
    | nil => simp [Op.bytesLess, Lib.compareBytes]
    | cons y s =>
      simp only [Op.bytesLess, Lib.compareBytes, ih]
      by_cases h1 : x < y
      · simp [h1]
      · by_cases h2 : y < x
        · have h3 : ¬ x = y := fun e => by subst e; exact h1 h2
          simp [h1, h2, h3]
        · have h3 : x = y := by
            have a1 : ¬ x.toNat < y.toNat := h1
            have a2 : ¬ y.toNat < x.toNat := h2
            exact UInt8.toNat_inj.1 (by omega)
          subst h3
          simp [h1]

end Go.Proofs.YthnpemlmfekkgaaGreatDoor
namespace Go.Proofs.YthnpemlmfekkgaaGreatDoor
open Go.RowKit Go.Sort Go.Proofs

set_option maxHeartbeats 800000 in
theorem refPlaceE_any (x : PlaceV) (h1 : x.1.length ≤ 1000000000) (w : World) :
    Calls Tryz.prog 99 #[.agg (encPlace x).toArray] w fun e w' => e = .returned (.int .i64 (placeE x : Nat)) ∧ Below w.heap.size w w' := by
  have HE := Lib.hid (show placeE x = if nameB x.1 = false then 5 else if x.2.1 < 1 ∨ 20 < x.2.1 ∨ x.2.2 < 1 ∨ 40 < x.2.2 then 2 else 0 from rfl)
  obtain ⟨a1, a2, a3⟩ := x
  have HN1 := Lib.hid (fun W => isName_any a1 h1 W)
  simp only [encPlace] at HE ⊢
  have B1 := Lib.hid (below_one w (.cells #[.string ⟨a1.toArray⟩, .int .i64 a2, .int .i64 a3] 41))
  generalize nameB a1 = n1 at HN1 HE
  have hcase : (n1 = false) ∨ (n1 = true ∧ a2 < 1) ∨ (n1 = true ∧ ¬ a2 < 1 ∧ 20 < a2) ∨ (n1 = true ∧ ¬ a2 < 1 ∧ ¬ 20 < a2 ∧ a3 < 1) ∨ (n1 = true ∧ ¬ a2 < 1 ∧ ¬ 20 < a2 ∧ ¬ a3 < 1 ∧ 40 < a3) ∨ (n1 = true ∧ ¬ a2 < 1 ∧ ¬ 20 < a2 ∧ ¬ a3 < 1 ∧ ¬ 40 < a3) := by
    cases n1
    · exact .inl rfl
    · simp only [true_and, Bool.true_eq_false, false_or]
      omega
  go_enter Tryz.func99, Tryz.ntmps99
  go_wp2_with fail
  refine (HN1.out _).mono ?_
  rintro e w1 ⟨rfl, rfl⟩
  rcases hcase with rfl | ⟨rfl, q1⟩ | ⟨rfl, q1, q2⟩ | ⟨rfl, q1, q2, q3⟩ | ⟨rfl, q1, q2, q3, q4⟩ | ⟨rfl, q1, q2, q3, q4⟩
  · go_wp2
    go_ret
    rw [HE.out, if_pos (by simp)]
    exact ⟨rfl, B1.out⟩
  · go_wp2
    go_ret
    rw [HE.out, if_neg (by simp), if_pos (by omega)]
    exact ⟨rfl, B1.out⟩
  · go_wp2
    go_ret
    rw [HE.out, if_neg (by simp), if_pos (by omega)]
    exact ⟨rfl, B1.out⟩
  · go_wp2
    go_ret
    rw [HE.out, if_neg (by simp), if_pos (by omega)]
    exact ⟨rfl, B1.out⟩
  · go_wp2
    go_ret
    rw [HE.out, if_neg (by simp), if_pos (by omega)]
    exact ⟨rfl, B1.out⟩
  · go_wp2
    go_ret
    rw [HE.out, if_neg (by simp), if_neg (by omega)]
    exact ⟨rfl, B1.out⟩

theorem ahead_zone {x y : PlaceV} (h : ¬ x.1 = y.1) : ltOf cfPlace x y = Op.bytesLess x.1 y.1 := by
  rw [less_cmp]
  unfold ltOf cfPlace orL
  rw [if_neg (fun e => h ((cmpB_eq _ _).1 e))]
theorem ahead_row {x y : PlaceV} (h : x.1 = y.1) (h2 : ¬ x.2.1 = y.2.1) : ltOf cfPlace x y = decide (x.2.1 < y.2.1) := by
  unfold ltOf cfPlace orL orL
  rw [if_pos ((cmpB_eq _ _).2 h), if_neg (by omega)]
  exact decide_eq_decide.2 (by omega)
theorem ahead_bay {x y : PlaceV} (h : x.1 = y.1) (h2 : x.2.1 = y.2.1) : ltOf cfPlace x y = if x.2.1 % 2 = 0 then decide (y.2.2 < x.2.2) else decide (x.2.2 < y.2.2) := by
  unfold ltOf cfPlace orL orL orL orL
  rw [if_pos ((cmpB_eq _ _).2 h), if_pos (by omega)]
  by_cases h3 : x.2.1 % 2 = 0
  · simp only [if_pos h3]
    exact decide_eq_decide.2 (by split <;> omega)
  · simp only [if_neg h3]
    exact decide_eq_decide.2 (by split <;> omega)

set_option maxHeartbeats 800000 in
theorem refAhead_any (x y : PlaceV) (hx : InP x) (W : World) :
    Calls Tryz.prog 158 #[.agg (encPlace x).toArray, .agg (encPlace y).toArray] W fun e w' => e = .returned (.bool (ltOf cfPlace x y)) ∧ Below W.heap.size W w' := by
  have HZ := Lib.hid (fun h => ahead_zone (x := x) (y := y) h)
  have HR := Lib.hid (fun h h2 => ahead_row (x := x) (y := y) h h2)
  have HB := Lib.hid (fun h h2 => ahead_bay (x := x) (y := y) h h2)
  obtain ⟨a1, a2, a3⟩ := x
  obtain ⟨b1, b2, b3⟩ := y
  obtain ⟨r1, r2, -, -⟩ := hx
  simp only at r1 r2
  simp only [encPlace] at HZ HR HB ⊢
  generalize ltOf cfPlace (a1, a2, a3) (b1, b2, b3) = R at HZ HR HB ⊢
  have B1 := Lib.hid (below_two W (.cells #[.string ⟨a1.toArray⟩, .int .i64 a2, .int .i64 a3] 41) (.cells #[.string ⟨b1.toArray⟩, .int .i64 b2, .int .i64 b3] 41))
  have w1 : IntKind.i64.wrap (a2.tmod 2) = a2 % 2 := by
    rw [Int.tmod_eq_emod_of_nonneg (by omega)]
    rw [IntKind.wrap_i64]
    omega
  by_cases h1 : a1 = b1
  · by_cases h2 : a2 = b2
    · have hb2 : (a2 == b2) = true := by simpa using h2
      have hb1 : (a1 == b1) = true := by simpa using h1
      have HV := Lib.hid (HB.out h1 h2)
      by_cases h3 : a2 % 2 = 0
      · have HV2 := Lib.hid (HV.out.trans (if_pos h3))
        have t3 : (a2 % 2 == 0) = true := by simpa using h3
        clear HV h3 h2 h1
        go_enter Tryz.func158, Tryz.ntmps158
        go_wp2
        go_ret
        refine ⟨?_, B1.out⟩
        rw [HV2.out]; rfl
      · have HV2 := Lib.hid (HV.out.trans (if_neg h3))
        have t3 : (a2 % 2 == 0) = false := by simpa using h3
        clear HV h3 h2 h1
        go_enter Tryz.func158, Tryz.ntmps158
        go_wp2
        go_ret
        refine ⟨?_, B1.out⟩
        rw [HV2.out]; rfl
    · have HV := Lib.hid (HR.out h1 h2)
      have hb2 : (a2 == b2) = false := by simpa using h2
      have hb1 : (a1 == b1) = true := by simpa using h1
      clear h2 h1
      go_enter Tryz.func158, Tryz.ntmps158
      go_wp2
      go_ret
      refine ⟨?_, B1.out⟩
      rw [HV.out]; rfl
  · have HV := Lib.hid (HZ.out h1)
    have hb1 : (a1 == b1) = false := by simpa using h1
    clear h1
    go_enter Tryz.func158, Tryz.ntmps158
    go_wp2
    go_ret
    refine ⟨?_, B1.out⟩
    rw [HV.out]; rfl
end Go.Proofs.YthnpemlmfekkgaaGreatDoor
namespace Go.Proofs.YthnpemlmfekkgaaGreatDoor
open Go.RowKit Go.Sort Go.Proofs

theorem ahead_same {x y : LineV} (h : x.1 = y.1) : ltOf cfLine x y = Op.bytesLess x.2.1 y.2.1 := by
  rw [less_cmp]
  unfold ltOf cfLine orL orL orL
  rw [if_pos ((cfPlace_zero _ _).2 h)]
  split
  · rename_i h2; rw [h2]
  · rfl
theorem ahead_other {x y : LineV} (h : ¬ x.1 = y.1) : ltOf cfLine x y = ltOf cfPlace x.1 y.1 := by
  unfold ltOf cfLine orL
  rw [if_neg (fun e => h ((cfPlace_zero _ _).1 e))]
set_option maxHeartbeats 800000 in
theorem refLineAhead_any (x y : LineV) (hx : InP x.1) (W : World) :
    Calls Tryz.prog 128 #[.agg (encLine x).toArray, .agg (encLine y).toArray] W fun e w' => e = .returned (.bool (ltOf cfLine x y)) ∧ Below W.heap.size W w' := by
  have HS := Lib.hid (fun h => ahead_same (x := x) (y := y) h)
  have HO := Lib.hid (fun h => ahead_other (x := x) (y := y) h)
  have HA := Lib.hid (fun W => refAhead_any x.1 y.1 hx W)
  have HQ := Lib.hid (fun W => neqPlace x.1 y.1 W)
  have B1 := Lib.hid (below_two W (.cells (encLine x).toArray 48) (.cells (encLine y).toArray 48))
  clear hx
  by_cases h1 : x.1 = y.1
  · have HV := Lib.hid (HS.out h1)
    rw [decide_eq_true h1] at HQ
    obtain ⟨⟨a1, a2, a3⟩, a4, a5⟩ := x
    obtain ⟨⟨b1, b2, b3⟩, b4, b5⟩ := y
    simp only [encLine, encPlace] at HV HQ B1 ⊢
    have hq := HQ.out
    clear h1 HS HO HA HQ
    go_enter Tryz.func128, Tryz.ntmps128
    go_wp2
    go_ret
    refine ⟨?_, B1.out⟩
    rw [HV.out]; rfl
  · have HV := Lib.hid (HO.out h1)
    rw [decide_eq_false h1] at HQ
    obtain ⟨⟨a1, a2, a3⟩, a4, a5⟩ := x
    obtain ⟨⟨b1, b2, b3⟩, b4, b5⟩ := y
    simp only [encLine, encPlace] at HV HQ HA B1 ⊢
    have hq := HQ.out
    clear h1 HS HO HQ
    go_enter Tryz.func128, Tryz.ntmps128
    go_wp2_with fail
    refine (HA.out _).mono ?_
    rintro e w1 ⟨rfl, b1⟩
    have B2 := Lib.hid (B1.out.trans (b1.mono B1.out.size))
    clear b1
    go_wp2_with fail
    go_ret
    refine ⟨?_, B2.out⟩
    rw [HV.out]; rfl
end Go.Proofs.YthnpemlmfekkgaaGreatDoor
namespace Go.Proofs.YthnpemlmfekkgaaGreatDoor
open Go.RowKit Go.Sort Go.Proofs

/-- A line is of a place and a lot. -/
def isAt (p : PlaceV) (lot : List UInt8) (x : LineV) : Bool := decide (x.1 = p ∧ x.2.1 = lot)
def fndI (l : List LineV) (p : PlaceV) (lot : List UInt8) : Int := match l.findIdx? (isAt p lot) with | some i => (i : Int) | none => -1

set_option maxHeartbeats 1600000 in
set_option maxRecDepth 100000 in
theorem refFind_any (A : Option Addr) (cap : Nat) (l : List LineV) (p : PlaceV) (lot : List UInt8) (w : World) (hrow : RowAt encLine 5 w A l) (hl : l.length ≤ 100000) :
    Calls Tryz.prog 100 #[.agg #[.slice A l.length cap], .agg (encPlace p).toArray, .string ⟨lot.toArray⟩] w fun e w' => e = .returned (.int .i64 (fndI l p lot)) ∧ Below w.heap.size w w' := by
  obtain ⟨N, hN⟩ : ∃ N, N = l.length := ⟨_, rfl⟩
  have HN := Lib.hid hN
  have HROW := Lib.hid hrow
  have HB0 := Lib.hid (below_two w (.cells #[.slice A l.length cap] 69) (.cells (encPlace p).toArray 41))
  have HQ := Lib.hid (fun x : LineV => fun W => eqPlace x.1 p W)
  rw [← hN] at hl HB0 ⊢
  have HF : Hid (∀ k, (∀ j (h : j < l.length), j < k → isAt p lot l[j] = false) → (∀ h : k < l.length, isAt p lot l[k] = true) → fndI l p lot = if k < l.length then (k : Int) else -1) := fun k h1 h2 => by
    unfold fndI
    by_cases hk : k < l.length
    · have : l.findIdx? (isAt p lot) = some k := List.findIdx?_eq_some_iff_getElem.2 ⟨hk, h2 hk, fun j hj => by simpa using h1 j (by omega) hj⟩
      rw [this, if_pos hk]
    · have : l.findIdx? (isAt p lot) = none := by
        rw [List.findIdx?_eq_none_iff]
        intro x hx
        obtain ⟨j, hj, rfl⟩ := List.mem_iff_getElem.1 hx
        exact h1 j hj (by omega)
      rw [this, if_neg hk]
  generalize fndI l p lot = R at HF ⊢
  clear hN hrow
  obtain ⟨p1, p2, p3⟩ := p
  simp only [encPlace] at HB0 HQ ⊢
  have hc0 := cell_of_row _ _ 0 _ _ _ (((below_one (w.alloc (.cells #[.slice A N cap] 69)) (.cells #[.string ⟨p1.toArray⟩, .int .i64 p2, .int .i64 p3] 41)).block w.heap.size (by simp)).trans (heap_alloc_new w (.cells #[.slice A N cap] 69)))
  have hc1 := fun j => cell_of_row _ _ j _ _ _ (heap_new2 w (.cells #[.slice A N cap] 69) (.cells #[.string ⟨p1.toArray⟩, .int .i64 p2, .int .i64 p3] 41))
  have HC0 := Lib.hid hc0
  have HC1 := Lib.hid hc1
  clear hc0 hc1
  go_enter Tryz.func100, Tryz.ntmps100
  go_wp2_with fail
  obtain ⟨W0, hW0⟩ : ∃ W0, W0 = (w.alloc (.cells #[.slice A N cap] 69)).alloc (.cells #[.string ⟨p1.toArray⟩, .int .i64 p2, .int .i64 p3] 41) := ⟨_, rfl⟩
  rw [← hW0] at HB0 HC0 HC1 ⊢
  have hs0 : W0.heap.size = w.heap.size + 2 := by rw [hW0]; simp
  clear hW0
  go_loopw [7] (fun n wr => ∃ k : Nat, k ≤ N ∧ n = .int .i64 k ∧ Hid (∀ j (h : j < l.length), j < k → isAt (p1, p2, p3) lot l[j] = false) ∧ Below W0.heap.size W0 wr) (fun n _ => N - (intOf n).toNat)
  case atStart => exact ⟨0, by omega, rfl, fun j _ h => absurd h (Nat.not_lt_zero _), Below.refl _ _⟩
  case round =>
    obtain ⟨k, hk, rfl, HNO, hb⟩ := hrel
    have HB := Lib.hid hb
    have c0 : wr.cell? ⟨w.heap.size, 0, none⟩ = some (.slice A N cap) := (hb.cell (p := ⟨_, 0, none⟩) (by show w.heap.size < _; omega)).trans HC0.out
    have d0 : wr.cell? ⟨w.heap.size + 1, 0, none⟩ = some (.string ⟨p1.toArray⟩) := (hb.cell (p := ⟨_, 0, none⟩) (by show w.heap.size + 1 < _; omega)).trans (HC1.out 0)
    have d1 : wr.cell? ⟨w.heap.size + 1, 1, none⟩ = some (.int .i64 p2) := (hb.cell (p := ⟨_, 1, none⟩) (by show w.heap.size + 1 < _; omega)).trans (HC1.out 1)
    have d2 : wr.cell? ⟨w.heap.size + 1, 2, none⟩ = some (.int .i64 p3) := (hb.cell (p := ⟨_, 2, none⟩) (by show w.heap.size + 1 < _; omega)).trans (HC1.out 2)
    clear hb
    by_cases hkN : k < N
    · have hkx : k < l.length := by rw [← HN.out]; exact hkN
      obtain ⟨g, o, rfl, lg, cg⟩ := HROW.out.resolve_left (fun h => by rw [h] at hkx; simp at hkx)
      obtain ⟨x, hx⟩ : ∃ x, x = l[k] := ⟨_, rfl⟩
      have r5 := range5L (x := x) (w := wr) (b := g) (o := o + k * 5) (fun cc v hv => by
        have h1 := cg k hkx cc v (by rw [← hx]; exact hv)
        have h2 := (HB0.out.cell (p := ⟨g, o + k * 5 + cc, none⟩) lg).trans h1
        exact (HB.out.cell (p := ⟨g, o + k * 5 + cc, none⟩) (lt_of_cell h2)).trans h2)
      have HX := Lib.hid hx
      have HI := Lib.hid (show isAt (p1, p2, p3) lot x = decide (x.1 = (p1, p2, p3) ∧ x.2.1 = lot) from rfl)
      have hq := HQ.out x
      clear hx cg HQ
      by_cases h1 : x.1 = (p1, p2, p3)
      · rw [decide_eq_true h1] at hq
        by_cases h2 : x.2.1 = lot
        · have HT : Hid (R = (k : Int)) := by
            have := HF.out k HNO.out (fun h => by rw [← HX.out, HI.out, decide_eq_true ⟨h1, h2⟩])
            rw [if_pos hkx] at this
            exact this
          obtain ⟨⟨a1, a2, a3⟩, a4, a5⟩ := x
          obtain ⟨e0, e1, e2, e3, e4⟩ := r5
          simp only at e0 e1 e2 e3 e4 hq h2
          have hb4 : (a4 == lot) = true := by simpa using h2
          clear h1 h2 HF
          go_wp2_with fail
          go_region
          all_goals
            go_wp2
            go_ret
            rw [HT.out]
            exact ⟨rfl, HB0.out.trans ((HB.out.drew).mono (by omega))⟩
        · have HNX : Hid (∀ j (h : j < l.length), j < k + 1 → isAt (p1, p2, p3) lot l[j] = false) := fun j hj hjk => by
            rcases Nat.lt_succ_iff_lt_or_eq.1 hjk with h | rfl
            · exact HNO.out j hj h
            · rw [← HX.out, HI.out, decide_eq_false (fun h => h2 h.2)]
          obtain ⟨⟨a1, a2, a3⟩, a4, a5⟩ := x
          obtain ⟨e0, e1, e2, e3, e4⟩ := r5
          simp only at e0 e1 e2 e3 e4 hq h2
          have hb4 : (a4 == lot) = false := by simpa using h2
          clear h1 h2 HF
          go_wp2_with fail
          go_region
          all_goals
            go_wp2
            go_roundw
            case rel => exact ⟨k + 1, by omega, by go_num, HNX.out, HB.out.drew⟩
            case measure => simp [intOf]; omega
      · have HNX : Hid (∀ j (h : j < l.length), j < k + 1 → isAt (p1, p2, p3) lot l[j] = false) := fun j hj hjk => by
          rcases Nat.lt_succ_iff_lt_or_eq.1 hjk with h | rfl
          · exact HNO.out j hj h
          · rw [← HX.out, HI.out, decide_eq_false (fun h => h1 h.1)]
        rw [decide_eq_false h1] at hq
        obtain ⟨⟨a1, a2, a3⟩, a4, a5⟩ := x
        obtain ⟨e0, e1, e2, e3, e4⟩ := r5
        simp only at e0 e1 e2 e3 e4 hq
        clear h1 HF
        go_wp2_with fail
        go_region
        all_goals
          go_wp2
          go_roundw
          case rel => exact ⟨k + 1, by omega, by go_num, HNX.out, HB.out.drew⟩
          case measure => simp [intOf]; omega
    · obtain rfl : k = N := by omega
      have HT : Hid (R = -1) := by
        have := HF.out k HNO.out (fun h => by rw [← HN.out] at h; omega)
        rw [if_neg (by rw [← HN.out]; omega)] at this
        exact this
      go_wp2_with fail
      go_ret
      rw [HT.out]
      exact ⟨rfl, HB0.out.trans (HB.out.mono (by omega))⟩
end Go.Proofs.YthnpemlmfekkgaaGreatDoor
