/- Plain facts: the document's reading of a numeral, held against strconv's. No program in sight. The document's NumberOf, walked. The document's IsName, walked. tithebarnref1.Decimal: a number's digits, as the document writes them. Strings: less than. -/
import Derived.Lib.ItoaLen
import Derived.Lib.ItoaMem
import Derived.Test.YtmhkcmoepopnoaaGreatDoorM01
import Derived.Test.YtmhkcmoepopnoaaGreatDoorM04
import Derived.Test.YtmhkcmoepopnoaaGreatDoorM07
namespace Go.Proofs.YtmhkcmoepopnoaaGreatDoor
open Go.Lib

def isDig (c : UInt8) : Bool := decide (48 ≤ c.toNat) && decide (c.toNat ≤ 57)
def valN (l : List UInt8) : Nat := l.foldl (fun a c => 10 * a + (c.toNat - 48)) 0
theorem valN_snoc (r : List UInt8) (c : UInt8) : valN (r ++ [c]) = 10 * valN r + (c.toNat - 48) := by simp [valN]
theorem valN_one (c : UInt8) : valN [c] = c.toNat - 48 := by simp [valN]
theorem valN_nil : valN [] = 0 := rfl

theorem snoc_ind {P : List UInt8 → Prop} (h0 : P []) (h1 : ∀ l a, P l → P (l ++ [a])) (l : List UInt8) : P l := by
  have : ∀ r : List UInt8, P r.reverse := fun r => by
    induction r with
    | nil => exact h0
    | cons a r ih => rw [List.reverse_cons]; exact h1 _ _ ih
  have h := this l.reverse
  rwa [List.reverse_reverse] at h

theorem dec_small {u : Nat} (h : u < 10) : decDigits u = [UInt8.ofNat (48 + u)] := by rw [decDigits, dif_pos h]
theorem dec_big {u : Nat} (h : ¬ u < 10) : decDigits u = decDigits (u / 10) ++ [UInt8.ofNat (48 + u % 10)] := by rw [decDigits, dif_neg h]

theorem dec_val (n : Nat) : valN (decDigits n) = n := by
  induction n using Nat.strongRecOn with
  | _ n ih =>
    by_cases h : n < 10
    · rw [dec_small h, valN_one, digit_toNat n h]; omega
    · rw [dec_big h, valN_snoc, ih (n / 10) (by omega), digit_toNat _ (Nat.mod_lt _ (by omega))]; omega
theorem dec_head (n : Nat) (h0 : 0 < n) : (decDigits n).head? ≠ some 48 := by
  induction n using Nat.strongRecOn with
  | _ n ih =>
    by_cases h : n < 10
    · rw [dec_small h]
      simp only [List.head?_cons, ne_eq, Option.some.injEq]
      intro e
      have := congrArg UInt8.toNat e
      rw [digit_toNat n h] at this
      simp at this; omega
    · rw [dec_big h]
      have hne := dec_ne_nil (n / 10)
      have hi := ih (n / 10) (by omega) (by omega)
      cases hd : decDigits (n / 10) with
      | nil => exact absurd hd hne
      | cons x r => rw [hd] at hi; simpa using hi

theorem digits_all (l : List UInt8) : l.all isDig = true ↔ ∀ c ∈ l, 48 ≤ c.toNat ∧ c.toNat ≤ 57 := by
  simp [isDig, List.all_eq_true]
theorem dec_of_val (l : List UInt8) : l.all isDig = true → l ≠ [] → (l.length = 1 ∨ l.head? ≠ some 48) → decDigits (valN l) = l := by
  induction l using snoc_ind with
  | h0 => intro _ h; exact absurd rfl h
  | h1 r c ih =>
    intro ha _ hz
    have ha' := (digits_all _).1 ha
    have hc := ha' c (by simp)
    have hcn : UInt8.ofNat (48 + (c.toNat - 48)) = c := by
      apply UInt8.toNat_inj.1
      rw [digit_toNat _ (by omega)]; omega
    cases r with
    | nil =>
      rw [List.nil_append, valN_one, dec_small (by omega), hcn]
    | cons x q =>
      have hx : x ≠ 48 := by
        rcases hz with hz | hz
        · simp at hz
        · simpa using hz
      have h1 := ih ((digits_all _).2 fun d hd => ha' d (List.mem_append_left _ hd)) (by simp) (.inr (by simpa using hx))
      have hv : 0 < valN (x :: q) := by
        rcases Nat.eq_zero_or_pos (valN (x :: q)) with h | h
        · rw [h, dec_small (by omega)] at h1
          simp at h1
          exact absurd h1.1.symm hx
        · exact h
      rw [valN_snoc, dec_big (by omega), show (10 * valN (x :: q) + (c.toNat - 48)) / 10 = valN (x :: q) by omega, show (10 * valN (x :: q) + (c.toNat - 48)) % 10 = c.toNat - 48 by omega, h1, hcn]
theorem valN_lt (l : List UInt8) (h : l.all isDig = true) : valN l < 10 ^ l.length := by
  induction l using snoc_ind with
  | h0 => simp [valN]
  | h1 r c ih =>
    have ha' := (digits_all _).1 h
    have hc := ha' c (by simp)
    have := ih ((digits_all _).2 fun d hd => ha' d (List.mem_append_left _ hd))
    rw [valN_snoc, List.length_append, List.length_singleton, Nat.pow_succ]; omega

/-- The document's number of a text (-1: none). -/
def refNum (l : List UInt8) (d : Nat) : Int := if l.length < 1 ∨ d < l.length ∨ (1 < l.length ∧ l.head? = some 48) ∨ l.all isDig = false then -1 else (valN l : Int)
theorem refNum_eq (l : List UInt8) (d : Nat) (hd : d ≤ 18) : refNum l d = match numQ l d with | some n => (n : Int) | none => -1 := by
  unfold refNum
  split
  · rename_i h
    cases hq : numQ l d with
    | none => rfl
    | some n =>
      exfalso
      obtain ⟨h1, h2, h3⟩ := (numQ_iff l d n).1 hq
      rcases h with h | h | ⟨h, h'⟩ | h
      · have := dec_ne_nil n
        rw [← h1] at this
        cases l <;> simp_all
      · omega
      · rcases Nat.eq_zero_or_pos n with h0 | h0
        · subst h0
          rw [h1, dec_small (by omega)] at h
          simp at h
        · rw [h1] at h'; exact dec_head n h0 h'
      · have : l.all isDig = true := (digits_all l).2 (by rw [h1]; exact dec_digit n)
        rw [h] at this; cases this
  · rename_i h
    have hn : l ≠ [] := by rintro rfl; simp at h
    have ha : l.all isDig = true := by
      cases hh : l.all isDig
      · exact absurd (.inr (.inr (.inr hh))) h
      · rfl
    have hz : l.length = 1 ∨ l.head? ≠ some 48 := by
      by_cases h1 : l.length = 1
      · exact .inl h1
      · refine .inr fun h2 => h (.inr (.inr (.inl ⟨?_, h2⟩)))
        have := List.length_pos_iff.2 hn
        omega
    have hd1 := dec_of_val l ha hn hz
    have hl : l.length ≤ d := by omega
    have hv := valN_lt l ha
    have : 10 ^ l.length ≤ 10 ^ 18 := Nat.pow_le_pow_right (by omega) (by omega)
    rw [(numQ_iff l d (valN l)).2 ⟨hd1.symm, hl, by omega⟩]
end Go.Proofs.YtmhkcmoepopnoaaGreatDoor
namespace Go.Proofs.YtmhkcmoepopnoaaGreatDoor
open Go.RowKit

theorem ret_i64 {a b : Int} (h : a = b) : Ending.returned (.int .i64 a) = .returned (.int .i64 b) := by rw [h]
theorem take_snocL (l : List UInt8) (k : Nat) (h : k < l.length) : l.take (k + 1) = l.take k ++ [l[k]] := List.take_succ_eq_append_getElem h
/-- The first bytes of a text. -/
def bts (s : ByteArray) : List UInt8 := s.data.toList
theorem bts_length (s : ByteArray) : (bts s).length = s.size := rfl
theorem bts_get (s : ByteArray) (k : Nat) (h : k < s.size) : (bts s)[k]'(by rw [bts_length]; exact h) = s[k] := rfl
theorem bts_snoc (s : ByteArray) (k : Nat) (h : k < s.size) : (bts s).take (k + 1) = (bts s).take k ++ [s[k]] := take_snocL (bts s) k (by rw [bts_length]; exact h)
theorem bts_all (s : ByteArray) : (bts s).take s.size = bts s := List.take_of_length_le (by rw [bts_length]; exact Nat.le_refl _)
theorem bts_head (s : ByteArray) (h : 0 < s.size) : (bts s).head? = some s[0] := by
  rw [← bts_get s 0 h]
  have h' : 0 < (bts s).length := by rw [bts_length]; exact h
  rw [List.head?_eq_getElem?, List.getElem?_eq_getElem h']
theorem all_false {p : UInt8 → Bool} (s : ByteArray) (k : Nat) (h : k < s.size) (hc : p s[k] = false) : (bts s).all p = false := by
  cases ha : (bts s).all p
  · rfl
  · have := List.all_eq_true.1 ha _ (List.getElem_mem (by rw [bts_length]; exact h) : (bts s)[k]'(by rw [bts_length]; exact h) ∈ bts s)
    rw [bts_get s k h, hc] at this; cases this
theorem all_snoc {p : UInt8 → Bool} (s : ByteArray) (k : Nat) (h : k < s.size) (ha : ((bts s).take k).all p = true) (hc : p s[k] = true) : ((bts s).take (k + 1)).all p = true := by
  rw [bts_snoc s k h, List.all_append, ha]; simp [hc]

set_option maxHeartbeats 1000000 in
theorem refNumberB (s : ByteArray) (d : Nat) (hd : d ≤ 18) (hl : s.size ≤ 1000000000) (w : World) :
    Calls Tryz.prog 53 #[.string s, .int .i64 d] w fun e w' => e = .returned (.int .i64 (refNum (bts s) d)) ∧ w = w' := by
  by_cases h1 : s.size < 1
  · have HR := Lib.hid (show refNum (bts s) d = -1 by unfold refNum; rw [if_pos (.inl h1)])
    go_enter Tryz.func53, Tryz.ntmps53
    go_wp2
    go_ret
    exact ⟨ret_i64 HR.out.symm, rfl⟩
  by_cases h2 : d < s.size
  · have HR := Lib.hid (show refNum (bts s) d = -1 by unfold refNum; rw [if_pos (.inr (.inl h2))])
    go_enter Tryz.func53, Tryz.ntmps53
    go_wp2
    go_ret
    exact ⟨ret_i64 HR.out.symm, rfl⟩
  have hb1 : 0 < s.size := by omega
  have HH := Lib.hid (bts_head s hb1)
  by_cases h3 : 1 < s.size ∧ s[0] = 48
  · obtain ⟨h4, h5⟩ := h3
    have HR := Lib.hid (show refNum (bts s) d = -1 by unfold refNum; rw [if_pos (.inr (.inr (.inl ⟨h4, by rw [HH.out, h5]⟩)))])
    have hb0 : ((s[0].toNat : Int) == 48) = true := by rw [h5]; rfl
    clear h5
    go_enter Tryz.func53, Tryz.ntmps53
    go_wp2
    go_ret
    exact ⟨ret_i64 HR.out.symm, rfl⟩
  have HEq : Hid (refNum (bts s) d = if (bts s).all isDig = false then -1 else (valN (bts s) : Int)) := by
    show _ = _
    unfold refNum
    have e : (bts s).length = s.size := rfl
    by_cases ha : (bts s).all isDig = false
    · rw [if_pos (.inr (.inr (.inr ha))), if_pos ha]
    · rw [if_neg (by
        rintro (h | h | ⟨h, h'⟩ | h)
        · omega
        · omega
        · rw [HH.out] at h'
          exact h3 ⟨h, by simpa using h'⟩
        · exact ha h), if_neg ha]
  have hz : ¬ 1 < s.size ∨ (1 < s.size ∧ ((s[0].toNat : Int) == 48) = false) := by
    by_cases h4 : 1 < s.size
    · refine .inr ⟨h4, ?_⟩
      have : s[0] ≠ 48 := fun h0 => h3 ⟨h4, h0⟩
      have : s[0].toNat ≠ 48 := fun h0 => this (UInt8.toNat_inj.1 h0)
      simpa using by omega
    · exact .inl h4
  clear h3
  have hl18 : s.size ≤ 18 := by omega
  rcases hz with hz | ⟨hz, hz'⟩
  all_goals
    go_enter Tryz.func53, Tryz.ntmps53
    go_wp2
    go_loop [5, 6] (fun n i => ∃ k : Nat, k ≤ s.size ∧ i = .int .i64 k ∧ n = .int .i64 (valN ((bts s).take k)) ∧ Hid (((bts s).take k).all isDig = true)) (fun _ i => s.size - (intOf i).toNat)
    case atStart => exact ⟨0, by omega, rfl, rfl, rfl⟩
    case round =>
      obtain ⟨k, hk, rfl, rfl, HA⟩ := hrel
      by_cases hlt : k < s.size
      · have hv := valN_lt ((bts s).take k) HA.out
        have hv2 : 10 ^ ((bts s).take k).length ≤ 10 ^ 17 := Nat.pow_le_pow_right (by omega) (by rw [List.length_take]; omega)
        have hv4 : (valN ((bts s).take k) : Int) ≤ 100000000000000000 := by omega
        have hv5 : (0 : Int) ≤ (valN ((bts s).take k) : Int) := Int.natCast_nonneg _
        clear hv hv2
        have HS := Lib.hid (bts_snoc s k hlt)
        by_cases hlo : s[k].toNat < 48
        · have HF := Lib.hid (all_false (p := isDig) s k hlt (by unfold isDig; simp; omega))
          have hlo' : (s[k].toNat : Int) < 48 := by omega
          clear hlo HS
          go_wp2
          go_ret
          exact ⟨ret_i64 (by rw [HEq.out, if_pos HF.out]), rfl⟩
        by_cases hhi : 57 < s[k].toNat
        · have HF := Lib.hid (all_false (p := isDig) s k hlt (by unfold isDig; simp; omega))
          have hlo' : ¬ (s[k].toNat : Int) < 48 := by omega
          have hhi' : 57 < (s[k].toNat : Int) := by omega
          clear hlo hhi HS
          go_wp2
          go_ret
          exact ⟨ret_i64 (by rw [HEq.out, if_pos HF.out]), rfl⟩
        have HD := Lib.hid (show isDig s[k] = true by unfold isDig; simp; omega)
        have hlo' : 48 ≤ (s[k].toNat : Int) := by omega
        have hhi' : (s[k].toNat : Int) ≤ 57 := by omega
        clear hlo hhi
        go_wp2
        go_round
        case rel =>
          refine ⟨k + 1, by omega, by go_num, ?_, Lib.hid (all_snoc s k hlt HA.out HD.out)⟩
          rw [HS.out, valN_snoc]; go_num
        case measure => simp [intOf]; omega
      · obtain rfl : k = s.size := by omega
        have ha := HA.out
        rw [bts_all] at ha
        have HT := Lib.hid (bts_all s)
        have HA2 := Lib.hid ha
        clear ha
        go_wp2
        go_ret
        refine ⟨ret_i64 ?_, rfl⟩
        rw [HEq.out, HT.out, if_neg (by rw [HA2.out]; simp)]
theorem refNumber_any (l : List UInt8) (d : Nat) (hd : d ≤ 18) (hl : l.length ≤ 1000000000) (w : World) :
    Calls Tryz.prog 53 #[.string ⟨l.toArray⟩, .int .i64 d] w fun e w' => e = .returned (.int .i64 (refNum l d)) ∧ w = w' :=
  refNumberB ⟨l.toArray⟩ d hd (by simpa [ByteArray.size] using hl) w
end Go.Proofs.YtmhkcmoepopnoaaGreatDoor
namespace Go.Proofs.YtmhkcmoepopnoaaGreatDoor
open Go.RowKit

theorem nameB_no (s : ByteArray) (h : (bts s).all alnum = false) : nameB (bts s) = false := by
  unfold nameB
  rw [h]; simp
theorem nameB_yes (s : ByteArray) (h : (bts s).all alnum = true) : nameB (bts s) = decide (1 ≤ s.size ∧ s.size ≤ 8) := by
  unfold nameB
  rw [h]
  have e : (bts s).length = s.size := rfl
  have : (bts s).isEmpty = decide (s.size = 0) := by
    rw [← e]
    cases bts s with
    | nil => rfl
    | cons x r => simp
  rw [this, e]
  by_cases h0 : s.size = 0
  · simp [h0]
  · have h1 : 1 ≤ s.size := by omega
    simp [h0, h1]

set_option maxHeartbeats 1000000 in
theorem isNameB (s : ByteArray) (hl : s.size ≤ 1000000000) (w : World) :
    Calls Tryz.prog 35 #[.string s] w fun e w' => e = .returned (.bool (nameB (bts s))) ∧ w = w' := by
  go_enter Tryz.func35, Tryz.ntmps35
  go_wp2
  go_loop [3, 4, 5] (fun i _ _ => ∃ k : Nat, k ≤ s.size ∧ i = .int .i64 k ∧ Hid (((bts s).take k).all alnum = true)) (fun i _ _ => s.size - (intOf i).toNat)
  case atStart => exact ⟨0, by omega, rfl, rfl⟩
  case round =>
    obtain ⟨k, hk, rfl, HA⟩ := hrel
    by_cases hlt : k < s.size
    · have HY := Lib.hid (fun h => all_snoc (p := alnum) s k hlt HA.out h)
      have HF := Lib.hid (fun h => nameB_no s (all_false (p := alnum) s k hlt h))
      have HAL := Lib.hid (show alnum s[k] = ((decide (97 ≤ s[k].toNat) && decide (s[k].toNat ≤ 122)) || (decide (48 ≤ s[k].toNat) && decide (s[k].toNat ≤ 57))) from rfl)
      by_cases h1 : 97 ≤ s[k].toNat
      · have i1 : 97 ≤ (s[k].toNat : Int) := by omega
        have j1 : 48 ≤ (s[k].toNat : Int) := by omega
        have j2 : ¬ (s[k].toNat : Int) ≤ 57 := by omega
        by_cases h2 : s[k].toNat ≤ 122
        · have i2 : (s[k].toNat : Int) ≤ 122 := by omega
          have HD := Lib.hid (HY.out (by rw [HAL.out]; simp; omega))
          clear h1 h2
          go_wp2
          go_round
          case rel => exact ⟨k + 1, by omega, by go_num, HD⟩
          case measure => simp [intOf]; omega
        · have i2 : ¬ (s[k].toNat : Int) ≤ 122 := by omega
          have HD := Lib.hid (HF.out (by rw [HAL.out]; simp; omega))
          clear h1 h2
          go_wp2
          go_ret
          exact ⟨by rw [HD.out]; rfl, rfl⟩
      · have i1 : ¬ 97 ≤ (s[k].toNat : Int) := by omega
        by_cases h2 : 48 ≤ s[k].toNat
        · have i2 : 48 ≤ (s[k].toNat : Int) := by omega
          by_cases h3 : s[k].toNat ≤ 57
          · have i3 : (s[k].toNat : Int) ≤ 57 := by omega
            have HD := Lib.hid (HY.out (by rw [HAL.out]; simp; omega))
            clear h1 h2 h3
            go_wp2
            go_round
            case rel => exact ⟨k + 1, by omega, by go_num, HD⟩
            case measure => simp [intOf]; omega
          · have i3 : ¬ (s[k].toNat : Int) ≤ 57 := by omega
            have HD := Lib.hid (HF.out (by rw [HAL.out]; simp; omega))
            clear h1 h2 h3
            go_wp2
            go_ret
            exact ⟨by rw [HD.out]; rfl, rfl⟩
        · have i2 : ¬ 48 ≤ (s[k].toNat : Int) := by omega
          have HD := Lib.hid (HF.out (by rw [HAL.out]; simp; omega))
          clear h1 h2
          go_wp2
          go_ret
          exact ⟨by rw [HD.out]; rfl, rfl⟩
    · obtain rfl : k = s.size := by omega
      have ha := HA.out
      rw [bts_all] at ha
      have HN := Lib.hid (nameB_yes s ha)
      clear ha
      by_cases h1 : 1 ≤ s.size
      · by_cases h8 : s.size ≤ 8
        · have hd8 : decide ((s.size : Int) ≤ 8) = true := by simp; omega
          have HM := Lib.hid (show nameB (bts s) = true by rw [HN.out, decide_eq_true ⟨h1, h8⟩])
          go_wp2
          go_ret
          exact ⟨by rw [HM.out]; rfl, rfl⟩
        · have hd8 : decide ((s.size : Int) ≤ 8) = false := by simp; omega
          have HM := Lib.hid (show nameB (bts s) = false by rw [HN.out]; simp; omega)
          go_wp2
          go_ret
          exact ⟨by rw [HM.out]; rfl, rfl⟩
      · have hd1 : decide (1 ≤ (s.size : Int)) = false := by simp; omega
        have HM := Lib.hid (show nameB (bts s) = false by rw [HN.out]; simp; omega)
        go_wp2
        go_ret
        exact ⟨by rw [HM.out]; rfl, rfl⟩
theorem isName_any (l : List UInt8) (hl : l.length ≤ 1000000000) (w : World) :
    Calls Tryz.prog 35 #[.string ⟨l.toArray⟩] w fun e w' => e = .returned (.bool (nameB l)) ∧ w = w' :=
  isNameB ⟨l.toArray⟩ (by simpa [ByteArray.size] using hl) w
end Go.Proofs.YtmhkcmoepopnoaaGreatDoor
namespace Go.Proofs.YtmhkcmoepopnoaaGreatDoor
open Go.RowKit

set_option maxRecDepth 100000 in
theorem byte_any (n : Int) (h0 : 0 ≤ n) (h1 : n < 128) (w : World) : Calls Tryz.prog 119 #[.int .i64 n] w fun e w' => e = .returned (.string ⟨#[UInt8.ofNat n.toNat]⟩) ∧ Below w.heap.size w w' := by
  have kc : (convert 110 9 (.slice (some ⟨w.heap.size, 0, none⟩) 1 1)).run Tryz.prog (w.alloc (.cells #[.int .u8 n] 5)) = .ok (.string ⟨#[UInt8.ofNat n.toNat]⟩) (w.alloc (.cells #[.int .u8 n] 5)) := run_convert_bytes_back (P := Tryz.prog) (w.alloc (.cells #[.int .u8 n] 5)) 110 9 5 ⟨w.heap.size, 0, none⟩ 1 [UInt8.ofNat n.toNat] Tryz.underlying110 Tryz.underlying5 Tryz.underlying9 (by
    intro j hj
    match j, hj with
    | 0, _ =>
      rw [Addr.add_zero', show (w.alloc (.cells #[.int .u8 n] 5)).cell? ⟨w.heap.size, 0, none⟩ = some (.int .u8 n) from cell_of_row _ _ 0 _ _ _ (heap_alloc_new w _)]
      congr 2
      simp only [List.getElem_cons_zero, UInt8.toNat_ofNat']
      omega)
  go_enter Tryz.func119, Tryz.ntmps119
  go_wp2
  go_ret
  exact ⟨rfl, (Below.refl _ _).alloc (Nat.le_refl _) _⟩

/-- below: the digits of a number that is not above 0. -/
theorem below_ind (u : Nat) : ∀ (w : World), u ≤ 9223372036854775807 → Calls Tryz.prog 91 #[.int .i64 (-(u : Int))] w fun e w' => e = .returned (.string ⟨(Lib.decDigits u).toArray⟩) ∧ Below w.heap.size w w' := by
  induction u using Nat.strongRecOn with
  | ind u ih =>
    intro w hu
    by_cases h : u < 10
    · have hb := byte_any (48 + u) (by omega) (by omega)
      have e : Lib.decDigits u = [UInt8.ofNat (48 + u)] := Lib.decDigits_one h
      have e1 : (48 : Int) - (-(u : Int)) = 48 + u := by omega
      have e2 : ((48 : Int) + (u : Int)).toNat = 48 + u := by omega
      have HE := Lib.hid e
      have HE2 := Lib.hid e2
      have HB := Lib.hid hb
      have hlt : -10 < -(u : Int) := by omega
      clear e e2 hb ih
      go_enter Tryz.func91, Tryz.ntmps91
      go_wp2_with fail
      refine (HB.out _).mono ?_
      rintro e w1 ⟨rfl, b1⟩
      go_wp2
      go_ret
      refine ⟨?_, b1⟩
      show Ending.returned (.string ⟨#[UInt8.ofNat ((48 : Int) + (u : Int)).toNat]⟩) = _
      rw [HE.out, HE2.out]
    · have e : Lib.decDigits u = Lib.decDigits (u / 10) ++ [UInt8.ofNat (48 + u % 10)] := by rw [Lib.decDigits, dif_neg h]
      have hq : (-(u : Int)).tdiv 10 = -((u / 10 : Nat) : Int) := by rw [Int.neg_tdiv, Int.tdiv_eq_ediv_of_nonneg (by omega)]; omega
      have hr : (-(u : Int)).tmod 10 = -((u % 10 : Nat) : Int) := by rw [Int.neg_tmod, Int.tmod_eq_emod_of_nonneg (by omega)]; omega
      have hi := ih (u / 10) (by omega)
      have hb := byte_any (48 + (u % 10 : Nat)) (by omega) (by omega)
      have e1 : (48 : Int) - (-((u % 10 : Nat) : Int)) = 48 + (u % 10 : Nat) := by omega
      have e2 : ((48 : Int) + ((u % 10 : Nat) : Int)).toNat = 48 + u % 10 := by omega
      have hlt : ¬ (-10 < -(u : Int)) := by omega
      have HE := Lib.hid e
      have HE2 := Lib.hid e2
      have HB := Lib.hid hb
      have HI := Lib.hid hi
      have hl : (Lib.decDigits (u / 10)).length ≤ 21 := by
        have := Lib.itoa_length_le ((u / 10 : Nat) : Int) (by omega) (by omega)
        rw [Lib.itoa_nonneg] at this
        exact this
      clear e e2 hb ih hi
      go_enter Tryz.func91, Tryz.ntmps91
      go_wp2_with fail
      rw [show -((u : Int) / 10) = -((u / 10 : Nat) : Int) by omega]
      refine (HI.out _ (by omega)).mono ?_
      rintro e w1 ⟨rfl, b1⟩
      go_wp2_with fail
      rw [show (48 : Int) + (u : Int) % 10 = 48 + ((u % 10 : Nat) : Int) by omega]
      refine (HB.out _).mono ?_
      rintro e w2 ⟨rfl, b2⟩
      rw [HE2.out]
      go_wp2
      go_ret
      refine ⟨?_, b1.trans (b2.mono b1.size)⟩
      show Ending.returned (.string ((⟨(Lib.decDigits (u / 10)).toArray⟩ : ByteArray) ++ (⟨#[48 + UInt8.ofNat (u % 10)]⟩ : ByteArray))) = _
      rw [HE.out, ← mk_app, show UInt8.ofNat (48 + u % 10) = 48 + UInt8.ofNat (u % 10) from UInt8.ofNat_add _ _]

/-- Decimal is the number's numeral. -/
theorem decimal_nat (u : Nat) (hu : u ≤ 9223372036854775807) (w : World) : Calls Tryz.prog 66 #[.int .i64 (u : Nat)] w fun e w' => e = .returned (.string ⟨(Lib.itoa u).toArray⟩) ∧ Below w.heap.size w w' := by
  have HB := Lib.hid (fun w => below_ind u w hu)
  have hu0 : ¬ ((u : Int) < 0) := by omega
  go_enter Tryz.func66, Tryz.ntmps66
  go_wp2_with fail
  refine (HB.out _).mono ?_
  rintro e w1 ⟨rfl, b1⟩
  go_wp2
  go_ret
  refine ⟨?_, b1⟩
  rw [Lib.itoa_nonneg]; rfl
end Go.Proofs.YtmhkcmoepopnoaaGreatDoor
namespace Go.Proofs.YtmhkcmoepopnoaaGreatDoor
open Go.RowKit

theorem less_cmp (a : List UInt8) : ∀ b, Op.bytesLess a b = decide (Lib.compareBytes a b < 0) := by
  induction a with
  | nil => intro b; cases b <;> simp [Op.bytesLess, Lib.compareBytes]
  | cons x r ih =>
    intro b
    cases b with
    | nil => simp [Op.bytesLess, Lib.compareBytes]
    | cons y s =>
      simp only [Op.bytesLess, Lib.compareBytes, ih]
      by_cases h1 : x < y
      · simp [h1]
      · by_cases h2 : y < x
        · have h3 : ¬ x = y := fun e => by subst e; exact h1 h2
          simp [h1, h2, h3]
        · have h3 : x = y := by
            have a1 : ¬ x.toNat < y.toNat := h1
            have a2 : ¬ y.toNat < x.toNat := h2
            exact UInt8.toNat_inj.1 (by omega)
          subst h3
          simp [h1]

end Go.Proofs.YtmhkcmoepopnoaaGreatDoor
