/- The document's NumberOf, walked. -/
import Derived.Test.YtllcddlflcpmbaaGreatDoorRNum
import Derived.Test.YtllcddlflcpmbaaGreatDoorBase
namespace Go.Proofs.YtllcddlflcpmbaaGreatDoor
open Go.RowKit

theorem ret_i64 {a b : Int} (h : a = b) : Ending.returned (.int .i64 a) = .returned (.int .i64 b) := by rw [h]
theorem take_snocL (l : List UInt8) (k : Nat) (h : k < l.length) : l.take (k + 1) = l.take k ++ [l[k]] := List.take_succ_eq_append_getElem h
/-- The first bytes of a text. -/
def bts (s : ByteArray) : List UInt8 := s.data.toList
theorem bts_length (s : ByteArray) : (bts s).length = s.size := rfl
theorem bts_get (s : ByteArray) (k : Nat) (h : k < s.size) : (bts s)[k]'(by rw [bts_length]; exact h) = s[k] := rfl
theorem bts_snoc (s : ByteArray) (k : Nat) (h : k < s.size) : (bts s).take (k + 1) = (bts s).take k ++ [s[k]] := take_snocL (bts s) k (by rw [bts_length]; exact h)
theorem bts_all (s : ByteArray) : (bts s).take s.size = bts s := List.take_of_length_le (by rw [bts_length]; exact Nat.le_refl _)
theorem bts_head (s : ByteArray) (h : 0 < s.size) : (bts s).head? = some s[0] := by
  rw [← bts_get s 0 h]
  have h' : 0 < (bts s).length := by rw [bts_length]; exact h
  rw [List.head?_eq_getElem?, List.getElem?_eq_getElem h']
theorem all_false {p : UInt8 → Bool} (s : ByteArray) (k : Nat) (h : k < s.size) (hc : p s[k] = false) : (bts s).all p = false := by
  cases ha : (bts s).all p
  · rfl
  · have := List.all_eq_true.1 ha _ (List.getElem_mem (by rw [bts_length]; exact h) : (bts s)[k]'(by rw [bts_length]; exact h) ∈ bts s)
    rw [bts_get s k h, hc] at this; cases this
theorem all_snoc {p : UInt8 → Bool} (s : ByteArray) (k : Nat) (h : k < s.size) (ha : ((bts s).take k).all p = true) (hc : p s[k] = true) : ((bts s).take (k + 1)).all p = true := by
  rw [bts_snoc s k h, List.all_append, ha]; simp [hc]

set_option maxHeartbeats 1000000 in
theorem refNumberB (s : ByteArray) (d : Nat) (hd : d ≤ 18) (hl : s.size ≤ 1000000000) (w : World) :
    Calls Tryz.prog 27 #[.string s, .int .i64 d] w fun e w' => e = .returned (.int .i64 (refNum (bts s) d)) ∧ w = w' := by
  by_cases h1 : s.size < 1
  · have HR := Lib.hid (show refNum (bts s) d = -1 by unfold refNum; rw [if_pos (.inl h1)])
    go_enter Tryz.func27, Tryz.ntmps27
    go_wp2
    go_ret
    exact ⟨ret_i64 HR.out.symm, rfl⟩
  by_cases h2 : d < s.size
  · have HR := Lib.hid (show refNum (bts s) d = -1 by unfold refNum; rw [if_pos (.inr (.inl h2))])
    go_enter Tryz.func27, Tryz.ntmps27
    go_wp2
    go_ret
    exact ⟨ret_i64 HR.out.symm, rfl⟩
  have hb1 : 0 < s.size := by omega
  have HH := Lib.hid (bts_head s hb1)
  by_cases h3 : 1 < s.size ∧ s[0] = 48
  · obtain ⟨h4, h5⟩ := h3
    have HR := Lib.hid (show refNum (bts s) d = -1 by unfold refNum; rw [if_pos (.inr (.inr (.inl ⟨h4, by rw [HH.out, h5]⟩)))])
    have hb0 : ((s[0].toNat : Int) == 48) = true := by rw [h5]; rfl
    clear h5
    go_enter Tryz.func27, Tryz.ntmps27
    go_wp2
    go_ret
    exact ⟨ret_i64 HR.out.symm, rfl⟩
  have HEq : Hid (refNum (bts s) d = if (bts s).all isDig = false then -1 else (valN (bts s) : Int)) := by
    show _ = _
    unfold refNum
    have e : (bts s).length = s.size := rfl
    by_cases ha : (bts s).all isDig = false
    · rw [if_pos (.inr (.inr (.inr ha))), if_pos ha]
    · rw [if_neg (by
        rintro (h | h | ⟨h, h'⟩ | h)
        · omega
        · omega
        · rw [HH.out] at h'
          exact h3 ⟨h, by simpa using h'⟩
        · exact ha h), if_neg ha]
  have hz : ¬ 1 < s.size ∨ (1 < s.size ∧ ((s[0].toNat : Int) == 48) = false) := by
    by_cases h4 : 1 < s.size
    · refine .inr ⟨h4, ?_⟩
      have : s[0] ≠ 48 := fun h0 => h3 ⟨h4, h0⟩
      have : s[0].toNat ≠ 48 := fun h0 => this (UInt8.toNat_inj.1 h0)
      simpa using by omega
    · exact .inl h4
  clear h3
  have hl18 : s.size ≤ 18 := by omega
  rcases hz with hz | ⟨hz, hz'⟩
  all_goals
    go_enter Tryz.func27, Tryz.ntmps27
    go_wp2
    go_loop [5, 6] (fun n i => ∃ k : Nat, k ≤ s.size ∧ i = .int .i64 k ∧ n = .int .i64 (valN ((bts s).take k)) ∧ Hid (((bts s).take k).all isDig = true)) (fun _ i => s.size - (intOf i).toNat)
    case atStart => exact ⟨0, by omega, rfl, rfl, rfl⟩
    case round =>
      obtain ⟨k, hk, rfl, rfl, HA⟩ := hrel
      by_cases hlt : k < s.size
      · have hv := valN_lt ((bts s).take k) HA.out
        have hv2 : 10 ^ ((bts s).take k).length ≤ 10 ^ 17 := Nat.pow_le_pow_right (by omega) (by rw [List.length_take]; omega)
        have hv4 : (valN ((bts s).take k) : Int) ≤ 100000000000000000 := by omega
        have hv5 : (0 : Int) ≤ (valN ((bts s).take k) : Int) := Int.natCast_nonneg _
        clear hv hv2
        have HS := Lib.hid (bts_snoc s k hlt)
        by_cases hlo : s[k].toNat < 48
        · have HF := Lib.hid (all_false (p := isDig) s k hlt (by unfold isDig; simp; omega))
          have hlo' : (s[k].toNat : Int) < 48 := by omega
          clear hlo HS
          go_wp2
          go_ret
          exact ⟨ret_i64 (by rw [HEq.out, if_pos HF.out]), rfl⟩
        by_cases hhi : 57 < s[k].toNat
        · have HF := Lib.hid (all_false (p := isDig) s k hlt (by unfold isDig; simp; omega))
          have hlo' : ¬ (s[k].toNat : Int) < 48 := by omega
          have hhi' : 57 < (s[k].toNat : Int) := by omega
          clear hlo hhi HS
          go_wp2
          go_ret
          exact ⟨ret_i64 (by rw [HEq.out, if_pos HF.out]), rfl⟩
        have HD := Lib.hid (show isDig s[k] = true by unfold isDig; simp; omega)
        have hlo' : 48 ≤ (s[k].toNat : Int) := by omega
        have hhi' : (s[k].toNat : Int) ≤ 57 := by omega
        clear hlo hhi
        go_wp2
        go_round
        case rel =>
          refine ⟨k + 1, by omega, by go_num, ?_, Lib.hid (all_snoc s k hlt HA.out HD.out)⟩
          rw [HS.out, valN_snoc]; go_num
        case measure => simp [intOf]; omega
      · obtain rfl : k = s.size := by omega
        have ha := HA.out
        rw [bts_all] at ha
        have HT := Lib.hid (bts_all s)
        have HA2 := Lib.hid ha
        clear ha
        go_wp2
        go_ret
        refine ⟨ret_i64 ?_, rfl⟩
        rw [HEq.out, HT.out, if_neg (by rw [HA2.out]; simp)]
theorem refNumber_any (l : List UInt8) (d : Nat) (hd : d ≤ 18) (hl : l.length ≤ 1000000000) (w : World) :
    Calls Tryz.prog 27 #[.string ⟨l.toArray⟩, .int .i64 d] w fun e w' => e = .returned (.int .i64 (refNum l d)) ∧ w = w' :=
  refNumberB ⟨l.toArray⟩ d hd (by simpa [ByteArray.size] using hl) w
end Go.Proofs.YtllcddlflcpmbaaGreatDoor
