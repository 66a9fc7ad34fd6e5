/- The document's IsName, walked. -/
import Derived.Test.YtllcddlflcpmbaaGreatDoorName
import Derived.Test.YtllcddlflcpmbaaGreatDoorRNumber
namespace Go.Proofs.YtllcddlflcpmbaaGreatDoor
open Go.RowKit

theorem nameB_no (s : ByteArray) (h : (bts s).all alnum = false) : nameB (bts s) = false := by
  unfold nameB
  rw [h]; simp
theorem nameB_yes (s : ByteArray) (h : (bts s).all alnum = true) : nameB (bts s) = decide (1 ≤ s.size ∧ s.size ≤ 8) := by
  unfold nameB
  rw [h]
  have e : (bts s).length = s.size := rfl
  have : (bts s).isEmpty = decide (s.size = 0) := by
    rw [← e]
    cases bts s with
    | nil => rfl
    | cons x r => simp
  rw [this, e]
  by_cases h0 : s.size = 0
  · simp [h0]
  · have h1 : 1 ≤ s.size := by omega
    simp [h0, h1]

set_option maxHeartbeats 1000000 in
theorem isNameB (s : ByteArray) (hl : s.size ≤ 1000000000) (w : World) :
    Calls Tryz.prog 31 #[.string s] w fun e w' => e = .returned (.bool (nameB (bts s))) ∧ w = w' := by
  go_enter Tryz.func31, Tryz.ntmps31
  go_wp2
  go_loop [3, 4, 5] (fun i _ _ => ∃ k : Nat, k ≤ s.size ∧ i = .int .i64 k ∧ Hid (((bts s).take k).all alnum = true)) (fun i _ _ => s.size - (intOf i).toNat)
  case atStart => exact ⟨0, by omega, rfl, rfl⟩
  case round =>
    obtain ⟨k, hk, rfl, HA⟩ := hrel
    by_cases hlt : k < s.size
    · have HY := Lib.hid (fun h => all_snoc (p := alnum) s k hlt HA.out h)
      have HF := Lib.hid (fun h => nameB_no s (all_false (p := alnum) s k hlt h))
      have HAL := Lib.hid (show alnum s[k] = ((decide (97 ≤ s[k].toNat) && decide (s[k].toNat ≤ 122)) || (decide (48 ≤ s[k].toNat) && decide (s[k].toNat ≤ 57))) from rfl)
      by_cases h1 : 97 ≤ s[k].toNat
      · have i1 : 97 ≤ (s[k].toNat : Int) := by omega
        have j1 : 48 ≤ (s[k].toNat : Int) := by omega
        have j2 : ¬ (s[k].toNat : Int) ≤ 57 := by omega
        by_cases h2 : s[k].toNat ≤ 122
        · have i2 : (s[k].toNat : Int) ≤ 122 := by omega
          have HD := Lib.hid (HY.out (by rw [HAL.out]; simp; omega))
          clear h1 h2
          go_wp2
          go_round
          case rel => exact ⟨k + 1, by omega, by go_num, HD⟩
          case measure => simp [intOf]; omega
        · have i2 : ¬ (s[k].toNat : Int) ≤ 122 := by omega
          have HD := Lib.hid (HF.out (by rw [HAL.out]; simp; omega))
          clear h1 h2
          go_wp2
          go_ret
          exact ⟨by rw [HD.out]; rfl, rfl⟩
      · have i1 : ¬ 97 ≤ (s[k].toNat : Int) := by omega
        by_cases h2 : 48 ≤ s[k].toNat
        · have i2 : 48 ≤ (s[k].toNat : Int) := by omega
          by_cases h3 : s[k].toNat ≤ 57
          · have i3 : (s[k].toNat : Int) ≤ 57 := by omega
            have HD := Lib.hid (HY.out (by rw [HAL.out]; simp; omega))
            clear h1 h2 h3
            go_wp2
            go_round
            case rel => exact ⟨k + 1, by omega, by go_num, HD⟩
            case measure => simp [intOf]; omega
          · have i3 : ¬ (s[k].toNat : Int) ≤ 57 := by omega
            have HD := Lib.hid (HF.out (by rw [HAL.out]; simp; omega))
            clear h1 h2 h3
            go_wp2
            go_ret
            exact ⟨by rw [HD.out]; rfl, rfl⟩
        · have i2 : ¬ 48 ≤ (s[k].toNat : Int) := by omega
          have HD := Lib.hid (HF.out (by rw [HAL.out]; simp; omega))
          clear h1 h2
          go_wp2
          go_ret
          exact ⟨by rw [HD.out]; rfl, rfl⟩
    · obtain rfl : k = s.size := by omega
      have ha := HA.out
      rw [bts_all] at ha
      have HN := Lib.hid (nameB_yes s ha)
      clear ha
      by_cases h1 : 1 ≤ s.size
      · by_cases h8 : s.size ≤ 8
        · have hd8 : decide ((s.size : Int) ≤ 8) = true := by simp; omega
          have HM := Lib.hid (show nameB (bts s) = true by rw [HN.out, decide_eq_true ⟨h1, h8⟩])
          go_wp2
          go_ret
          exact ⟨by rw [HM.out]; rfl, rfl⟩
        · have hd8 : decide ((s.size : Int) ≤ 8) = false := by simp; omega
          have HM := Lib.hid (show nameB (bts s) = false by rw [HN.out]; simp; omega)
          go_wp2
          go_ret
          exact ⟨by rw [HM.out]; rfl, rfl⟩
      · have hd1 : decide (1 ≤ (s.size : Int)) = false := by simp; omega
        have HM := Lib.hid (show nameB (bts s) = false by rw [HN.out]; simp; omega)
        go_wp2
        go_ret
        exact ⟨by rw [HM.out]; rfl, rfl⟩
theorem isName_any (l : List UInt8) (hl : l.length ≤ 1000000000) (w : World) :
    Calls Tryz.prog 31 #[.string ⟨l.toArray⟩] w fun e w' => e = .returned (.bool (nameB l)) ∧ w = w' :=
  isNameB ⟨l.toArray⟩ (by simpa [ByteArray.size] using hl) w
end Go.Proofs.YtllcddlflcpmbaaGreatDoor
