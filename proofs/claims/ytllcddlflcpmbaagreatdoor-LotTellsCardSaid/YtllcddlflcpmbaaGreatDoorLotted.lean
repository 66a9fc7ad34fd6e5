/- The closed fact on lots. -/
import Derived.Test.YtllcddlflcpmbaaGreatDoorLotT
namespace Go.Proofs.YtllcddlflcpmbaaGreatDoor
open Go.RowKit Go.Sort Go.Proofs

theorem lotText_one : lotText ([108, 49], [114, 121, 101], 30, 5) = [108, 49, 32, 114, 121, 101, 32, 51, 48, 32, 53] := by
  have h : lotE ([108, 49], [114, 121, 101], 30, 5) = 0 := by decide
  unfold lotText
  rw [if_pos h]
  have h1 : Lib.itoa 30 = [51, 48] := by
    unfold Lib.itoa
    rw [if_neg (by omega), show (30 : Int).toNat = 30 from rfl, Lib.decDigits_two (by omega) (by omega)]
    rfl
  have h2 : Lib.itoa 5 = [53] := by
    unfold Lib.itoa
    rw [if_neg (by omega), show (5 : Int).toNat = 5 from rfl, Lib.decDigits_one (by omega)]
    rfl
  rw [h1, h2]
  rfl

set_option maxHeartbeats 400000 in
theorem lotted_any (E : Nat → Addr) (w : World) (hG : LotG E w) : Calls Tryz.prog 5 #[] w fun e w' => e = .returned (.bool true) ∧ Below w.heap.size w w' := by
  have h := textLot_any E ([108, 49], [114, 121, 101], 30, 5) (by simp) (by simp) w hG
  rw [lotText_one] at h
  simp only [encLot] at h
  have H := Lib.hid h
  clear h
  go_enter Tryz.func5, Tryz.ntmps5
  go_wp2_with fail
  refine H.out.mono ?_
  rintro e w1 ⟨rfl, b1⟩
  go_wp2
  go_ret
  exact ⟨rfl, b1⟩
end Go.Proofs.YtllcddlflcpmbaaGreatDoor
