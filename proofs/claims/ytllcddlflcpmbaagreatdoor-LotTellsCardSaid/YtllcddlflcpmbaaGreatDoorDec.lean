/- tithebarnref1.Decimal: a number's digits, as the document writes them. -/
import Derived.Test.YtllcddlflcpmbaaGreatDoorItoa
import Derived.Lib.ItoaLen
import Derived.Lib.ItoaMem
namespace Go.Proofs.YtllcddlflcpmbaaGreatDoor
open Go.RowKit

set_option maxRecDepth 100000 in
theorem byte_any (n : Int) (h0 : 0 ≤ n) (h1 : n < 128) (w : World) : Calls Tryz.prog 84 #[.int .i64 n] w fun e w' => e = .returned (.string ⟨#[UInt8.ofNat n.toNat]⟩) ∧ Below w.heap.size w w' := by
  have kc : (convert 92 9 (.slice (some ⟨w.heap.size, 0, none⟩) 1 1)).run Tryz.prog (w.alloc (.cells #[.int .u8 n] 5)) = .ok (.string ⟨#[UInt8.ofNat n.toNat]⟩) (w.alloc (.cells #[.int .u8 n] 5)) := run_convert_bytes_back (P := Tryz.prog) (w.alloc (.cells #[.int .u8 n] 5)) 92 9 5 ⟨w.heap.size, 0, none⟩ 1 [UInt8.ofNat n.toNat] Tryz.underlying92 Tryz.underlying5 Tryz.underlying9 (by
    intro j hj
    match j, hj with
    | 0, _ =>
      rw [Addr.add_zero', show (w.alloc (.cells #[.int .u8 n] 5)).cell? ⟨w.heap.size, 0, none⟩ = some (.int .u8 n) from cell_of_row _ _ 0 _ _ _ (heap_alloc_new w _)]
      congr 2
      simp only [List.getElem_cons_zero, UInt8.toNat_ofNat']
      omega)
  go_enter Tryz.func84, Tryz.ntmps84
  go_wp2
  go_ret
  exact ⟨rfl, (Below.refl _ _).alloc (Nat.le_refl _) _⟩

/-- below: the digits of a number that is not above 0. -/
theorem below_ind (u : Nat) : ∀ (w : World), u ≤ 9223372036854775807 → Calls Tryz.prog 55 #[.int .i64 (-(u : Int))] w fun e w' => e = .returned (.string ⟨(Lib.decDigits u).toArray⟩) ∧ Below w.heap.size w w' := by
  induction u using Nat.strongRecOn with
  | ind u ih =>
    intro w hu
    by_cases h : u < 10
    · have hb := byte_any (48 + u) (by omega) (by omega)
      have e : Lib.decDigits u = [UInt8.ofNat (48 + u)] := Lib.decDigits_one h
      have e1 : (48 : Int) - (-(u : Int)) = 48 + u := by omega
      have e2 : ((48 : Int) + (u : Int)).toNat = 48 + u := by omega
      have HE := Lib.hid e
      have HE2 := Lib.hid e2
      have HB := Lib.hid hb
      have hlt : -10 < -(u : Int) := by omega
      clear e e2 hb ih
      go_enter Tryz.func55, Tryz.ntmps55
      go_wp2_with fail
      refine (HB.out _).mono ?_
      rintro e w1 ⟨rfl, b1⟩
      go_wp2
      go_ret
      refine ⟨?_, b1⟩
      show Ending.returned (.string ⟨#[UInt8.ofNat ((48 : Int) + (u : Int)).toNat]⟩) = _
      rw [HE.out, HE2.out]
    · have e : Lib.decDigits u = Lib.decDigits (u / 10) ++ [UInt8.ofNat (48 + u % 10)] := by rw [Lib.decDigits, dif_neg h]
      have hq : (-(u : Int)).tdiv 10 = -((u / 10 : Nat) : Int) := by rw [Int.neg_tdiv, Int.tdiv_eq_ediv_of_nonneg (by omega)]; omega
      have hr : (-(u : Int)).tmod 10 = -((u % 10 : Nat) : Int) := by rw [Int.neg_tmod, Int.tmod_eq_emod_of_nonneg (by omega)]; omega
      have hi := ih (u / 10) (by omega)
      have hb := byte_any (48 + (u % 10 : Nat)) (by omega) (by omega)
      have e1 : (48 : Int) - (-((u % 10 : Nat) : Int)) = 48 + (u % 10 : Nat) := by omega
      have e2 : ((48 : Int) + ((u % 10 : Nat) : Int)).toNat = 48 + u % 10 := by omega
      have hlt : ¬ (-10 < -(u : Int)) := by omega
      have HE := Lib.hid e
      have HE2 := Lib.hid e2
      have HB := Lib.hid hb
      have HI := Lib.hid hi
      have hl : (Lib.decDigits (u / 10)).length ≤ 21 := by
        have := Lib.itoa_length_le ((u / 10 : Nat) : Int) (by omega) (by omega)
        rw [Lib.itoa_nonneg] at this
        exact this
      clear e e2 hb ih hi
      go_enter Tryz.func55, Tryz.ntmps55
      go_wp2_with fail
      rw [show -((u : Int) / 10) = -((u / 10 : Nat) : Int) by omega]
      refine (HI.out _ (by omega)).mono ?_
      rintro e w1 ⟨rfl, b1⟩
      go_wp2_with fail
      rw [show (48 : Int) + (u : Int) % 10 = 48 + ((u % 10 : Nat) : Int) by omega]
      refine (HB.out _).mono ?_
      rintro e w2 ⟨rfl, b2⟩
      rw [HE2.out]
      go_wp2
      go_ret
      refine ⟨?_, b1.trans (b2.mono b1.size)⟩
      show Ending.returned (.string ((⟨(Lib.decDigits (u / 10)).toArray⟩ : ByteArray) ++ (⟨#[48 + UInt8.ofNat (u % 10)]⟩ : ByteArray))) = _
      rw [HE.out, ← mk_app, show UInt8.ofNat (48 + u % 10) = 48 + UInt8.ofNat (u % 10) from UInt8.ofNat_add _ _]

/-- Decimal is the number's numeral. -/
theorem decimal_nat (u : Nat) (hu : u ≤ 9223372036854775807) (w : World) : Calls Tryz.prog 33 #[.int .i64 (u : Nat)] w fun e w' => e = .returned (.string ⟨(Lib.itoa u).toArray⟩) ∧ Below w.heap.size w w' := by
  have HB := Lib.hid (fun w => below_ind u w hu)
  have hu0 : ¬ ((u : Int) < 0) := by omega
  go_enter Tryz.func33, Tryz.ntmps33
  go_wp2_with fail
  refine (HB.out _).mono ?_
  rintro e w1 ⟨rfl, b1⟩
  go_wp2
  go_ret
  refine ⟨?_, b1⟩
  rw [Lib.itoa_nonneg]; rfl
end Go.Proofs.YtllcddlflcpmbaaGreatDoor
