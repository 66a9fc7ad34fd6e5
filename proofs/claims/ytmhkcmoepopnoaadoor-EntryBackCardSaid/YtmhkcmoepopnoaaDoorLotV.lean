/- Lots, as they lie in memory; equal lots. -/
import Derived.Test.YtmhkcmoepopnoaaDoorRowK
import Derived.Test.YtmhkcmoepopnoaaDoorOrd
import Derived.Test.YtmhkcmoepopnoaaDoorNum
import Derived.Laws.StructEq
namespace Go.Proofs.YtmhkcmoepopnoaaDoor
open Go.RowKit Go.Sort Go.Proofs

/-- A lot: its ID, its goods' code, the last day, what a piece cost. -/
abbrev LotV := List UInt8 × List UInt8 × Int × Int
def encLot (x : LotV) : List Value := [.string ⟨x.1.toArray⟩, .string ⟨x.2.1.toArray⟩, .int .i64 x.2.2.1, .int .i64 x.2.2.2]
theorem encLot_len (x : LotV) : (encLot x).length = 4 := rfl
theorem encLot_one (x : LotV) : ∀ v ∈ encLot x, v.oneCell' = true := fun v hv => by
  simp [encLot] at hv
  rcases hv with rfl | rfl | rfl | rfl <;> rfl

/-- Equal lots. -/
theorem eqLot (x y : LotV) (W : World) : (binOp .eql 25 (.agg (encLot x).toArray) (.agg (encLot y).toArray)).run Tryd.prog W = .ok (.bool (decide (x = y))) W := by
  have u3 := Tryd.underlying3
  have u9 := Tryd.underlying9
  have hS : Tryd.prog.underlying 25 = some (.struct (Tryd.prog.fieldsOf 25)) := by kernel_rfl
  have hp : Tryd.prog.stoodInHeld 25 = false := by kernel_rfl
  simp only [encLot]
  rw [run_eql_struct, show (10000 : Nat) = 9999 + 1 from rfl, run_equalIn_agg W 9999 25 _ _ hS hp]
  simp only [Program.fieldsOf, Tryd.underlying25]
  go_simp
  obtain ⟨a1, a2, a3, a4⟩ := x
  obtain ⟨b1, b2, b3, b4⟩ := y
  by_cases h1 : a1 = b1 <;> by_cases h2 : a2 = b2 <;> by_cases h3 : a3 = b3 <;> by_cases h4 : a4 = b4 <;> simp [h1, h2, h3, h4]
theorem eqInLotV (x y : LotV) (W : World) : (Op.equalIn 10000 25 (.agg (encLot x).toArray) (.agg (encLot y).toArray)).run Tryd.prog W = .ok (decide (x = y)) W := by
  have h := eqLot x y W
  rw [run_eql_struct] at h
  cases hr : (Op.equalIn 10000 25 (.agg (encLot x).toArray) (.agg (encLot y).toArray)).run Tryd.prog W with
  | ok b w' =>
    rw [hr] at h
    simp [Result.andThen] at h
    rw [h.1, h.2]
  | _ => rw [hr] at h; simp [Result.andThen] at h
theorem neqLot0 (x : LotV) (W : World) : (binOp .neq 25 (.agg (encLot x).toArray) (.agg (encLot x).toArray)).run Tryd.prog W = .ok (.bool false) W := by
  rw [run_neq_struct, eqInLotV]
  simp [Result.andThen]
end Go.Proofs.YtmhkcmoepopnoaaDoor
