/- Equal places. -/
import Derived.Test.YtmhkcmoepopnoaaDoorPlace
namespace Go.Proofs.YtmhkcmoepopnoaaDoor
open Go.RowKit Go.Sort Go.Proofs

theorem eqPlace (x y : PlaceV) (W : World) : (binOp .eql 27 (.agg (encPlace x).toArray) (.agg (encPlace y).toArray)).run Tryd.prog W = .ok (.bool (decide (x = y))) W := by
  have u3 := Tryd.underlying3
  have u9 := Tryd.underlying9
  have hS : Tryd.prog.underlying 27 = some (.struct (Tryd.prog.fieldsOf 27)) := by kernel_rfl
  have hp : Tryd.prog.stoodInHeld 27 = false := by kernel_rfl
  simp only [encPlace]
  rw [run_eql_struct, show (10000 : Nat) = 9999 + 1 from rfl, run_equalIn_agg W 9999 27 _ _ hS hp]
  simp only [Program.fieldsOf, Tryd.underlying27]
  go_simp
  obtain ⟨a1, a2, a3⟩ := x
  obtain ⟨b1, b2, b3⟩ := y
  by_cases h1 : a1 = b1 <;> by_cases h2 : a2 = b2 <;> by_cases h3 : a3 = b3 <;> simp [h1, h2, h3]
theorem eqInPlace (x y : PlaceV) (W : World) : (Op.equalIn 10000 27 (.agg (encPlace x).toArray) (.agg (encPlace y).toArray)).run Tryd.prog W = .ok (decide (x = y)) W := by
  have h := eqPlace x y W
  rw [run_eql_struct] at h
  cases hr : (Op.equalIn 10000 27 (.agg (encPlace x).toArray) (.agg (encPlace y).toArray)).run Tryd.prog W with
  | ok b w' =>
    rw [hr] at h
    simp [Result.andThen] at h
    rw [h.1, h.2]
  | _ => rw [hr] at h; simp [Result.andThen] at h
theorem neqPlace (x y : PlaceV) (W : World) : (binOp .neq 27 (.agg (encPlace x).toArray) (.agg (encPlace y).toArray)).run Tryd.prog W = .ok (.bool (!decide (x = y))) W := by
  rw [run_neq_struct, eqInPlace]
  rfl
end Go.Proofs.YtmhkcmoepopnoaaDoor
