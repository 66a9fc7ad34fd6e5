/- A slice of flows that comes in as an argument, opened. -/
import Derived.Test.YtnblbliehfgnkaaDoorKeeps
import Derived.Deep.SlicePairs
import Derived.OpenShut
namespace Go.Proofs.YtnblbliehfgnkaaDoor
open Go.RowKit Go.ChangeShapes Go.WideShapes Go.Deep

set_option maxRecDepth 100000 in
theorem flows_of {H : Type} {enc : TypeId × Value → H} {W : World} {base : Nat} {v : Value} {d : DataW H} {p : List MemPlace} (hval : Value.okWide Tryd.prog W .any base 35 v)
    (h : DataW.Trod enc Tryd.prog W 0 (fun _ => true) true 35 v d p) : ∃ A len cap fs, v = .slice A len cap ∧ FlowsAt W A len fs := by
  obtain ⟨A, len, cap, rfl⟩ := okWide_slice Tryd.underlying35 hval
  obtain ⟨fuel, hf⟩ := h
  rcases open_slice_pairs Tryd.underlying35 Tryd.underlying39 (by kernel_rfl) rfl rfl (by kernel_rfl) (by kernel_rfl) hf with ⟨hcs, _⟩ | ⟨a, len', cap', m, n, V0, V1, D0, D1, P0, P1, hcs, _, hl, _, hm, _, hall⟩
  · simp [Value.cells] at hcs
    obtain ⟨rfl, rfl, rfl⟩ := hcs
    exact ⟨none, 0, 0, fun _ => (0, 0), rfl, .inl rfl⟩
  · simp [Value.cells] at hcs
    obtain ⟨rfl, rfl, rfl⟩ := hcs
    rcases Nat.eq_zero_or_pos len with h0 | h0
    · exact ⟨_, _, _, fun _ => (0, 0), rfl, .inl h0⟩
    · simp only [if_true] at hm
      obtain ⟨ab, ao, spot⟩ := a
      have hspot : spot = none := by simpa [Addr.add] using World.cell?_spot (hall 0 (by omega)).1
      subst hspot
      have each : ∀ i, i < len → ∃ q : Int × Int, W.cell? ⟨ab, ao + i * 2, none⟩ = some (.int .i64 q.1) ∧ W.cell? ⟨ab, ao + i * 2 + 1, none⟩ = some (.int .i64 q.2) := by
        intro i hi
        obtain ⟨k1, k2, k3, k4⟩ := hall i (by omega)
        obtain ⟨n1, e1, _, _⟩ := DataW.trod_int Tryd.underlying3 k3
        obtain ⟨n2, e2, _, _⟩ := DataW.trod_int Tryd.underlying3 k4
        simp only [List.cons.injEq, and_true] at e1 e2
        rw [Addr.add_lit, e1] at k1
        rw [Addr.add_lit, e2] at k2
        exact ⟨(n1, n2), k1, by rw [Nat.add_assoc]; exact k2⟩
      obtain ⟨q, hq⟩ := choose_lt each
      exact ⟨_, _, _, q, rfl, .inr ⟨ab, ao, rfl, lt_of_cell (hq 0 h0).1, hq⟩⟩
end Go.Proofs.YtnblbliehfgnkaaDoor
