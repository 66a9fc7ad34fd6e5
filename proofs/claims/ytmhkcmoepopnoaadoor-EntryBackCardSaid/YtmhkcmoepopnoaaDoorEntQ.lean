/- Equal entries. -/
import Derived.Test.YtmhkcmoepopnoaaDoorEntry
import Derived.Laws.StructEq
namespace Go.Proofs.YtmhkcmoepopnoaaDoor
open Go.RowKit Go.Sort Go.Proofs

set_option maxHeartbeats 1600000 in
set_option maxRecDepth 100000 in
theorem eqInEnt (x y : EntV) (W : World) : (Op.equalIn 10000 29 (.agg (encEnt x).toArray) (.agg (encEnt y).toArray)).run Tryd.prog W = .ok (decide (x = y)) W := by
  have u3 := Tryd.underlying3
  have u9 := Tryd.underlying9
  have hS : Tryd.prog.underlying 29 = some (.struct (Tryd.prog.fieldsOf 29)) := by kernel_rfl
  have hp : Tryd.prog.stoodInHeld 29 = false := by kernel_rfl
  have gS : Tryd.prog.underlying 23 = some (.struct (Tryd.prog.fieldsOf 23)) := by kernel_rfl
  have gp : Tryd.prog.stoodInHeld 23 = false := by kernel_rfl
  have lS : Tryd.prog.underlying 25 = some (.struct (Tryd.prog.fieldsOf 25)) := by kernel_rfl
  have lp : Tryd.prog.stoodInHeld 25 = false := by kernel_rfl
  have pS : Tryd.prog.underlying 27 = some (.struct (Tryd.prog.fieldsOf 27)) := by kernel_rfl
  have pp : Tryd.prog.stoodInHeld 27 = false := by kernel_rfl
  have eP : ∀ (a1 b1 : List UInt8) (a2 a3 b2 b3 : Int) (W : World), (Op.equalIn 9999 27 (.agg #[.string ⟨a1.toArray⟩, .int .i64 a2, .int .i64 a3]) (.agg #[.string ⟨b1.toArray⟩, .int .i64 b2, .int .i64 b3])).run Tryd.prog W = .ok (decide (a1 = b1 ∧ a2 = b2 ∧ a3 = b3)) W := fun a1 b1 a2 a3 b2 b3 W => by
    rw [show (9999 : Nat) = 9998 + 1 from rfl, run_equalIn_agg W 9998 27 _ _ pS pp]
    simp only [Program.fieldsOf, Tryd.underlying27]
    go_simp
    by_cases h1 : a1 = b1 <;> by_cases h2 : a2 = b2 <;> by_cases h3 : a3 = b3 <;> simp [h1, h2, h3]
  have eG : ∀ (a1 b1 : List UInt8) (a2 b2 : Int) (W : World), (Op.equalIn 9999 23 (.agg #[.string ⟨a1.toArray⟩, .int .i64 a2]) (.agg #[.string ⟨b1.toArray⟩, .int .i64 b2])).run Tryd.prog W = .ok (decide (a1 = b1 ∧ a2 = b2)) W := fun a1 b1 a2 b2 W => by
    rw [show (9999 : Nat) = 9998 + 1 from rfl, run_equalIn_agg W 9998 23 _ _ gS gp]
    simp only [Program.fieldsOf, Tryd.underlying23]
    go_simp
    by_cases h1 : a1 = b1 <;> by_cases h2 : a2 = b2 <;> simp [h1, h2]
  have eL : ∀ (a1 a2 b1 b2 : List UInt8) (a3 a4 b3 b4 : Int) (W : World), (Op.equalIn 9999 25 (.agg #[.string ⟨a1.toArray⟩, .string ⟨a2.toArray⟩, .int .i64 a3, .int .i64 a4]) (.agg #[.string ⟨b1.toArray⟩, .string ⟨b2.toArray⟩, .int .i64 b3, .int .i64 b4])).run Tryd.prog W = .ok (decide (a1 = b1 ∧ a2 = b2 ∧ a3 = b3 ∧ a4 = b4)) W := fun a1 a2 b1 b2 a3 a4 b3 b4 W => by
    rw [show (9999 : Nat) = 9998 + 1 from rfl, run_equalIn_agg W 9998 25 _ _ lS lp]
    simp only [Program.fieldsOf, Tryd.underlying25]
    go_simp
    by_cases h1 : a1 = b1 <;> by_cases h2 : a2 = b2 <;> by_cases h3 : a3 = b3 <;> by_cases h4 : a4 = b4 <;> simp [h1, h2, h3, h4]
  simp only [encEnt]
  rw [show (10000 : Nat) = 9999 + 1 from rfl, run_equalIn_agg W 9999 29 _ _ hS hp]
  clear gS gp lS lp pS pp hS hp
  simp only [Program.fieldsOf, Tryd.underlying29]
  go_simp
  clear u3 u9 eP eG eL
  obtain ⟨a0, ⟨g1, g2⟩, ⟨l1, l2, l3, l4⟩, ⟨f1, f2, f3⟩, ⟨t1, t2, t3⟩, n⟩ := x
  obtain ⟨b0, ⟨h1, h2⟩, ⟨m1, m2, m3, m4⟩, ⟨i1, i2, i3⟩, ⟨u1, u2, u3⟩, k⟩ := y
  simp only [Prod.mk.injEq]
  by_cases q0 : a0 = b0
  · by_cases q1 : g1 = h1 ∧ g2 = h2
    · by_cases q2 : l1 = m1 ∧ l2 = m2 ∧ l3 = m3 ∧ l4 = m4
      · by_cases q3 : f1 = i1 ∧ f2 = i2 ∧ f3 = i3
        · by_cases q4 : t1 = u1 ∧ t2 = u2 ∧ t3 = u3
          · by_cases q5 : n = k <;> simp [q0, q1, q2, q3, q4, q5]
          · have q4' : t1 = u1 → t2 = u2 → ¬ t3 = u3 := fun a b c => q4 ⟨a, b, c⟩
            rw [if_pos q0, if_neg (fun e => e q1.1 q1.2), if_neg (fun e => e q2.1 q2.2.1 q2.2.2.1 q2.2.2.2), if_neg (fun e => e q3.1 q3.2.1 q3.2.2), if_pos q4', decide_eq_false (fun e => q4 e.2.2.2.2.1)]
        · have q3' : f1 = i1 → f2 = i2 → ¬ f3 = i3 := fun a b c => q3 ⟨a, b, c⟩
          rw [if_pos q0, if_neg (fun e => e q1.1 q1.2), if_neg (fun e => e q2.1 q2.2.1 q2.2.2.1 q2.2.2.2), if_pos q3', decide_eq_false (fun e => q3 e.2.2.2.1)]
      · have q2' : l1 = m1 → l2 = m2 → l3 = m3 → ¬ l4 = m4 := fun a b c d => q2 ⟨a, b, c, d⟩
        rw [if_pos q0, if_neg (fun e => e q1.1 q1.2), if_pos q2', decide_eq_false (fun e => q2 e.2.2.1)]
    · have q1' : g1 = h1 → ¬ g2 = h2 := fun a b => q1 ⟨a, b⟩
      rw [if_pos q0, if_pos q1', decide_eq_false (fun e => q1 e.2.1)]
  · rw [if_neg q0, decide_eq_false (fun e => q0 e.1)]
theorem neqEnt (x y : EntV) (W : World) : (binOp .neq 29 (.agg (encEnt x).toArray) (.agg (encEnt y).toArray)).run Tryd.prog W = .ok (.bool (!decide (x = y))) W := by
  rw [run_neq_struct, eqInEnt]
  rfl
theorem eqEnt (x y : EntV) (W : World) : (binOp .eql 29 (.agg (encEnt x).toArray) (.agg (encEnt y).toArray)).run Tryd.prog W = .ok (.bool (decide (x = y))) W := by
  rw [run_eql_struct, eqInEnt]
  rfl
end Go.Proofs.YtmhkcmoepopnoaaDoor
