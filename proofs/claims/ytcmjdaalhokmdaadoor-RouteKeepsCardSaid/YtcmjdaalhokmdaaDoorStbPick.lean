/- slices.SortStableFunc at tithebarn/api.Pick: the rotation, walked. -/
import Derived.Test.YtcmjdaalhokmdaaDoorStaPick
namespace Go.Proofs.YtcmjdaalhokmdaaDoor.StabPick
open Go.Sort Go.RowKit Go.Lib Go.Proofs Go.Proofs.YtcmjdaalhokmdaaDoor.Stab
variable {α : Type} [Inhabited α]

set_option maxHeartbeats 600000 in
set_option maxRecDepth 1000000 in
theorem rotate_any {P : Program} {K : Nat} (L : Fits P K) (enc : α → List Value) (g : Nat) (cb : Array Value) (blk off cap : Nat) (d0 : Array α) (w0 w : World) (R : RowK enc K w0 blk off d0) (A U V B : List α) (hU : 0 < U.length) (hV : 0 < V.length)
    (a m b sz : Nat) (hsz0 : sz = d0.size) (ha : a = A.length) (hm : m = A.length + U.length) (hb : b = A.length + U.length + V.length)
    (hlen : A.length + U.length + V.length + B.length = d0.size) (hsz : sz < 4611686018427387904) (S : SWK enc K w0 blk off (A ++ (U ++ (V ++ B))).toArray w) :
    Calls P 117 #[.slice (some ⟨blk, off, none⟩) sz cap, .int .i64 (a : Nat), .int .i64 (m : Nat), .int .i64 (b : Nat), .func (.func g) #[] cb] w fun e w' =>
      e = .returned (.tuple #[]) ∧ SWK enc K w0 blk off (A ++ (V ++ (U ++ B))).toArray w' := by
  have f1 : a < m := by omega
  have f2 : m < b := by omega
  have f3 : b ≤ sz := by omega
  have HS := Lib.hid S
  have HF := Lib.hid (And.intro hsz0 (And.intro ha (And.intro hm (And.intro hb hlen))))
  have HR := Lib.hid R
  clear S R hsz0 ha hm hb hlen
  have mixed := L.mixed; have t0 := L.t0; have a0 := L.a0; have z0 := L.z0; have v0 := L.v0; have t3 := L.t3; have a3 := L.a3; have z3 := L.z3; have v3 := L.v3; have t4 := L.t4; have a4 := L.a4; have z4 := L.z4; have v4 := L.v4; have tU := L.tU; have aU := L.aU; have zU := L.zU; have vU := L.vU; have tS := L.tS; have aS := L.aS; have zS := L.zS; have vS := L.vS; have tF := L.tF; have aF := L.aF; have zF := L.zF; have vF := L.vF; have aE := L.aE; have zE := L.zE
  have eSw : ∀ args w, (callFunc 135 args).run P w = .ok (.enter 135 args) w := enters_of L.fSwap (by kernel_rfl) rfl
  have FG := L.fRot
  go_enter FG, Tryd.ntmps117
  go_wp2
  go_loopg [10, 11] (b - a) (fun kx si sj wr => ∃ (i j : Nat) (A' U' V' B' : List α), si = .int .i64 i ∧ sj = .int .i64 j ∧ 0 < i ∧ 0 < j ∧ i + j ≤ kx ∧ i ≤ m ∧ m + j ≤ b ∧ Hid (i = U'.length ∧ j = V'.length ∧ A'.length + i = m ∧ A'.length + i + j + B'.length = d0.size ∧ A' ++ (V' ++ (U' ++ B')) = A ++ (V ++ (U ++ B)) ∧ SWK enc K w0 blk off (A' ++ (U' ++ (V' ++ B'))).toArray wr))
  case atStart =>
    obtain ⟨q1, q2, q3, q4, q5⟩ := HF.out
    exact ⟨m - a, b - m, A, U, V, B, by congr 1; omega, by congr 1; omega, by omega, by omega, by omega, by omega, by omega, ⟨by omega, by omega, by omega, by omega, rfl, HS.out⟩⟩
  case round =>
    obtain ⟨i, j, A', U', V', B', rfl, rfl, hi, hj, hk, hm, hb, H⟩ := hrel
    by_cases hij : i = j
    · subst hij
      go_wp2_with fail
      obtain ⟨q1, q2, q3, q4, q5⟩ := HF.out
      obtain ⟨h1, h2, h3, h4, h5, h6⟩ := H.out
      have hc := swapRange_any L enc g cb blk off cap d0 w0 wr HR.out A' U' [] V' B' (by omega) (by simp; omega) (by omega) (by simpa using h6) ((m : Int) - (i : Int)) (m : Int) (i : Int) (by omega) (by simp; omega) (by omega)
      rw [← q1] at hc
      refine hc.mono ?_
      rintro e w1 ⟨rfl, S1⟩
      rw [List.nil_append, h5] at S1
      have H1 := Lib.hid S1
      clear S1 hc q1 q2 q3 q4 q5 h1 h2 h3 h4 h5 h6
      go_wp2
      go_end0
      exact ⟨rfl, H1.out⟩
    · by_cases hgt : j < i
      · have hz1 : (j : Int) < (i : Int) := by omega
        have hz2 : ¬ (i : Int) = (j : Int) := by omega
        go_wp2_with fail
        obtain ⟨q1, q2, q3, q4, q5⟩ := HF.out
        obtain ⟨h1, h2, h3, h4, h5, h6⟩ := H.out
        have e1 : U' = U'.take j ++ U'.drop j := (List.take_append_drop _ _).symm
        have n1 : (U'.take j).length = j := by rw [List.length_take]; omega
        have n2 : (U'.drop j).length = i - j := by rw [List.length_drop]; omega
        have hc := swapRange_any L enc g cb blk off cap d0 w0 wr HR.out A' (U'.take j) (U'.drop j) V' B' (by omega) (by omega) (by omega) (by rw [← List.append_assoc (U'.take j), ← e1]; exact h6) ((m : Int) - (i : Int)) (m : Int) (j : Int) (by omega) (by omega) (by omega)
        rw [← q1] at hc
        refine hc.mono ?_
        rintro e w1 ⟨rfl, S1⟩
        have e5 : (A' ++ V') ++ (U'.take j ++ (U'.drop j ++ B')) = A ++ (V ++ (U ++ B)) := by
          rw [← h5, ← List.append_assoc (U'.take j), ← e1, List.append_assoc]
        have H1 : Hid (i - j = (U'.drop j).length ∧ j = (U'.take j).length ∧ (A' ++ V').length + (i - j) = m ∧ (A' ++ V').length + (i - j) + j + B'.length = d0.size ∧ (A' ++ V') ++ (U'.take j ++ (U'.drop j ++ B')) = A ++ (V ++ (U ++ B)) ∧ SWK enc K w0 blk off ((A' ++ V') ++ (U'.drop j ++ (U'.take j ++ B'))).toArray w1) :=
          ⟨n2.symm, n1.symm, by rw [List.length_append]; omega, by rw [List.length_append]; omega, e5, by rw [List.append_assoc]; exact S1⟩
        clear S1 hc q1 q2 q3 q4 q5 h1 h2 h3 h4 h5 h6 e1 n1 n2 e5
        go_wp2
        go_roundg (i - j + j)
        case measure => omega
        case rel => exact ⟨i - j, j, _, _, _, _, by congr 1; omega, rfl, by omega, by omega, Nat.le_refl _, by omega, by omega, H1⟩
      · have hz1 : ¬ (j : Int) < (i : Int) := by omega
        have hz2 : ¬ (i : Int) = (j : Int) := by omega
        go_wp2_with fail
        obtain ⟨q1, q2, q3, q4, q5⟩ := HF.out
        obtain ⟨h1, h2, h3, h4, h5, h6⟩ := H.out
        have e1 : V'.take (j - i) ++ V'.drop (j - i) = V' := List.take_append_drop _ _
        have n1 : (V'.take (j - i)).length = j - i := by rw [List.length_take]; omega
        have n2 : (V'.drop (j - i)).length = i := by rw [List.length_drop]; omega
        have hc := swapRange_any L enc g cb blk off cap d0 w0 wr HR.out A' U' (V'.take (j - i)) (V'.drop (j - i)) B' (by omega) (by omega) (by omega) (by rw [← List.append_assoc (V'.take (j - i)), e1]; exact h6) ((m : Int) - (i : Int)) ((m : Int) + (j : Int) - (i : Int)) (i : Int) (by omega) (by omega) (by omega)
        rw [← q1] at hc
        refine hc.mono ?_
        rintro e w1 ⟨rfl, S1⟩
        have e5 : A' ++ (V'.take (j - i) ++ (V'.drop (j - i) ++ (U' ++ B'))) = A ++ (V ++ (U ++ B)) := by
          rw [← h5, ← List.append_assoc (V'.take (j - i)), e1]
        have H1 : Hid (i = (V'.drop (j - i)).length ∧ j - i = (V'.take (j - i)).length ∧ A'.length + i = m ∧ A'.length + i + (j - i) + (U' ++ B').length = d0.size ∧ A' ++ (V'.take (j - i) ++ (V'.drop (j - i) ++ (U' ++ B'))) = A ++ (V ++ (U ++ B)) ∧ SWK enc K w0 blk off (A' ++ (V'.drop (j - i) ++ (V'.take (j - i) ++ (U' ++ B')))).toArray w1) :=
          ⟨n2.symm, n1.symm, h3, by rw [List.length_append]; omega, e5, S1⟩
        clear S1 hc q1 q2 q3 q4 q5 h1 h2 h3 h4 h5 h6 e1 n1 n2 e5
        go_wp2
        go_roundg (i + (j - i))
        case measure => omega
        case rel => exact ⟨i, j - i, _, _, _, _, rfl, by congr 1; omega, by omega, by omega, Nat.le_refl _, by omega, by omega, H1⟩
end Go.Proofs.YtcmjdaalhokmdaaDoor.StabPick
