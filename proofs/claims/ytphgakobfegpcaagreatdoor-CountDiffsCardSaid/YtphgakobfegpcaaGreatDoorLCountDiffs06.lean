/- slices.SortStableFunc at tithebarn/count.gone: one element put into the run ahead of it. -/
import Derived.Test.YtphgakobfegpcaaGreatDoorLCountDiffs05
namespace Go.Proofs.YtphgakobfegpcaaGreatDoor.StabGone
open Go.Sort Go.RowKit Go.Lib Go.Proofs Go.Proofs.YtphgakobfegpcaaGreatDoor.Stab
variable {α : Type} [Inhabited α]

set_option maxHeartbeats 1000000 in
set_option maxRecDepth 1000000 in
theorem sym_last {P : Program} {K : Nat} (L : Fits P K) (enc : α → List Value) (cf : α → α → Int) (hO : SWO (ltOf cf)) (g : Nat) (cb : Array Value) (eg : ∀ args w, (callFunc g args).run P w = .ok (.enter g args) w) (blk off cap : Nat) (d0 : Array α) (w0 w : World) (R : RowK enc K w0 blk off d0) (hC : CmpLays P g cb enc K cf blk off d0.size w0)
    (A U B : List α) (x : α) (hV : Srt (ltOf cf) U) (a m b sz : Nat) (hsz0 : sz = d0.size) (ha : a = A.length) (hm : m = a + U.length) (hb : b = m + 1) (hV0 : 2 ≤ U.length)
    (hlen : A.length + U.length + 1 + B.length = d0.size) (hsz : sz < 4611686018427387904) (S : SWK enc K w0 blk off (A ++ (U ++ ([x] ++ B))).toArray w) :
    Calls P 167 #[.slice (some ⟨blk, off, none⟩) sz cap, .int .i64 (a : Nat), .int .i64 (m : Nat), .int .i64 (b : Nat), .func (.func g) #[] cb] w fun e w' =>
      e = .returned (.tuple #[]) ∧ SWK enc K w0 blk off (A ++ (mrg (ltOf cf) U [x] ++ B)).toArray w' := by
  have f1 : a < m := by omega
  have f2 : m < b := by omega
  have f3 : b ≤ sz := by omega
  have f4 : (b : Int) - (m : Int) = 1 ∧ ¬ (m : Int) - (a : Int) = 1 := by omega
  have HS := Lib.hid S
  have HF := Lib.hid (And.intro hsz0 (And.intro ha (And.intro hm (And.intro hb hlen))))
  have HR := Lib.hid R
  have HC := Lib.hid hC
  have HO := Lib.hid hO
  have HV := Lib.hid hV
  have F4 := Lib.hid f4
  obtain ⟨d, hd⟩ : ∃ d, d = (A ++ (U ++ ([x] ++ B))).toArray := ⟨_, rfl⟩
  have HD := Lib.hid hd
  have hds : d.size = d0.size := by rw [hd]; simp; omega
  have HDS := Lib.hid hds
  have HX := Lib.hid (show d[m]! = x by rw [hd, ← List.append_assoc]; exact get_in (A ++ U) [x] B 0 m (by simp) (by simp; omega))
  have HVG := Lib.hid (show ∀ t (h : t < U.length), d[a + t]! = U[t] from fun t h => by
    rw [hd]; exact get_in A U ([x] ++ B) t (a + t) h (by omega))
  rw [← hd] at HS
  clear S R hC hO hV hsz0 ha hm hb hlen hd hds f4
  have mixed := L.mixed; have t0 := L.t0; have a0 := L.a0; have z0 := L.z0; have v0 := L.v0; have t3 := L.t3; have a3 := L.a3; have z3 := L.z3; have v3 := L.v3; have t4 := L.t4; have a4 := L.a4; have z4 := L.z4; have v4 := L.v4; have tU := L.tU; have aU := L.aU; have zU := L.zU; have vU := L.vU; have tS := L.tS; have aS := L.aS; have zS := L.zS; have vS := L.vS; have tF := L.tF; have aF := L.aF; have zF := L.zF; have vF := L.vF; have aE := L.aE; have zE := L.zE
  have FG := L.fSym
  go_enter FG, Tryz.ntmps167
  have hmi : ((m : Int) - (a : Int) == 1) = false := by have := F4.out; simp; omega
  have hmi' : ¬ (m : Int) - (a : Int) = 1 := F4.out.2
  have hmj : ((b : Int) - (m : Int) == 1) = true := by have := F4.out; simp; omega
  have hmj' : (b : Int) - (m : Int) = 1 := F4.out.1
  go_wp2
  clear hmi hmi' hmj hmj'
  go_loopg [14, 15] (m - a) (fun kx si sj wr => ∃ (i j : Nat), si = .int .i64 i ∧ sj = .int .i64 j ∧ a ≤ i ∧ i ≤ j ∧ j ≤ m ∧ j - i ≤ kx ∧ Hid ((i = a ∨ ∃ h : i - a - 1 < U.length, ltOf cf x U[i - a - 1] = false) ∧ (j = m ∨ ∃ h : j - a < U.length, ltOf cf x U[j - a] = true)) ∧ Hid (SWK enc K w0 blk off d wr))
  case atStart => exact ⟨a, m, rfl, rfl, Nat.le_refl _, by omega, Nat.le_refl _, Nat.le_refl _, ⟨.inl rfl, .inl rfl⟩, HS⟩
  case round =>
    obtain ⟨i, j, rfl, rfl, hi, hij, hj, hk, HI, S1⟩ := hrel
    by_cases hlt : i < j
    · obtain ⟨h, hh⟩ : ∃ h, h = (i + j) / 2 := ⟨_, rfl⟩
      have hh2 : ((i : Int) + (j : Int)) / 2 = (h : Int) := by omega
      have h1 : a ≤ h := by omega
      have h2 : h < j := by omega
      have ht : h - a < U.length := by have := HF.out; omega
      have hdy : d[h]! = U[h - a] := by have := HVG.out (h - a) ht; rw [show a + (h - a) = h by omega] at this; exact this
      obtain ⟨y, hy⟩ : ∃ y, y = U[h - a] := ⟨_, rfl⟩
      have HY := Lib.hid hy
      rw [← hy] at hdy
      have hsz1 : d.size = d0.size := HDS.out
      have hszd : d.size = sz := by rw [HDS.out]; exact HF.out.1.symm
      have lj : ∀ n os, Sem.run P (loadCellsFrom ⟨blk, off + h * K, none⟩ 0 K #[]) (grow (wr.drewN n) os) = .ok (enc y).toArray (grow (wr.drewN n) os) := fun n os => by
        rw [← hdy]; exact S1.out.ld HR.out hsz1 P h (by omega) n os
      have lp : ∀ n os, Sem.run P (loadCellsFrom ⟨blk, off + m * K, none⟩ 0 K #[]) (grow (wr.drewN n) os) = .ok (enc x).toArray (grow (wr.drewN n) os) := fun n os => by
        rw [← HX.out]; exact S1.out.ld HR.out hsz1 P m (by omega) n os
      have hcg : ∀ n os, Calls P g (#[.agg (enc x).toArray, .agg (enc y).toArray] ++ cb) (grow (wr.drewN n) os) fun e w' => e = .returned (.int .i64 (cf x y)) ∧ ∃ q os', w' = grow ((grow (wr.drewN n) os).drewN q) os' := fun n os => S1.out.cmp HC.out hsz1 x y n os
      have b1 : (h : Int) < (sz : Int) := by omega
      have b2 : (m : Int) < (sz : Int) := by omega
      have b3 : (i : Int) < (j : Int) := by omega
      have HH := Lib.hid hh
      clear hdy hsz1 hszd hy hh
      by_cases hlv : ¬ cf x y < 0
      · have hlb : decide (cf x y < 0) = false := decide_eq_false hlv
        go_wp2_with fail
        go_quiet_grown (first | (go_at_fn g; refine Calls.grown_of (hcg _ _)))
        have S2 := Lib.hid (S1.out.grown nq osq)
        clear lj lp hcg b1 b2
        go_wp2
        go_roundg (j - (h + 1))
        case measure => omega
        case rel =>
          refine ⟨h + 1, j, by go_num, rfl, by omega, by omega, hj, Nat.le_refl _, ⟨.inr ?_, HI.out.2⟩, S2⟩
          have e1 : h + 1 - a - 1 = h - a := by omega
          refine ⟨by omega, ?_⟩
          have e2 : U[h + 1 - a - 1]'(by omega) = y := by rw [HY.out]; congr 1
          rw [e2]; exact decide_eq_false (by omega)
      · go_wp2_with fail
        go_quiet_grown (first | (go_at_fn g; refine Calls.grown_of (hcg _ _)))
        have S2 := Lib.hid (S1.out.grown nq osq)
        clear lj lp hcg b1 b2
        go_wp2
        go_roundg (h - i)
        case measure => omega
        case rel =>
          refine ⟨i, h, rfl, rfl, hi, by omega, by omega, Nat.le_refl _, ⟨HI.out.1, .inr ⟨ht, ?_⟩⟩, S2⟩
          rw [← HY.out]; exact decide_eq_true (by omega)
    · obtain rfl : i = j := by omega
      obtain ⟨q1, q2, q3, q4, q5⟩ := HF.out
      have hst : i - a ≤ U.length := by omega
      have hI := HI.out
      have hm1 := ins_right HO.out x U (i - a) HV.out hst (by
        rcases hI.1 with h | ⟨h, h'⟩
        · exact .inl (by omega)
        · exact .inr ⟨h, h'⟩) (by
        rcases hI.2 with h | ⟨h, h'⟩
        · exact .inl (by omega)
        · exact .inr ⟨h, h'⟩)
      obtain ⟨s, hs⟩ : ∃ s, s = i - a := ⟨_, rfl⟩
      rw [← hs] at hm1 hst
      have HM := Lib.hid hm1
      have e0 : A ++ (U ++ ([x] ++ B)) = shR (A ++ U.take s) x (U.drop s) B (U.drop s).length := by
        rw [shR_all, List.append_assoc, ← List.append_assoc (U.take s), List.take_append_drop]; rfl
      obtain ⟨T, hT⟩ : ∃ T, T = (U.drop s).length := ⟨_, rfl⟩
      rw [← hT] at e0
      have S2 : Hid (SWK enc K w0 blk off (shR (A ++ U.take s) x (U.drop s) B T).toArray wr) := by
        rw [← e0, ← HD.out]; exact S1
      have hTl : T = U.length - s := by rw [hT, List.length_drop]
      have hAl : (A ++ U.take s).length = a + s := by rw [List.length_append, List.length_take]; omega
      have hszt : ∀ t, t ≤ T → (shR (A ++ U.take s) x (U.drop s) B t).toArray.size = d0.size := fun t _ => by
        rw [List.size_toArray, shR_length, hAl, ← hT]; omega
      have HST := Lib.hid hszt
      have HAL := Lib.hid hAl
      have HT := Lib.hid hT
      have HIS := Lib.hid (show i = a + s ∧ m = a + s + T by omega)
      have g1 : a + s + T ≤ m := by omega
      have g2 : m ≤ a + s + T := by omega
      have g3 : i ≤ a + s := by omega
      have g4 : a + s ≤ i := by omega
      clear hI HI S1 hm1 e0 hs hst hszt q1 q2 q3 q4 q5 HX HVG HV HO hT hTl hAl
      go_wp2
      go_loopg [17] T (fun kx sk wr2 => ∃ t k : Nat, sk = .int .i64 (k : Nat) ∧ a + s + t ≤ k ∧ k ≤ a + s + t ∧ t ≤ T ∧ t ≤ kx ∧ Hid (SWK enc K w0 blk off (shR (A ++ U.take s) x (U.drop s) B t).toArray wr2))
      case atStart => exact ⟨T, m, rfl, by omega, by omega, by omega, by omega, S2⟩
      case round =>
        obtain ⟨t, k, rfl, hka, hkb, ht, hkx, S3⟩ := hrel
        by_cases htl : 0 < t
        · obtain ⟨t, rfl⟩ : ∃ t', t = t' + 1 := ⟨t - 1, by omega⟩
          obtain ⟨k, rfl⟩ : ∃ k', k = k' + 1 := ⟨k - 1, by omega⟩
          have hc1 : (i : Int) < (k : Int) + 1 := by omega
          have hds := HST.out (t + 1) ht
          have hsz1 : d0.size = sz := HF.out.1.symm
          have hkz : k + 1 < sz := by have := HF.out; omega
          have S4 := S3.out.swapped HR.out (k + 1) k (by omega) (by omega)
          have l1 := S3.out.ld1 HR.out hds P (k + 1) (by omega)
          have l2 := S3.out.ld1 HR.out hds P k (by omega)
          have s1 := S3.out.st1 HR.out hds P (k + 1) (by omega) (shR (A ++ U.take s) x (U.drop s) B (t + 1)).toArray[k]!
          have s2 := S3.out.st2 HR.out hds P (k + 1) k (by omega) (by omega) (shR (A ++ U.take s) x (U.drop s) B (t + 1)).toArray[k]! (shR (A ++ U.take s) x (U.drop s) B (t + 1)).toArray[k + 1]!
          have n1 : (enc (shR (A ++ U.take s) x (U.drop s) B (t + 1)).toArray[k + 1]!).length = K := HR.out.hk _
          have n2 : (enc (shR (A ++ U.take s) x (U.drop s) B (t + 1)).toArray[k]!).length = K := HR.out.hk _
          have st := shL_step (A ++ U.take s) x (U.drop s) B t (by rw [← HT.out]; omega)
          rw [HAL.out, show a + s + t = k by omega] at st
          rw [st] at S4
          generalize enc (shR (A ++ U.take s) x (U.drop s) B (t + 1)).toArray[k + 1]! = cI at S4 l1 s2 n1
          generalize enc (shR (A ++ U.take s) x (U.drop s) B (t + 1)).toArray[k]! = cJ at S4 l2 s1 s2 n2
          have H4 := Lib.hid S4
          clear S3 S4 st hds hsz1
          have b1 : (k : Int) + 1 < (sz : Int) := by omega
          have b2 : (k : Int) < (sz : Int) := by omega
          have b3 : (0 : Int) ≤ (k : Int) := by omega
          have b4 : (0 : Int) ≤ (k : Int) + 1 := by omega
          have b6 : ((k : Int) + 1).toNat = k + 1 := by omega
          go_wp2_with fail
          have W1 : IntKind.i64.wrap ((k : Int)) = (k : Int) := by rw [IntKind.wrap_i64]; omega
          have W2 : IntKind.i64.wrap ((k : Int) + 1) = (k : Int) + 1 := by rw [IntKind.wrap_i64]; omega
          go_big_region_o
          clear W1 W2 b6 l1 l2 s1 s2
          go_wp2
          go_roundg t
          case measure => omega
          case rel => exact ⟨t, k, by first | rfl | go_num | (congr 1; omega), by omega, by omega, by omega, Nat.le_refl _, H4⟩
        · have hc1 : ¬ (i : Int) < (k : Int) := by omega
          obtain rfl : t = 0 := by omega
          go_wp2
          (try simp only [Exit.inBlock, Exit.then]); refine bodyPost_ret (results_none rfl _ _ _) rfl ?_
          refine ⟨rfl, ?_⟩
          have h9 := S3.out
          rw [shR_zero] at h9
          rw [HM.out]
          simp only [List.append_assoc, List.cons_append] at h9 ⊢
          exact h9
end Go.Proofs.YtphgakobfegpcaaGreatDoor.StabGone
