/- slices.SortStableFunc at tithebarn/api.Lot: two runs merged by a symmetric search, walked. slices.SortStableFunc at tithebarn/api.Lot: walked whole. Lots: Sorted. -/
import Derived.Test.YtgllddebodfhkaaGreatDoorM08
import Derived.Test.YtgllddebodfhkaaGreatDoorM31
import Derived.Test.YtgllddebodfhkaaGreatDoorM42
namespace Go.Proofs.YtgllddebodfhkaaGreatDoor.StabLot
open Go.Sort Go.RowKit Go.Lib Go.Proofs Go.Proofs.YtgllddebodfhkaaGreatDoor.Stab
variable {α : Type} [Inhabited α]

/-- Two runs of together at most N are merged. -/
def SymIH (P : Program) (K : Nat) (enc : α → List Value) (cf : α → α → Int) (g : Nat) (cb : Array Value) (blk off cap sz : Nat) (w0 : World) (N : Nat) : Prop :=
  ∀ (A U V B : List α) (a m b : Nat) (w : World), U.length + V.length ≤ N → 0 < U.length → 0 < V.length → a = A.length → m = a + U.length → b = m + V.length → b + B.length = sz → Srt (ltOf cf) U → Srt (ltOf cf) V →
    SWK enc K w0 blk off (A ++ (U ++ (V ++ B))).toArray w →
    Calls P 174 #[.slice (some ⟨blk, off, none⟩) sz cap, .int .i64 (a : Nat), .int .i64 (m : Nat), .int .i64 (b : Nat), .func (.func g) #[] cb] w fun e w' =>
      e = .returned (.tuple #[]) ∧ SWK enc K w0 blk off (A ++ (mrg (ltOf cf) U V ++ B)).toArray w'

set_option maxHeartbeats 4000000 in
set_option maxRecDepth 1000000 in
theorem sym_gen {P : Program} {K : Nat} (L : Fits P K) (enc : α → List Value) (cf : α → α → Int) (hO : SWO (ltOf cf)) (g : Nat) (cb : Array Value) (eg : ∀ args w, (callFunc g args).run P w = .ok (.enter g args) w) (blk off cap : Nat) (d0 : Array α) (w0 w : World) (R : RowK enc K w0 blk off d0) (hC : CmpLays P g cb enc K cf blk off d0.size w0)
    (A U V B : List α) (hU : Srt (ltOf cf) U) (hV : Srt (ltOf cf) V) (a m b sz N : Nat) (hsz0 : sz = d0.size) (ha : a = A.length) (hm : m = a + U.length) (hb : b = m + V.length) (hU0 : 2 ≤ U.length) (hV0 : 2 ≤ V.length) (hN : U.length + V.length ≤ N + 1)
    (hlen : b + B.length = sz) (hsz : sz < 4611686018427387904) (S : SWK enc K w0 blk off (A ++ (U ++ (V ++ B))).toArray w) (ih : SymIH P K enc cf g cb blk off cap sz w0 N) :
    Calls P 174 #[.slice (some ⟨blk, off, none⟩) sz cap, .int .i64 (a : Nat), .int .i64 (m : Nat), .int .i64 (b : Nat), .func (.func g) #[] cb] w fun e w' =>
      e = .returned (.tuple #[]) ∧ SWK enc K w0 blk off (A ++ (mrg (ltOf cf) U V ++ B)).toArray w' := by
  have f1 : a + 2 ≤ m := by omega
  have f2 : m + 2 ≤ b := by omega
  have f3 : b ≤ sz := by omega
  have HS := Lib.hid S
  have HF := Lib.hid (And.intro hsz0 (And.intro ha (And.intro hm (And.intro hb (And.intro hlen hN)))))
  have HR := Lib.hid R
  have HC := Lib.hid hC
  have HO := Lib.hid hO
  have HU := Lib.hid hU
  have HV := Lib.hid hV
  have IH := Lib.hid ih
  obtain ⟨d, hd⟩ : ∃ d, d = (A ++ (U ++ (V ++ B))).toArray := ⟨_, rfl⟩
  have HD := Lib.hid hd
  have hds : d.size = d0.size := by rw [hd]; simp; omega
  have HDS := Lib.hid hds
  have HUG := Lib.hid (show ∀ t (h : t < U.length), d[a + t]! = U[t] from fun t h => by
    rw [hd]; exact get_in A U (V ++ B) t (a + t) h (by omega))
  have HVG := Lib.hid (show ∀ t (h : t < V.length), d[m + t]! = V[t] from fun t h => by
    rw [hd, ← List.append_assoc]; exact get_in (A ++ U) V B t (m + t) h (by simp; omega))
  rw [← hd] at HS
  obtain ⟨mid, hmid⟩ : ∃ mid, mid = (a + b) / 2 := ⟨_, rfl⟩
  obtain ⟨n, hn⟩ : ∃ n, n = mid + m := ⟨_, rfl⟩
  obtain ⟨p, hp⟩ : ∃ p, n = p + 1 := ⟨n - 1, by omega⟩
  obtain ⟨lo, hi, hcase⟩ : ∃ lo hi : Nat, (mid < m ∧ lo + b = n ∧ hi = mid) ∨ (m ≤ mid ∧ lo = a ∧ hi = m) := by
    by_cases h : mid < m
    · exact ⟨n - b, mid, .inl ⟨h, by omega, rfl⟩⟩
    · exact ⟨a, m, .inr ⟨by omega, rfl, rfl⟩⟩
  have e1 : ((a : Int) + (b : Int)) / 2 = (mid : Int) := by omega
  have e2 : (mid : Int) + (m : Int) = (n : Int) := by omega
  have e3 : (n : Int) - 1 = (p : Int) := by omega
  have g1 : a ≤ lo := by omega
  have g2 : lo ≤ hi := by omega
  have g3 : hi ≤ m := by omega
  have g4 : n ≤ lo + b := by omega
  have g5 : hi + m ≤ n := by omega
  have g6 : a < mid := by omega
  have g7 : mid < b := by omega
  have HB := Lib.hid (show (lo = a ∨ lo + b = n) ∧ (hi = m ∨ hi + m = n) ∧ n = p + 1 ∧ n = mid + m by omega)
  have hma : ¬ (m : Int) - (a : Int) = 1 := by omega
  have hbm : ¬ (b : Int) - (m : Int) = 1 := by omega
  have hmaB : ((m : Int) - (a : Int) == 1) = false := by simp; omega
  have hbmB : ((b : Int) - (m : Int) == 1) = false := by simp; omega
  clear S R hC hO hU hV hsz0 ha hm hb hlen hN hd hds ih hmid hn hp
  have mixed := L.mixed; have t0 := L.t0; have a0 := L.a0; have z0 := L.z0; have v0 := L.v0; have t3 := L.t3; have a3 := L.a3; have z3 := L.z3; have v3 := L.v3; have t4 := L.t4; have a4 := L.a4; have z4 := L.z4; have v4 := L.v4; have tU := L.tU; have aU := L.aU; have zU := L.zU; have vU := L.vU; have tS := L.tS; have aS := L.aS; have zS := L.zS; have vS := L.vS; have tF := L.tF; have aF := L.aF; have zF := L.zF; have vF := L.vF; have aE := L.aE; have zE := L.zE
  have FG := L.fSym
  have eRo : ∀ args w, (callFunc 207 args).run P w = .ok (.enter 207 args) w := enters_of L.fRot (by kernel_rfl) rfl
  have eSy : ∀ args w, (callFunc 174 args).run P w = .ok (.enter 174 args) w := enters_of L.fSym (by kernel_rfl) rfl
  go_enter FG, Tryz.ntmps174
  have HCASE := Lib.hid hcase
  rcases hcase with ⟨c1, c2, c3⟩ | ⟨c1, c2, c3⟩
  case' inl =>
    have z1 : (mid : Int) < (m : Int) := by omega
    have e4 : (n : Int) - (b : Int) = (lo : Int) := by omega
    have e5 : (mid : Int) = (hi : Int) := by omega
    clear c1 c2 c3
    have E5 := Lib.hid e5
    clear e5
    go_wp2
    clear e4 z1
  case' inr =>
    have z1 : ¬ (mid : Int) < (m : Int) := by omega
    have E5 := Lib.hid (show (lo : Int) = (a : Int) ∧ (hi : Int) = (m : Int) by omega)
    clear c1 c2 c3
    go_wp2
    clear z1
  all_goals
    clear e1 e2 e3 hma hbm hmaB hbmB
    go_loopg [20, 21] (hi - lo) (fun kx si sj wr => ∃ (i j : Nat), si = .int .i64 i ∧ sj = .int .i64 j ∧ lo ≤ i ∧ i ≤ j ∧ j ≤ hi ∧ j - i ≤ kx ∧
      Hid ((i = lo ∨ ∃ (h1 : p - (i - 1) - m < V.length) (h2 : i - 1 - a < U.length), ltOf cf V[p - (i - 1) - m] U[i - 1 - a] = false) ∧ (j = hi ∨ ∃ (h1 : p - j - m < V.length) (h2 : j - a < U.length), ltOf cf V[p - j - m] U[j - a] = true)) ∧ Hid (SWK enc K w0 blk off d wr))
    case atStart => exact ⟨lo, hi, by first | rfl | (have := E5.out; congr 1 <;> omega), by first | rfl | (have := E5.out; congr 1 <;> omega), Nat.le_refl _, g2, Nat.le_refl _, Nat.le_refl _, ⟨.inl rfl, .inl rfl⟩, HS⟩
    case round =>
      obtain ⟨i, j, rfl, rfl, hi1, hij, hj, hk, HI, S1⟩ := hrel
      by_cases hlt : i < j
      · obtain ⟨c, hh⟩ : ∃ c, c = (i + j) / 2 := ⟨_, rfl⟩
        have hh2 : ((i : Int) + (j : Int)) / 2 = (c : Int) := by omega
        have h1 : lo ≤ c := by omega
        have h2 : c < j := by omega
        have hp1 := HB.out.2.2
        obtain ⟨q, hq⟩ : ∃ q, q = p - c := ⟨_, rfl⟩
        have hqp : q + c = p := by omega
        have hq1 : m ≤ q := by omega
        have hq2 : q < b := by omega
        obtain ⟨k1, k2, k3, k4, k5, k6⟩ := HF.out
        have htv : q - m < V.length := by omega
        have htu : c - a < U.length := by omega
        have hdv : d[q]! = V[q - m] := by have := HVG.out (q - m) htv; rw [show m + (q - m) = q by omega] at this; exact this
        have hdu : d[c]! = U[c - a] := by have := HUG.out (c - a) htu; rw [show a + (c - a) = c by omega] at this; exact this
        obtain ⟨y, hy⟩ : ∃ y, y = V[q - m] := ⟨_, rfl⟩
        obtain ⟨x, hx⟩ : ∃ x, x = U[c - a] := ⟨_, rfl⟩
        have HY := Lib.hid hy
        have HX := Lib.hid hx
        rw [← hy] at hdv
        rw [← hx] at hdu
        have hsz1 : d.size = d0.size := HDS.out
        have hszd : d.size = sz := by rw [HDS.out]; exact k1.symm
        have lj : ∀ n os, Sem.run P (loadCellsFrom ⟨blk, off + q * K, none⟩ 0 K #[]) (grow (wr.drewN n) os) = .ok (enc y).toArray (grow (wr.drewN n) os) := fun n os => by
          rw [← hdv]; exact S1.out.ld HR.out hsz1 P q (by omega) n os
        have lp : ∀ n os, Sem.run P (loadCellsFrom ⟨blk, off + c * K, none⟩ 0 K #[]) (grow (wr.drewN n) os) = .ok (enc x).toArray (grow (wr.drewN n) os) := fun n os => by
          rw [← hdu]; exact S1.out.ld HR.out hsz1 P c (by omega) n os
        have hcg : ∀ n os, Calls P g (#[.agg (enc y).toArray, .agg (enc x).toArray] ++ cb) (grow (wr.drewN n) os) fun e w' => e = .returned (.int .i64 (cf y x)) ∧ ∃ q os', w' = grow ((grow (wr.drewN n) os).drewN q) os' := fun n os => S1.out.cmp HC.out hsz1 y x n os
        have b1 : (q : Int) < (sz : Int) := by omega
        have b2 : (c : Int) < (sz : Int) := by omega
        have b3 : (i : Int) < (j : Int) := by omega
        have W1 : IntKind.i64.wrap ((p : Int) - (c : Int)) = (q : Int) := by rw [IntKind.wrap_i64]; omega
        have HQ := Lib.hid hqp
        clear hdv hdu hsz1 hszd hy hx hh hq hqp k1 k2 k3 k4 k5 k6 hp1
        by_cases hlv : ¬ cf y x < 0
        · have hlb : decide (cf y x < 0) = false := decide_eq_false hlv
          go_wp2_with fail
          go_quiet_grown (first | (go_at_fn g; refine Calls.grown_of (hcg _ _)))
          have S2 := Lib.hid (S1.out.grown nq osq)
          clear lj lp hcg b1 b2 W1
          go_wp2
          go_roundg (j - (c + 1))
          case measure => omega
          case rel =>
            have hqp := HQ.out
            refine ⟨c + 1, j, by go_num, rfl, by omega, by omega, hj, Nat.le_refl _, ⟨.inr ⟨by omega, by omega, ?_⟩, HI.out.2⟩, S2⟩
            have e2 : V[p - (c + 1 - 1) - m]'(by omega) = y := by rw [HY.out]; congr 1; omega
            have e3 : U[c + 1 - 1 - a]'(by omega) = x := by rw [HX.out]; congr 1
            rw [e2, e3]; exact decide_eq_false (by omega)
        · go_wp2_with fail
          go_quiet_grown (first | (go_at_fn g; refine Calls.grown_of (hcg _ _)))
          have S2 := Lib.hid (S1.out.grown nq osq)
          clear lj lp hcg b1 b2 W1
          go_wp2
          go_roundg (c - i)
          case measure => omega
          case rel =>
            have hqp := HQ.out
            refine ⟨i, c, rfl, rfl, hi1, by omega, by omega, Nat.le_refl _, ⟨HI.out.1, .inr ⟨by omega, htu, ?_⟩⟩, S2⟩
            have e2 : V[p - c - m]'(by omega) = y := by rw [HY.out]; congr 1; omega
            rw [e2, ← HX.out]; exact decide_eq_true (by omega)
      · obtain rfl : i = j := by omega
        obtain ⟨k1, k2, k3, k4, k5, k6⟩ := HF.out
        obtain ⟨q1, q2, q3, q4⟩ := HB.out
        obtain ⟨ed, hed⟩ : ∃ ed, n = ed + i := ⟨n - i, by omega⟩
        have t1 : m ≤ ed := by omega
        have t2 : ed ≤ b := by omega
        have t3 : a ≤ i := by omega
        have t4 : i ≤ m := by omega
        obtain ⟨s, hs⟩ : ∃ s, i = a + s := ⟨i - a, by omega⟩
        obtain ⟨v, hv⟩ : ∃ v, ed = m + v := ⟨ed - m, by omega⟩
        have hsU : s ≤ U.length := by omega
        have hvV : v ≤ V.length := by omega
        have hsp := sym_split HO.out U V s v HU.out HV.out hsU hvV (by
          rcases HI.out.1 with h | ⟨h1, h2, h3⟩
          · rcases q1 with h' | h'
            · exact .inl (by omega)
            · exact .inr (.inl (by omega))
          · by_cases h0 : s = 0
            · exact .inl h0
            · by_cases h9 : v = V.length
              · exact .inr (.inl h9)
              · refine .inr (.inr ⟨by omega, by omega, ?_⟩)
                have x1 : V[v]'(by omega) = V[p - (i - 1) - m] := by congr 1; omega
                have x2 : U[s - 1]'(by omega) = U[i - 1 - a] := by congr 1; omega
                rw [x1, x2]; exact h3) (by
          rcases HI.out.2 with h | ⟨h1, h2, h3⟩
          · rcases q2 with h' | h'
            · exact .inl (by omega)
            · exact .inr (.inl (by omega))
          · by_cases h0 : s = U.length
            · exact .inl h0
            · by_cases h9 : v = 0
              · exact .inr (.inl h9)
              · refine .inr (.inr ⟨by omega, by omega, ?_⟩)
                have x1 : V[v - 1]'(by omega) = V[p - i - m] := by congr 1; omega
                have x2 : U[s]'(by omega) = U[i - a] := by congr 1; omega
                rw [x1, x2]; exact h3)
        obtain ⟨u1, hu1⟩ : ∃ l, l = U.take s := ⟨_, rfl⟩
        obtain ⟨u2, hu2⟩ : ∃ l, l = U.drop s := ⟨_, rfl⟩
        obtain ⟨v1, hv1⟩ : ∃ l, l = V.take v := ⟨_, rfl⟩
        obtain ⟨v2, hv2⟩ : ∃ l, l = V.drop v := ⟨_, rfl⟩
        rw [← hu1, ← hu2, ← hv1, ← hv2] at hsp
        have lu1 : u1.length = s := by rw [hu1, List.length_take]; omega
        have lu2 : u2.length = U.length - s := by rw [hu2, List.length_drop]
        have lv1 : v1.length = v := by rw [hv1, List.length_take]; omega
        have lv2 : v2.length = V.length - v := by rw [hv2, List.length_drop]
        have hUu : U = u1 ++ u2 := by rw [hu1, hu2, List.take_append_drop]
        have hVv : V = v1 ++ v2 := by rw [hv1, hv2, List.take_append_drop]
        have su1 : Srt (ltOf cf) u1 := by rw [hu1]; exact HU.out.sublist (List.take_sublist _ _)
        have su2 : Srt (ltOf cf) u2 := by rw [hu2]; exact HU.out.sublist (List.drop_sublist _ _)
        have sv1 : Srt (ltOf cf) v1 := by rw [hv1]; exact HV.out.sublist (List.take_sublist _ _)
        have sv2 : Srt (ltOf cf) v2 := by rw [hv2]; exact HV.out.sublist (List.drop_sublist _ _)
        have S0 : Hid (SWK enc K w0 blk off (A ++ (u1 ++ (u2 ++ (v1 ++ (v2 ++ B))))).toArray wr) := by
          have h9 := S1.out
          rw [HD.out, hUu, hVv] at h9
          simp only [List.append_assoc] at h9
          exact h9
        have hsp' : mrg (ltOf cf) U V ++ B = mrg (ltOf cf) u1 v1 ++ (mrg (ltOf cf) u2 v2 ++ B) := by rw [hsp, List.append_assoc]
        have F9 := Lib.hid (show sz = d0.size ∧ a = A.length ∧ i = a + u1.length ∧ m = i + u2.length ∧ ed = m + v1.length ∧ b = ed + v2.length ∧ mid = i + v1.length ∧ b + B.length = sz ∧ U.length + V.length ≤ N + 1 ∧ U.length + V.length + a = b by omega)
        have SP := Lib.hid hsp'
        have SR := Lib.hid (And.intro su1 (And.intro su2 (And.intro sv1 sv2)))
        have eE : (n : Int) - (i : Int) = (ed : Int) := by omega
        clear hsp hsp' hu1 hu2 hv1 hv2 lu1 lu2 lv1 lv2 hUu hVv su1 su2 sv1 sv2 HI S1 HUG HVG HU HV HO HC HD HDS k1 k2 k3 k4 k5 k6 q1 q2 q3 q4 hed hs hv hsU hvV hlt hij hj hk hi1
        by_cases c1 : i < m ∧ m < ed
        · obtain ⟨z1, z2⟩ := c1
          go_wp2_with fail
          obtain ⟨k1, k2, k3, k4, k5, k6, k7, k8, k9, k10⟩ := F9.out
          refine (rotate_any L enc g cb blk off cap d0 w0 wr HR.out (A ++ u1) u2 v1 (v2 ++ B) (by omega) (by omega) i m ed sz k1 (by rw [List.length_append]; omega) (by rw [List.length_append]; omega) (by rw [List.length_append]; omega) (by rw [List.length_append, List.length_append]; omega) (by omega) (by rw [List.append_assoc]; exact S0.out)).mono ?_
          rintro e w5 ⟨rfl, s5⟩
          rw [List.append_assoc] at s5
          have T1 := Lib.hid s5
          clear s5 k1 k2 k3 k4 k5 k6 k7 k8 k9 k10
          by_cases c2 : a < i ∧ i < mid
          · obtain ⟨z5, z6⟩ := c2
            go_wp2_with fail
            obtain ⟨k1, k2, k3, k4, k5, k6, k7, k8, k9, k10⟩ := F9.out
            refine (IH.out A u1 v1 (u2 ++ (v2 ++ B)) a i mid w5 (by omega) (by omega) (by omega) (by omega) (by omega) (by omega) (by rw [List.length_append, List.length_append]; omega) SR.out.1 SR.out.2.2.1 T1.out).mono ?_
            rintro e w7 ⟨rfl, s7⟩
            have T2 := Lib.hid s7
            clear s7 k1 k2 k3 k4 k5 k6 k7 k8 k9 k10
            by_cases c3 : mid < ed ∧ ed < b
            · obtain ⟨z3, z4⟩ := c3
              go_wp2_with fail
              obtain ⟨k1, k2, k3, k4, k5, k6, k7, k8, k9, k10⟩ := F9.out
              refine (IH.out (A ++ mrg (ltOf cf) u1 v1) u2 v2 B mid ed b w7 (by omega) (by omega) (by omega) (by rw [List.length_append, mrg_length]; omega) (by omega) (by omega) (by omega) SR.out.2.1 SR.out.2.2.2 (by rw [List.append_assoc]; exact T2.out)).mono ?_
              rintro e w9 ⟨rfl, s9⟩
              rw [List.append_assoc, ← SP.out] at s9
              have T9 := Lib.hid s9
              clear s9 k1 k2 k3 k4 k5 k6 k7 k8 k9 k10
              go_wp2
              go_end0
              exact ⟨rfl, T9.out⟩
            · have T9 : Hid (SWK enc K w0 blk off (A ++ (mrg (ltOf cf) U V ++ B)).toArray w7) := by
                obtain ⟨k1, k2, k3, k4, k5, k6, k7, k8, k9, k10⟩ := F9.out
                have h9 := T2.out
                rw [SP.out]
                have e9 : mrg (ltOf cf) u2 v2 = u2 ++ v2 := by
                  by_cases h0 : u2.length = 0
                  · rw [List.eq_nil_of_length_eq_zero h0, mrg_nil, List.nil_append]
                  · rw [List.eq_nil_of_length_eq_zero (show v2.length = 0 by omega), mrg_none, List.append_nil]
                rw [e9, List.append_assoc]; exact h9
              have c4 : ¬ (mid < ed ∧ ed < b) := c3
              by_cases z3 : mid < ed
              · have z4 : ¬ ed < b := by omega
                clear c3 c4
                go_wp2
                go_end0
                exact ⟨rfl, T9.out⟩
              · clear c3 c4
                go_wp2
                go_end0
                exact ⟨rfl, T9.out⟩
          · have T2 : Hid (SWK enc K w0 blk off (A ++ (mrg (ltOf cf) u1 v1 ++ (u2 ++ (v2 ++ B)))).toArray w5) := by
              obtain ⟨k1, k2, k3, k4, k5, k6, k7, k8, k9, k10⟩ := F9.out
              have h9 := T1.out
              have e9 : mrg (ltOf cf) u1 v1 = u1 ++ v1 := by
                by_cases h0 : u1.length = 0
                · rw [List.eq_nil_of_length_eq_zero h0, mrg_nil, List.nil_append]
                · rw [List.eq_nil_of_length_eq_zero (show v1.length = 0 by omega), mrg_none, List.append_nil]
              rw [e9, List.append_assoc]; exact h9
            by_cases z5 : a < i
            · have z6 : ¬ i < mid := by omega
              clear c2
              by_cases c3 : mid < ed ∧ ed < b
              · obtain ⟨z3, z4⟩ := c3
                go_wp2_with fail
                obtain ⟨k1, k2, k3, k4, k5, k6, k7, k8, k9, k10⟩ := F9.out
                refine (IH.out (A ++ mrg (ltOf cf) u1 v1) u2 v2 B mid ed b w5 (by omega) (by omega) (by omega) (by rw [List.length_append, mrg_length]; omega) (by omega) (by omega) (by omega) SR.out.2.1 SR.out.2.2.2 (by rw [List.append_assoc]; exact T2.out)).mono ?_
                rintro e w9 ⟨rfl, s9⟩
                rw [List.append_assoc, ← SP.out] at s9
                have T9 := Lib.hid s9
                clear s9 k1 k2 k3 k4 k5 k6 k7 k8 k9 k10
                go_wp2
                go_end0
                exact ⟨rfl, T9.out⟩
              · have T9 : Hid (SWK enc K w0 blk off (A ++ (mrg (ltOf cf) U V ++ B)).toArray w5) := by
                  obtain ⟨k1, k2, k3, k4, k5, k6, k7, k8, k9, k10⟩ := F9.out
                  have h9 := T2.out
                  rw [SP.out]
                  have e9 : mrg (ltOf cf) u2 v2 = u2 ++ v2 := by
                    by_cases h0 : u2.length = 0
                    · rw [List.eq_nil_of_length_eq_zero h0, mrg_nil, List.nil_append]
                    · rw [List.eq_nil_of_length_eq_zero (show v2.length = 0 by omega), mrg_none, List.append_nil]
                  rw [e9, List.append_assoc]; exact h9
                have c4 : ¬ (mid < ed ∧ ed < b) := c3
                by_cases z3 : mid < ed
                · have z4 : ¬ ed < b := by omega
                  clear c3 c4
                  go_wp2
                  go_end0
                  exact ⟨rfl, T9.out⟩
                · clear c3 c4
                  go_wp2
                  go_end0
                  exact ⟨rfl, T9.out⟩
            · clear c2
              by_cases c3 : mid < ed ∧ ed < b
              · obtain ⟨z3, z4⟩ := c3
                go_wp2_with fail
                obtain ⟨k1, k2, k3, k4, k5, k6, k7, k8, k9, k10⟩ := F9.out
                refine (IH.out (A ++ mrg (ltOf cf) u1 v1) u2 v2 B mid ed b w5 (by omega) (by omega) (by omega) (by rw [List.length_append, mrg_length]; omega) (by omega) (by omega) (by omega) SR.out.2.1 SR.out.2.2.2 (by rw [List.append_assoc]; exact T2.out)).mono ?_
                rintro e w9 ⟨rfl, s9⟩
                rw [List.append_assoc, ← SP.out] at s9
                have T9 := Lib.hid s9
                clear s9 k1 k2 k3 k4 k5 k6 k7 k8 k9 k10
                go_wp2
                go_end0
                exact ⟨rfl, T9.out⟩
              · have T9 : Hid (SWK enc K w0 blk off (A ++ (mrg (ltOf cf) U V ++ B)).toArray w5) := by
                  obtain ⟨k1, k2, k3, k4, k5, k6, k7, k8, k9, k10⟩ := F9.out
                  have h9 := T2.out
                  rw [SP.out]
                  have e9 : mrg (ltOf cf) u2 v2 = u2 ++ v2 := by
                    by_cases h0 : u2.length = 0
                    · rw [List.eq_nil_of_length_eq_zero h0, mrg_nil, List.nil_append]
                    · rw [List.eq_nil_of_length_eq_zero (show v2.length = 0 by omega), mrg_none, List.append_nil]
                  rw [e9, List.append_assoc]; exact h9
                have c4 : ¬ (mid < ed ∧ ed < b) := c3
                by_cases z3 : mid < ed
                · have z4 : ¬ ed < b := by omega
                  clear c3 c4
                  go_wp2
                  go_end0
                  exact ⟨rfl, T9.out⟩
                · clear c3 c4
                  go_wp2
                  go_end0
                  exact ⟨rfl, T9.out⟩
        · have T1 : Hid (SWK enc K w0 blk off (A ++ (u1 ++ (v1 ++ (u2 ++ (v2 ++ B))))).toArray wr) := by
            obtain ⟨k1, k2, k3, k4, k5, k6, k7, k8, k9, k10⟩ := F9.out
            have h9 := S0.out
            by_cases h0 : u2.length = 0
            · rw [List.eq_nil_of_length_eq_zero h0] at h9 ⊢
              exact h9
            · rw [List.eq_nil_of_length_eq_zero (show v1.length = 0 by omega)] at h9 ⊢
              exact h9
          by_cases z1 : i < m
          · have z2 : ¬ m < ed := by omega
            clear c1
            by_cases c2 : a < i ∧ i < mid
            · obtain ⟨z5, z6⟩ := c2
              go_wp2_with fail
              obtain ⟨k1, k2, k3, k4, k5, k6, k7, k8, k9, k10⟩ := F9.out
              refine (IH.out A u1 v1 (u2 ++ (v2 ++ B)) a i mid wr (by omega) (by omega) (by omega) (by omega) (by omega) (by omega) (by rw [List.length_append, List.length_append]; omega) SR.out.1 SR.out.2.2.1 T1.out).mono ?_
              rintro e w7 ⟨rfl, s7⟩
              have T2 := Lib.hid s7
              clear s7 k1 k2 k3 k4 k5 k6 k7 k8 k9 k10
              by_cases c3 : mid < ed ∧ ed < b
              · obtain ⟨z3, z4⟩ := c3
                go_wp2_with fail
                obtain ⟨k1, k2, k3, k4, k5, k6, k7, k8, k9, k10⟩ := F9.out
                refine (IH.out (A ++ mrg (ltOf cf) u1 v1) u2 v2 B mid ed b w7 (by omega) (by omega) (by omega) (by rw [List.length_append, mrg_length]; omega) (by omega) (by omega) (by omega) SR.out.2.1 SR.out.2.2.2 (by rw [List.append_assoc]; exact T2.out)).mono ?_
                rintro e w9 ⟨rfl, s9⟩
                rw [List.append_assoc, ← SP.out] at s9
                have T9 := Lib.hid s9
                clear s9 k1 k2 k3 k4 k5 k6 k7 k8 k9 k10
                go_wp2
                go_end0
                exact ⟨rfl, T9.out⟩
              · have T9 : Hid (SWK enc K w0 blk off (A ++ (mrg (ltOf cf) U V ++ B)).toArray w7) := by
                  obtain ⟨k1, k2, k3, k4, k5, k6, k7, k8, k9, k10⟩ := F9.out
                  have h9 := T2.out
                  rw [SP.out]
                  have e9 : mrg (ltOf cf) u2 v2 = u2 ++ v2 := by
                    by_cases h0 : u2.length = 0
                    · rw [List.eq_nil_of_length_eq_zero h0, mrg_nil, List.nil_append]
                    · rw [List.eq_nil_of_length_eq_zero (show v2.length = 0 by omega), mrg_none, List.append_nil]
                  rw [e9, List.append_assoc]; exact h9
                have c4 : ¬ (mid < ed ∧ ed < b) := c3
                by_cases z3 : mid < ed
                · have z4 : ¬ ed < b := by omega
                  clear c3 c4
                  go_wp2
                  go_end0
                  exact ⟨rfl, T9.out⟩
                · clear c3 c4
                  go_wp2
                  go_end0
                  exact ⟨rfl, T9.out⟩
            · have T2 : Hid (SWK enc K w0 blk off (A ++ (mrg (ltOf cf) u1 v1 ++ (u2 ++ (v2 ++ B)))).toArray wr) := by
                obtain ⟨k1, k2, k3, k4, k5, k6, k7, k8, k9, k10⟩ := F9.out
                have h9 := T1.out
                have e9 : mrg (ltOf cf) u1 v1 = u1 ++ v1 := by
                  by_cases h0 : u1.length = 0
                  · rw [List.eq_nil_of_length_eq_zero h0, mrg_nil, List.nil_append]
                  · rw [List.eq_nil_of_length_eq_zero (show v1.length = 0 by omega), mrg_none, List.append_nil]
                rw [e9, List.append_assoc]; exact h9
              by_cases z5 : a < i
              · have z6 : ¬ i < mid := by omega
                clear c2
                by_cases c3 : mid < ed ∧ ed < b
                · obtain ⟨z3, z4⟩ := c3
                  go_wp2_with fail
                  obtain ⟨k1, k2, k3, k4, k5, k6, k7, k8, k9, k10⟩ := F9.out
                  refine (IH.out (A ++ mrg (ltOf cf) u1 v1) u2 v2 B mid ed b wr (by omega) (by omega) (by omega) (by rw [List.length_append, mrg_length]; omega) (by omega) (by omega) (by omega) SR.out.2.1 SR.out.2.2.2 (by rw [List.append_assoc]; exact T2.out)).mono ?_
                  rintro e w9 ⟨rfl, s9⟩
                  rw [List.append_assoc, ← SP.out] at s9
                  have T9 := Lib.hid s9
                  clear s9 k1 k2 k3 k4 k5 k6 k7 k8 k9 k10
                  go_wp2
                  go_end0
                  exact ⟨rfl, T9.out⟩
                · have T9 : Hid (SWK enc K w0 blk off (A ++ (mrg (ltOf cf) U V ++ B)).toArray wr) := by
                    obtain ⟨k1, k2, k3, k4, k5, k6, k7, k8, k9, k10⟩ := F9.out
                    have h9 := T2.out
                    rw [SP.out]
                    have e9 : mrg (ltOf cf) u2 v2 = u2 ++ v2 := by
                      by_cases h0 : u2.length = 0
                      · rw [List.eq_nil_of_length_eq_zero h0, mrg_nil, List.nil_append]
                      · rw [List.eq_nil_of_length_eq_zero (show v2.length = 0 by omega), mrg_none, List.append_nil]
                    rw [e9, List.append_assoc]; exact h9
                  have c4 : ¬ (mid < ed ∧ ed < b) := c3
                  by_cases z3 : mid < ed
                  · have z4 : ¬ ed < b := by omega
                    clear c3 c4
                    go_wp2
                    go_end0
                    exact ⟨rfl, T9.out⟩
                  · clear c3 c4
                    go_wp2
                    go_end0
                    exact ⟨rfl, T9.out⟩
              · clear c2
                by_cases c3 : mid < ed ∧ ed < b
                · obtain ⟨z3, z4⟩ := c3
                  go_wp2_with fail
                  obtain ⟨k1, k2, k3, k4, k5, k6, k7, k8, k9, k10⟩ := F9.out
                  refine (IH.out (A ++ mrg (ltOf cf) u1 v1) u2 v2 B mid ed b wr (by omega) (by omega) (by omega) (by rw [List.length_append, mrg_length]; omega) (by omega) (by omega) (by omega) SR.out.2.1 SR.out.2.2.2 (by rw [List.append_assoc]; exact T2.out)).mono ?_
                  rintro e w9 ⟨rfl, s9⟩
                  rw [List.append_assoc, ← SP.out] at s9
                  have T9 := Lib.hid s9
                  clear s9 k1 k2 k3 k4 k5 k6 k7 k8 k9 k10
                  go_wp2
                  go_end0
                  exact ⟨rfl, T9.out⟩
                · have T9 : Hid (SWK enc K w0 blk off (A ++ (mrg (ltOf cf) U V ++ B)).toArray wr) := by
                    obtain ⟨k1, k2, k3, k4, k5, k6, k7, k8, k9, k10⟩ := F9.out
                    have h9 := T2.out
                    rw [SP.out]
                    have e9 : mrg (ltOf cf) u2 v2 = u2 ++ v2 := by
                      by_cases h0 : u2.length = 0
                      · rw [List.eq_nil_of_length_eq_zero h0, mrg_nil, List.nil_append]
                      · rw [List.eq_nil_of_length_eq_zero (show v2.length = 0 by omega), mrg_none, List.append_nil]
                    rw [e9, List.append_assoc]; exact h9
                  have c4 : ¬ (mid < ed ∧ ed < b) := c3
                  by_cases z3 : mid < ed
                  · have z4 : ¬ ed < b := by omega
                    clear c3 c4
                    go_wp2
                    go_end0
                    exact ⟨rfl, T9.out⟩
                  · clear c3 c4
                    go_wp2
                    go_end0
                    exact ⟨rfl, T9.out⟩
          · clear c1
            by_cases c2 : a < i ∧ i < mid
            · obtain ⟨z5, z6⟩ := c2
              go_wp2_with fail
              obtain ⟨k1, k2, k3, k4, k5, k6, k7, k8, k9, k10⟩ := F9.out
              refine (IH.out A u1 v1 (u2 ++ (v2 ++ B)) a i mid wr (by omega) (by omega) (by omega) (by omega) (by omega) (by omega) (by rw [List.length_append, List.length_append]; omega) SR.out.1 SR.out.2.2.1 T1.out).mono ?_
              rintro e w7 ⟨rfl, s7⟩
              have T2 := Lib.hid s7
              clear s7 k1 k2 k3 k4 k5 k6 k7 k8 k9 k10
              by_cases c3 : mid < ed ∧ ed < b
              · obtain ⟨z3, z4⟩ := c3
                go_wp2_with fail
                obtain ⟨k1, k2, k3, k4, k5, k6, k7, k8, k9, k10⟩ := F9.out
                refine (IH.out (A ++ mrg (ltOf cf) u1 v1) u2 v2 B mid ed b w7 (by omega) (by omega) (by omega) (by rw [List.length_append, mrg_length]; omega) (by omega) (by omega) (by omega) SR.out.2.1 SR.out.2.2.2 (by rw [List.append_assoc]; exact T2.out)).mono ?_
                rintro e w9 ⟨rfl, s9⟩
                rw [List.append_assoc, ← SP.out] at s9
                have T9 := Lib.hid s9
                clear s9 k1 k2 k3 k4 k5 k6 k7 k8 k9 k10
                go_wp2
                go_end0
                exact ⟨rfl, T9.out⟩
              · have T9 : Hid (SWK enc K w0 blk off (A ++ (mrg (ltOf cf) U V ++ B)).toArray w7) := by
                  obtain ⟨k1, k2, k3, k4, k5, k6, k7, k8, k9, k10⟩ := F9.out
                  have h9 := T2.out
                  rw [SP.out]
                  have e9 : mrg (ltOf cf) u2 v2 = u2 ++ v2 := by
                    by_cases h0 : u2.length = 0
                    · rw [List.eq_nil_of_length_eq_zero h0, mrg_nil, List.nil_append]
                    · rw [List.eq_nil_of_length_eq_zero (show v2.length = 0 by omega), mrg_none, List.append_nil]
                  rw [e9, List.append_assoc]; exact h9
                have c4 : ¬ (mid < ed ∧ ed < b) := c3
                by_cases z3 : mid < ed
                · have z4 : ¬ ed < b := by omega
                  clear c3 c4
                  go_wp2
                  go_end0
                  exact ⟨rfl, T9.out⟩
                · clear c3 c4
                  go_wp2
                  go_end0
                  exact ⟨rfl, T9.out⟩
            · have T2 : Hid (SWK enc K w0 blk off (A ++ (mrg (ltOf cf) u1 v1 ++ (u2 ++ (v2 ++ B)))).toArray wr) := by
                obtain ⟨k1, k2, k3, k4, k5, k6, k7, k8, k9, k10⟩ := F9.out
                have h9 := T1.out
                have e9 : mrg (ltOf cf) u1 v1 = u1 ++ v1 := by
                  by_cases h0 : u1.length = 0
                  · rw [List.eq_nil_of_length_eq_zero h0, mrg_nil, List.nil_append]
                  · rw [List.eq_nil_of_length_eq_zero (show v1.length = 0 by omega), mrg_none, List.append_nil]
                rw [e9, List.append_assoc]; exact h9
              by_cases z5 : a < i
              · have z6 : ¬ i < mid := by omega
                clear c2
                by_cases c3 : mid < ed ∧ ed < b
                · obtain ⟨z3, z4⟩ := c3
                  go_wp2_with fail
                  obtain ⟨k1, k2, k3, k4, k5, k6, k7, k8, k9, k10⟩ := F9.out
                  refine (IH.out (A ++ mrg (ltOf cf) u1 v1) u2 v2 B mid ed b wr (by omega) (by omega) (by omega) (by rw [List.length_append, mrg_length]; omega) (by omega) (by omega) (by omega) SR.out.2.1 SR.out.2.2.2 (by rw [List.append_assoc]; exact T2.out)).mono ?_
                  rintro e w9 ⟨rfl, s9⟩
                  rw [List.append_assoc, ← SP.out] at s9
                  have T9 := Lib.hid s9
                  clear s9 k1 k2 k3 k4 k5 k6 k7 k8 k9 k10
                  go_wp2
                  go_end0
                  exact ⟨rfl, T9.out⟩
                · have T9 : Hid (SWK enc K w0 blk off (A ++ (mrg (ltOf cf) U V ++ B)).toArray wr) := by
                    obtain ⟨k1, k2, k3, k4, k5, k6, k7, k8, k9, k10⟩ := F9.out
                    have h9 := T2.out
                    rw [SP.out]
                    have e9 : mrg (ltOf cf) u2 v2 = u2 ++ v2 := by
                      by_cases h0 : u2.length = 0
                      · rw [List.eq_nil_of_length_eq_zero h0, mrg_nil, List.nil_append]
                      · rw [List.eq_nil_of_length_eq_zero (show v2.length = 0 by omega), mrg_none, List.append_nil]
                    rw [e9, List.append_assoc]; exact h9
                  have c4 : ¬ (mid < ed ∧ ed < b) := c3
                  by_cases z3 : mid < ed
                  · have z4 : ¬ ed < b := by omega
                    clear c3 c4
                    go_wp2
                    go_end0
                    exact ⟨rfl, T9.out⟩
                  · clear c3 c4
                    go_wp2
                    go_end0
                    exact ⟨rfl, T9.out⟩
              · clear c2
                by_cases c3 : mid < ed ∧ ed < b
                · obtain ⟨z3, z4⟩ := c3
                  go_wp2_with fail
                  obtain ⟨k1, k2, k3, k4, k5, k6, k7, k8, k9, k10⟩ := F9.out
                  refine (IH.out (A ++ mrg (ltOf cf) u1 v1) u2 v2 B mid ed b wr (by omega) (by omega) (by omega) (by rw [List.length_append, mrg_length]; omega) (by omega) (by omega) (by omega) SR.out.2.1 SR.out.2.2.2 (by rw [List.append_assoc]; exact T2.out)).mono ?_
                  rintro e w9 ⟨rfl, s9⟩
                  rw [List.append_assoc, ← SP.out] at s9
                  have T9 := Lib.hid s9
                  clear s9 k1 k2 k3 k4 k5 k6 k7 k8 k9 k10
                  go_wp2
                  go_end0
                  exact ⟨rfl, T9.out⟩
                · have T9 : Hid (SWK enc K w0 blk off (A ++ (mrg (ltOf cf) U V ++ B)).toArray wr) := by
                    obtain ⟨k1, k2, k3, k4, k5, k6, k7, k8, k9, k10⟩ := F9.out
                    have h9 := T2.out
                    rw [SP.out]
                    have e9 : mrg (ltOf cf) u2 v2 = u2 ++ v2 := by
                      by_cases h0 : u2.length = 0
                      · rw [List.eq_nil_of_length_eq_zero h0, mrg_nil, List.nil_append]
                      · rw [List.eq_nil_of_length_eq_zero (show v2.length = 0 by omega), mrg_none, List.append_nil]
                    rw [e9, List.append_assoc]; exact h9
                  have c4 : ¬ (mid < ed ∧ ed < b) := c3
                  by_cases z3 : mid < ed
                  · have z4 : ¬ ed < b := by omega
                    clear c3 c4
                    go_wp2
                    go_end0
                    exact ⟨rfl, T9.out⟩
                  · clear c3 c4
                    go_wp2
                    go_end0
                    exact ⟨rfl, T9.out⟩
end Go.Proofs.YtgllddebodfhkaaGreatDoor.StabLot
namespace Go.Proofs.YtgllddebodfhkaaGreatDoor.StabLot
open Go.Sort Go.RowKit Go.Lib Go.Proofs Go.Proofs.YtgllddebodfhkaaGreatDoor.Stab
variable {α : Type} [Inhabited α]

theorem sym_any {P : Program} {K : Nat} (L : Fits P K) (enc : α → List Value) (cf : α → α → Int) (hO : SWO (ltOf cf)) (g : Nat) (cb : Array Value) (eg : ∀ args w, (callFunc g args).run P w = .ok (.enter g args) w) (blk off cap sz : Nat) (d0 : Array α) (w0 : World) (R : RowK enc K w0 blk off d0) (hC : CmpLays P g cb enc K cf blk off d0.size w0)
    (hsz0 : sz = d0.size) (hsz : sz < 4611686018427387904) : ∀ N, SymIH P K enc cf g cb blk off cap sz w0 N
  | 0 => fun A U V B a m b w h1 h2 h3 => by omega
  | N + 1 => fun A U V B a m b w h1 h2 h3 ha hm hb hlen hU hV S => by
    by_cases hu : U.length = 1
    · obtain ⟨x, rfl⟩ := List.length_eq_one_iff.1 hu
      exact sym_one L enc cf hO g cb eg blk off cap d0 w0 w R hC A V B x hV a m b sz hsz0 ha (by simpa using hm) hb h3 (by omega) hsz S
    · by_cases hv : V.length = 1
      · obtain ⟨x, rfl⟩ := List.length_eq_one_iff.1 hv
        exact sym_last L enc cf hO g cb eg blk off cap d0 w0 w R hC A U B x hU a m b sz hsz0 ha hm (by simpa using hb) (by omega) (by omega) hsz S
      · exact sym_gen L enc cf hO g cb eg blk off cap d0 w0 w R hC A U V B hU hV a m b sz N hsz0 ha hm hb (by omega) (by omega) (by omega) hlen hsz S (sym_any L enc cf hO g cb eg blk off cap sz d0 w0 R hC hsz0 hsz N)

/-- The insertion sort of a part. -/
theorem ins_any (enc : α → List Value) (cf : α → α → Int) (hO : SWO (ltOf cf)) (g : Nat) (cb : Array Value) (eg : ∀ args w, (callFunc g args).run Tryz.prog w = .ok (.enter g args) w) (blk off cap sz : Nat) (d0 : Array α) (w0 w : World) (R : RowK enc 4 w0 blk off d0) (hC : CmpLays Tryz.prog g cb enc 4 cf blk off d0.size w0)
    (hsz0 : sz = d0.size) (hsz : sz < 4611686018427387904) (A M B : List α) (a b : Nat) (ha : a = A.length) (hb : b = a + M.length) (hlen : b + B.length = sz) (S : SWK enc 4 w0 blk off (A ++ (M ++ B)).toArray w) :
    Calls Tryz.prog 173 #[.slice (some ⟨blk, off, none⟩) sz cap, .int .i64 (a : Nat), .int .i64 (b : Nat), .func (.func g) #[] cb] w fun e w' =>
      e = .returned (.tuple #[]) ∧ SWK enc 4 w0 blk off (A ++ (srt (ltOf cf) M ++ B)).toArray w' := by
  have hds : (A ++ (M ++ B)).toArray.size = d0.size := by simp; omega
  have hds' : (A ++ (M ++ B)).toArray.size = sz := by rw [hds, hsz0]
  have h := AnyQ.insertionSortCmpFunc (P := Tryz.prog) Tryz.insLot 4 Tryz.isAgg47 Tryz.sizeOf47 enc R.hk R.h1 cf g cb blk off cap a b (A ++ (M ++ B)).toArray w eg ?_ (S.holds R.hblk R.hH hds) (S.lt R.hblk) (by omega) (by rw [hds']; omega) (by rw [hds']; exact hsz)
  · rw [hds'] at h
    refine (show Calls Tryz.prog 173 _ _ _ from h).mono ?_
    rintro e w' ⟨he, n, os, rfl⟩
    refine ⟨he, ?_⟩
    have e9 := insertionSort_list hO A M B
    rw [← ha, ← hb] at e9
    rw [e9]
    refine S.on R.hblk n _ os ?_
    simp [srt_length]
  · intro n os dk hs x y
    obtain ⟨m0, os0, rfl⟩ := S
    have hh := SWK.on (w0 := w0) (enc := enc) (k := 4) (blk := blk) (off := off) ⟨m0, os0, rfl⟩ R.hblk n dk os hs
    obtain ⟨m1, os1, e1⟩ := hh
    rw [e1]
    exact hC m1 os1 dk (hs.trans hds) x y

set_option maxHeartbeats 1000000 in
set_option maxRecDepth 1000000 in
theorem stable_any (enc : α → List Value) (cf : α → α → Int) (hO : SWO (ltOf cf)) (g : Nat) (cb : Array Value) (eg : ∀ args w, (callFunc g args).run Tryz.prog w = .ok (.enter g args) w) (blk off cap sz : Nat) (d0 : Array α) (w0 w : World) (R : RowK enc 4 w0 blk off d0) (hC : CmpLays Tryz.prog g cb enc 4 cf blk off d0.size w0)
    (hsz0 : sz = d0.size) (hsz : sz ≤ 1000000000000) (l : List α) (hl : l.length = sz) (S : SWK enc 4 w0 blk off l.toArray w) :
    Calls Tryz.prog 135 #[.slice (some ⟨blk, off, none⟩) sz cap, .int .i64 (sz : Nat), .func (.func g) #[] cb] w fun e w' =>
      e = .returned (.tuple #[]) ∧ SWK enc 4 w0 blk off (srt (ltOf cf) l).toArray w' := by
  have hINS : ∀ (A M B : List α) (a b : Nat) (w : World), a = A.length → b = a + M.length → b + B.length = sz → SWK enc 4 w0 blk off (A ++ (M ++ B)).toArray w →
      Calls Tryz.prog 173 #[.slice (some ⟨blk, off, none⟩) sz cap, .int .i64 (a : Nat), .int .i64 (b : Nat), .func (.func g) #[] cb] w fun e w' => e = .returned (.tuple #[]) ∧ SWK enc 4 w0 blk off (A ++ (srt (ltOf cf) M ++ B)).toArray w' :=
    fun A M B a b w h1 h2 h3 h4 => ins_any enc cf hO g cb eg blk off cap sz d0 w0 w R hC hsz0 (by omega) A M B a b h1 h2 h3 h4
  have INS := Lib.hid hINS
  have SYM := Lib.hid (sym_any (fits) enc cf hO g cb eg blk off cap sz d0 w0 R hC hsz0 (by omega) sz)
  have HO := Lib.hid hO
  have HL := Lib.hid hl
  have HS := Lib.hid S
  clear hINS R hC hO hl S hsz0 eg
  go_enter Tryz.func135, Tryz.ntmps135
  go_wp2
  go_loopg [7, 8] sz (fun kx sa sb wr => ∃ (a b : Nat) (Q T : List α), sa = .int .i64 a ∧ sb = .int .i64 b ∧ a + 20 ≤ b ∧ b ≤ a + 20 ∧ a ≤ sz ∧ sz - a ≤ kx ∧ Hid (a = Q.length ∧ a + T.length = sz ∧ blks (ltOf cf) 20 l = Q ++ blks (ltOf cf) 20 T ∧ SWK enc 4 w0 blk off (Q ++ T).toArray wr))
  case atStart => exact ⟨0, 20, [], l, rfl, rfl, by omega, by omega, by omega, by omega, ⟨rfl, by rw [HL.out]; omega, rfl, HS.out⟩⟩
  case round =>
    obtain ⟨a, b, Q, T, rfl, rfl, hab, hba, ha, hk, H⟩ := hrel
    by_cases hlt : b ≤ sz
    · have hz : (b : Int) ≤ (sz : Int) := by omega
      go_wp2_with fail
      obtain ⟨h1, h2, h3, h4⟩ := H.out
      have eT : T = T.take 20 ++ T.drop 20 := (List.take_append_drop _ _).symm
      have n1 : (T.take 20).length = 20 := by rw [List.length_take]; omega
      have n2 : (T.drop 20).length = T.length - 20 := by rw [List.length_drop]
      refine (INS.out Q (T.take 20) (T.drop 20) a b wr h1 (by omega) (by omega) (by rw [← eT]; exact h4)).mono ?_
      rintro e w1 ⟨rfl, S1⟩
      have e5 : blks (ltOf cf) 20 l = (Q ++ srt (ltOf cf) (T.take 20)) ++ blks (ltOf cf) 20 (T.drop 20) := by
        have := blks_full (lt := ltOf cf) 20 (by omega) (T.take 20) (T.drop 20) n1
        rw [← eT] at this
        rw [h3, this, List.append_assoc]
      have H1 : Hid (b = (Q ++ srt (ltOf cf) (T.take 20)).length ∧ b + (T.drop 20).length = sz ∧ blks (ltOf cf) 20 l = (Q ++ srt (ltOf cf) (T.take 20)) ++ blks (ltOf cf) 20 (T.drop 20) ∧ SWK enc 4 w0 blk off ((Q ++ srt (ltOf cf) (T.take 20)) ++ T.drop 20).toArray w1) :=
        ⟨by rw [List.length_append, srt_length]; omega, by omega, e5, by rw [List.append_assoc]; exact S1⟩
      clear h1 h2 h3 h4 eT n1 n2 S1 e5
      go_wp2
      go_roundg (sz - b)
      case measure => omega
      case rel => exact ⟨b, b + 20, _, _, rfl, by go_num, by omega, by omega, by omega, by omega, H1⟩
    · have hz : ¬ (b : Int) ≤ (sz : Int) := by omega
      go_wp2_with fail
      obtain ⟨h1, h2, h3, h4⟩ := H.out
      have hI := INS.out Q T [] a sz wr h1 (by omega) (by simp) (by rw [List.append_nil]; exact h4)
      refine hI.mono ?_
      rintro e w1 ⟨rfl, S1⟩
      have S2 : Hid (SWK enc 4 w0 blk off (blks (ltOf cf) 20 l).toArray w1) := by
        rw [h3, blks_small 20 T (by omega)]
        rw [List.append_nil] at S1
        exact S1
      clear h1 h2 h3 h4 hI S1 H
      go_wp2_with fail
      go_loopg [6, 7, 8, 9] sz (fun kx s6 s7 s8 s9 wr2 => ∃ bs : Nat, s6 = .int .i64 bs ∧ 20 ≤ bs ∧ bs ≤ 2 * sz + 20 ∧ sz - bs ≤ kx ∧ Hid (SWK enc 4 w0 blk off (blks (ltOf cf) bs l).toArray wr2))
      case atStart => exact ⟨20, rfl, by omega, by omega, by omega, S2⟩
      case round =>
        obtain ⟨bs, rfl, hb1, hb2, hkx, S3⟩ := hrel
        by_cases hlt : bs < sz
        · have hz2 : (bs : Int) < (sz : Int) := by omega
          obtain ⟨wo, hwo⟩ : ∃ wo : World, wo = wr := ⟨_, rfl⟩
          subst hwo
          go_wp2_with fail
          go_loopg [7, 8] sz (fun ky sa sb wr3 => ∃ (a b : Nat) (Q T : List α), sa = .int .i64 a ∧ sb = .int .i64 b ∧ a + 2 * bs ≤ b ∧ b ≤ a + 2 * bs ∧ a ≤ sz ∧ sz - a ≤ ky ∧ Hid (a = Q.length ∧ a + T.length = sz ∧ blks (ltOf cf) (2 * bs) l = Q ++ blks (ltOf cf) (2 * bs) T ∧ SWK enc 4 w0 blk off (Q ++ blks (ltOf cf) bs T).toArray wr3))
          case atStart => exact ⟨0, 2 * bs, [], l, rfl, by congr 1, by omega, by omega, by omega, by omega, ⟨rfl, by rw [HL.out]; omega, rfl, S3.out⟩⟩
          case round =>
            obtain ⟨a, b, Q, T, rfl, rfl, hab, hba, ha, hk, H⟩ := hrel
            by_cases hle : b ≤ sz
            · have hz3 : (b : Int) ≤ (sz : Int) := by omega
              go_wp2_with fail
              obtain ⟨h1, h2, h3, h4⟩ := H.out
              have eT : T.take (2 * bs) ++ T.drop (2 * bs) = T := List.take_append_drop _ _
              have n0 : (T.take (2 * bs)).length = 2 * bs := by rw [List.length_take]; omega
              obtain ⟨M1, hM1⟩ : ∃ M, M = (T.take (2 * bs)).take bs := ⟨_, rfl⟩
              obtain ⟨M2, hM2⟩ : ∃ M, M = (T.take (2 * bs)).drop bs := ⟨_, rfl⟩
              have n1 : M1.length = bs := by rw [hM1, List.length_take]; omega
              have n2 : M2.length = bs := by rw [hM2, List.length_drop]; omega
              have eM : M1 ++ M2 = T.take (2 * bs) := by rw [hM1, hM2]; exact List.take_append_drop _ _
              obtain ⟨T', hT'⟩ : ∃ M, M = T.drop (2 * bs) := ⟨_, rfl⟩
              have n3 : T'.length = T.length - 2 * bs := by rw [hT', List.length_drop]
              rw [← eM, ← hT'] at eT
              have b1 : blks (ltOf cf) bs T = srt (ltOf cf) M1 ++ (srt (ltOf cf) M2 ++ blks (ltOf cf) bs T') := by
                rw [← eT, List.append_assoc, blks_full bs (by omega) _ _ n1, blks_full bs (by omega) _ _ n2]
              have b2 : blks (ltOf cf) (2 * bs) T = mrg (ltOf cf) (srt (ltOf cf) M1) (srt (ltOf cf) M2) ++ blks (ltOf cf) (2 * bs) T' := by
                rw [← eT, blks_full (2 * bs) (by omega) _ _ (by rw [List.length_append]; omega), srt_append HO.out]
              rw [show ((a : Int) + (bs : Int)) = ((a + bs : Nat) : Int) by omega]
              refine (SYM.out Q (srt (ltOf cf) M1) (srt (ltOf cf) M2) (blks (ltOf cf) bs T') a (a + bs) b wr (by rw [srt_length, srt_length]; omega) (by rw [srt_length]; omega) (by rw [srt_length]; omega) h1 (by rw [srt_length]; omega) (by rw [srt_length]; omega) (by rw [blks_length bs (by omega)]; omega) (srt_sorted HO.out _) (srt_sorted HO.out _) (by rw [← b1]; exact h4)).mono ?_
              rintro e w4 ⟨rfl, S4⟩
              have H1 : Hid (b = (Q ++ mrg (ltOf cf) (srt (ltOf cf) M1) (srt (ltOf cf) M2)).length ∧ b + T'.length = sz ∧ blks (ltOf cf) (2 * bs) l = (Q ++ mrg (ltOf cf) (srt (ltOf cf) M1) (srt (ltOf cf) M2)) ++ blks (ltOf cf) (2 * bs) T' ∧ SWK enc 4 w0 blk off ((Q ++ mrg (ltOf cf) (srt (ltOf cf) M1) (srt (ltOf cf) M2)) ++ blks (ltOf cf) bs T').toArray w4) :=
                ⟨by rw [List.length_append, mrg_length, srt_length, srt_length]; omega, by omega, by rw [h3, b2, List.append_assoc], by rw [List.append_assoc]; exact S4⟩
              clear h1 h2 h3 h4 eT n0 n1 n2 n3 eM hM1 hM2 hT' b1 b2 S4 H
              go_wp2
              go_roundg (sz - b)
              case measure => omega
              case rel => exact ⟨b, b + 2 * bs, _, _, rfl, by congr 1, by omega, by omega, by omega, by omega, H1⟩
            · have hz3 : ¬ (b : Int) ≤ (sz : Int) := by omega
              obtain ⟨h1, h2, h3, h4⟩ := H.out
              by_cases hm : a + bs < sz
              · have hz4 : (a : Int) + (bs : Int) < (sz : Int) := by omega
                obtain ⟨M1, hM1⟩ : ∃ M, M = T.take bs := ⟨_, rfl⟩
                obtain ⟨M2, hM2⟩ : ∃ M, M = T.drop bs := ⟨_, rfl⟩
                have n1 : M1.length = bs := by rw [hM1, List.length_take]; omega
                have n2 : M2.length = T.length - bs := by rw [hM2, List.length_drop]
                have eM : M1 ++ M2 = T := by rw [hM1, hM2]; exact List.take_append_drop _ _
                have b1 : blks (ltOf cf) bs T = srt (ltOf cf) M1 ++ srt (ltOf cf) M2 := by
                  rw [← eM, blks_full bs (by omega) _ _ n1, blks_small bs M2 (by omega)]
                have b2 : blks (ltOf cf) (2 * bs) T = mrg (ltOf cf) (srt (ltOf cf) M1) (srt (ltOf cf) M2) := by
                  rw [blks_small (2 * bs) T (by omega), ← eM, srt_append HO.out]
                have hS := SYM.out Q (srt (ltOf cf) M1) (srt (ltOf cf) M2) [] a (a + bs) sz wr (by rw [srt_length, srt_length]; omega) (by rw [srt_length]; omega) (by rw [srt_length]; omega) h1 (by rw [srt_length]; omega) (by rw [srt_length]; omega) (by simp) (srt_sorted HO.out _) (srt_sorted HO.out _) (by rw [List.append_nil, ← b1]; exact h4)
                have B2 := Lib.hid (show blks (ltOf cf) (2 * bs) l = Q ++ (mrg (ltOf cf) (srt (ltOf cf) M1) (srt (ltOf cf) M2) ++ []) by rw [List.append_nil, h3, b2])
                have HSY := Lib.hid hS
                clear h1 h2 h3 h4 n1 n2 eM hM1 hM2 b1 b2 hS H
                go_wp2_with fail
                rw [show ((a : Int) + (bs : Int)) = ((a + bs : Nat) : Int) by omega]
                refine HSY.out.mono ?_
                rintro e w4 ⟨rfl, S4⟩
                rw [← B2.out] at S4
                have H4 := Lib.hid S4
                clear S4 HSY
                go_wp2
                go_roundg (sz - 2 * bs)
                case measure => omega
                case rel => exact ⟨2 * bs, by congr 1; omega, by omega, by omega, Nat.le_refl _, H4⟩
              · have hz4 : ¬ (a : Int) + (bs : Int) < (sz : Int) := by omega
                have H4 : Hid (SWK enc 4 w0 blk off (blks (ltOf cf) (2 * bs) l).toArray wr) := by
                  rw [h3, blks_small (2 * bs) T (by omega)]
                  rw [blks_small bs T (by omega)] at h4
                  exact h4
                clear h1 h2 h3 h4 H
                go_wp2
                go_roundg (sz - 2 * bs)
                case measure => omega
                case rel => exact ⟨2 * bs, by congr 1; omega, by omega, by omega, Nat.le_refl _, H4⟩
        · have hz2 : ¬ (bs : Int) < (sz : Int) := by omega
          go_wp2_with fail
          go_end0
          refine ⟨rfl, ?_⟩
          have := S3.out
          rw [blks_small bs l (by rw [HL.out]; omega)] at this
          exact this
end Go.Proofs.YtgllddebodfhkaaGreatDoor.StabLot
namespace Go.Proofs.YtgllddebodfhkaaGreatDoor
open Go.RowKit Go.Sort Go.Proofs

theorem lotInfo : (Tryz.prog.info? 47).map (fun i => (i.zero, i.size, i.bytes)) = some (some (.agg #[.string ⟨#[]⟩, .string ⟨#[]⟩, .int .i64 0, .int .i64 0]), 4, 48) := by kernel_rfl
theorem egLot : ∀ args w, (callFunc 64 args).run Tryz.prog w = .ok (.enter 64 args) w := enters_of Tryz.func64 (by kernel_rfl) rfl
theorem cmpLaysLot (blk off size : Nat) (w : World) : CmpLays Tryz.prog 64 #[] encLot 4 cfLot blk off size w := fun _ _ _ _ x y => cmpLot_any x y _

set_option maxHeartbeats 400000 in
theorem sortLots_any (g cap : Nat) (xs : List LotV) (w : World) (hn : xs.length ≤ 1000000) (hg : g < w.heap.size) (hH : HoldsK encLot 4 w g 0 xs.toArray) :
    Calls Tryz.prog 93 #[.slice (some ⟨g, 0, none⟩) xs.length cap, .func (.func 64) #[] #[]] w fun e w' =>
      e = .returned (.tuple #[]) ∧ SWK encLot 4 w g 0 (Stab.srt (ltOf cfLot) xs).toArray w' := by
  have R : RowK encLot 4 w g 0 xs.toArray := ⟨encLot_len, encLot_one, hH, hg⟩
  have hc := StabLot.stable_any encLot cfLot swoLot 64 #[] egLot g 0 cap xs.length xs.toArray w w R (cmpLaysLot g 0 _ w) (by simp) (by omega) xs rfl (SWK.start hH)
  have HC := Lib.hid hc
  generalize xs.length = n at HC
  clear hc R hH
  go_enter Tryz.func93, Tryz.ntmps93
  go_wp2_with fail
  refine HC.out.mono ?_
  rintro e w1 ⟨rfl, S1⟩
  have H1 := Lib.hid S1
  clear S1 HC
  go_wp2
  go_end0
  exact ⟨rfl, H1.out⟩

/-- What Sorted tells. -/
def SortedEnds (xs : List LotV) (w : World) (e : Ending) (w' : World) : Prop :=
  ∃ A cap, e = .returned (.slice A xs.length cap) ∧ (xs = [] → A = none ∧ cap = 0) ∧ RowAt encLot 4 w' A (Stab.srt (ltOf cfLot) xs) ∧ (∀ a, A = some a → w.heap.size ≤ a.block) ∧ Below w.heap.size w w'

set_option maxHeartbeats 400000 in
theorem sorted_any (A : Option Addr) (cap : Nat) (xs : List LotV) (w : World) (hn : xs.length ≤ 1000000) (hX : RowAt encLot 4 w A xs) (h0 : xs ≠ []) :
    Calls Tryz.prog 53 #[.slice A xs.length cap] w (SortedEnds xs w) := by
  obtain ⟨i0, hi, hz0, hz1, hz2⟩ := info_parts lotInfo
  obtain ⟨b, o, rfl, hb, _⟩ := hX.resolve_left h0
  have hcl : Calls Tryz.prog 92 #[.slice (some ⟨b, o, none⟩) xs.length cap] w fun e w' => ∃ v', e = .returned v' ∧ w'.ownsRow w.heap.size 47 4 v' xs.length (flatL encLot xs) ∧ v' ≠ .slice none 0 0 ∧ Below w.heap.size w w' :=
    AnyE.slices_Clone Tryz.cloneLot i0 _ 4 48 hi hz0 hz1 hz2 rfl (by decide) Tryz.sizeOf47 b o xs.length cap (flatL encLot xs) w (flatL_length encLot_len xs) (by unfold maxLen; omega) (by omega) (hX.news encLot_len (by decide) rfl) (fun u hu => by
      obtain ⟨x, _, hx⟩ := List.mem_flatMap.1 hu
      exact encLot_one x u hx)
  have HCL := Lib.hid hcl
  clear hcl hX
  obtain ⟨n, hnn⟩ : ∃ n, n = xs.length := ⟨_, rfl⟩
  have HN := Lib.hid hnn
  rw [← hnn] at HCL hn ⊢
  clear hnn
  go_enter Tryz.func53, Tryz.ntmps53
  go_wp2_with fail
  refine HCL.out.mono ?_
  rintro e w1 ⟨v, rfl, hown, hne, b1⟩
  obtain ⟨g, cp, cur, rfl, hB, hg⟩ : ∃ g cp cur, v = .slice (some ⟨g, 0, none⟩) n cp ∧ w.heap.size ≤ g ∧ w1.heap[g]? = some (.cells cur 47 (0, 0)) := by
    rcases hown.2 with ⟨h, _⟩ | ⟨g, cp, cur, h, h1, h2, _⟩
    · exact absurd h hne
    · exact ⟨g, cp, cur, h, h1, h2⟩
  have hgl : g < w1.heap.size := by
    rcases Nat.lt_or_ge g w1.heap.size with hl | hl
    · exact hl
    · rw [Array.getElem?_eq_none hl] at hg; cases hg
  have hH : HoldsK encLot 4 w1 g 0 xs.toArray := holds_of_own encLot_len (by decide) (by rw [HN.out] at hown; exact hown)
  have hso := sortLots_any g cp xs w1 (by rw [← HN.out]; exact hn) hgl hH
  rw [← HN.out] at hso
  have HSO := Lib.hid hso
  have HH := Lib.hid hH
  have B1 := Lib.hid b1
  clear hso hH hown hne hg b1 HCL
  go_wp2_with fail
  refine HSO.out.mono ?_
  rintro e w2 ⟨rfl, S2⟩
  have H2 := Lib.hid S2
  clear S2 HSO
  go_wp2
  go_ret
  refine ⟨_, _, by rw [← HN.out]; rfl, fun h => absurd h h0, ?_, fun a ha => by cases ha; exact hB, sort_below B1.out H2.out hB B1.out.size⟩
  exact RowAt.of_sort encLot_len ⟨encLot_len, encLot_one, HH.out, hgl⟩ H2.out (by rw [Stab.srt_length, List.size_toArray])

set_option maxHeartbeats 400000 in
theorem insLots_none (w : World) : Calls Tryz.prog 173 #[.slice none 0 0, .int .i64 0, .int .i64 0, .func (.func 64) #[] #[]] w fun e w' => e = .returned (.tuple #[]) ∧ w = w' := by
  go_enter Tryz.func173, Tryz.ntmps173
  go_wp2
  refine wp_loop_rounds 1 ?_
  rw [rounds_succ]
  go_wp2
  go_end0
  exact ⟨rfl, rfl⟩
set_option maxHeartbeats 400000 in
theorem stabLots_none (w : World) : Calls Tryz.prog 135 #[.slice none 0 0, .int .i64 0, .func (.func 64) #[] #[]] w fun e w' => e = .returned (.tuple #[]) ∧ w = w' := by
  go_enter Tryz.func135, Tryz.ntmps135
  go_wp2
  refine wp_loop_rounds 1 ?_
  rw [rounds_succ]
  go_wp2_with fail
  refine (insLots_none w).mono ?_
  rintro e w1 ⟨rfl, rfl⟩
  go_wp2
  refine wp_loop_rounds 1 ?_
  rw [rounds_succ]
  go_wp2
  go_end0
  exact ⟨rfl, rfl⟩
set_option maxHeartbeats 400000 in
theorem sorted_none (w : World) : Calls Tryz.prog 53 #[.slice none 0 0] w fun e w' => e = .returned (.slice none 0 0) ∧ w = w' := by
  have hcl : Calls Tryz.prog 92 #[.slice none 0 0] w fun e w' => e = .returned (.slice none 0 0) ∧ w' = w := AnyE.slices_Clone_nil Tryz.cloneLot 0 0 w
  have HCL := Lib.hid hcl
  have HSO : Hid (∀ W : World, Calls Tryz.prog 93 #[.slice none 0 0, .func (.func 64) #[] #[]] W fun e w' => e = .returned (.tuple #[]) ∧ W = w') := fun W => by
    go_enter Tryz.func93, Tryz.ntmps93
    go_wp2_with fail
    refine (stabLots_none W).mono ?_
    rintro e w1 ⟨rfl, rfl⟩
    go_wp2
    go_end0
    exact ⟨rfl, rfl⟩
  clear hcl
  go_enter Tryz.func53, Tryz.ntmps53
  go_wp2_with fail
  refine HCL.out.mono ?_
  rintro e w1 ⟨rfl, rfl⟩
  go_wp2_with fail
  refine (HSO.out _).mono ?_
  rintro e w1 ⟨rfl, rfl⟩
  go_wp2
  go_ret
  exact ⟨rfl, rfl⟩
end Go.Proofs.YtgllddebodfhkaaGreatDoor
