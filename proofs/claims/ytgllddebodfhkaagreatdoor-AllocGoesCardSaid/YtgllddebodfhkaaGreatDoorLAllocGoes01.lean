/- Places: Ahead. The law AllocGoes, walked. Printed by gen/agoes.py. The twelve sentinels together. -/
import Derived.Deep.RegionHeld3
import Derived.Test.YtgllddebodfhkaaGreatDoorM07
import Derived.Test.YtgllddebodfhkaaGreatDoorM31
import Derived.Test.YtgllddebodfhkaaGreatDoorM39
import Derived.Test.YtgllddebodfhkaaGreatDoorM40
import Derived.Test.YtgllddebodfhkaaGreatDoorM41
import Derived.Test.YtgllddebodfhkaaGreatDoorM49
import Derived.Test.YtgllddebodfhkaaGreatDoorM50
namespace Go.Proofs.YtgllddebodfhkaaGreatDoor
open Go.RowKit Go.Sort Go.Proofs

set_option maxHeartbeats 400000 in
theorem ahead_any (x y : PlaceV) (hx : InP x) (hy : InP y) (W : World) : Calls Tryz.prog 18 #[.agg (encPlace x).toArray, .agg (encPlace y).toArray] W fun e w' => e = .returned (.bool (ltOf cfPlace x y)) ∧ Below W.heap.size W w' := by
  have hc := fun W' => cmpPlace_any x y hx hy W'
  have HL := Lib.hid (show ltOf cfPlace x y = decide (cfPlace x y < 0) from rfl)
  obtain ⟨a1, a2, a3⟩ := x
  obtain ⟨b1, b2, b3⟩ := y
  simp only [encPlace] at hc ⊢
  have HC := Lib.hid hc
  clear hc hx hy
  generalize cfPlace (a1, a2, a3) (b1, b2, b3) = c at HC HL
  go_enter Tryz.func18, Tryz.ntmps18
  go_wp2_with fail
  refine (HC.out _).mono ?_
  rintro e w1 ⟨rfl, q, os, hw⟩
  have hb := below_grown ((W.alloc (.cells #[.string ⟨a1.toArray⟩, .int .i64 a2, .int .i64 a3] 40)).alloc (.cells #[.string ⟨b1.toArray⟩, .int .i64 b2, .int .i64 b3] 40)) q os
  have B1 : Hid (Below W.heap.size W w1) := by
    rw [hw]
    exact (((Below.refl W.heap.size W).alloc (Nat.le_refl _) _).alloc (by simp) _).trans (hb.mono (by simp; omega))
  clear hw HC hb
  go_wp2
  go_ret
  exact ⟨by rw [HL.out]; rfl, B1.out⟩
end Go.Proofs.YtgllddebodfhkaaGreatDoor
namespace Go.Proofs.YtgllddebodfhkaaGreatDoor
open Go.RowKit Go.Sort Go.Proofs

set_option maxHeartbeats 1600000 in
set_option maxRecDepth 100000 in
theorem allocGoes_out (E : Nat → Addr) (A0 : Option Addr) (cap0 : Nat) (xs0 : List EntV) (code : List UInt8) (n day : Int) (w : World) (hG : BkG E w) (hX0 : RowAt encEnt 14 w A0 xs0)
    (h : longL xs0 40 = 1 ∨ (longL xs0 40 = 0 ∧ (30 < code.length ∨ (code.length ≤ 30 ∧ (n < 1 ∨ (¬ n < 1 ∧ (1099511627776 < n ∨ (¬ 1099511627776 < n ∧ (day < 0 ∨ (¬ day < 0 ∧ 100000 < day)))))))))) :
    Calls Tryz.prog 3 #[.slice A0 xs0.length cap0, .string ⟨code.toArray⟩, .int .i64 n, .int .i64 day] w fun e w' => e = .returned (.bool true) ∧ Below w.heap.size w w' := by
  have HC := Lib.hid (planned_any E w hG)
  have HL := Lib.hid (fun W (hb : Below w.heap.size w W) => longEntries_any A0 cap0 xs0 40 W (by decide) (hX0.below hb))
  clear hG hX0
  rcases h with h | ⟨h, h2⟩
  · rw [h] at HL
    clear h
    go_enter Tryz.func3, Tryz.ntmps3
    go_wp2_with fail
    refine HC.out.mono ?_
    rintro e w1 ⟨rfl, b1⟩
    have B1 := Lib.hid b1
    clear b1
    go_wp2_with fail
    refine (HL.out w1 B1.out).mono ?_
    rintro e w2 ⟨rfl, b2⟩
    have B2 := Lib.hid (B1.out.trans (b2.mono B1.out.size))
    clear b2
    go_wp2_with fail
    go_ret
    exact ⟨rfl, B2.out⟩
  · rw [h] at HL
    clear h
    rcases h2 with hc | ⟨hc, h2⟩
    · have hc1 : (30 : Int) < (code.length : Nat) := by omega
      clear hc
      go_enter Tryz.func3, Tryz.ntmps3
      go_wp2_with fail
      refine HC.out.mono ?_
      rintro e w1 ⟨rfl, b1⟩
      have B1 := Lib.hid b1
      clear b1
      go_wp2_with fail
      refine (HL.out w1 B1.out).mono ?_
      rintro e w2 ⟨rfl, b2⟩
      have B2 := Lib.hid (B1.out.trans (b2.mono B1.out.size))
      clear b2
      go_wp2_with fail
      go_ret
      exact ⟨rfl, B2.out⟩
    · have hc1 : ¬ (30 : Int) < (code.length : Nat) := by omega
      clear hc
      rcases h2 with h2 | ⟨g1, h2 | ⟨g2, h2 | ⟨g3, h2⟩⟩⟩
      all_goals
        go_enter Tryz.func3, Tryz.ntmps3
        go_wp2_with fail
        refine HC.out.mono ?_
        rintro e w1 ⟨rfl, b1⟩
        have B1 := Lib.hid b1
        clear b1
        go_wp2_with fail
        refine (HL.out w1 B1.out).mono ?_
        rintro e w2 ⟨rfl, b2⟩
        have B2 := Lib.hid (B1.out.trans (b2.mono B1.out.size))
        clear b2
        go_wp2_with fail
        go_ret
        exact ⟨rfl, B2.out⟩
set_option maxHeartbeats 12800000 in
set_option maxRecDepth 100000 in
theorem allocGoes_in (E : Nat → Addr) (A0 : Option Addr) (cap0 : Nat) (xs0 : List EntV) (code : List UInt8) (n day : Int) (w : World) (hG : BkG E w) (hE : ErrG E w) (hX0 : RowAt encEnt 14 w A0 xs0) (h : longL xs0 40 = 0) (hc : code.length ≤ 30) (hn : 1 ≤ n) (hn2 : n ≤ 1099511627776) (hd : 0 ≤ day) (hd2 : day ≤ 100000) :
    Calls Tryz.prog 3 #[.slice A0 xs0.length cap0, .string ⟨code.toArray⟩, .int .i64 n, .int .i64 day] w fun e w' => e = .returned (.bool true) ∧ Below w.heap.size w w' := by
  have HC := Lib.hid (planned_any E w hG)
  have HL := Lib.hid (fun W (hb : Below w.heap.size w W) => longEntries_any A0 cap0 xs0 40 W (by decide) (hX0.below hb))
  rw [h] at HL
  obtain ⟨s1, s2⟩ := longL_short h
  have hsh : ∀ x ∈ xs0, ShortE x := fun x hx => longN_ShortE (s2 x hx)
  have HBO := Lib.hid (fun W (hb : Below w.heap.size w W) => bookOf_any E A0 cap0 xs0 W (hX0.below hb) (by omega) hsh (hG.below hb) (hE.below hb))
  have hI := BkI.all BkI.nil xs0
  have hroom := outs_all code xs0 BkI.nil
  have hz : (sumsOf bk0 code).2.1 = 0 := rfl
  generalize doAll bk0 xs0 = B at HBO hI hroom
  have hr : (sumsOf B code).2.1 + n ≤ mostS := by unfold mostS; omega
  have hgw := hI.goesW (code := code) hn hn2 hd hd2 hr
  obtain ⟨hf0, hf1⟩ : 0 ≤ freeB B code day ∧ freeB B code day ≤ 65970697666560 := by
    have h1 := freeTo_in hI day (lotsB B code)
    have h2 := hI.lots60 code
    unfold freeB
    omega
  have HPL := Lib.hid (fun p F W (hb : Below w.heap.size w W) (H : BookIs W p F B) => planAl_any E H hI code n day (hG.below hb))
  have HFR := Lib.hid (fun p F W (H : BookIs W p F B) => freeAl_any H hI code day)
  have HLT := Lib.hid (fun p F W (H : BookIs W p F B) id => lotBk_any H id)
  have HHA := Lib.hid (fun p F W (H : BookIs W p F B) => hasBk_any H hI code (hI.has_most code))
  have hha := hI.has_most code
  have HG := Lib.hid (fun W (hb : Below w.heap.size w W) => hG.below hb)
  have HI := Lib.hid hI
  have hl60 := hI.lots60 code
  have hc1 : ¬ (30 : Int) < (code.length : Nat) := by omega
  have g1 : ¬ n < 1 := by omega
  have g2 : ¬ 1099511627776 < n := by omega
  have g3 : ¬ day < 0 := by omega
  have g4 : ¬ 100000 < day := by omega
  generalize freeB B code day = fr at hgw HFR hf0 hf1
  generalize planE B code n day = pe at hgw HPL
  generalize planL B code n day = pl at hgw HPL
  have HIFF := Lib.hid hgw.iff
  have HNIL := Lib.hid hgw.nil
  have HGO := Lib.hid hgw.go
  have HALL := Lib.hid hgw.all
  have HSH := Lib.hid hgw.short
  have HPK := Lib.hid hgw.lot
  have HNX := Lib.hid hgw.next
  have HLA := Lib.hid hgw.last
  have HGS := Lib.hid hgw.some_
  have hlen := hgw.len
  clear hG hE hX0 h s1 s2 hsh hI hc hroom hz hr hgw
  go_enter Tryz.func3, Tryz.ntmps3
  go_wp2_with fail
  refine HC.out.mono ?_
  rintro e w1 ⟨rfl, b1⟩
  have B1 := Lib.hid b1
  clear b1 HC
  go_wp2_with fail
  refine (HL.out w1 B1.out).mono ?_
  rintro e w2 ⟨rfl, b2⟩
  have B2 := Lib.hid (B1.out.trans (b2.mono B1.out.size))
  clear b2 HL B1
  go_wp2_with fail
  refine (HBO.out w2 B2.out).mono ?_
  rintro e w3 ⟨p, q, rfl, hbo, b3⟩
  have B3 := Lib.hid (B2.out.trans (b3.mono B2.out.size))
  obtain ⟨F, G, R, hbk, -, hF, -, -⟩ := hbo
  have HBK := Lib.hid hbk
  have HF0 := Lib.hid (fun k (hk : k ∈ F) => hbk.lt k hk)
  clear b3 HBO B2 hbk hF hc1 g1 g2 g3 g4
  go_wp2_with fail
  refine (HPL.out p F w3 B3.out HBK.out).mono ?_
  rintro e w4 ⟨A4, c4, rfl, hr4, -, b4⟩
  have B4 := Lib.hid (B3.out.trans (b4.mono B3.out.size))
  have HB4 := Lib.hid (HBK.out.below b4)
  have HR4 := Lib.hid hr4
  have hs34 := b4.size
  clear b4 HBK hr4 HPL
  have hd8 : Below w4.heap.size w4 w4.drew := (Below.refl _ _).drew
  have HFR4 := Lib.hid (HFR.out p F w4.drew (HB4.out.below hd8))
  by_cases hpe : pe = 0
  case neg =>
    have hfn : ¬ n ≤ fr := fun h => hpe (HIFF.out.2 h)
    have hfd : decide (n ≤ fr) = false := decide_eq_false hfn
    rw [HNIL.out hpe, errOf_pos _ _ hpe]
    clear HGO HALL HSH HPK HNX HLA HGS HIFF hpe
    go_wp2_with fail
    refine wp_region_held_drew (S := fun W => True) (by kernel_rfl) (trivial) (fun hHeld => ?_)
    refine wpAnyH_take (i := 0) (oi := _) (v := .iface 308 (.pointer (some (E pe)))) rfl (by kernel_rfl) (by kernel_rfl) (by kernel_rfl) (fun _ _ _ h => h) (Or.inl ⟨by kernel_rfl, fun W hSw => ?_⟩) hHeld ?_
    · dsimp only at hSw
      go_simp
      all_goals (first | omega | exact hfd | simpa using hfd)
    change wpAnyH _ _ _ _ _ _ _ (Act.put _ (some 74) _) _
    (try simp only [Act.put, List.setIfInBounds_toArray, List.set_cons_zero, List.set_cons_succ])
    refine wpAnyH_take (i := 1) (oi := _) (v := .bool false) rfl (by kernel_rfl) (by kernel_rfl) (by kernel_rfl) (fun _ _ _ h => h) (Or.inl ⟨by kernel_rfl, fun W hSw => ?_⟩) hHeld ?_
    · dsimp only at hSw
      go_simp
      all_goals (first | omega | exact hfd | simpa using hfd)
    change wpAnyH _ _ _ _ _ _ _ (Act.put _ (some 75) _) _
    (try simp only [Act.put, List.setIfInBounds_toArray, List.set_cons_zero, List.set_cons_succ])
    refine wpAnyH_take (i := 2) (oi := _) (v := .pointer (some ⟨p, 0, none⟩)) rfl (by kernel_rfl) (by kernel_rfl) (by kernel_rfl) (fun _ _ _ h => h) (Or.inl ⟨by kernel_rfl, fun W hSw => ?_⟩) hHeld ?_
    · dsimp only at hSw
      go_simp
      all_goals (first | omega | exact hfd | simpa using hfd)
    change wpAnyH _ _ _ _ _ _ _ (Act.put _ (some 76) _) _
    (try simp only [Act.put, List.setIfInBounds_toArray, List.set_cons_zero, List.set_cons_succ])
    refine wpAnyH_take (i := 3) (oi := _) (v := .string ⟨code.toArray⟩) rfl (by kernel_rfl) (by kernel_rfl) (by kernel_rfl) (fun _ _ _ h => h) (Or.inl ⟨by kernel_rfl, fun W hSw => ?_⟩) hHeld ?_
    · dsimp only at hSw
      go_simp
      all_goals (first | omega | exact hfd | simpa using hfd)
    change wpAnyH _ _ _ _ _ _ _ (Act.put _ (some 77) _) _
    (try simp only [Act.put, List.setIfInBounds_toArray, List.set_cons_zero, List.set_cons_succ])
    refine wpAnyH_take (i := 4) (oi := _) (v := .int .i64 day) rfl (by kernel_rfl) (by kernel_rfl) (by kernel_rfl) (fun _ _ _ h => h) (Or.inl ⟨by kernel_rfl, fun W hSw => ?_⟩) hHeld ?_
    · dsimp only at hSw
      go_simp
      all_goals (first | omega | exact hfd | simpa using hfd)
    change wpAnyH _ _ _ _ _ _ _ (Act.put _ (some 78) _) _
    (try simp only [Act.put, List.setIfInBounds_toArray, List.set_cons_zero, List.set_cons_succ])
    refine wpAnyH_take (i := 6) (oi := _) (v := .int .i64 n) rfl (by kernel_rfl) (by kernel_rfl) (by kernel_rfl) (fun _ _ _ h => h) (Or.inl ⟨by kernel_rfl, fun W hSw => ?_⟩) hHeld ?_
    · dsimp only at hSw
      go_simp
      all_goals (first | omega | exact hfd | simpa using hfd)
    change wpAnyH _ _ _ _ _ _ _ (Act.put _ (some 80) _) _
    (try simp only [Act.put, List.setIfInBounds_toArray, List.set_cons_zero, List.set_cons_succ])
    refine wpAnyH_ready (rs := [5]) (by kernel_rfl) (by simp) (AllReadyH.cons (o := _) rfl (fun K hK => ?_) AllReadyH.nil)
    go_simp
    refine (HFR4.out).mono ?_
    rintro e v ⟨rfl, bb⟩
    have hk1 := hd8.trans (bb.mono hd8.size)
    clear hHeld
    go_wp2_with fail
    refine hK.out _ _ (trivial) (fun hHeld => ?_)
    clear hK K
    (try simp only [Act.put, List.setIfInBounds_toArray, List.set_cons_zero, List.set_cons_succ])
    refine wpAnyH_take (i := 7) (oi := _) (v := .bool false) rfl (by kernel_rfl) (by kernel_rfl) (by kernel_rfl) (fun _ _ _ h => h) (Or.inl ⟨by kernel_rfl, fun W hSw => ?_⟩) hHeld ?_
    · dsimp only at hSw
      go_simp
      all_goals (first | omega | exact hfd | simpa using hfd)
    change wpAnyH _ _ _ _ _ _ _ (Act.put _ (some 81) _) _
    (try simp only [Act.put, List.setIfInBounds_toArray, List.set_cons_zero, List.set_cons_succ])
    refine wpAnyH_take (i := 8) (oi := _) (v := .bool false) rfl (by kernel_rfl) (by kernel_rfl) (by kernel_rfl) (fun _ _ _ h => h) (Or.inl ⟨by kernel_rfl, fun W hSw => ?_⟩) hHeld ?_
    · dsimp only at hSw
      go_simp
      all_goals (first | omega | exact hfd | simpa using hfd)
    change wpAnyH _ _ _ _ _ _ _ (Act.put _ (some 82) _) _
    (try simp only [Act.put, List.setIfInBounds_toArray, List.set_cons_zero, List.set_cons_succ])
    refine wpAnyH_take (i := 9) (oi := _) (v := .bool false) rfl (by kernel_rfl) (by kernel_rfl) (by kernel_rfl) (fun _ _ _ h => h) (Or.inl ⟨by kernel_rfl, fun W hSw => ?_⟩) hHeld ?_
    · dsimp only at hSw
      go_simp
      all_goals (first | omega | exact hfd | simpa using hfd)
    change wpAnyH _ _ _ _ _ _ _ (Act.put _ (some 83) _) _
    (try simp only [Act.put, List.setIfInBounds_toArray, List.set_cons_zero, List.set_cons_succ])
    refine wpAnyH_take (i := 10) (oi := _) (v := undef) rfl (by kernel_rfl) (by kernel_rfl) (by kernel_rfl) (fun _ _ _ h => h) (Or.inr ⟨by kernel_rfl, rfl⟩) hHeld ?_
    change wpAnyH _ _ _ _ _ _ _ (Act.put _ (some 84) _) _
    (try simp only [Act.put, List.setIfInBounds_toArray, List.set_cons_zero, List.set_cons_succ])
    refine wpAnyH_take (i := 11) (oi := _) (v := undef) rfl (by kernel_rfl) (by kernel_rfl) (by kernel_rfl) (fun _ _ _ h => h) (Or.inr ⟨by kernel_rfl, rfl⟩) hHeld ?_
    change wpAnyH _ _ _ _ _ _ _ (Act.put _ (some 85) _) _
    (try simp only [Act.put, List.setIfInBounds_toArray, List.set_cons_zero, List.set_cons_succ])
    refine wpAnyH_take (i := 12) (oi := _) (v := undef) rfl (by kernel_rfl) (by kernel_rfl) (by kernel_rfl) (fun _ _ _ h => h) (Or.inr ⟨by kernel_rfl, rfl⟩) hHeld ?_
    change wpAnyH _ _ _ _ _ _ _ (Act.put _ (some 86) _) _
    (try simp only [Act.put, List.setIfInBounds_toArray, List.set_cons_zero, List.set_cons_succ])
    refine wpAnyH_take (i := 13) (oi := _) (v := undef) rfl (by kernel_rfl) (by kernel_rfl) (by kernel_rfl) (fun _ _ _ h => h) (Or.inr ⟨by kernel_rfl, rfl⟩) hHeld ?_
    change wpAnyH _ _ _ _ _ _ _ (Act.put _ (some 87) _) _
    (try simp only [Act.put, List.setIfInBounds_toArray, List.set_cons_zero, List.set_cons_succ])
    refine wpAnyH_take (i := 14) (oi := _) (v := undef) rfl (by kernel_rfl) (by kernel_rfl) (by kernel_rfl) (fun _ _ _ h => h) (Or.inr ⟨by kernel_rfl, rfl⟩) hHeld ?_
    change wpAnyH _ _ _ _ _ _ _ (Act.put _ (some 88) _) _
    (try simp only [Act.put, List.setIfInBounds_toArray, List.set_cons_zero, List.set_cons_succ])
    refine wpAnyH_take (i := 15) (oi := _) (v := .bool false) rfl (by kernel_rfl) (by kernel_rfl) (by kernel_rfl) (fun _ _ _ h => h) (Or.inl ⟨by kernel_rfl, fun W hSw => ?_⟩) hHeld ?_
    · dsimp only at hSw
      go_simp
      all_goals (first | omega | exact hfd | simpa using hfd)
    change wpAnyH _ _ _ _ _ _ _ (Act.put _ (some 89) _) _
    (try simp only [Act.put, List.setIfInBounds_toArray, List.set_cons_zero, List.set_cons_succ])
    refine wpAnyH_done (by kernel_rfl) ?_ _
    have B5 := Lib.hid (B4.out.trans (hk1.mono B4.out.size))
    clear hk1 bb hd8
    go_wp2_with fail
    go_ret
    exact ⟨by simp, B5.out⟩
  case pos =>
  have hfn : n ≤ fr := HIFF.out.1 hpe
  have hfd : decide (n ≤ fr) = true := decide_eq_true hfn
  have hgo := HGO.out hpe
  have HALL1 := Lib.hid (HALL.out hpe)
  have HSH1 := Lib.hid (HSH.out hpe)
  have HPK1 := Lib.hid (HPK.out hpe)
  have HNX1 := Lib.hid (HNX.out hpe)
  have HLA1 := Lib.hid (HLA.out hpe)
  have HGS1 := Lib.hid (HGS.out hpe)
  rw [hpe, errOf_zero]
  obtain ⟨hcg, hok, hwt, hfc⟩ := hgo
  have HOK := Lib.hid hok
  have HWT := Lib.hid hwt
  have HFC := Lib.hid hfc
  have HNN : Hid (∀ x ∈ pl, 1 ≤ x.2.2 ∧ x.2.2 ≤ 1099511627776) := fun x hx => by
    obtain ⟨f1, f2⟩ := hcg.fits x hx
    have f3 := atM_le B.2.2 x.1 x.2.1
    have f4 := HI.out.stk.few x.2.1
    omega
  clear hok hwt hfc hcg HGO HALL HSH HPK HNX HLA HGS HIFF hpe HNIL
  go_wp2_with fail
  refine wp_region_held_drew (S := fun W => True) (by kernel_rfl) (trivial) (fun hHeld => ?_)
  refine wpAnyH_take (i := 0) (oi := _) (v := .nilIface) rfl (by kernel_rfl) (by kernel_rfl) (by kernel_rfl) (fun _ _ _ h => h) (Or.inl ⟨by kernel_rfl, fun W hSw => ?_⟩) hHeld ?_
  · dsimp only at hSw
    go_simp
    all_goals (first | omega | exact hfd | simpa using hfd)
  change wpAnyH _ _ _ _ _ _ _ (Act.put _ (some 74) _) _
  (try simp only [Act.put, List.setIfInBounds_toArray, List.set_cons_zero, List.set_cons_succ])
  refine wpAnyH_take (i := 1) (oi := _) (v := .bool true) rfl (by kernel_rfl) (by kernel_rfl) (by kernel_rfl) (fun _ _ _ h => h) (Or.inl ⟨by kernel_rfl, fun W hSw => ?_⟩) hHeld ?_
  · dsimp only at hSw
    go_simp
    all_goals (first | omega | exact hfd | simpa using hfd)
  change wpAnyH _ _ _ _ _ _ _ (Act.put _ (some 75) _) _
  (try simp only [Act.put, List.setIfInBounds_toArray, List.set_cons_zero, List.set_cons_succ])
  refine wpAnyH_take (i := 2) (oi := _) (v := .pointer (some ⟨p, 0, none⟩)) rfl (by kernel_rfl) (by kernel_rfl) (by kernel_rfl) (fun _ _ _ h => h) (Or.inl ⟨by kernel_rfl, fun W hSw => ?_⟩) hHeld ?_
  · dsimp only at hSw
    go_simp
    all_goals (first | omega | exact hfd | simpa using hfd)
  change wpAnyH _ _ _ _ _ _ _ (Act.put _ (some 76) _) _
  (try simp only [Act.put, List.setIfInBounds_toArray, List.set_cons_zero, List.set_cons_succ])
  refine wpAnyH_take (i := 3) (oi := _) (v := .string ⟨code.toArray⟩) rfl (by kernel_rfl) (by kernel_rfl) (by kernel_rfl) (fun _ _ _ h => h) (Or.inl ⟨by kernel_rfl, fun W hSw => ?_⟩) hHeld ?_
  · dsimp only at hSw
    go_simp
    all_goals (first | omega | exact hfd | simpa using hfd)
  change wpAnyH _ _ _ _ _ _ _ (Act.put _ (some 77) _) _
  (try simp only [Act.put, List.setIfInBounds_toArray, List.set_cons_zero, List.set_cons_succ])
  refine wpAnyH_take (i := 4) (oi := _) (v := .int .i64 day) rfl (by kernel_rfl) (by kernel_rfl) (by kernel_rfl) (fun _ _ _ h => h) (Or.inl ⟨by kernel_rfl, fun W hSw => ?_⟩) hHeld ?_
  · dsimp only at hSw
    go_simp
    all_goals (first | omega | exact hfd | simpa using hfd)
  change wpAnyH _ _ _ _ _ _ _ (Act.put _ (some 78) _) _
  (try simp only [Act.put, List.setIfInBounds_toArray, List.set_cons_zero, List.set_cons_succ])
  refine wpAnyH_take (i := 6) (oi := _) (v := .int .i64 n) rfl (by kernel_rfl) (by kernel_rfl) (by kernel_rfl) (fun _ _ _ h => h) (Or.inl ⟨by kernel_rfl, fun W hSw => ?_⟩) hHeld ?_
  · dsimp only at hSw
    go_simp
    all_goals (first | omega | exact hfd | simpa using hfd)
  change wpAnyH _ _ _ _ _ _ _ (Act.put _ (some 80) _) _
  (try simp only [Act.put, List.setIfInBounds_toArray, List.set_cons_zero, List.set_cons_succ])
  refine wpAnyH_ready (rs := [5]) (by kernel_rfl) (by simp) (AllReadyH.cons (o := _) rfl (fun K hK => ?_) AllReadyH.nil)
  go_simp
  refine (HFR4.out).mono ?_
  rintro e v ⟨rfl, bb⟩
  have hk1 := hd8.trans (bb.mono hd8.size)
  clear hHeld
  go_wp2_with fail
  refine hK.out _ _ (trivial) (fun hHeld => ?_)
  clear hK K
  (try simp only [Act.put, List.setIfInBounds_toArray, List.set_cons_zero, List.set_cons_succ])
  refine wpAnyH_take (i := 7) (oi := _) (v := .bool true) rfl (by kernel_rfl) (by kernel_rfl) (by kernel_rfl) (fun _ _ _ h => h) (Or.inl ⟨by kernel_rfl, fun W hSw => ?_⟩) hHeld ?_
  · dsimp only at hSw
    go_simp
    all_goals (first | omega | exact hfd | simpa using hfd)
  change wpAnyH _ _ _ _ _ _ _ (Act.put _ (some 81) _) _
  (try simp only [Act.put, List.setIfInBounds_toArray, List.set_cons_zero, List.set_cons_succ])
  refine wpAnyH_take (i := 8) (oi := _) (v := .bool false) rfl (by kernel_rfl) (by kernel_rfl) (by kernel_rfl) (fun _ _ _ h => h) (Or.inl ⟨by kernel_rfl, fun W hSw => ?_⟩) hHeld ?_
  · dsimp only at hSw
    go_simp
    all_goals (first | omega | exact hfd | simpa using hfd)
  change wpAnyH _ _ _ _ _ _ _ (Act.put _ (some 82) _) _
  (try simp only [Act.put, List.setIfInBounds_toArray, List.set_cons_zero, List.set_cons_succ])
  refine wpAnyH_take (i := 9) (oi := _) (v := .bool false) rfl (by kernel_rfl) (by kernel_rfl) (by kernel_rfl) (fun _ _ _ h => h) (Or.inl ⟨by kernel_rfl, fun W hSw => ?_⟩) hHeld ?_
  · dsimp only at hSw
    go_simp
    all_goals (first | omega | exact hfd | simpa using hfd)
  change wpAnyH _ _ _ _ _ _ _ (Act.put _ (some 83) _) _
  (try simp only [Act.put, List.setIfInBounds_toArray, List.set_cons_zero, List.set_cons_succ])
  refine wpAnyH_take (i := 10) (oi := _) (v := undef) rfl (by kernel_rfl) (by kernel_rfl) (by kernel_rfl) (fun _ _ _ h => h) (Or.inr ⟨by kernel_rfl, rfl⟩) hHeld ?_
  change wpAnyH _ _ _ _ _ _ _ (Act.put _ (some 84) _) _
  (try simp only [Act.put, List.setIfInBounds_toArray, List.set_cons_zero, List.set_cons_succ])
  refine wpAnyH_take (i := 11) (oi := _) (v := undef) rfl (by kernel_rfl) (by kernel_rfl) (by kernel_rfl) (fun _ _ _ h => h) (Or.inr ⟨by kernel_rfl, rfl⟩) hHeld ?_
  change wpAnyH _ _ _ _ _ _ _ (Act.put _ (some 85) _) _
  (try simp only [Act.put, List.setIfInBounds_toArray, List.set_cons_zero, List.set_cons_succ])
  refine wpAnyH_take (i := 12) (oi := _) (v := undef) rfl (by kernel_rfl) (by kernel_rfl) (by kernel_rfl) (fun _ _ _ h => h) (Or.inr ⟨by kernel_rfl, rfl⟩) hHeld ?_
  change wpAnyH _ _ _ _ _ _ _ (Act.put _ (some 86) _) _
  (try simp only [Act.put, List.setIfInBounds_toArray, List.set_cons_zero, List.set_cons_succ])
  refine wpAnyH_take (i := 13) (oi := _) (v := undef) rfl (by kernel_rfl) (by kernel_rfl) (by kernel_rfl) (fun _ _ _ h => h) (Or.inr ⟨by kernel_rfl, rfl⟩) hHeld ?_
  change wpAnyH _ _ _ _ _ _ _ (Act.put _ (some 87) _) _
  (try simp only [Act.put, List.setIfInBounds_toArray, List.set_cons_zero, List.set_cons_succ])
  refine wpAnyH_take (i := 14) (oi := _) (v := undef) rfl (by kernel_rfl) (by kernel_rfl) (by kernel_rfl) (fun _ _ _ h => h) (Or.inr ⟨by kernel_rfl, rfl⟩) hHeld ?_
  change wpAnyH _ _ _ _ _ _ _ (Act.put _ (some 88) _) _
  (try simp only [Act.put, List.setIfInBounds_toArray, List.set_cons_zero, List.set_cons_succ])
  refine wpAnyH_take (i := 15) (oi := _) (v := .bool false) rfl (by kernel_rfl) (by kernel_rfl) (by kernel_rfl) (fun _ _ _ h => h) (Or.inl ⟨by kernel_rfl, fun W hSw => ?_⟩) hHeld ?_
  · dsimp only at hSw
    go_simp
    all_goals (first | omega | exact hfd | simpa using hfd)
  change wpAnyH _ _ _ _ _ _ _ (Act.put _ (some 89) _) _
  (try simp only [Act.put, List.setIfInBounds_toArray, List.set_cons_zero, List.set_cons_succ])
  refine wpAnyH_done (by kernel_rfl) ?_ _
  obtain ⟨w5, hw5⟩ : ∃ w5 : World, w5 = v := ⟨_, rfl⟩
  rw [← hw5] at hk1 bb ⊢
  have B5 := Lib.hid (B4.out.trans (hk1.mono B4.out.size))
  have HB5 := Lib.hid (HB4.out.below hk1)
  have HR5 := Lib.hid (HR4.out.below hk1)
  have hs45 := hk1.size
  clear hk1 bb hd8 hw5 HB4 HR4 HFR4
  go_wp2_with fail
  refine (copyBook_any HB5.out).mono ?_
  rintro e w6 ⟨pc, Fc, rfl, hc6, hf6, b6⟩
  have B6 := Lib.hid (B5.out.trans (b6.mono B5.out.size))
  have HC6 := Lib.hid hc6
  have HFC6 := Lib.hid (fun k (hk : k ∈ Fc) => And.intro (hf6 k hk) (hc6.lt k hk))
  have HB6 := Lib.hid (HB5.out.below b6)
  have HR6 := Lib.hid (HR5.out.below b6)
  have HA4 : Hid (∀ a, A4 = some a → pl ≠ [] → a.block ∉ Fc) := fun a ha hne hm => by
    have h1 := (HFC6.out _ hm).1
    rcases HR5.out with h | ⟨g, o, h2, h3, -⟩
    · exact hne h
    · rw [ha] at h2
      rw [Option.some.inj h2] at h1
      exact absurd h3 (Nat.not_lt.2 h1)
  have hs56 := b6.size
  clear b6 hc6 hf6 HB5 HR5
  go_wp2_with fail
  refine (outAl_any A4 c4 pl w6 HR6.out (by omega)).mono ?_
  rintro e w7 ⟨A7, c7, rfl, hr7, hf7, b7⟩
  have B7 := Lib.hid (B6.out.trans (b7.mono B6.out.size))
  have HS7 : Hid (Since Fc w7 pc B w7) := Since.start (HC6.out.below b7)
  have HB7 := Lib.hid (HB6.out.below b7)
  have HR7 := Lib.hid (HR6.out.below b7)
  have HO7 := Lib.hid hr7
  have HA7 : Hid (∀ a, A7 = some a → a.block ∉ Fc) := fun a ha hm => by
    have h1 := hf7 a ha
    have h2 := (HFC6.out _ hm).2
    omega
  have HFW : Hid (∀ k ∈ Fc, w.heap.size ≤ k) := fun k hk => Nat.le_trans B5.out.size (HFC6.out k hk).1
  have HFF : Hid (∀ k ∈ F, k ∉ Fc) := fun k hk hm => by
    have h1 := HF0.out k hk
    have h2 := (HFC6.out k hm).1
    omega
  have hs67 := b7.size
  have HLM : Hid ((pl.map goE).length = pl.length) := List.length_map ..
  obtain ⟨Os, hOs⟩ : ∃ Os, Os = pl.map goE := ⟨_, rfl⟩
  rw [← hOs] at HO7 HOK HSH1 HLM HWT HFC HLA1
  obtain ⟨N, hN⟩ : ∃ N, N = pl.length := ⟨_, rfl⟩
  have HNP := Lib.hid hN
  rw [← hN] at HLM hlen ⊢
  have HAT := Lib.hid (fun k (hk : k < pl.length) => allP_take pl k hk)
  have HAI : Hid (∀ k, 0 ≤ allP (pl.take k) ∧ allP (pl.take k) ≤ n) := fun k => by
    have h := allP_in pl (fun x hx => by have := (HNN.out x hx).1; omega) k
    rw [HALL1.out] at h
    exact h
  clear b7 hr7 hf7 HB6 HR6 HC6 hOs hN
  go_wp2_with fail
  go_loopw [17, 18] (fun s i wr => ∃ k : Nat, k ≤ N ∧ i = .int .i64 k ∧ s = .int .i64 (allP (pl.take k)) ∧ Hid (Since Fc w7 pc (doAll B (Os.take k)) wr)) (fun _ i _ => N - (intOf i).toNat)
  case atStart => exact ⟨0, by omega, rfl, rfl, HS7.out⟩
  case round =>
    obtain ⟨k, hk, rfl, rfl, HS⟩ := hrel
    obtain ⟨wo, rfl⟩ : ∃ wo : World, wo = wr := ⟨_, rfl⟩
    have hlow := HS.out.low B7.out.size HFW.out
    by_cases hkN : k < N
    · have hkp : k < pl.length := by rw [← HNP.out]; exact hkN
      have hne : pl ≠ [] := fun h => by rw [h] at hkp; simp at hkp
      have hkx : k < Os.length := by rw [HLM.out]; exact hkN
      obtain ⟨g, o, rfl, lg, cg⟩ := (HO7.out.since HS.out HA7.out).resolve_left (fun h => by rw [h] at hkx; simp at hkx)
      obtain ⟨gp, op, rfl, lp, cp⟩ := (HR7.out.since HS.out (fun a ha => HA4.out a ha hne)).resolve_left hne
      obtain ⟨x, hx⟩ : ∃ x, x = pl[k] := ⟨_, rfl⟩
      have hxn := HNN.out x (by rw [hx]; exact List.getElem_mem hkp)
      have hat := HAT.out k hkp
      rw [← hx] at hat
      have hai := HAI.out k
      have HAT1 := Lib.hid hat
      have d4 : wo.cell? ⟨gp, op + k * 5 + 4, none⟩ = some (.int .i64 x.2.2) := cp k hkp 4 _ (by rw [← hx]; rfl)
      obtain ⟨ok1, ok2⟩ := allOk_at HOK.out k hkx
      have hdo := Since.do_ E Os[k] HS.out (HI.out.all _) (HSH1.out _ (List.getElem_mem hkx)) (HG.out wo (B7.out.trans hlow))
      rw [ok1, ← ok2, errOf_zero] at hdo
      have HLZ : Hid (Lies wo g (o + k * 14) (encEnt Os[k])) := fun c v hv => cg k hkx c v hv
      have h14 : (encEnt Os[k]).length = 14 := encEnt_len _
      obtain ⟨LE, hLE⟩ : ∃ LE, LE = encEnt Os[k] := ⟨_, rfl⟩
      rw [← hLE] at HLZ h14 hdo
      have HDO := Lib.hid hdo
      have hk0 : (0 : Int) ≤ (k : Nat) := by omega
      have hk1 : ((k : Nat) : Int) < (N : Nat) := by omega
      generalize allP (pl.take k) = sk at HAT1 hai ⊢
      obtain ⟨ha0, ha1⟩ := hai
      obtain ⟨hx1, hx2⟩ := hxn
      have HXP := Lib.hid hx
      clear hdo ok1 ok2 cg lg hLE hat cp lp hx
      go_wp2_with (refine wpList_load_at rfl 49 _ rfl g (o + k * 14) rfl LE HLZ.out _ Tryz.underlying49 rfl (by rw [h14]; kernel_rfl) ?_)
      refine HDO.out.mono ?_
      rintro e w8 ⟨rfl, hs8⟩
      have HS8 := Lib.hid hs8
      have HR8 := Lib.hid (HR7.out.since hs8 (fun a ha => HA4.out a ha hne))
      obtain ⟨-, -, -, hbut8⟩ := hs8
      have HB8 : Hid (BookIs w8 p F B) := HB7.out.butF hbut8 HFF.out
      obtain ⟨gq, oq, hgq, lp, cp⟩ := HR8.out.resolve_left hne
      have hge : gq = gp ∧ oq = op := by
        have := Option.some.inj hgq
        simp only [Addr.mk.injEq] at this
        exact ⟨this.1.symm, this.2.1.symm⟩
      obtain ⟨e1, e2⟩ := hge
      subst e1 e2
      have HCP : Hid (∀ W, Below w8.heap.size w8 W → ∀ j (hj : j < pl.length) c v, (encPick pl[j])[c]? = some v → W.cell? ⟨gq, oq + j * 5 + c, none⟩ = some v) := fun W hb j hj c v hv => (hb.cell (p := ⟨gq, oq + j * 5 + c, none⟩) lp).trans (cp j hj c v hv)
      have d3 : w8.cell? ⟨gq, oq + k * 5 + 3, none⟩ = some (.string ⟨x.2.1.toArray⟩) := cp k hkp 3 _ (by rw [← HXP.out]; rfl)
      obtain ⟨l, hlf, hll, hlk, hlc, hld, hin⟩ := HPK1.out k hkp
      rw [← HXP.out] at hlf hlk hin
      have hlt := HLT.out p F w8 HB8.out x.2.1
      rw [hlf] at hlt
      simp only [Option.getD_some, Option.isSome_some] at hlt
      have h4 : (encLot l).length = 4 := rfl
      have HZ1 := Lib.hid (encLot_one l)
      obtain ⟨LZ, hLZ⟩ : ∃ LZ, LZ = encLot l := ⟨_, rfl⟩
      have HLE := Lib.hid hLZ
      rw [← hLZ] at h4 HZ1 hlt
      have HLT8 := Lib.hid hlt
      have HLF := Lib.hid hlf
      have HIN := Lib.hid hin
      clear hbut8 hgq lp cp hlt hlf hLZ HDO HLZ d4 hin hlk
      go_wp2_with fail
      refine HLT8.out.mono ?_
      rintro e w9 ⟨rfl, b9⟩
      have hba := below_one w9 (.cells #[.string ⟨#[]⟩, .string ⟨#[]⟩, .int .i64 0, .int .i64 0] 47)
      go_upto_region 24 with (refine wpList_store_box rfl 47 _ _ rfl w9.heap.size LZ rfl rfl _ [.string ⟨#[]⟩, .string ⟨#[]⟩, .int .i64 0, .int .i64 0] (heap_alloc_new w9 _) (by rw [h4]; kernel_rfl) (by rw [h4]; rfl) HZ1.out ?_; intro w10 h10 tu10)
      have b10 := hba.trans (tu10.below (Nat.le_refl _))
      have HK10 := Lib.hid (b9.trans (b10.mono b9.size))
      rw [HLE.out] at h10
      obtain ⟨⟨e0, e1, e2, e3⟩, -⟩ := row4f h10
      have HX10 := Lib.hid h10
      have hz10 := row_lt h10
      have hcb : (l.2.1 == code) = true := by rw [hlc]; simp
      have hcn : (l.2.1 != code) = false := by rw [hlc]; simp
      have hld2 : ¬ l.2.2.1 < day := by omega
      clear hba tu10 b10 b9 h10 HLT8 d3 hlc hld
      by_cases hk00 : k = 0
      · have hkz : ¬ (0 : Int) < ((k : Nat) : Int) := by omega
        clear hk00 HCP
        go_wp2_with fail
        go_roundw
        case rel => exact ⟨k + 1, by omega, by go_num, by rw [HAT1.out], HS8.out.below HK10.out⟩
        case measure => simp [intOf]; omega
      · obtain ⟨K, hK⟩ : ∃ K, K + 1 = k := ⟨k - 1, by omega⟩
        have hKp : K < pl.length := by omega
        have hKp1 : K + 1 < pl.length := by omega
        have hkz : (0 : Int) < ((k : Nat) : Int) := by omega
        have hkw : IntKind.i64.wrap (((k : Nat) : Int) - 1) = ((K : Nat) : Int) := by
          rw [show ((k : Nat) : Int) - 1 = ((K : Nat) : Int) by omega]
          exact wrap_small (by omega) (by omega)
        obtain ⟨y, hyf, -, hyk, -, -, hyin⟩ := HPK1.out K hKp
        obtain ⟨z, hz⟩ : ∃ z, z = pl[K] := ⟨_, rfl⟩
        have hnx := HNX1.out K hKp1 l y hyf (by
          have h := HLF.out
          rw [HXP.out] at h
          subst hK
          exact h)
        have hkk : pl[K + 1] = x := by
          rw [HXP.out]
          subst hK
          rfl
        rw [hkk, ← hz] at hnx
        rw [← hz] at hyf hyk hyin
        have HB10 := Lib.hid (HB8.out.below HK10.out)
        have hlt := HLT.out p F w10 HB10.out z.2.1
        rw [hyf] at hlt
        simp only [Option.getD_some, Option.isSome_some] at hlt
        have h4y : (encLot y).length = 4 := rfl
        have HZ2 := Lib.hid (encLot_one y)
        obtain ⟨LY, hLY⟩ : ∃ LY, LY = encLot y := ⟨_, rfl⟩
        have HLY := Lib.hid hLY
        rw [← hLY] at h4y HZ2 hlt
        have HLT10 := Lib.hid hlt
        have d13 : w10.cell? ⟨gq, oq + K * 5 + 3, none⟩ = some (.string ⟨z.2.1.toArray⟩) := HCP.out w10 HK10.out K hKp 3 _ (by rw [← hz]; rfl)
        have hK0 : (0 : Int) ≤ (K : Nat) := by omega
        have hK1 : ((K : Nat) : Int) < (N : Nat) := by omega
        have HCZ : Hid (∀ W, Below w8.heap.size w8 W → (W.cell? ⟨gq, oq + K * 5, none⟩ = some (.string ⟨z.1.1.toArray⟩) ∧ W.cell? ⟨gq, oq + K * 5 + 1, none⟩ = some (.int .i64 z.1.2.1) ∧ W.cell? ⟨gq, oq + K * 5 + 2, none⟩ = some (.int .i64 z.1.2.2)) ∧ (W.cell? ⟨gq, oq + k * 5, none⟩ = some (.string ⟨x.1.1.toArray⟩) ∧ W.cell? ⟨gq, oq + k * 5 + 1, none⟩ = some (.int .i64 x.1.2.1) ∧ W.cell? ⟨gq, oq + k * 5 + 2, none⟩ = some (.int .i64 x.1.2.2))) := fun W hb => by
          have h1 := HCP.out W hb K hKp
          have h2 := HCP.out W hb k hkp
          rw [← hz] at h1
          rw [← HXP.out] at h2
          exact ⟨⟨h1 0 _ rfl, h1 1 _ rfl, h1 2 _ rfl⟩, h2 0 _ rfl, h2 1 _ rfl, h2 2 _ rfl⟩
        have HNXZ := Lib.hid hnx
        have HYIN := Lib.hid hyin
        clear hnx hyf hyin hLY hlt HCP hz hkk hk00 hKp1 hyk
        go_wp2_with fail
        refine HLT10.out.mono ?_
        rintro e w11 ⟨rfl, b11⟩
        have hba := below_one w11 (.cells #[.string ⟨#[]⟩, .string ⟨#[]⟩, .int .i64 0, .int .i64 0] 47)
        have hx11 := (b11.block _ hz10).trans HX10.out
        go_upto_region 28 with (refine wpList_store_box rfl 47 _ _ rfl w11.heap.size LY rfl rfl _ [.string ⟨#[]⟩, .string ⟨#[]⟩, .int .i64 0, .int .i64 0] (heap_alloc_new w11 _) (by rw [h4y]; kernel_rfl) (by rw [h4y]; rfl) HZ2.out ?_; intro w12 h12 tu12)
        have b12 := hba.trans (tu12.below (Nat.le_refl _))
        have HK12 := Lib.hid (HK10.out.trans ((b11.trans (b12.mono b11.size)).mono HK10.out.size))
        have HX12 := Lib.hid ((b12.block _ (row_lt hx11)).trans hx11)
        rw [HLY.out] at h12
        obtain ⟨⟨f0, f1, f2, f3⟩, -⟩ := row4f h12
        obtain ⟨⟨e0, e1, e2, e3⟩, -⟩ := row4f HX12.out
        have HY12 := Lib.hid h12
        clear hba tu12 b12 b11 h12 hx11 HLT10 d13 HX10 hz10
        by_cases hsame : l.1 = y.1
        · have hsb : (l.1 == y.1) = true := by simpa using hsame
          have HAH := Lib.hid (fun W => ahead_any z.1 x.1 HYIN.out HIN.out W)
          rw [HNXZ.out.1 hsame] at HAH
          have HUP : Hid (∀ W, Below w12.heap.size w12 W → W.cell? ⟨gq, oq + K * 5, none⟩ = some (.string ⟨z.1.1.toArray⟩) ∧ W.cell? ⟨gq, oq + K * 5 + 1, none⟩ = some (.int .i64 z.1.2.1) ∧ W.cell? ⟨gq, oq + K * 5 + 2, none⟩ = some (.int .i64 z.1.2.2) ∧ W.cell? ⟨gq, oq + k * 5, none⟩ = some (.string ⟨x.1.1.toArray⟩) ∧ W.cell? ⟨gq, oq + k * 5 + 1, none⟩ = some (.int .i64 x.1.2.1) ∧ W.cell? ⟨gq, oq + k * 5 + 2, none⟩ = some (.int .i64 x.1.2.2)) := fun W hb => by
            obtain ⟨⟨h1, h2, h3⟩, h4, h5, h6⟩ := HCZ.out W (HK12.out.trans (hb.mono HK12.out.size))
            exact ⟨h1, h2, h3, h4, h5, h6⟩
          have hdd : Below w12.heap.size w12 w12.drew := (Below.refl _ _).drew
          obtain ⟨⟨z1, z2, z3⟩, z4, z5⟩ := z
          obtain ⟨⟨x1, x2, x3⟩, x4, x5⟩ := x
          simp only [encPlace] at HAH
          clear hsame HCZ HNXZ
          go_wp2_with fail
          go_region_held3 (fun W => W.cell? ⟨gq, oq + K * 5, none⟩ = some (.string ⟨z1.toArray⟩) ∧ W.cell? ⟨gq, oq + K * 5 + 1, none⟩ = some (.int .i64 z2) ∧ W.cell? ⟨gq, oq + K * 5 + 2, none⟩ = some (.int .i64 z3) ∧ W.cell? ⟨gq, oq + k * 5, none⟩ = some (.string ⟨x1.toArray⟩) ∧ W.cell? ⟨gq, oq + k * 5 + 1, none⟩ = some (.int .i64 x2) ∧ W.cell? ⟨gq, oq + k * 5 + 2, none⟩ = some (.int .i64 x3))
            (first | exact HUP.out _ hdd | exact HUP.out _ kk | go_keep)
            (first | (go_at_call 18; refine (HAH.out _).mono ?_; rintro e v13 ⟨rfl, bb⟩; have kk := hdd.trans (bb.mono hdd.size)))
          all_goals
            have K13 := Lib.hid (HK12.out.trans (kk.mono HK12.out.size))
            clear kk bb hdd HUP HAH
            go_wp2_with fail
            go_roundw
            case rel => exact ⟨k + 1, by omega, by go_num, by rw [HAT1.out], HS8.out.below K13.out⟩
            case measure => simp [intOf]; omega
        · have hsb : (l.1 == y.1) = false := by simpa using hsame
          have HSO := Lib.hid (fun W => sooner_any y l W)
          rw [HNXZ.out.2 hsame] at HSO
          have hl4 : (encLot l).length = 4 := rfl
          have hy4 : (encLot y).length = 4 := rfl
          clear hsame HCZ HNXZ
          go_wp2_with (first | (refine wpList_load_at rfl 47 (.tmp 21) rfl w11.heap.size 0 rfl (encLot y) (Lies.row _ HY12.out) _ Tryz.underlying47 rfl (by rw [hy4]; kernel_rfl) ?_) | (refine wpList_load_at rfl 47 (.tmp 19) rfl w9.heap.size 0 rfl (encLot l) (Lies.row _ HX12.out) _ Tryz.underlying47 rfl (by rw [hl4]; kernel_rfl) ?_))
          refine (HSO.out _).mono ?_
          rintro e w13 ⟨rfl, b13⟩
          have K13 := Lib.hid (HK12.out.trans (b13.mono HK12.out.size))
          clear b13 HSO
          go_wp2_with fail
          go_roundw
          case rel => exact ⟨k + 1, by omega, by go_num, by rw [HAT1.out], HS8.out.below K13.out⟩
          case measure => simp [intOf]; omega
    · obtain rfl : k = N := by omega
      have hT : Os.take k = Os := List.take_of_length_le (by rw [HLM.out]; exact Nat.le_refl _)
      have hT2 : pl.take k = pl := List.take_of_length_le (by rw [← HNP.out]; exact Nat.le_refl _)
      have hs := HS.out
      rw [hT] at hs
      rw [hT2, HALL1.out]
      have B8 := Lib.hid (B7.out.trans hlow)
      have hN0 : 0 < k := by
        rcases Nat.eq_zero_or_pos k with h | h
        · have h1 := HALL1.out
          rw [List.eq_nil_of_length_eq_zero (HNP.out.symm.trans h)] at h1
          have h2 : (0 : Int) = n := h1
          omega
        · exact h
      have hne : pl ≠ [] := fun h => by rw [h] at HNP; have := HNP.out; simp at this; omega
      obtain ⟨K, hK⟩ : ∃ K, K + 1 = k := ⟨k - 1, by omega⟩
      have hKp : K < pl.length := by rw [← HNP.out]; omega
      have hkw : IntKind.i64.wrap (((k : Nat) : Int) - 1) = ((K : Nat) : Int) := by
        rw [show ((k : Nat) : Int) - 1 = ((K : Nat) : Int) by omega]
        exact wrap_small (by omega) (by omega)
      have HR8 := Lib.hid (HR7.out.since hs (fun a ha => HA4.out a ha hne))
      obtain ⟨Fn, hbn, -, hbut⟩ := hs
      have HB8 : Hid (BookIs wo p F B) := HB7.out.butF hbut HFF.out
      obtain ⟨gp, op, rfl, lp, cp⟩ := HR8.out.resolve_left hne
      obtain ⟨x, hx⟩ : ∃ x, x = pl[K] := ⟨_, rfl⟩
      have HC3 : Hid (∀ W, Below wo.heap.size wo W → W.cell? ⟨gp, op + K * 5 + 3, none⟩ = some (.string ⟨x.2.1.toArray⟩)) := fun W hb => (hb.cell (p := ⟨gp, op + K * 5 + 3, none⟩) lp).trans (cp K hKp 3 _ (by rw [← hx]; rfl))
      obtain ⟨C, hC⟩ : ∃ C, C = doAll B Os := ⟨_, rfl⟩
      rw [← hC] at hbn HWT HFC HLA1
      have HBN := Lib.hid hbn
      have hIC := HWT.out.inv
      obtain ⟨-, -, k3, -⟩ := HWT.out.known
      have hhas := HWT.out.has HI.out HGS1.out
      have hhc := hIC.has_most code
      have hfcn := HFC.out
      have HHC := Lib.hid (fun W (hb : Below wo.heap.size wo W) => hasBk_any (hbn.below hb) hIC code hhc)
      have HFN := Lib.hid (fun W (hb : Below wo.heap.size wo W) => freeAl_any (hbn.below hb) hIC code day)
      have HLC := Lib.hid (fun W (hb : Below wo.heap.size wo W) => lotsBk_any (hbn.below hb) hIC code)
      rw [k3] at HLC
      have HSC := Lib.hid (fun W (hb : Below wo.heap.size wo W) => stockBk_any (hbn.below hb))
      have HOC := Lib.hid (fun qs cs W (hs : StkP W qs cs C.2.2) id => ofStock_P hIC.stk id W hs)
      have HHE := Lib.hid (fun W (hb : Below wo.heap.size wo W) id => heldBk_any (hbn.below hb) id)
      obtain ⟨l, hlf, -, hlk, -⟩ := HPK1.out K hKp
      have HLA2 := Lib.hid (fun (u : LotV) (hu : u ∈ lotsB B code) hd hlt => HLA1.out K hKp l hlf u hu hd hlt)
      rw [← hx] at hlf hlk
      have hhb := HHA.out p F
      generalize hasOf C code = hc at hhas hhc HHC
      generalize hasOf B code = hb at hhas hhb hha
      have HHB := Lib.hid hhb
      generalize freeB C code day = fc at hfcn HFN
      have hw1 : IntKind.i64.wrap (((hb : Nat) : Int) - n) = ((hc : Nat) : Int) := by rw [← hhas]; exact wrap_small (by omega) (by omega)
      have hw2 : IntKind.i64.wrap (fr - n) = fc := by rw [← hfcn]; exact wrap_small (by omega) (by omega)
      have hK0 : (0 : Int) ≤ (K : Nat) := by omega
      have hK1 : ((K : Nat) : Int) < (k : Nat) := by omega
      have HLF := Lib.hid hlf
      generalize lotsB B code = LL at HLC HLA2 hl60
      clear hlk hT hT2 hbn hbut hlow cp lp hx hC hIC k3 hhas hhc hfcn hlf hhb hha HS HLA1 HNX1 HPK1 HOK HSH1 HO7 HA7 HA4 HAI HAT HNN
      go_wp2_with fail
      refine (HHC.out _ (Below.refl _ _)).mono ?_
      rintro e w9 ⟨rfl, b9⟩
      have K9 := Lib.hid b9
      clear b9 HHC
      go_wp2_with fail
      refine (HHB.out _ (HB8.out.below K9.out)).mono ?_
      rintro e w10 ⟨rfl, b10⟩
      have K10 := Lib.hid (K9.out.trans (b10.mono K9.out.size))
      clear b10 HHB
      go_wp2_with fail
      refine (HFN.out _ K10.out).mono ?_
      rintro e w11 ⟨rfl, b11⟩
      have K11 := Lib.hid (K10.out.trans (b11.mono K10.out.size))
      clear b11 HFN
      go_wp2_with fail
      refine (HFR.out p F _ (HB8.out.below K11.out)).mono ?_
      rintro e w12 ⟨rfl, b12⟩
      have K12 := Lib.hid (K11.out.trans (b12.mono K11.out.size))
      clear b12 HFR
      have hlt := HLT.out p F w12 (HB8.out.below K12.out) x.2.1
      rw [HLF.out] at hlt
      simp only [Option.getD_some, Option.isSome_some] at hlt
      have h4 : (encLot l).length = 4 := rfl
      have HZ1 := Lib.hid (encLot_one l)
      obtain ⟨LZ, hLZ⟩ : ∃ LZ, LZ = encLot l := ⟨_, rfl⟩
      have HLE := Lib.hid hLZ
      rw [← hLZ] at h4 HZ1 hlt
      have HLT8 := Lib.hid hlt
      have d3 := HC3.out w12 K12.out
      clear hlt hLZ HLF HLT HC3 K9 K10 K11
      go_wp2_with fail
      refine HLT8.out.mono ?_
      rintro e w13 ⟨rfl, b13⟩
      have hba := below_one w13 (.cells #[.string ⟨#[]⟩, .string ⟨#[]⟩, .int .i64 0, .int .i64 0] 47)
      go_upto_region 36 with (refine wpList_store_box rfl 47 _ _ rfl w13.heap.size LZ rfl rfl _ [.string ⟨#[]⟩, .string ⟨#[]⟩, .int .i64 0, .int .i64 0] (heap_alloc_new w13 _) (by rw [h4]; kernel_rfl) (by rw [h4]; rfl) HZ1.out ?_; intro w14 h14 tu14)
      have b14 := hba.trans (tu14.below (Nat.le_refl _))
      have K14 := Lib.hid (K12.out.trans ((b13.trans (b14.mono b13.size)).mono K12.out.size))
      rw [HLE.out] at h14
      have HX14 := Lib.hid h14
      have hz14 := row_lt h14
      have HLC14 := Lib.hid (HLC.out w14 K14.out)
      clear hba tu14 b14 b13 h14 HLT8 d3 HLC
      go_wp2_with fail
      refine HLC14.out.mono ?_
      rintro e w15 ⟨A15, c15, rfl, hr15, -, b15⟩
      have K15 := Lib.hid (K14.out.trans (b15.mono K14.out.size))
      have hx15 := (b15.block _ hz14).trans HX14.out
      have HR15 := Lib.hid hr15
      have HSC15 := Lib.hid (HSC.out w15 K15.out)
      clear b15 hr15 HLC14 HSC
      go_wp2_with fail
      refine HSC15.out.mono ?_
      rintro e w16 ⟨qs, cs, rfl, -, -, hst, b16⟩
      have K16 := Lib.hid (K15.out.trans (b16.mono K15.out.size))
      have HR16 := Lib.hid (HR15.out.below b16)
      have HX16 := Lib.hid ((b16.block _ (row_lt hx15)).trans hx15)
      have HST := Lib.hid (fun W (h : Below w16.heap.size w16 W) => hst.below h)
      clear b16 hst HSC15 hx15 HR15
      obtain ⟨NL, hNL⟩ : ∃ NL, NL = LL.length := ⟨_, rfl⟩
      have HNL := Lib.hid hNL
      rw [← hNL] at hl60 ⊢
      clear hNL
      go_wp2_with fail
      go_loopw [27] (fun i wr => ∃ m : Nat, m ≤ NL ∧ i = .int .i64 m ∧ Hid (Below w16.heap.size w16 wr)) (fun i _ => NL - (intOf i).toNat)
      case atStart => exact ⟨0, by omega, rfl, Below.refl _ _⟩
      case round =>
        obtain ⟨m, hm, rfl, HBM⟩ := hrel
        obtain ⟨wm, hwm⟩ : ∃ wm : World, wm = wr := ⟨_, rfl⟩
        rw [← hwm] at HBM ⊢
        clear hwm
        by_cases hmN : m < NL
        · have hmx : m < LL.length := by rw [← HNL.out]; exact hmN
          obtain ⟨gl, ol, rfl, lgl, cgl⟩ := HR16.out.resolve_left (fun h => by rw [h] at hmx; simp at hmx)
          obtain ⟨u, hu⟩ : ∃ u, u = LL[m] := ⟨_, rfl⟩
          have hmem : u ∈ LL := by rw [hu]; exact List.getElem_mem hmx
          have hcu : ∀ W, Below w16.heap.size w16 W → ∀ c v, (encLot u)[c]? = some v → W.cell? ⟨gl, ol + m * 4 + c, none⟩ = some v := fun W hb c v hv => (hb.cell (p := ⟨gl, ol + m * 4 + c, none⟩) lgl).trans (cgl m hmx c v (by rw [← hu]; exact hv))
          have HUP0 : Hid (∀ W, Below w16.heap.size w16 W → (W.cell? ⟨gl, ol + m * 4, none⟩ = some (.string ⟨u.1.toArray⟩) ∧ W.cell? ⟨gl, ol + m * 4 + 1, none⟩ = some (.string ⟨u.2.1.toArray⟩) ∧ W.cell? ⟨gl, ol + m * 4 + 2, none⟩ = some (.int .i64 u.2.2.1) ∧ W.cell? ⟨gl, ol + m * 4 + 3, none⟩ = some (.int .i64 u.2.2.2)) ∧ (W.cell? ⟨w13.heap.size, 0, none⟩ = some (.string ⟨l.1.toArray⟩) ∧ W.cell? ⟨w13.heap.size, 1, none⟩ = some (.string ⟨l.2.1.toArray⟩) ∧ W.cell? ⟨w13.heap.size, 2, none⟩ = some (.int .i64 l.2.2.1) ∧ W.cell? ⟨w13.heap.size, 3, none⟩ = some (.int .i64 l.2.2.2))) := fun W hb => by
            have h := hcu W hb
            obtain ⟨⟨h0, h1, h2, h3⟩, -⟩ := row4f ((hb.block _ (row_lt HX16.out)).trans HX16.out)
            exact ⟨⟨h 0 _ rfl, h 1 _ rfl, h 2 _ rfl, h 3 _ rfl⟩, h0, h1, h2, h3⟩
          have HSOU := Lib.hid (fun W => sooner_any u l W)
          obtain ⟨lt1, hlt1⟩ : ∃ lt1, lt1 = ltOf cfLot u l := ⟨_, rfl⟩
          rw [← hlt1] at HSOU
          have HEQU : Hid (day ≤ u.2.2.1 → lt1 = true → ofM C.2.2 u.1 = heldOf C u.1) := fun h1 h2 => HLA2.out u hmem h1 (hlt1.symm.trans h2)
          have HOU := Lib.hid (fun W (h : Below w16.heap.size w16 W) => HOC.out qs cs W (HST.out W h) u.1)
          have HHU := Lib.hid (fun W (h : Below w16.heap.size w16 W) => HHE.out W (K16.out.trans (h.mono K16.out.size)) u.1)
          generalize ofM C.2.2 u.1 = oo at HEQU HOU
          generalize heldOf C u.1 = hh at HEQU HHU
          obtain ⟨u1, u2, u3, u4⟩ := u
          obtain ⟨t1, t2, t3, t4⟩ := l
          simp only [encLot] at HSOU
          have HUP : Hid (∀ W, Below w16.heap.size w16 W → W.cell? ⟨gl, ol + m * 4, none⟩ = some (.string ⟨u1.toArray⟩) ∧ W.cell? ⟨gl, ol + m * 4 + 1, none⟩ = some (.string ⟨u2.toArray⟩) ∧ W.cell? ⟨gl, ol + m * 4 + 2, none⟩ = some (.int .i64 u3) ∧ W.cell? ⟨gl, ol + m * 4 + 3, none⟩ = some (.int .i64 u4) ∧ W.cell? ⟨w13.heap.size, 0, none⟩ = some (.string ⟨t1.toArray⟩) ∧ W.cell? ⟨w13.heap.size, 1, none⟩ = some (.string ⟨t2.toArray⟩) ∧ W.cell? ⟨w13.heap.size, 2, none⟩ = some (.int .i64 t3) ∧ W.cell? ⟨w13.heap.size, 3, none⟩ = some (.int .i64 t4)) := fun W hb => by
            obtain ⟨⟨h1, h2, h3, h4⟩, h5, h6, h7, h8⟩ := HUP0.out W hb
            exact ⟨h1, h2, h3, h4, h5, h6, h7, h8⟩
          have hdd := HBM.out.drew
          have hm0 : (0 : Int) ≤ (m : Nat) := by omega
          have hm1 : ((m : Nat) : Int) < (NL : Nat) := by omega
          simp only at HEQU HOU HHU
          clear HUP0 hcu hu hmem hlt1 cgl lgl
          by_cases hdu : day ≤ u3
          · have hdb : decide (day ≤ u3) = true := decide_eq_true hdu
            cases lt1 with
            | true =>
              have he := HEQU.out hdu rfl
              subst he
              clear HEQU hdb
              go_wp2_with fail
              go_region_held3 (fun W => W.cell? ⟨gl, ol + m * 4, none⟩ = some (.string ⟨u1.toArray⟩) ∧ W.cell? ⟨gl, ol + m * 4 + 1, none⟩ = some (.string ⟨u2.toArray⟩) ∧ W.cell? ⟨gl, ol + m * 4 + 2, none⟩ = some (.int .i64 u3) ∧ W.cell? ⟨gl, ol + m * 4 + 3, none⟩ = some (.int .i64 u4) ∧ W.cell? ⟨w13.heap.size, 0, none⟩ = some (.string ⟨t1.toArray⟩) ∧ W.cell? ⟨w13.heap.size, 1, none⟩ = some (.string ⟨t2.toArray⟩) ∧ W.cell? ⟨w13.heap.size, 2, none⟩ = some (.int .i64 t3) ∧ W.cell? ⟨w13.heap.size, 3, none⟩ = some (.int .i64 t4))
                (first | exact HUP.out _ hdd | exact HUP.out _ k1 | exact HUP.out _ k2 | go_keep)
                (first
                  | (go_at_call 19; refine (HSOU.out _).mono ?_; rintro e v1 ⟨rfl, bb1⟩; have k1 := hdd.trans (bb1.mono hdd.size))
                  | (go_at_call 22; refine (HOU.out _ k1).mono ?_; rintro e v2 ⟨rfl, bb2⟩; have k2 := k1.trans (bb2.mono k1.size))
                  | (go_at_call 23; first | (refine (HHU.out _ k2).mono ?_; rintro e v3 ⟨rfl, rfl⟩) | (refine (HHU.out _ k1).mono ?_; rintro e v3 ⟨rfl, rfl⟩)))
              all_goals
                have BX := Lib.hid k2
                clear k1 k2 bb1 bb2 hdd HUP HOU HHU HSOU
                go_wp2_with fail
                go_roundw
                case rel => exact ⟨m + 1, by omega, by go_num, BX.out⟩
                case measure => simp [intOf]; omega
            | false =>
              clear HEQU HOU HHU
              go_wp2_with fail
              refine wp_region_held_drew (S := fun W => W.cell? ⟨gl, ol + m * 4, none⟩ = some (.string ⟨u1.toArray⟩) ∧ W.cell? ⟨gl, ol + m * 4 + 1, none⟩ = some (.string ⟨u2.toArray⟩) ∧ W.cell? ⟨gl, ol + m * 4 + 2, none⟩ = some (.int .i64 u3) ∧ W.cell? ⟨gl, ol + m * 4 + 3, none⟩ = some (.int .i64 u4) ∧ W.cell? ⟨w13.heap.size, 0, none⟩ = some (.string ⟨t1.toArray⟩) ∧ W.cell? ⟨w13.heap.size, 1, none⟩ = some (.string ⟨t2.toArray⟩) ∧ W.cell? ⟨w13.heap.size, 2, none⟩ = some (.int .i64 t3) ∧ W.cell? ⟨w13.heap.size, 3, none⟩ = some (.int .i64 t4)) (by kernel_rfl) (HUP.out _ hdd) (fun hHeld => ?_)
              refine wpAnyH_take (i := 0) (oi := _) (v := .slice (some ⟨gl, ol, none⟩) NL c15) rfl (by kernel_rfl) (by kernel_rfl) (by kernel_rfl) (fun _ _ _ h => h) (Or.inl ⟨by kernel_rfl, fun W hSw => ?_⟩) hHeld ?_
              · dsimp only at hSw
                go_simp
                all_goals (first | omega | exact hdb | simpa using hdb)
              change wpAnyH _ _ _ _ _ _ _ (Act.put _ (some 233) _) _
              (try simp only [Act.put, List.setIfInBounds_toArray, List.set_cons_zero, List.set_cons_succ])
              refine wpAnyH_take (i := 1) (oi := _) (v := .int .i64 (m : Nat)) rfl (by kernel_rfl) (by kernel_rfl) (by kernel_rfl) (fun _ _ _ h => h) (Or.inl ⟨by kernel_rfl, fun W hSw => ?_⟩) hHeld ?_
              · dsimp only at hSw
                go_simp
                all_goals (first | omega | exact hdb | simpa using hdb)
              change wpAnyH _ _ _ _ _ _ _ (Act.put _ (some 234) _) _
              (try simp only [Act.put, List.setIfInBounds_toArray, List.set_cons_zero, List.set_cons_succ])
              refine wpAnyH_take (i := 2) (oi := _) (v := .pointer (some ⟨gl, ol + m * 4, none⟩)) rfl (by kernel_rfl) (by kernel_rfl) (by kernel_rfl) (fun _ _ _ h => h) (Or.inl ⟨by kernel_rfl, fun W hSw => ?_⟩) hHeld ?_
              · dsimp only at hSw
                go_simp
                all_goals (first | omega | exact hdb | simpa using hdb)
              change wpAnyH _ _ _ _ _ _ _ (Act.put _ (some 235) _) _
              (try simp only [Act.put, List.setIfInBounds_toArray, List.set_cons_zero, List.set_cons_succ])
              refine wpAnyH_take (i := 3) (oi := _) (v := .pointer (some ⟨gl, ol + m * 4 + 2, none⟩)) rfl (by kernel_rfl) (by kernel_rfl) (by kernel_rfl) (fun _ _ _ h => h) (Or.inl ⟨by kernel_rfl, fun W hSw => ?_⟩) hHeld ?_
              · dsimp only at hSw
                go_simp
                all_goals (first | omega | exact hdb | simpa using hdb)
              change wpAnyH _ _ _ _ _ _ _ (Act.put _ (some 236) _) _
              (try simp only [Act.put, List.setIfInBounds_toArray, List.set_cons_zero, List.set_cons_succ])
              refine wpAnyH_take (i := 4) (oi := _) (v := .int .i64 u3) rfl (by kernel_rfl) (by kernel_rfl) (by kernel_rfl) (fun _ _ _ h => h) (Or.inl ⟨by kernel_rfl, fun W hSw => ?_⟩) hHeld ?_
              · dsimp only at hSw
                go_simp
                all_goals (first | omega | exact hdb | simpa using hdb)
              change wpAnyH _ _ _ _ _ _ _ (Act.put _ (some 237) _) _
              (try simp only [Act.put, List.setIfInBounds_toArray, List.set_cons_zero, List.set_cons_succ])
              refine wpAnyH_take (i := 5) (oi := _) (v := .int .i64 day) rfl (by kernel_rfl) (by kernel_rfl) (by kernel_rfl) (fun _ _ _ h => h) (Or.inl ⟨by kernel_rfl, fun W hSw => ?_⟩) hHeld ?_
              · dsimp only at hSw
                go_simp
                all_goals (first | omega | exact hdb | simpa using hdb)
              change wpAnyH _ _ _ _ _ _ _ (Act.put _ (some 238) _) _
              (try simp only [Act.put, List.setIfInBounds_toArray, List.set_cons_zero, List.set_cons_succ])
              refine wpAnyH_take (i := 6) (oi := _) (v := .bool true) rfl (by kernel_rfl) (by kernel_rfl) (by kernel_rfl) (fun _ _ _ h => h) (Or.inl ⟨by kernel_rfl, fun W hSw => ?_⟩) hHeld ?_
              · dsimp only at hSw
                go_simp
                all_goals (first | omega | exact hdb | simpa using hdb)
              change wpAnyH _ _ _ _ _ _ _ (Act.put _ (some 239) _) _
              (try simp only [Act.put, List.setIfInBounds_toArray, List.set_cons_zero, List.set_cons_succ])
              refine wpAnyH_take (i := 7) (oi := _) (v := .bool true) rfl (by kernel_rfl) (by kernel_rfl) (by kernel_rfl) (fun _ _ _ h => h) (Or.inl ⟨by kernel_rfl, fun W hSw => ?_⟩) hHeld ?_
              · dsimp only at hSw
                go_simp
                all_goals (first | omega | exact hdb | simpa using hdb)
              change wpAnyH _ _ _ _ _ _ _ (Act.put _ (some 240) _) _
              (try simp only [Act.put, List.setIfInBounds_toArray, List.set_cons_zero, List.set_cons_succ])
              refine wpAnyH_take (i := 8) (oi := _) (v := .slice (some ⟨gl, ol, none⟩) NL c15) rfl (by kernel_rfl) (by kernel_rfl) (by kernel_rfl) (fun _ _ _ h => h) (Or.inl ⟨by kernel_rfl, fun W hSw => ?_⟩) hHeld ?_
              · dsimp only at hSw
                go_simp
                all_goals (first | omega | exact hdb | simpa using hdb)
              change wpAnyH _ _ _ _ _ _ _ (Act.put _ (some 241) _) _
              (try simp only [Act.put, List.setIfInBounds_toArray, List.set_cons_zero, List.set_cons_succ])
              refine wpAnyH_take (i := 9) (oi := _) (v := .int .i64 (m : Nat)) rfl (by kernel_rfl) (by kernel_rfl) (by kernel_rfl) (fun _ _ _ h => h) (Or.inl ⟨by kernel_rfl, fun W hSw => ?_⟩) hHeld ?_
              · dsimp only at hSw
                go_simp
                all_goals (first | omega | exact hdb | simpa using hdb)
              change wpAnyH _ _ _ _ _ _ _ (Act.put _ (some 242) _) _
              (try simp only [Act.put, List.setIfInBounds_toArray, List.set_cons_zero, List.set_cons_succ])
              refine wpAnyH_take (i := 10) (oi := _) (v := .pointer (some ⟨gl, ol + m * 4, none⟩)) rfl (by kernel_rfl) (by kernel_rfl) (by kernel_rfl) (fun _ _ _ h => h) (Or.inl ⟨by kernel_rfl, fun W hSw => ?_⟩) hHeld ?_
              · dsimp only at hSw
                go_simp
                all_goals (first | omega | exact hdb | simpa using hdb)
              change wpAnyH _ _ _ _ _ _ _ (Act.put _ (some 243) _) _
              (try simp only [Act.put, List.setIfInBounds_toArray, List.set_cons_zero, List.set_cons_succ])
              refine wpAnyH_take (i := 11) (oi := _) (v := .agg #[.string ⟨u1.toArray⟩, .string ⟨u2.toArray⟩, .int .i64 u3, .int .i64 u4]) rfl (by kernel_rfl) (by kernel_rfl) (by kernel_rfl) (fun _ _ _ h => h) (Or.inl ⟨by kernel_rfl, fun W hSw => ?_⟩) hHeld ?_
              · dsimp only at hSw
                go_simp
                all_goals (first | omega | exact hdb | simpa using hdb)
              change wpAnyH _ _ _ _ _ _ _ (Act.put _ (some 244) _) _
              (try simp only [Act.put, List.setIfInBounds_toArray, List.set_cons_zero, List.set_cons_succ])
              refine wpAnyH_take (i := 12) (oi := _) (v := .agg #[.string ⟨t1.toArray⟩, .string ⟨t2.toArray⟩, .int .i64 t3, .int .i64 t4]) rfl (by kernel_rfl) (by kernel_rfl) (by kernel_rfl) (fun _ _ _ h => h) (Or.inl ⟨by kernel_rfl, fun W hSw => ?_⟩) hHeld ?_
              · dsimp only at hSw
                go_simp
                all_goals (first | omega | exact hdb | simpa using hdb)
              change wpAnyH _ _ _ _ _ _ _ (Act.put _ (some 245) _) _
              (try simp only [Act.put, List.setIfInBounds_toArray, List.set_cons_zero, List.set_cons_succ])
              refine wpAnyH_ready (rs := [13]) (by kernel_rfl) (by simp) (AllReadyH.cons (o := _) rfl (fun K hK => ?_) AllReadyH.nil)
              go_simp
              refine (HSOU.out _).mono ?_
              rintro e v ⟨rfl, bb⟩
              have k1 := hdd.trans (bb.mono hdd.size)
              clear hHeld
              go_wp2_with fail
              refine hK.out _ _ (HUP.out _ k1) (fun hHeld => ?_)
              clear hK K
              (try simp only [Act.put, List.setIfInBounds_toArray, List.set_cons_zero, List.set_cons_succ])
              refine wpAnyH_take (i := 14) (oi := _) (v := .bool false) rfl (by kernel_rfl) (by kernel_rfl) (by kernel_rfl) (fun _ _ _ h => h) (Or.inl ⟨by kernel_rfl, fun W hSw => ?_⟩) hHeld ?_
              · dsimp only at hSw
                go_simp
                all_goals (first | omega | exact hdb | simpa using hdb)
              change wpAnyH _ _ _ _ _ _ _ (Act.put _ (some 247) _) _
              (try simp only [Act.put, List.setIfInBounds_toArray, List.set_cons_zero, List.set_cons_succ])
              refine wpAnyH_take (i := 15) (oi := _) (v := .bool false) rfl (by kernel_rfl) (by kernel_rfl) (by kernel_rfl) (fun _ _ _ h => h) (Or.inl ⟨by kernel_rfl, fun W hSw => ?_⟩) hHeld ?_
              · dsimp only at hSw
                go_simp
                all_goals (first | omega | exact hdb | simpa using hdb)
              change wpAnyH _ _ _ _ _ _ _ (Act.put _ (some 248) _) _
              (try simp only [Act.put, List.setIfInBounds_toArray, List.set_cons_zero, List.set_cons_succ])
              refine wpAnyH_take (i := 16) (oi := _) (v := undef) rfl (by kernel_rfl) (by kernel_rfl) (by kernel_rfl) (fun _ _ _ h => h) (Or.inr ⟨by kernel_rfl, rfl⟩) hHeld ?_
              change wpAnyH _ _ _ _ _ _ _ (Act.put _ (some 249) _) _
              (try simp only [Act.put, List.setIfInBounds_toArray, List.set_cons_zero, List.set_cons_succ])
              refine wpAnyH_take (i := 17) (oi := _) (v := undef) rfl (by kernel_rfl) (by kernel_rfl) (by kernel_rfl) (fun _ _ _ h => h) (Or.inr ⟨by kernel_rfl, rfl⟩) hHeld ?_
              change wpAnyH _ _ _ _ _ _ _ (Act.put _ (some 250) _) _
              (try simp only [Act.put, List.setIfInBounds_toArray, List.set_cons_zero, List.set_cons_succ])
              refine wpAnyH_take (i := 18) (oi := _) (v := undef) rfl (by kernel_rfl) (by kernel_rfl) (by kernel_rfl) (fun _ _ _ h => h) (Or.inr ⟨by kernel_rfl, rfl⟩) hHeld ?_
              change wpAnyH _ _ _ _ _ _ _ (Act.put _ (some 251) _) _
              (try simp only [Act.put, List.setIfInBounds_toArray, List.set_cons_zero, List.set_cons_succ])
              refine wpAnyH_take (i := 19) (oi := _) (v := undef) rfl (by kernel_rfl) (by kernel_rfl) (by kernel_rfl) (fun _ _ _ h => h) (Or.inr ⟨by kernel_rfl, rfl⟩) hHeld ?_
              change wpAnyH _ _ _ _ _ _ _ (Act.put _ (some 252) _) _
              (try simp only [Act.put, List.setIfInBounds_toArray, List.set_cons_zero, List.set_cons_succ])
              refine wpAnyH_take (i := 20) (oi := _) (v := undef) rfl (by kernel_rfl) (by kernel_rfl) (by kernel_rfl) (fun _ _ _ h => h) (Or.inr ⟨by kernel_rfl, rfl⟩) hHeld ?_
              change wpAnyH _ _ _ _ _ _ _ (Act.put _ (some 253) _) _
              (try simp only [Act.put, List.setIfInBounds_toArray, List.set_cons_zero, List.set_cons_succ])
              refine wpAnyH_take (i := 21) (oi := _) (v := undef) rfl (by kernel_rfl) (by kernel_rfl) (by kernel_rfl) (fun _ _ _ h => h) (Or.inr ⟨by kernel_rfl, rfl⟩) hHeld ?_
              change wpAnyH _ _ _ _ _ _ _ (Act.put _ (some 254) _) _
              (try simp only [Act.put, List.setIfInBounds_toArray, List.set_cons_zero, List.set_cons_succ])
              refine wpAnyH_take (i := 22) (oi := _) (v := undef) rfl (by kernel_rfl) (by kernel_rfl) (by kernel_rfl) (fun _ _ _ h => h) (Or.inr ⟨by kernel_rfl, rfl⟩) hHeld ?_
              change wpAnyH _ _ _ _ _ _ _ (Act.put _ (some 255) _) _
              (try simp only [Act.put, List.setIfInBounds_toArray, List.set_cons_zero, List.set_cons_succ])
              refine wpAnyH_take (i := 23) (oi := _) (v := undef) rfl (by kernel_rfl) (by kernel_rfl) (by kernel_rfl) (fun _ _ _ h => h) (Or.inr ⟨by kernel_rfl, rfl⟩) hHeld ?_
              change wpAnyH _ _ _ _ _ _ _ (Act.put _ (some 256) _) _
              (try simp only [Act.put, List.setIfInBounds_toArray, List.set_cons_zero, List.set_cons_succ])
              refine wpAnyH_take (i := 24) (oi := _) (v := undef) rfl (by kernel_rfl) (by kernel_rfl) (by kernel_rfl) (fun _ _ _ h => h) (Or.inr ⟨by kernel_rfl, rfl⟩) hHeld ?_
              change wpAnyH _ _ _ _ _ _ _ (Act.put _ (some 257) _) _
              (try simp only [Act.put, List.setIfInBounds_toArray, List.set_cons_zero, List.set_cons_succ])
              refine wpAnyH_take (i := 25) (oi := _) (v := undef) rfl (by kernel_rfl) (by kernel_rfl) (by kernel_rfl) (fun _ _ _ h => h) (Or.inr ⟨by kernel_rfl, rfl⟩) hHeld ?_
              change wpAnyH _ _ _ _ _ _ _ (Act.put _ (some 258) _) _
              (try simp only [Act.put, List.setIfInBounds_toArray, List.set_cons_zero, List.set_cons_succ])
              refine wpAnyH_take (i := 26) (oi := _) (v := undef) rfl (by kernel_rfl) (by kernel_rfl) (by kernel_rfl) (fun _ _ _ h => h) (Or.inr ⟨by kernel_rfl, rfl⟩) hHeld ?_
              change wpAnyH _ _ _ _ _ _ _ (Act.put _ (some 259) _) _
              (try simp only [Act.put, List.setIfInBounds_toArray, List.set_cons_zero, List.set_cons_succ])
              refine wpAnyH_take (i := 27) (oi := _) (v := undef) rfl (by kernel_rfl) (by kernel_rfl) (by kernel_rfl) (fun _ _ _ h => h) (Or.inr ⟨by kernel_rfl, rfl⟩) hHeld ?_
              change wpAnyH _ _ _ _ _ _ _ (Act.put _ (some 260) _) _
              (try simp only [Act.put, List.setIfInBounds_toArray, List.set_cons_zero, List.set_cons_succ])
              refine wpAnyH_take (i := 28) (oi := _) (v := undef) rfl (by kernel_rfl) (by kernel_rfl) (by kernel_rfl) (fun _ _ _ h => h) (Or.inr ⟨by kernel_rfl, rfl⟩) hHeld ?_
              change wpAnyH _ _ _ _ _ _ _ (Act.put _ (some 261) _) _
              (try simp only [Act.put, List.setIfInBounds_toArray, List.set_cons_zero, List.set_cons_succ])
              refine wpAnyH_take (i := 29) (oi := _) (v := undef) rfl (by kernel_rfl) (by kernel_rfl) (by kernel_rfl) (fun _ _ _ h => h) (Or.inr ⟨by kernel_rfl, rfl⟩) hHeld ?_
              change wpAnyH _ _ _ _ _ _ _ (Act.put _ (some 262) _) _
              (try simp only [Act.put, List.setIfInBounds_toArray, List.set_cons_zero, List.set_cons_succ])
              refine wpAnyH_take (i := 30) (oi := _) (v := undef) rfl (by kernel_rfl) (by kernel_rfl) (by kernel_rfl) (fun _ _ _ h => h) (Or.inr ⟨by kernel_rfl, rfl⟩) hHeld ?_
              change wpAnyH _ _ _ _ _ _ _ (Act.put _ (some 263) _) _
              (try simp only [Act.put, List.setIfInBounds_toArray, List.set_cons_zero, List.set_cons_succ])
              refine wpAnyH_take (i := 31) (oi := _) (v := .bool false) rfl (by kernel_rfl) (by kernel_rfl) (by kernel_rfl) (fun _ _ _ h => h) (Or.inl ⟨by kernel_rfl, fun W hSw => ?_⟩) hHeld ?_
              · dsimp only at hSw
                go_simp
                all_goals (first | omega | exact hdb | simpa using hdb)
              change wpAnyH _ _ _ _ _ _ _ (Act.put _ (some 264) _) _
              (try simp only [Act.put, List.setIfInBounds_toArray, List.set_cons_zero, List.set_cons_succ])
              refine wpAnyH_done (by kernel_rfl) ?_ _
              have BX := Lib.hid k1
              clear k1 bb hdd HUP HSOU
              go_wp2_with fail
              go_roundw
              case rel => exact ⟨m + 1, by omega, by go_num, BX.out⟩
              case measure => simp [intOf]; omega
          · have hdb : decide (day ≤ u3) = false := decide_eq_false hdu
            clear HEQU HOU HHU HSOU
            go_wp2_with fail
            obtain ⟨v0, v1, v2, v3, v4, v5, v6, v7⟩ := HUP.out wm HBM.out
            go_quiet (fail)
            have BX := Lib.hid (fun q => below_drewN HBM.out q)
            clear hdd HUP v0 v1 v2 v3 v4 v5 v6 v7
            go_wp2_with fail
            go_roundw
            case rel => exact ⟨m + 1, by omega, by go_num, BX.out _⟩
            case measure => simp [intOf]; omega
        · obtain rfl : m = NL := by omega
          go_wp2_with fail
          go_ret
          exact ⟨rfl, B8.out.trans (K16.out.trans (HBM.out.mono K16.out.size) |>.mono B8.out.size)⟩
theorem allocGoes_walk (E : Nat → Addr) (A0 : Option Addr) (cap0 : Nat) (xs0 : List EntV) (code : List UInt8) (n day : Int) (w : World) (hG : BkG E w) (hE : ErrG E w) (hX0 : RowAt encEnt 14 w A0 xs0) :
    Calls Tryz.prog 3 #[.slice A0 xs0.length cap0, .string ⟨code.toArray⟩, .int .i64 n, .int .i64 day] w fun e w' => e = .returned (.bool true) ∧ Below w.heap.size w w' := by
  rcases longL_01 xs0 40 with h | h
  · by_cases hin : code.length ≤ 30 ∧ 1 ≤ n ∧ n ≤ 1099511627776 ∧ 0 ≤ day ∧ day ≤ 100000
    · exact allocGoes_in E A0 cap0 xs0 code n day w hG hE hX0 h hin.1 hin.2.1 hin.2.2.1 hin.2.2.2.1 hin.2.2.2.2
    · exact allocGoes_out E A0 cap0 xs0 code n day w hG hX0 (.inr ⟨h, by omega⟩)
  · exact allocGoes_out E A0 cap0 xs0 code n day w hG hX0 (.inl h)
theorem allocGoes_walkS (E : Nat → Addr) (A0 : Option Addr) (cap0 : Nat) (xs0 : List EntV) (s : ByteArray) (n day : Int) (w : World) (hG : BkG E w) (hE : ErrG E w) (hX0 : RowAt encEnt 14 w A0 xs0) :
    Calls Tryz.prog 3 #[.slice A0 xs0.length cap0, .string s, .int .i64 n, .int .i64 day] w fun e w' => e = .returned (.bool true) ∧ Below w.heap.size w w' := by
  have h := allocGoes_walk E A0 cap0 xs0 s.data.toList n day w hG hE hX0
  rw [Array.toArray_toList] at h
  exact h
end Go.Proofs.YtgllddebodfhkaaGreatDoor
namespace Go.Proofs.YtgllddebodfhkaaGreatDoor
open Go.RowKit

/-- The number of a sentinel, by its text. -/
def textNo (l : List UInt8) : Nat :=
  if l = [116, 105, 116, 104, 101, 98, 97, 114, 110, 58, 32, 116, 101, 120, 116] then 1 else
  if l = [116, 105, 116, 104, 101, 98, 97, 114, 110, 58, 32, 98, 111, 117, 110, 100] then 2 else
  if l = [116, 105, 116, 104, 101, 98, 97, 114, 110, 58, 32, 115, 104, 97, 112, 101] then 3 else
  if l = [116, 105, 116, 104, 101, 98, 97, 114, 110, 58, 32, 107, 105, 110, 100] then 4 else
  if l = [116, 105, 116, 104, 101, 98, 97, 114, 110, 58, 32, 110, 97, 109, 101] then 5 else
  if l = [116, 105, 116, 104, 101, 98, 97, 114, 110, 58, 32, 110, 111, 110, 101] then 6 else
  if l = [116, 105, 116, 104, 101, 98, 97, 114, 110, 58, 32, 101, 120, 105, 115, 116] then 7 else
  if l = [116, 105, 116, 104, 101, 98, 97, 114, 110, 58, 32, 102, 117, 108, 108] then 8 else
  if l = [116, 105, 116, 104, 101, 98, 97, 114, 110, 58, 32, 115, 104, 111, 114, 116] then 9 else
  if l = [116, 105, 116, 104, 101, 98, 97, 114, 110, 58, 32, 111, 114, 100, 101, 114] then 10 else
  if l = [116, 105, 116, 104, 101, 98, 97, 114, 110, 58, 32, 115, 116, 97, 116, 101] then 11 else
  if l = [116, 105, 116, 104, 101, 98, 97, 114, 110, 58, 32, 111, 102, 102] then 12 else 0

theorem errG_of {W : World} {a1 a2 a3 a4 a5 a6 a7 a8 a9 a10 a11 a12 : Addr}
    (h1 : Sent 4 a1 [116, 105, 116, 104, 101, 98, 97, 114, 110, 58, 32, 116, 101, 120, 116] W)
    (h2 : Sent 1 a2 [116, 105, 116, 104, 101, 98, 97, 114, 110, 58, 32, 98, 111, 117, 110, 100] W)
    (h3 : Sent 0 a3 [116, 105, 116, 104, 101, 98, 97, 114, 110, 58, 32, 115, 104, 97, 112, 101] W)
    (h4 : Sent 6 a4 [116, 105, 116, 104, 101, 98, 97, 114, 110, 58, 32, 107, 105, 110, 100] W)
    (h5 : Sent 9 a5 [116, 105, 116, 104, 101, 98, 97, 114, 110, 58, 32, 110, 97, 109, 101] W)
    (h6 : Sent 2 a6 [116, 105, 116, 104, 101, 98, 97, 114, 110, 58, 32, 110, 111, 110, 101] W)
    (h7 : Sent 7 a7 [116, 105, 116, 104, 101, 98, 97, 114, 110, 58, 32, 101, 120, 105, 115, 116] W)
    (h8 : Sent 8 a8 [116, 105, 116, 104, 101, 98, 97, 114, 110, 58, 32, 102, 117, 108, 108] W)
    (h9 : Sent 3 a9 [116, 105, 116, 104, 101, 98, 97, 114, 110, 58, 32, 115, 104, 111, 114, 116] W)
    (h10 : Sent 5 a10 [116, 105, 116, 104, 101, 98, 97, 114, 110, 58, 32, 111, 114, 100, 101, 114] W)
    (h11 : Sent 10 a11 [116, 105, 116, 104, 101, 98, 97, 114, 110, 58, 32, 115, 116, 97, 116, 101] W)
    (h12 : Sent 11 a12 [116, 105, 116, 104, 101, 98, 97, 114, 110, 58, 32, 111, 102, 102] W)
    (hty : W.cell? ⟨12, 0, none⟩ = some (.iface 240 (.agg #[.pointer (some ⟨21, 31, none⟩)]))) :
    ErrG (fun k => if k = 1 then a1 else if k = 2 then a2 else if k = 3 then a3 else if k = 4 then a4 else if k = 5 then a5 else if k = 6 then a6 else if k = 7 then a7 else if k = 8 then a8 else if k = 9 then a9 else if k = 10 then a10 else if k = 11 then a11 else a12) W := by
  refine ⟨?_, ?_, ?_, hty⟩
  · intro k k1 k2
    rcases (show k = 1 ∨ k = 2 ∨ k = 3 ∨ k = 4 ∨ k = 5 ∨ k = 6 ∨ k = 7 ∨ k = 8 ∨ k = 9 ∨ k = 10 ∨ k = 11 ∨ k = 12 by omega) with rfl | rfl | rfl | rfl | rfl | rfl | rfl | rfl | rfl | rfl | rfl | rfl
    · exact h1.at_
    · exact h2.at_
    · exact h3.at_
    · exact h4.at_
    · exact h5.at_
    · exact h6.at_
    · exact h7.at_
    · exact h8.at_
    · exact h9.at_
    · exact h10.at_
    · exact h11.at_
    · exact h12.at_
  · intro k k1 k2
    rcases (show k = 1 ∨ k = 2 ∨ k = 3 ∨ k = 4 ∨ k = 5 ∨ k = 6 ∨ k = 7 ∨ k = 8 ∨ k = 9 ∨ k = 10 ∨ k = 11 ∨ k = 12 by omega) with rfl | rfl | rfl | rfl | rfl | rfl | rfl | rfl | rfl | rfl | rfl | rfl
    · exact h1.row
    · exact h2.row
    · exact h3.row
    · exact h4.row
    · exact h5.row
    · exact h6.row
    · exact h7.row
    · exact h8.row
    · exact h9.row
    · exact h10.row
    · exact h11.row
    · exact h12.row
  · have T : ∀ k, 1 ≤ k → k ≤ 12 → ∃ g l, Sent g ((fun k => if k = 1 then a1 else if k = 2 then a2 else if k = 3 then a3 else if k = 4 then a4 else if k = 5 then a5 else if k = 6 then a6 else if k = 7 then a7 else if k = 8 then a8 else if k = 9 then a9 else if k = 10 then a10 else if k = 11 then a11 else a12) k) l W ∧ textNo l = k := by
      intro k k1 k2
      rcases (show k = 1 ∨ k = 2 ∨ k = 3 ∨ k = 4 ∨ k = 5 ∨ k = 6 ∨ k = 7 ∨ k = 8 ∨ k = 9 ∨ k = 10 ∨ k = 11 ∨ k = 12 by omega) with rfl | rfl | rfl | rfl | rfl | rfl | rfl | rfl | rfl | rfl | rfl | rfl
      · exact ⟨_, _, h1, by decide⟩
      · exact ⟨_, _, h2, by decide⟩
      · exact ⟨_, _, h3, by decide⟩
      · exact ⟨_, _, h4, by decide⟩
      · exact ⟨_, _, h5, by decide⟩
      · exact ⟨_, _, h6, by decide⟩
      · exact ⟨_, _, h7, by decide⟩
      · exact ⟨_, _, h8, by decide⟩
      · exact ⟨_, _, h9, by decide⟩
      · exact ⟨_, _, h10, by decide⟩
      · exact ⟨_, _, h11, by decide⟩
      · exact ⟨_, _, h12, by decide⟩
    intro i j i1 i2 j1 j2 he
    obtain ⟨g, l, s, e⟩ := T i i1 i2
    obtain ⟨g', l', s', e'⟩ := T j j1 j2
    rcases Decidable.em (l = l') with hl | hl
    · rw [← e, ← e', hl]
    · exact absurd he (sent_ne s s' hl)
end Go.Proofs.YtgllddebodfhkaaGreatDoor
