/- The document's book: FreeOf. The document's book: PlanOf. Printed by gen/rplan.py. The law AllocPlans, walked. Printed by gen/aplans.py. The twelve sentinels together. -/
import Derived.Deep.RegionHeld3
import Derived.Deep.DeepCutAuto
import Derived.Test.YtgllddebodfhkaaGreatDoorM23
import Derived.Test.YtgllddebodfhkaaGreatDoorM39
import Derived.Test.YtgllddebodfhkaaGreatDoorM40
import Derived.Test.YtgllddebodfhkaaGreatDoorM41
import Derived.Test.YtgllddebodfhkaaGreatDoorM44
import Derived.Test.YtgllddebodfhkaaGreatDoorM46
import Derived.Test.YtgllddebodfhkaaGreatDoorM47
import Derived.Test.YtgllddebodfhkaaGreatDoorM48
import Derived.Test.YtgllddebodfhkaaGreatDoorM49
namespace Go.Proofs.YtgllddebodfhkaaGreatDoor
open Go.RowKit Go.Sort Go.Proofs

set_option maxHeartbeats 3200000 in
set_option maxRecDepth 100000 in
theorem refFree_any {q : Nat} {F R : List Nat} {B : BkV} {w : World} (H : MBk w q F R B) (hI : BkI B) (code : List UInt8) (day : Int) :
    Calls Tryz.prog 36 #[.pointer (some ⟨q, 0, none⟩), .string ⟨code.toArray⟩, .int .i64 day] w fun e w' => e = .returned (.int .i64 (freeB B code day)) ∧ Below w.heap.size w w' := by
  obtain ⟨AL, cL, hcl, hrL⟩ := H.lotsAt
  obtain ⟨AS, cS, hcs, hrS⟩ := H.linesAt
  obtain ⟨T, hT⟩ : ∃ T, T = freeB B code day := ⟨_, rfl⟩
  have HT : Hid (freeH B code day B.2.1 = T) := (hI.freeH_is code day).trans hT.symm
  have HTK := Lib.hid (freeH_take B code day B.2.1)
  have HFI := Lib.hid (fun k => freeH_in code day hI (B.2.1.take k) (fun y hy => List.mem_of_mem_take hy))
  have HLK : Hid (∀ y ∈ B.2.1, y.2 ≤ ofM B.2.2 y.1.1 ∧ ofM B.2.2 y.1.1 ≤ 1099511627776) := fun y hy => ⟨(hI.lok y hy).2.1, hI.stk.few _⟩
  have HOF := Lib.hid (fun W (h : Below w.heap.size w W) id => refOf_m hI.stk AS cS W (hrS.below h) id)
  have HQL := Lib.hid (fun W (h : Below w.heap.size w W) => (h.cell (lt_of_cell hcl)).trans hcl)
  have HQS := Lib.hid (fun W (h : Below w.heap.size w W) => (h.cell (lt_of_cell hcs)).trans hcs)
  have HRL := Lib.hid hrL
  obtain ⟨N, hN⟩ : ∃ N, N = B.2.1.length := ⟨_, rfl⟩
  have HN := Lib.hid hN
  obtain ⟨NS, hNS⟩ : ∃ NS, NS = B.2.2.length := ⟨_, rfl⟩
  rw [← hN] at HQL
  rw [← hNS] at HOF HQS
  rw [← hT]
  have hN60 : N ≤ 60 := by rw [hN]; exact hI.lfew
  clear hT hcl hrL hcs hrS H hI hN hNS
  go_enter Tryz.func36, Tryz.ntmps36
  go_wp2_with fail
  go_loopw [7, 8] (fun a i wr => ∃ k : Nat, k ≤ N ∧ i = .int .i64 k ∧ a = .int .i64 (freeH B code day (B.2.1.take k)) ∧ Hid (Below w.heap.size w wr)) (fun _ i _ => N - (intOf i).toNat)
  case atStart => exact ⟨0, by omega, rfl, rfl, Below.refl _ _⟩
  case round =>
    obtain ⟨k, hk, rfl, rfl, HB⟩ := hrel
    have cl := HQL.out wr HB.out
    by_cases hkN : k < N
    · have hkx : k < B.2.1.length := by rw [← HN.out]; exact hkN
      obtain ⟨g, o, rfl, lg, cg⟩ := HRL.out.resolve_left (fun h => by rw [h] at hkx; simp at hkx)
      obtain ⟨y, hy⟩ : ∃ y, y = B.2.1[k] := ⟨_, rfl⟩
      have htk := HTK.out k hkx
      rw [← hy] at htk
      have hlk := HLK.out y (by rw [hy]; exact List.getElem_mem hkx)
      have hf0 := HFI.out k
      have hln : (B.2.1.take k).length ≤ 60 := by rw [List.length_take]; omega
      have f2 : freeH B code day (B.2.1.take k) ≤ 65970697666560 ∧ 0 ≤ freeH B code day (B.2.1.take k) := by omega
      have HTK1 := Lib.hid htk
      have hCX : ∀ W, Below w.heap.size w W → W.cell? ⟨g, o + k * 5, none⟩ = some (.string ⟨y.1.1.toArray⟩) ∧ W.cell? ⟨g, o + k * 5 + 1, none⟩ = some (.string ⟨y.1.2.1.toArray⟩) ∧ W.cell? ⟨g, o + k * 5 + 2, none⟩ = some (.int .i64 y.1.2.2.1) ∧ W.cell? ⟨g, o + k * 5 + 4, none⟩ = some (.int .i64 (y.2 : Nat)) := fun W hb => by
        have h : ∀ c v, (encLoH y)[c]? = some v → W.cell? ⟨g, o + k * 5 + c, none⟩ = some v := fun c v hv => (hb.cell (p := ⟨g, o + k * 5 + c, none⟩) lg).trans (cg k hkx c v (by rw [← hy]; exact hv))
        exact ⟨h 0 _ rfl, h 1 _ rfl, h 2 _ rfl, h 4 _ rfl⟩
      have HCX := Lib.hid hCX
      have HOF1 := Lib.hid (fun W (h : Below w.heap.size w W) => HOF.out W h y.1.1)
      obtain ⟨-, c1, c2, -⟩ := hCX wr HB.out
      generalize freeH B code day (B.2.1.take k) = sk at HTK1 f2 ⊢
      generalize ofM B.2.2 y.1.1 = ov at HTK1 hlk HOF1
      obtain ⟨⟨y1, y2, y3, y4⟩, y5⟩ := y
      simp only at HTK1 hlk HCX HOF1 c1 c2
      obtain ⟨l1, l2⟩ := hlk
      obtain ⟨f3, f4⟩ := f2
      have hk0 : (0 : Int) ≤ (k : Nat) := by omega
      have hk1 : ((k : Nat) : Int) < (N : Nat) := by omega
      clear hy cg htk hCX hf0 hln
      by_cases hc : y2 = code
      · have hcb : (y2 == code) = true := by simpa using hc
        by_cases hd : day ≤ y3
        · have HTK2 := Lib.hid (HTK1.out.trans (by rw [if_pos ⟨hc, hd⟩]))
          have hwr : IntKind.i64.wrap (sk + ((ov : Nat) : Int)) = sk + ((ov : Nat) : Int) := wrap_small (by omega) (by omega)
          have hwr2 : IntKind.i64.wrap (sk + ((ov : Nat) : Int) - ((y5 : Nat) : Int)) = sk + ((ov : Nat) : Int) - ((y5 : Nat) : Int) := wrap_small (by omega) (by omega)
          have HUP : Hid (∀ W, Below w.heap.size w W → W.cell? ⟨q, 1, none⟩ = some (.slice (some ⟨g, o, none⟩) N cL) ∧ W.cell? ⟨q, 2, none⟩ = some (.slice AS NS cS) ∧ W.cell? ⟨g, o + k * 5, none⟩ = some (.string ⟨y1.toArray⟩) ∧ W.cell? ⟨g, o + k * 5 + 4, none⟩ = some (.int .i64 (y5 : Nat))) := fun W hb => ⟨HQL.out W hb, HQS.out W hb, (HCX.out W hb).1, (HCX.out W hb).2.2.2⟩
          have hdd := HB.out.drew
          clear hc HTK1
          go_wp2_with fail
          go_region_held3 (fun W => W.cell? ⟨q, 1, none⟩ = some (.slice (some ⟨g, o, none⟩) N cL) ∧ W.cell? ⟨q, 2, none⟩ = some (.slice AS NS cS) ∧ W.cell? ⟨g, o + k * 5, none⟩ = some (.string ⟨y1.toArray⟩) ∧ W.cell? ⟨g, o + k * 5 + 4, none⟩ = some (.int .i64 (y5 : Nat)))
            (first | exact HUP.out _ hdd | exact HUP.out _ kk | go_keep)
            (first | (go_at_call 74; refine (HOF1.out _ hdd).mono ?_; rintro e v ⟨rfl, bb⟩; have kk := hdd.trans (bb.mono hdd.size)))
          all_goals
            have K4 := Lib.hid kk
            clear kk bb hdd HOF1
            go_wp2_with fail
            go_roundw
            case rel => exact ⟨k + 1, by omega, by go_num, by rw [HTK2.out]; congr 1; omega, K4.out⟩
            case measure => simp [intOf]; omega
        · have HTK2 := Lib.hid (HTK1.out.trans (by rw [if_neg (fun h => hd h.2), Int.add_zero]))
          clear hc HTK1
          go_wp2_with fail
          go_roundw
          case rel => exact ⟨k + 1, by omega, by go_num, by rw [HTK2.out], HB.out⟩
          case measure => simp [intOf]; omega
      · have hcb : (y2 == code) = false := by simpa using hc
        have HTK2 := Lib.hid (HTK1.out.trans (by rw [if_neg (fun h => hc h.1), Int.add_zero]))
        clear hc HTK1
        go_wp2_with fail
        go_roundw
        case rel => exact ⟨k + 1, by omega, by go_num, by rw [HTK2.out], HB.out⟩
        case measure => simp [intOf]; omega
    · obtain rfl : k = N := by omega
      have hTT : B.2.1.take k = B.2.1 := List.take_of_length_le (by rw [← HN.out]; exact Nat.le_refl _)
      rw [hTT, HT.out]
      clear hTT HTK HFI HT
      go_wp2_with fail
      go_ret
      exact ⟨rfl, HB.out⟩
end Go.Proofs.YtgllddebodfhkaaGreatDoor
namespace Go.Proofs.YtgllddebodfhkaaGreatDoor
open Go.RowKit Go.Sort Go.Proofs

/-- What PlanOf leaves. -/
def RPlanEnds (l : List PickV) (k : Nat) (w : World) (e : Ending) (w' : World) : Prop :=
  ∃ A cap, e = .returned (.tuple #[.slice A l.length cap, .int .i64 (k : Nat)]) ∧ RowAt encPick 5 w' A l ∧ Below w.heap.size w w'

set_option maxHeartbeats 800000 in
theorem refPlan_bound (q : Nat) (a : ByteArray) (n day : Int) (w : World) (h : wiB n 1 1099511627776 = false ∨ wiB day 0 100000 = false) :
    Calls Tryz.prog 33 #[.pointer (some ⟨q, 0, none⟩), .string a, .int .i64 n, .int .i64 day] w fun e w' => RPlanEnds [] 2 w e w' := by
  have h1 : n < 1 ∨ (¬ n < 1 ∧ 1099511627776 < n) ∨ (¬ n < 1 ∧ ¬ 1099511627776 < n ∧ day < 0) ∨ (¬ n < 1 ∧ ¬ 1099511627776 < n ∧ ¬ day < 0 ∧ 100000 < day) := by
    unfold wiB at h
    simp only [decide_eq_false_iff_not] at h
    omega
  clear h
  rcases h1 with h1 | ⟨h1, h2⟩ | ⟨h1, h2, h3⟩ | ⟨h1, h2, h3, h4⟩
  all_goals
    go_enter Tryz.func33, Tryz.ntmps33
    go_wp2_with fail
    go_ret2
    exact ⟨none, 0, rfl, .inl rfl, Below.refl _ _⟩

set_option maxHeartbeats 6400000 in
set_option maxRecDepth 100000 in
theorem refPlan_in {q : Nat} {F R : List Nat} {B : BkV} {w : World} (H : MBk w q F R B) (hI : BkI B) (code : List UInt8) (n day : Int) (h1 : wiB n 1 1099511627776 = true) (h2 : wiB day 0 100000 = true) :
    Calls Tryz.prog 33 #[.pointer (some ⟨q, 0, none⟩), .string ⟨code.toArray⟩, .int .i64 n, .int .i64 day] w (RPlanEnds (planL B code n day) (planE B code n day) w) := by
  obtain ⟨i0, hi, hz0, hz1, hz2⟩ := info_parts pickInfo1
  have HPE : Hid (planE B code n day = if (fG B code).isSome = false then 6 else if freeB B code day < n then 9 else 0) := by
    show _ = _
    unfold planE
    rw [h1, h2]
    simp
  obtain ⟨hn1, hn2⟩ : 1 ≤ n ∧ n ≤ 1099511627776 := of_decide_eq_true h1
  obtain ⟨hd1, hd2⟩ : 0 ≤ day ∧ day ≤ 100000 := of_decide_eq_true h2
  have hn0 : 0 ≤ n := by omega
  have g1 : ¬ n < 1 := by omega
  have g2 : ¬ 1099511627776 < n := by omega
  have g3 : ¬ day < 0 := by omega
  have g4 : ¬ 100000 < day := by omega
  have HPL : Hid (planL B code n day = if planE B code n day = 0 then (planTo B day n (lotsB B code)).1 else []) := rfl
  have HLEFT : Hid ((planTo B day n (lotsB B code)).2 = n - min n (freeB B code day)) := planTo_left hI day (lotsB B code) n (by omega)
  have HFG := Lib.hid (refFindG H hI code)
  have HIG := Lib.hid (idxG B code)
  have HFR := Lib.hid (fun W (hb : Below w.heap.size w W) => refFree_any (H.below hb) hI code day)
  have HLO := Lib.hid (fun W (hb : Below w.heap.size w W) => lotsOf_any (H.below hb) hI code)
  have HFL := Lib.hid (fun W (hb : Below w.heap.size w W) id => refFindL (H.below hb) hI id)
  have HIL := Lib.hid (idxL B)
  have HLM : Hid (∀ x ∈ lotsB B code, ∃ h, (x, h) ∈ B.2.1) := fun x hx => (lotsB_mem.1 hx).2
  have HFI := Lib.hid (fun (x : LoH) (hx : x ∈ B.2.1) => hI.fL_is hx)
  obtain ⟨AL, cL, hcl, hrL⟩ := H.lotsAt
  obtain ⟨AS, cS, hcs, hrS⟩ := H.linesAt
  have HOF := Lib.hid (fun W (h : Below w.heap.size w W) id => refOf_m hI.stk AS cS W (hrS.below h) id)
  have HQL := Lib.hid (fun W (h : Below w.heap.size w W) => (h.cell (lt_of_cell hcl)).trans hcl)
  have HQS := Lib.hid (fun W (h : Below w.heap.size w W) => (h.cell (lt_of_cell hcs)).trans hcs)
  have HRL := Lib.hid hrL
  have HRS := Lib.hid hrS
  have HLL := Lib.hid hI.loose
  have HLP : Hid (∀ x ∈ linesM B.2.2, 1 ≤ x.2.2 ∧ x.2.2 ≤ 1099511627776) := fun x hx => ⟨(hI.stk.well.lines x hx).2.2.1, (hI.stk.well.lines x hx).2.2.2⟩
  have HPS := Lib.hid (fun s l => hI.refStep_plan day s l)
  have HPD := Lib.hid (fun (s : List PickV × Int) (l : LotV) (h : ¬ day ≤ l.2.2.1) => show planStep B day s l = s by unfold planStep; rw [if_neg h])
  have HDN := Lib.hid (fun a b h => planTo_done hI day n a b hn0 h)
  have hN60 : (lotsB B code).length ≤ 60 := by
    have h := List.length_filter_le (fun x : LoH => decide (x.1.2.1 = code)) B.2.1
    have h2 := hI.lfew
    unfold lotsB
    rw [(Stab.srt_perm _ _).length_eq, List.length_map]
    omega
  have HLB := Lib.hid (fun id => (show looseB B id = (ofM B.2.2 id : Int) - heldOf B id from rfl))
  have HHE : Hid (∀ (y : LoH), y ∈ B.2.1 → heldOf B y.1.1 = y.2) := fun y hy => by
    unfold heldOf
    rw [hI.fL_is hy]
  have hNS2 : (linesM B.2.2).length = B.2.2.length := linesM_len _
  have hNS200 : B.2.2.length ≤ 200 := hI.stk.well.few
  generalize planE B code n day = pe at *
  generalize planL B code n day = pl at *
  generalize freeB B code day = fr at *
  generalize lotsB B code = LL at *
  have HTK := Lib.hid (planTo_take B day n LL)
  have HTI := Lib.hid (fun k => planTo_in hI day (LL.take k) n hn0)
  have HTL := Lib.hid (fun k => planTo_len hI day (LL.take k) n hn0)
  obtain ⟨LS, hLS⟩ : ∃ LS, LS = linesM B.2.2 := ⟨_, rfl⟩
  rw [← hLS] at HRS HLP HPS hNS2
  have HRT := Lib.hid (refPicks_take LS)
  have HRI := Lib.hid (fun id s k h0 h1 => refPicks_in id (LS.take k) s (fun x hx => by have := (HLP.out x (List.mem_of_mem_take hx)).1; omega) h0 h1)
  obtain ⟨N, hN⟩ : ∃ N, N = LL.length := ⟨_, rfl⟩
  have HN := Lib.hid hN
  obtain ⟨NL, hNL⟩ : ∃ N, N = B.2.1.length := ⟨_, rfl⟩
  have HNL := Lib.hid hNL
  obtain ⟨NS, hNS⟩ : ∃ N, N = B.2.2.length := ⟨_, rfl⟩
  have HNS : Hid (NS = LS.length) := hNS.trans hNS2.symm
  rw [← hN] at hN60 HLO
  rw [← hNL] at HQL
  rw [← hNS] at HOF HQS hNS200
  have hNL60 : NL ≤ 60 := by rw [hNL]; exact hI.lfew
  clear hN hNL hNS hNS2 hLS H hI h1 h2 hcl hrL hcs hrS
  go_enter Tryz.func33, Tryz.ntmps33
  go_wp2_with fail
  refine HFG.out.mono ?_
  rintro e w1 ⟨rfl, b1⟩
  have B1 := Lib.hid b1
  clear b1 HFG
  rcases HIG.out with ⟨hf, hix⟩ | ⟨ig, hig, hf, hix, -⟩
  · rw [hix]
    have HPE6 : Hid (pe = 6) := by show _ = _; rw [HPE.out, hf]; rfl
    have HPL6 : Hid (pl = []) := by show _ = _; rw [HPL.out, HPE6.out]; rfl
    clear HPE HPL hf hix HLEFT HTK HTI HTL HLO HOF HQL HQS HRL HRS HRT HRI HLP HPS HPD HDN
    go_wp2_with fail
    go_ret2
    rw [HPE6.out, HPL6.out]
    exact ⟨none, 0, rfl, .inl rfl, B1.out⟩
  · rw [hix]
    have hig2 : ¬ ((ig : Nat) : Int) < 0 := by omega
    have HFS : Hid ((fG B code).isSome = true) := by show _ = _; rw [hf]; rfl
    have HFR1 := Lib.hid (HFR.out w1 B1.out)
    clear hf hix HIG HFR
    go_wp2_with fail
    refine HFR1.out.mono ?_
    rintro e w2 ⟨rfl, b2⟩
    have B2 := Lib.hid (B1.out.trans (b2.mono B1.out.size))
    clear b2 HFR1
    by_cases hfn : fr < n
    · have HPE9 : Hid (pe = 9) := by show _ = _; rw [HPE.out, HFS.out, if_neg (by simp), if_pos hfn]
      have HPL9 : Hid (pl = []) := by show _ = _; rw [HPL.out, HPE9.out]; rfl
      clear HPE HPL HLEFT HTK HTI HTL HLO HOF HQL HQS HRL HRS HRT HRI HLP HPS HPD HDN
      go_wp2_with fail
      go_ret2
      rw [HPE9.out, HPL9.out]
      exact ⟨none, 0, rfl, .inl rfl, B2.out⟩
    · have HPE0 : Hid (pe = 0) := by show _ = _; rw [HPE.out, HFS.out, if_neg (by simp), if_neg hfn]
      have HPL0 : Hid (pl = (planTo B day n LL).1) := by show _ = _; rw [HPL.out, HPE0.out]; rfl
      have HLO2 := Lib.hid (HLO.out w2 B2.out)
      clear HPE HPL HLEFT HFS HLO
      go_wp2_with fail
      refine HLO2.out.mono ?_
      rintro e w3 ⟨A, cap, rfl, hr, -, b3⟩
      have B3 := Lib.hid (B2.out.trans (b3.mono B2.out.size))
      have HR := Lib.hid (fun W (h : Below w3.heap.size w3 W) => hr.below h)
      clear b3 hr HLO2
      go_wp2_with fail
      go_loopw [2, 11, 12] (fun n' v i wr => ∃ k : Nat, k ≤ N ∧ i = .int .i64 k ∧ n' = .int .i64 (planTo B day n (LL.take k)).2 ∧ Hid (wr.ownsRow w3.heap.size 42 5 v (planTo B day n (LL.take k)).1.length (flatL encPick (planTo B day n (LL.take k)).1)) ∧ Hid (Below w3.heap.size w3 wr)) (fun _ _ i _ => N - (intOf i).toNat)
      case atStart => exact ⟨0, by omega, rfl, rfl, World.ownsRow_nil _ _ _ _, Below.refl _ _⟩
      case round =>
        obtain ⟨k, hk, rfl, rfl, HOW, HB⟩ := hrel
        obtain ⟨wo, rfl⟩ : ∃ wo : World, wo = wr := ⟨_, rfl⟩
        obtain ⟨hp0, hp1⟩ := HTI.out k
        have hpl := HTL.out k
        have hln : (LL.take k).length ≤ 60 := by rw [List.length_take]; have := HN.out; omega
        have hpl2 : (planTo B day n (LL.take k)).1.length ≤ 12000 := by omega
        obtain ⟨P, hP⟩ : ∃ P, P = planTo B day n (LL.take k) := ⟨_, rfl⟩
        have HPP := Lib.hid hP
        rw [← hP] at HOW hp0 hp1 hpl2 ⊢
        obtain ⟨out, s2⟩ := P
        simp only at hp0 hp1 hpl2
        clear hpl hln hP
        by_cases hgo : k < N ∧ 0 < s2
        · obtain ⟨hkN, hs2⟩ := hgo
          have hkx : k < LL.length := by rw [← HN.out]; exact hkN
          obtain ⟨g, o, rfl, lg, cg⟩ := HR.out w3 (Below.refl _ _) |>.resolve_left (fun h => by rw [h] at hkx; simp at hkx)
          obtain ⟨x, hx⟩ : ∃ x, x = LL[k] := ⟨_, rfl⟩
          have htk := HTK.out k hkx
          rw [← hx, ← HPP.out] at htk
          have HTK1 := Lib.hid htk
          obtain ⟨hh, hmem⟩ := HLM.out x (by rw [hx]; exact List.getElem_mem hkx)
          have HMEM := Lib.hid hmem
          have hCX : ∀ W, Below w3.heap.size w3 W → W.cell? ⟨g, o + k * 4, none⟩ = some (.string ⟨x.1.toArray⟩) ∧ W.cell? ⟨g, o + k * 4 + 2, none⟩ = some (.int .i64 x.2.2.1) := fun W hb => by
            have h : ∀ c v, (encLot x)[c]? = some v → W.cell? ⟨g, o + k * 4 + c, none⟩ = some v := fun c v hv => (hb.cell (p := ⟨g, o + k * 4 + c, none⟩) lg).trans (cg k hkx c v (by rw [← hx]; exact hv))
            exact ⟨h 0 _ rfl, h 2 _ rfl⟩
          obtain ⟨c0, c2⟩ := hCX wo HB.out
          have hk0 : (0 : Int) ≤ (k : Nat) := by omega
          have hk1 : ((k : Nat) : Int) < (N : Nat) := by omega
          clear hx cg htk hCX hmem lg
          by_cases hd : day ≤ x.2.2.1
          · have hdn : ¬ x.2.2.1 < day := by omega
            have HPN : Hid (planTo B day n (LL.take (k + 1)) = ((refPicks LS x.1 (out, looseB B x.1, s2)).1, (refPicks LS x.1 (out, looseB B x.1, s2)).2.2)) := HTK1.out.trans (HPS.out (out, s2) x hp0 hd)
            obtain ⟨l0, l1, l2, -⟩ := HLL.out x.1
            have hlx : looseB B x.1 = (ofM B.2.2 x.1 : Int) - (hh : Nat) := (HLB.out x.1).trans (by rw [HHE.out (x, hh) HMEM.out])
            have hil := HIL.out x.1
            rw [HFI.out (x, hh) HMEM.out] at hil
            obtain ⟨il, hil1, hil2, hilx, -⟩ := hil.resolve_left (fun h => by cases h.1)
            have hilN : il < NL := by rw [HNL.out]; exact hil1
            obtain ⟨g2, o2, rfl, lg2, cg2⟩ := HRL.out.resolve_left (fun h => by rw [h] at hil1; simp at hil1)
            have hCH : ∀ W, Below w.heap.size w W → W.cell? ⟨g2, o2 + il * 5 + 4, none⟩ = some (.int .i64 (hh : Nat)) := fun W hb => (hb.cell (p := ⟨g2, o2 + il * 5 + 4, none⟩) lg2).trans (cg2 il hil1 4 _ (by rw [← Option.some.inj hil2]; rfl))
            have hbw := B3.out.trans (HB.out.mono B3.out.size)
            have HUP : Hid (∀ W, Below w.heap.size w W → W.cell? ⟨q, 1, none⟩ = some (.slice (some ⟨g2, o2, none⟩) NL cL) ∧ W.cell? ⟨q, 2, none⟩ = some (.slice AS NS cS) ∧ W.cell? ⟨g2, o2 + il * 5 + 4, none⟩ = some (.int .i64 (hh : Nat))) := fun W hb => ⟨HQL.out W hb, HQS.out W hb, hCH W hb⟩
            have hdd := hbw.drew
            have hd3 := HB.out.drew
            have HOW0 := HOW
            have HOF1 := Lib.hid (fun W (h : Below w.heap.size w W) => HOF.out W h x.1)
            have HFL1 := Lib.hid (fun W (h : Below w.heap.size w W) => HFL.out W h x.1)
            rw [hilx] at HFL1
            have hil0 : (0 : Int) ≤ ((il : Nat) : Int) := by omega
            have hilb : ((il : Nat) : Int) < ((NL : Nat) : Int) := by omega
            obtain ⟨lo, hlo⟩ : ∃ lo, lo = looseB B x.1 := ⟨_, rfl⟩
            rw [← hlo] at HPN hlx l0 l1
            generalize ofM B.2.2 x.1 = ov at hlx l1 l2 HOF1
            have HLX := Lib.hid hlx
            have hsub : ((ov : Nat) : Int) - ((hh : Nat) : Int) = lo := hlx.symm
            have hwl : IntKind.i64.wrap lo = lo := wrap_small (by omega) (by omega)
            clear hlx hil2 hilx hil1 cg2 lg2 hCH hbw hd HTK1 hlo hil HMEM
            go_wp2_with fail
            have hOW9 := own_bl HOW.out ((Below.refl wo.heap.size wo).drew)
            have hdq : Below wo.drew.heap.size wo.drew wo.drew := Below.refl _ _
            go_region_held3 (fun W => W.cell? ⟨q, 1, none⟩ = some (.slice (some ⟨g2, o2, none⟩) NL cL) ∧ W.cell? ⟨q, 2, none⟩ = some (.slice AS NS cS) ∧ W.cell? ⟨g2, o2 + il * 5 + 4, none⟩ = some (.int .i64 (hh : Nat)))
              (first | exact HUP.out _ hdd | exact HUP.out _ k1 | exact HUP.out _ k2 | go_keep)
              (first
                | (go_at_call 74; first
                    | (refine (HOF1.out _ hdd).mono ?_; rintro e v1 ⟨rfl, bb1⟩; have k1 := hdd.trans (bb1.mono hdd.size); have j1 := hd3.trans (bb1.mono hd3.size); have q1 := hdq.trans (bb1.mono hdq.size))
                    | (refine (HOF1.out _ k1).mono ?_; rintro e v2 ⟨rfl, bb2⟩; have k2 := k1.trans (bb2.mono k1.size); have j2 := j1.trans (bb2.mono j1.size); have q2 := q1.trans (bb2.mono q1.size)))
                | (go_at_call 26; first
                    | (refine (HFL1.out _ hdd).mono ?_; rintro e v1 ⟨rfl, bb1⟩; have k1 := hdd.trans (bb1.mono hdd.size); have j1 := hd3.trans (bb1.mono hd3.size); have q1 := hdq.trans (bb1.mono hdq.size))
                    | (refine (HFL1.out _ k1).mono ?_; rintro e v2 ⟨rfl, bb2⟩; have k2 := k1.trans (bb2.mono k1.size); have j2 := j1.trans (bb2.mono j1.size); have q2 := q1.trans (bb2.mono q1.size))))
            all_goals
              have HB4 := Lib.hid j2
              have HO4 := Lib.hid (own_bl hOW9 q2)
              clear k1 k2 j1 j2 q1 q2 bb1 bb2 hdd hd3 hdq hOW9 HOF1 HFL1 HUP
              go_wp2_with fail
              go_loopw [2, 11, 14, 15] (fun n' v m' i wr => ∃ j : Nat, j ≤ NS ∧ i = .int .i64 j ∧ n' = .int .i64 (refPicks (LS.take j) x.1 (out, lo, s2)).2.2 ∧ m' = .int .i64 (refPicks (LS.take j) x.1 (out, lo, s2)).2.1 ∧ Hid (wr.ownsRow w3.heap.size 42 5 v (refPicks (LS.take j) x.1 (out, lo, s2)).1.length (flatL encPick (refPicks (LS.take j) x.1 (out, lo, s2)).1)) ∧ Hid (Below w3.heap.size w3 wr)) (fun _ _ _ i _ => NS - (intOf i).toNat)
              case atStart => exact ⟨0, by omega, rfl, rfl, rfl, HO4.out, HB4.out⟩
              case round =>
                obtain ⟨j, hj, rfl, rfl, rfl, HOJ, HBJ⟩ := hrel
                obtain ⟨wj, hwj⟩ : ∃ wj : World, wj = wr := ⟨_, rfl⟩
                rw [← hwj] at HOJ HBJ ⊢
                clear hwj
                have cs := HQS.out wj (B3.out.trans (HBJ.out.mono B3.out.size))
                obtain ⟨r0, r1, r2, r3, r4⟩ := HRI.out x.1 (out, lo, s2) j l0 hp0
                by_cases hjN : j < NS
                · have hjx : j < LS.length := by rw [← HNS.out]; exact hjN
                  obtain ⟨g5, o5, rfl, lg5, cg5⟩ := HRS.out.resolve_left (fun h => by rw [h] at hjx; simp at hjx)
                  obtain ⟨y, hy⟩ : ∃ y, y = LS[j] := ⟨_, rfl⟩
                  obtain ⟨hy1, hy2⟩ := HLP.out y (by rw [hy]; exact List.getElem_mem hjx)
                  have hrt := HRT.out x.1 (out, lo, s2) j hjx
                  rw [← hy] at hrt
                  have hly : Lies wj g5 (o5 + j * 5) (encLine y) := fun c v hv => ((B3.out.trans (HBJ.out.mono B3.out.size)).cell (p := ⟨g5, o5 + j * 5 + c, none⟩) lg5).trans (cg5 j hjx c v (by rw [← hy]; exact hv))
                  have hlj : (LS.take j).length ≤ 200 := by rw [List.length_take]; omega
                  have HRT1 := Lib.hid hrt
                  obtain ⟨Q, hQ⟩ : ∃ Q, Q = refPicks (LS.take j) x.1 (out, lo, s2) := ⟨_, rfl⟩
                  rw [← hQ] at HRT1 HOJ r0 r1 r2 r3 r4 ⊢
                  obtain ⟨ov2, may, nn⟩ := Q
                  simp only at r0 r1 r2 r3 r4
                  have r5 : ov2.length ≤ 13000 := by omega
                  obtain ⟨⟨y1, y2, y3⟩, y4, y5⟩ := y
                  simp only at hy1 hy2
                  have h5 : (encLine ((y1, y2, y3), y4, y5)).length = 5 := rfl
                  have HLZ := Lib.hid hly
                  have HZ1 := Lib.hid (encLine_one ((y1, y2, y3), y4, y5))
                  obtain ⟨LZ, hLZ⟩ : ∃ LZ, LZ = encLine ((y1, y2, y3), y4, y5) := ⟨_, rfl⟩
                  have HLE := Lib.hid hLZ
                  rw [← hLZ] at h5 HLZ HZ1
                  have hj0 : (0 : Int) ≤ (j : Nat) := by omega
                  have hj1 : ((j : Nat) : Int) < (NS : Nat) := by omega
                  have hba := below_one wj (.cells #[.string ⟨#[]⟩, .int .i64 0, .int .i64 0, .string ⟨#[]⟩, .int .i64 0] 82)
                  have r6 : may ≤ 1099511627776 := by omega
                  have r7 : nn ≤ 1099511627776 := by omega
                  clear hy hQ hrt hly hLZ cg5 hlj r1 r3 r4
                  go_upto_region 19 with (first | (refine wpList_load_at rfl 82 _ rfl g5 (o5 + j * 5) rfl LZ HLZ.out _ Tryz.underlying82 rfl (by rw [h5]; kernel_rfl) ?_) | (refine wpList_store_box rfl 82 _ _ rfl wj.heap.size LZ rfl rfl _ [.string ⟨#[]⟩, .int .i64 0, .int .i64 0, .string ⟨#[]⟩, .int .i64 0] (heap_alloc_new wj _) (by rw [h5]; kernel_rfl) (by rw [h5]; rfl) HZ1.out ?_; intro w6 h6 tu6))
                  have b6 := hba.trans (tu6.below (Nat.le_refl _))
                  have HB6 := Lib.hid (HBJ.out.trans (b6.mono HBJ.out.size))
                  have HO6 := Lib.hid (own_bl HOJ.out b6)
                  rw [HLE.out] at h6
                  obtain ⟨⟨d0, d1, d2, d3, d4⟩, -⟩ := row5f h6
                  have HX6 := Lib.hid h6
                  have hz6 := row_lt h6
                  clear tu6 hba b6 h6 HLZ HOJ HBJ cs
                  by_cases hc : y4 = x.1
                  · have hcb : (y4 == x.1) = true := by simpa using hc
                    obtain ⟨t1, ht1⟩ : ∃ t1, t1 = min y5 may := ⟨_, rfl⟩
                    obtain ⟨t, ht⟩ : ∃ t, t = min t1 nn := ⟨_, rfl⟩
                    have hte : min (min y5 may) nn = t := by rw [ht, ht1]
                    have ht2 : t ≤ nn := by omega
                    have ht3 : t ≤ may := by omega
                    have ht4 : 0 ≤ t := by omega
                    have HT1 := Lib.hid ht1
                    have HT := Lib.hid ht
                    have HTE := Lib.hid hte
                    clear ht ht1 hte
                    go_upto_if 110 with fail
                    go_cut [17] (fun s17 wx => s17 = .int .i64 t1 ∧ w6 = wx)
                    case first =>
                      by_cases h1 : may < y5
                      · have e : t1 = may := by rw [HT1.out]; omega
                        go_wp2_with fail
                        go_meet
                        exact ⟨by rw [e], rfl⟩
                      · have e : t1 = y5 := by rw [HT1.out]; omega
                        go_wp2_with fail
                        go_meet
                        exact ⟨by rw [e], rfl⟩
                    case rest =>
                    obtain ⟨rfl, rfl⟩ := hcut
                    go_upto_if 114 with fail
                    go_cut [17] (fun s17 wx => s17 = .int .i64 t ∧ w6 = wx)
                    case first =>
                      by_cases h2 : nn < t1
                      · have e : t = nn := by rw [HT.out]; omega
                        go_wp2_with fail
                        go_meet
                        exact ⟨by rw [e], rfl⟩
                      · have e : t = t1 := by rw [HT.out]; omega
                        go_wp2_with fail
                        go_meet
                        exact ⟨by rw [e], rfl⟩
                    case rest =>
                    obtain ⟨rfl, rfl⟩ := hcut
                    clear HT HT1
                    by_cases h3 : 0 < t
                    · have HRN : Hid (refPicks (LS.take (j + 1)) x.1 (out, lo, s2) = (ov2 ++ [((y1, y2, y3), x.1, t)], may - t, nn - t)) := by
                        show _ = _
                        have e : min (min y5 may) nn = t := HTE.out
                        rw [HRT1.out, refStep]
                        simp only [e]
                        rw [if_pos ⟨hc, h3⟩]
                      clear hc HRT1
                      go_wp2_with (first | (refine wpList_load_at rfl 40 _ rfl wj.heap.size 0 rfl [.string ⟨y1.toArray⟩, .int .i64 y2, .int .i64 y3] (Lies.head (r := [.string ⟨y4.toArray⟩, .int .i64 y5]) (Lies.row _ HX6.out)) _ Tryz.underlying40 rfl (by kernel_rfl) ?_) | (at_builtin; refine wpList_append_rows _ rfl (.tmp 118) (.tmp 124) 29 rfl w3.heap.size 42 i0 _ 56 Tryz.underlying29 hi hz0 hz1 hz2 rfl encPick_len (by decide) encPick_one _ ov2.length (flatL encPick ov2) rfl (own_bl HO6.out (below_one _ _)) (some ⟨w6.heap.size, 0, none⟩) 1 [((y1, y2, y3), x.1, t)] rfl (row_one (heap_alloc_new _ _)) (by simp; omega) (by decide) (by have := HB6.out.size; simp; omega) ?_; intro v7 w7 HO7 hb7; have HB7 := Lib.hid hb7; clear hb7))
                      go_roundw
                      case rel =>
                        refine ⟨j + 1, by omega, by go_num, ?_, ?_, ?_, (HB6.out.trans ((below_one w6 _).mono HB6.out.size)).trans HB7.out⟩
                        · rw [HRN.out]
                        · rw [HRN.out]
                        · show World.ownsRow _ _ _ _ _ _ _
                          rw [HRN.out, List.length_append, flatL_append]
                          exact HO7.out
                      case measure => simp [intOf]; omega
                    · have HRN : Hid (refPicks (LS.take (j + 1)) x.1 (out, lo, s2) = (ov2, may, nn)) := by
                        show _ = _
                        have e : min (min y5 may) nn = t := HTE.out
                        rw [HRT1.out, refStep]
                        simp only [e]
                        rw [if_neg (fun h => h3 h.2)]
                      clear hc HRT1
                      go_wp2_with fail
                      go_roundw
                      case rel => exact ⟨j + 1, by omega, by go_num, by rw [HRN.out], by rw [HRN.out], by rw [HRN.out]; exact HO6.out, HB6.out⟩
                      case measure => simp [intOf]; omega
                  · have hcb : (y4 == x.1) = false := by simpa using hc
                    have HRN : Hid (refPicks (LS.take (j + 1)) x.1 (out, lo, s2) = (ov2, may, nn)) := by
                      show _ = _
                      rw [HRT1.out, refStep, if_neg (fun h => hc h.1)]
                    clear hc HRT1
                    go_wp2_with fail
                    go_roundw
                    case rel => exact ⟨j + 1, by omega, by go_num, by rw [HRN.out], by rw [HRN.out], by rw [HRN.out]; exact HO6.out, HB6.out⟩
                    case measure => simp [intOf]; omega
                · obtain rfl : j = NS := by omega
                  have hT : LS.take j = LS := List.take_of_length_le (by rw [← HNS.out]; exact Nat.le_refl _)
                  rw [hT] at HOJ r0 r1 r2 r3 r4 ⊢
                  clear hT
                  obtain ⟨Q, hQ⟩ : ∃ Q, Q = refPicks LS x.1 (out, lo, s2) := ⟨_, rfl⟩
                  rw [← hQ] at HPN HOJ ⊢
                  obtain ⟨ov2, may, nn⟩ := Q
                  clear hQ r0 r1 r2 r3 r4
                  go_wp2_with fail
                  go_roundw
                  case rel => exact ⟨k + 1, by omega, by go_num, by rw [HPN.out], by rw [HPN.out]; exact HOJ.out, HBJ.out⟩
                  case measure => simp [intOf]; omega
          · have hdn : x.2.2.1 < day := by omega
            have HPN : Hid (planTo B day n (LL.take (k + 1)) = (out, s2)) := HTK1.out.trans (HPD.out (out, s2) x (by omega))
            clear hd HTK1
            go_wp2_with fail
            go_roundw
            case rel => exact ⟨k + 1, by omega, by go_num, by rw [HPN.out], by rw [HPN.out]; exact HOW.out, HB.out⟩
            case measure => simp [intOf]; omega
        · have HEND : Hid ((planTo B day n LL).1 = out) := by
            show _ = _
            by_cases hkN : k < N
            · have hs : s2 = 0 := by
                by_cases h : 0 < s2
                · exact absurd ⟨hkN, h⟩ hgo
                · omega
              have h := HDN.out (LL.take k) (LL.drop k) (by rw [← HPP.out]; exact hs)
              rw [List.take_append_drop] at h
              rw [h, ← HPP.out]
            · have h := HPP.out
              rw [List.take_of_length_le (by rw [← HN.out]; omega)] at h
              rw [← h]
          obtain ⟨A', c', rfl, hra, -⟩ := RowAt.of_own encPick_len HOW.out
          have HRA := Lib.hid hra
          clear hra HOW HPP
          by_cases hkN : k < N
          · have hs : ¬ 0 < s2 := fun h => hgo ⟨hkN, h⟩
            have hk1 : ((k : Nat) : Int) < (N : Nat) := by omega
            clear hgo
            go_wp2_with fail
            go_ret2
            rw [HPE0.out, HPL0.out, HEND.out]
            exact ⟨A', c', rfl, HRA.out, B3.out.trans (HB.out.mono B3.out.size)⟩
          · have hk1 : ¬ ((k : Nat) : Int) < (N : Nat) := by omega
            clear hgo
            go_wp2_with fail
            go_ret2
            rw [HPE0.out, HPL0.out, HEND.out]
            exact ⟨A', c', rfl, HRA.out, B3.out.trans (HB.out.mono B3.out.size)⟩
theorem refPlan_any {q : Nat} {F R : List Nat} {B : BkV} {w : World} (H : MBk w q F R B) (hI : BkI B) (code : List UInt8) (n day : Int) :
    Calls Tryz.prog 33 #[.pointer (some ⟨q, 0, none⟩), .string ⟨code.toArray⟩, .int .i64 n, .int .i64 day] w (RPlanEnds (planL B code n day) (planE B code n day) w) := by
  by_cases h : wiB n 1 1099511627776 = false ∨ wiB day 0 100000 = false
  · have h0 : planE B code n day = 2 := by unfold planE; rw [if_pos h]
    have h1 : planL B code n day = [] := by unfold planL; rw [h0]; rfl
    rw [h0, h1]
    exact refPlan_bound q _ n day w h
  · have h1 : wiB n 1 1099511627776 = true := by
      cases hv : wiB n 1 1099511627776 with
      | true => rfl
      | false => exact absurd (.inl hv) h
    have h2 : wiB day 0 100000 = true := by
      cases hv : wiB day 0 100000 with
      | true => rfl
      | false => exact absurd (.inr hv) h
    exact refPlan_in H hI code n day h1 h2
end Go.Proofs.YtgllddebodfhkaaGreatDoor
namespace Go.Proofs.YtgllddebodfhkaaGreatDoor
open Go.RowKit Go.Sort Go.Proofs

set_option maxHeartbeats 1600000 in
set_option maxRecDepth 100000 in
theorem allocPlans_out (E : Nat → Addr) (A0 : Option Addr) (cap0 : Nat) (xs0 : List EntV) (code : List UInt8) (n day : Int) (w : World) (hG : BkG E w) (hX0 : RowAt encEnt 14 w A0 xs0) (h : longL xs0 40 = 1 ∨ (longL xs0 40 = 0 ∧ 30 < code.length)) :
    Calls Tryz.prog 6 #[.slice A0 xs0.length cap0, .string ⟨code.toArray⟩, .int .i64 n, .int .i64 day] w fun e w' => e = .returned (.bool true) ∧ Below w.heap.size w w' := by
  have HC := Lib.hid (planned_any E w hG)
  have HL := Lib.hid (fun W (hb : Below w.heap.size w W) => longEntries_any A0 cap0 xs0 40 W (by decide) (hX0.below hb))
  clear hG hX0
  rcases h with h | ⟨h, hc⟩
  · rw [h] at HL
    clear h
    go_enter Tryz.func6, Tryz.ntmps6
    go_wp2_with fail
    refine HC.out.mono ?_
    rintro e w1 ⟨rfl, b1⟩
    have B1 := Lib.hid b1
    clear b1
    go_wp2_with fail
    refine (HL.out w1 B1.out).mono ?_
    rintro e w2 ⟨rfl, b2⟩
    have B2 := Lib.hid (B1.out.trans (b2.mono B1.out.size))
    clear b2
    go_wp2_with fail
    go_ret
    exact ⟨rfl, B2.out⟩
  · rw [h] at HL
    have hc1 : (30 : Int) < (code.length : Nat) := by omega
    clear h
    go_enter Tryz.func6, Tryz.ntmps6
    go_wp2_with fail
    refine HC.out.mono ?_
    rintro e w1 ⟨rfl, b1⟩
    have B1 := Lib.hid b1
    clear b1
    go_wp2_with fail
    refine (HL.out w1 B1.out).mono ?_
    rintro e w2 ⟨rfl, b2⟩
    have B2 := Lib.hid (B1.out.trans (b2.mono B1.out.size))
    clear b2
    go_wp2_with fail
    go_ret
    exact ⟨rfl, B2.out⟩
set_option maxHeartbeats 6400000 in
set_option maxRecDepth 100000 in
theorem allocPlans_in (E : Nat → Addr) (A0 : Option Addr) (cap0 : Nat) (xs0 : List EntV) (code : List UInt8) (n day : Int) (w : World) (hG : BkTxG E w) (hE : ErrG E w) (hX0 : RowAt encEnt 14 w A0 xs0) (h : longL xs0 40 = 0) (hc : code.length ≤ 30) :
    Calls Tryz.prog 6 #[.slice A0 xs0.length cap0, .string ⟨code.toArray⟩, .int .i64 n, .int .i64 day] w fun e w' => e = .returned (.bool true) ∧ Below w.heap.size w w' := by
  have HC := Lib.hid (planned_any E w hG.bk)
  have HL := Lib.hid (fun W (hb : Below w.heap.size w W) => longEntries_any A0 cap0 xs0 40 W (by decide) (hX0.below hb))
  rw [h] at HL
  obtain ⟨s1, s2⟩ := longL_short h
  have hsh : ∀ x ∈ xs0, ShortE x := fun x hx => longN_ShortE (s2 x hx)
  have HBO := Lib.hid (fun W (hb : Below w.heap.size w W) => bookOf_any E A0 cap0 xs0 W (hX0.below hb) (by omega) hsh (hG.bk.below hb) (hE.below hb))
  have hI := BkI.all BkI.nil xs0
  generalize doAll bk0 xs0 = B at HBO hI
  have htw := planE_tw B code n day
  have hpl := hI.planL_len code n day
  have HPL := Lib.hid (fun p F W (hb : Below w.heap.size w W) (H : BookIs W p F B) => planAl_any E H hI code n day (hG.bk.below hb))
  have HRP := Lib.hid (fun q G R W (M : MBk W q G R B) => refPlan_any M hI code n day)
  have HPN := Lib.hid (fun W (hb : Below w.heap.size w W) => plan_nil E ⟨code.toArray⟩ n day W (hG.bk.below hb).stk.shape)
  have HAB := Lib.hid (fun p q F G R W (hb : Below w.heap.size w W) (H : BookIs W p F B) (M : MBk W q G R B) => asBook_any E H M hI (hG.below hb).text)
  have HFR := Lib.hid (fun p F W (H : BookIs W p F B) => freeAl_any H hI code day)
  have HRF := Lib.hid (fun q G R W (M : MBk W q G R B) => refFree_any M hI code day)
  have HE := Lib.hid (fun W (hb : Below w.heap.size w W) => hE.below hb)
  generalize planE B code n day = pe at *
  generalize planL B code n day = pl at *
  generalize freeB B code day = fr at *
  have hcq : ((pe : Int) == ((pe : Nat) : Int)) = true := by simp
  have hc1 : ¬ (30 : Int) < (code.length : Nat) := by omega
  clear hG hE hX0 h s1 s2 hsh hI hc
  go_enter Tryz.func6, Tryz.ntmps6
  go_wp2_with fail
  refine (HC.out).mono ?_
  rintro e w1 ⟨rfl, b1⟩
  have B1 := Lib.hid b1
  clear b1 HC
  go_wp2_with fail
  refine (HL.out w1 B1.out).mono ?_
  rintro e w2 ⟨rfl, b2⟩
  have B2 := Lib.hid (B1.out.trans (b2.mono B1.out.size))
  clear b2 HL B1
  go_wp2_with fail
  refine (HBO.out w2 B2.out).mono ?_
  rintro e w3 ⟨p, q, rfl, hbo, b3⟩
  have B3 := Lib.hid (B2.out.trans (b3.mono B2.out.size))
  obtain ⟨F, G, R, hbk, hmk, -, -, -⟩ := hbo
  have HBK := Lib.hid (fun W (h : Below w3.heap.size w3 W) => hbk.below h)
  have HMK := Lib.hid (fun W (h : Below w3.heap.size w3 W) => hmk.below h)
  have K3 : Hid (Below w3.heap.size w3 w3) := Below.refl _ _
  clear b3 HBO B2 hbk hmk hc1
  go_wp2_with fail
  refine (HPL.out p F w3 B3.out (HBK.out w3 K3.out)).mono ?_
  rintro e w4 ⟨A4, c4, rfl, hr4, -, b4⟩
  have K4 := Lib.hid (K3.out.trans (b4.mono K3.out.size))
  have B4 := Lib.hid (B3.out.trans (b4.mono B3.out.size))
  have HR4 := Lib.hid (fun W (h : Below w4.heap.size w4 W) => hr4.below h)
  have J4 : Hid (Below w4.heap.size w4 w4) := Below.refl _ _
  clear hr4
  clear b4 K3 B3
  go_wp2_with fail
  refine (HRP.out q G R w4 (HMK.out w4 K4.out)).mono ?_
  rintro e w5 ⟨A5, c5, rfl, hr5, b5⟩
  have K5 := Lib.hid (K4.out.trans (b5.mono K4.out.size))
  have B5 := Lib.hid (B4.out.trans (b5.mono B4.out.size))
  have J5 := Lib.hid (J4.out.trans (b5.mono J4.out.size))
  have HR5 := Lib.hid (fun W (h : Below w5.heap.size w5 W) => hr5.below h)
  have I5 : Hid (Below w5.heap.size w5 w5) := Below.refl _ _
  clear hr5
  clear J4
  clear b5 K4 B4
  go_wp2_with fail
  refine (HPN.out w5 B5.out).mono ?_
  rintro e w6 ⟨rfl, b6⟩
  have K6 := Lib.hid (K5.out.trans (b6.mono K5.out.size))
  have B6 := Lib.hid (B5.out.trans (b6.mono B5.out.size))
  have J6 := Lib.hid (J5.out.trans (b6.mono J5.out.size))
  have I6 := Lib.hid (I5.out.trans (b6.mono I5.out.size))
  clear I5
  clear J5
  clear b6 K5 B5
  go_wp2_with fail
  refine (coded2 E pe htw pe w6 (HE.out w6 B6.out)).mono ?_
  rintro e w7 ⟨rfl, b7⟩
  have K7 := Lib.hid (K6.out.trans (b7.mono K6.out.size))
  have B7 := Lib.hid (B6.out.trans (b7.mono B6.out.size))
  have J7 := Lib.hid (J6.out.trans (b7.mono J6.out.size))
  have I7 := Lib.hid (I6.out.trans (b7.mono I6.out.size))
  clear I6
  clear J6
  clear b7 K6 B6
  rw [hcq]
  go_wp2_with fail
  refine (samePicks_is A4 A5 c4 c5 pl w7 (HR4.out w7 J7.out) (HR5.out w7 I7.out) (by omega)).mono ?_
  rintro e w8 ⟨rfl, b8⟩
  have K8 := Lib.hid (K7.out.trans (b8.mono K7.out.size))
  have B8 := Lib.hid (B7.out.trans (b8.mono B7.out.size))
  have J8 := Lib.hid (J7.out.trans (b8.mono J7.out.size))
  have I8 := Lib.hid (I7.out.trans (b8.mono I7.out.size))
  clear I7
  clear J7
  clear b8 K7 B7
  go_wp2_with fail
  refine (coded2 E 3 (by decide) 3 w8 (HE.out w8 B8.out)).mono ?_
  rintro e w9 ⟨rfl, b9⟩
  have K9 := Lib.hid (K8.out.trans (b9.mono K8.out.size))
  have B9 := Lib.hid (B8.out.trans (b9.mono B8.out.size))
  have J9 := Lib.hid (J8.out.trans (b9.mono J8.out.size))
  have I9 := Lib.hid (I8.out.trans (b9.mono I8.out.size))
  clear I8
  clear J8
  clear b9 K8 B8
  go_wp2_with fail
  refine (HAB.out p q F G R w9 B9.out (HBK.out w9 K9.out) (HMK.out w9 K9.out)).mono ?_
  rintro e w10 ⟨rfl, b10⟩
  have K10 := Lib.hid (K9.out.trans (b10.mono K9.out.size))
  have B10 := Lib.hid (B9.out.trans (b10.mono B9.out.size))
  have J10 := Lib.hid (J9.out.trans (b10.mono J9.out.size))
  have I10 := Lib.hid (I9.out.trans (b10.mono I9.out.size))
  clear I9
  clear J9
  clear b10 K9 B9
  go_wp2_with fail
  refine (HFR.out p F w10 (HBK.out w10 K10.out)).mono ?_
  rintro e w11 ⟨rfl, b11⟩
  have K11 := Lib.hid (K10.out.trans (b11.mono K10.out.size))
  have B11 := Lib.hid (B10.out.trans (b11.mono B10.out.size))
  have J11 := Lib.hid (J10.out.trans (b11.mono J10.out.size))
  have I11 := Lib.hid (I10.out.trans (b11.mono I10.out.size))
  clear I10
  clear J10
  clear b11 K10 B10
  go_wp2_with fail
  refine (HRF.out q G R w11 (HMK.out w11 K11.out)).mono ?_
  rintro e w12 ⟨rfl, b12⟩
  have K12 := Lib.hid (K11.out.trans (b12.mono K11.out.size))
  have B12 := Lib.hid (B11.out.trans (b12.mono B11.out.size))
  have J12 := Lib.hid (J11.out.trans (b12.mono J11.out.size))
  have I12 := Lib.hid (I11.out.trans (b12.mono I11.out.size))
  clear I11
  clear J11
  clear b12 K11 B11
  go_wp2_with fail
  refine (free_nil _ day _).mono ?_
  rintro e v ⟨rfl, rfl⟩
  go_wp2_with fail
  go_ret
  exact ⟨by simp, B12.out⟩
theorem allocPlans_walk (E : Nat → Addr) (A0 : Option Addr) (cap0 : Nat) (xs0 : List EntV) (code : List UInt8) (n day : Int) (w : World) (hG : BkTxG E w) (hE : ErrG E w) (hX0 : RowAt encEnt 14 w A0 xs0) :
    Calls Tryz.prog 6 #[.slice A0 xs0.length cap0, .string ⟨code.toArray⟩, .int .i64 n, .int .i64 day] w fun e w' => e = .returned (.bool true) ∧ Below w.heap.size w w' := by
  rcases longL_01 xs0 40 with h | h
  · by_cases hc : 30 < code.length
    · exact allocPlans_out E A0 cap0 xs0 code n day w hG.bk hX0 (.inr ⟨h, hc⟩)
    · exact allocPlans_in E A0 cap0 xs0 code n day w hG hE hX0 h (by omega)
  · exact allocPlans_out E A0 cap0 xs0 code n day w hG.bk hX0 (.inl h)
theorem allocPlans_walkS (E : Nat → Addr) (A0 : Option Addr) (cap0 : Nat) (xs0 : List EntV) (s : ByteArray) (n day : Int) (w : World) (hG : BkTxG E w) (hE : ErrG E w) (hX0 : RowAt encEnt 14 w A0 xs0) :
    Calls Tryz.prog 6 #[.slice A0 xs0.length cap0, .string s, .int .i64 n, .int .i64 day] w fun e w' => e = .returned (.bool true) ∧ Below w.heap.size w w' := by
  have h := allocPlans_walk E A0 cap0 xs0 s.data.toList n day w hG hE hX0
  rw [Array.toArray_toList] at h
  exact h
end Go.Proofs.YtgllddebodfhkaaGreatDoor
namespace Go.Proofs.YtgllddebodfhkaaGreatDoor
open Go.RowKit

/-- The number of a sentinel, by its text. -/
def textNo (l : List UInt8) : Nat :=
  if l = [116, 105, 116, 104, 101, 98, 97, 114, 110, 58, 32, 116, 101, 120, 116] then 1 else
  if l = [116, 105, 116, 104, 101, 98, 97, 114, 110, 58, 32, 98, 111, 117, 110, 100] then 2 else
  if l = [116, 105, 116, 104, 101, 98, 97, 114, 110, 58, 32, 115, 104, 97, 112, 101] then 3 else
  if l = [116, 105, 116, 104, 101, 98, 97, 114, 110, 58, 32, 107, 105, 110, 100] then 4 else
  if l = [116, 105, 116, 104, 101, 98, 97, 114, 110, 58, 32, 110, 97, 109, 101] then 5 else
  if l = [116, 105, 116, 104, 101, 98, 97, 114, 110, 58, 32, 110, 111, 110, 101] then 6 else
  if l = [116, 105, 116, 104, 101, 98, 97, 114, 110, 58, 32, 101, 120, 105, 115, 116] then 7 else
  if l = [116, 105, 116, 104, 101, 98, 97, 114, 110, 58, 32, 102, 117, 108, 108] then 8 else
  if l = [116, 105, 116, 104, 101, 98, 97, 114, 110, 58, 32, 115, 104, 111, 114, 116] then 9 else
  if l = [116, 105, 116, 104, 101, 98, 97, 114, 110, 58, 32, 111, 114, 100, 101, 114] then 10 else
  if l = [116, 105, 116, 104, 101, 98, 97, 114, 110, 58, 32, 115, 116, 97, 116, 101] then 11 else
  if l = [116, 105, 116, 104, 101, 98, 97, 114, 110, 58, 32, 111, 102, 102] then 12 else 0

theorem errG_of {W : World} {a1 a2 a3 a4 a5 a6 a7 a8 a9 a10 a11 a12 : Addr}
    (h1 : Sent 4 a1 [116, 105, 116, 104, 101, 98, 97, 114, 110, 58, 32, 116, 101, 120, 116] W)
    (h2 : Sent 1 a2 [116, 105, 116, 104, 101, 98, 97, 114, 110, 58, 32, 98, 111, 117, 110, 100] W)
    (h3 : Sent 0 a3 [116, 105, 116, 104, 101, 98, 97, 114, 110, 58, 32, 115, 104, 97, 112, 101] W)
    (h4 : Sent 6 a4 [116, 105, 116, 104, 101, 98, 97, 114, 110, 58, 32, 107, 105, 110, 100] W)
    (h5 : Sent 9 a5 [116, 105, 116, 104, 101, 98, 97, 114, 110, 58, 32, 110, 97, 109, 101] W)
    (h6 : Sent 2 a6 [116, 105, 116, 104, 101, 98, 97, 114, 110, 58, 32, 110, 111, 110, 101] W)
    (h7 : Sent 7 a7 [116, 105, 116, 104, 101, 98, 97, 114, 110, 58, 32, 101, 120, 105, 115, 116] W)
    (h8 : Sent 8 a8 [116, 105, 116, 104, 101, 98, 97, 114, 110, 58, 32, 102, 117, 108, 108] W)
    (h9 : Sent 3 a9 [116, 105, 116, 104, 101, 98, 97, 114, 110, 58, 32, 115, 104, 111, 114, 116] W)
    (h10 : Sent 5 a10 [116, 105, 116, 104, 101, 98, 97, 114, 110, 58, 32, 111, 114, 100, 101, 114] W)
    (h11 : Sent 10 a11 [116, 105, 116, 104, 101, 98, 97, 114, 110, 58, 32, 115, 116, 97, 116, 101] W)
    (h12 : Sent 11 a12 [116, 105, 116, 104, 101, 98, 97, 114, 110, 58, 32, 111, 102, 102] W)
    (hty : W.cell? ⟨12, 0, none⟩ = some (.iface 240 (.agg #[.pointer (some ⟨21, 31, none⟩)]))) :
    ErrG (fun k => if k = 1 then a1 else if k = 2 then a2 else if k = 3 then a3 else if k = 4 then a4 else if k = 5 then a5 else if k = 6 then a6 else if k = 7 then a7 else if k = 8 then a8 else if k = 9 then a9 else if k = 10 then a10 else if k = 11 then a11 else a12) W := by
  refine ⟨?_, ?_, ?_, hty⟩
  · intro k k1 k2
    rcases (show k = 1 ∨ k = 2 ∨ k = 3 ∨ k = 4 ∨ k = 5 ∨ k = 6 ∨ k = 7 ∨ k = 8 ∨ k = 9 ∨ k = 10 ∨ k = 11 ∨ k = 12 by omega) with rfl | rfl | rfl | rfl | rfl | rfl | rfl | rfl | rfl | rfl | rfl | rfl
    · exact h1.at_
    · exact h2.at_
    · exact h3.at_
    · exact h4.at_
    · exact h5.at_
    · exact h6.at_
    · exact h7.at_
    · exact h8.at_
    · exact h9.at_
    · exact h10.at_
    · exact h11.at_
    · exact h12.at_
  · intro k k1 k2
    rcases (show k = 1 ∨ k = 2 ∨ k = 3 ∨ k = 4 ∨ k = 5 ∨ k = 6 ∨ k = 7 ∨ k = 8 ∨ k = 9 ∨ k = 10 ∨ k = 11 ∨ k = 12 by omega) with rfl | rfl | rfl | rfl | rfl | rfl | rfl | rfl | rfl | rfl | rfl | rfl
    · exact h1.row
    · exact h2.row
    · exact h3.row
    · exact h4.row
    · exact h5.row
    · exact h6.row
    · exact h7.row
    · exact h8.row
    · exact h9.row
    · exact h10.row
    · exact h11.row
    · exact h12.row
  · have T : ∀ k, 1 ≤ k → k ≤ 12 → ∃ g l, Sent g ((fun k => if k = 1 then a1 else if k = 2 then a2 else if k = 3 then a3 else if k = 4 then a4 else if k = 5 then a5 else if k = 6 then a6 else if k = 7 then a7 else if k = 8 then a8 else if k = 9 then a9 else if k = 10 then a10 else if k = 11 then a11 else a12) k) l W ∧ textNo l = k := by
      intro k k1 k2
      rcases (show k = 1 ∨ k = 2 ∨ k = 3 ∨ k = 4 ∨ k = 5 ∨ k = 6 ∨ k = 7 ∨ k = 8 ∨ k = 9 ∨ k = 10 ∨ k = 11 ∨ k = 12 by omega) with rfl | rfl | rfl | rfl | rfl | rfl | rfl | rfl | rfl | rfl | rfl | rfl
      · exact ⟨_, _, h1, by decide⟩
      · exact ⟨_, _, h2, by decide⟩
      · exact ⟨_, _, h3, by decide⟩
      · exact ⟨_, _, h4, by decide⟩
      · exact ⟨_, _, h5, by decide⟩
      · exact ⟨_, _, h6, by decide⟩
      · exact ⟨_, _, h7, by decide⟩
      · exact ⟨_, _, h8, by decide⟩
      · exact ⟨_, _, h9, by decide⟩
      · exact ⟨_, _, h10, by decide⟩
      · exact ⟨_, _, h11, by decide⟩
      · exact ⟨_, _, h12, by decide⟩
    intro i j i1 i2 j1 j2 he
    obtain ⟨g, l, s, e⟩ := T i i1 i2
    obtain ⟨g', l', s', e'⟩ := T j j1 j2
    rcases Decidable.em (l = l') with hl | hl
    · rw [← e, ← e', hl]
    · exact absurd he (sent_ne s s' hl)
end Go.Proofs.YtgllddebodfhkaaGreatDoor
