/- Counts: the document's ClassesOf. slices.SortStableFunc at tithebarn/count.gone: its parts, walked. slices.SortStableFunc at tithebarn/count.gone: the rotation, walked. slices.SortStableFunc at tithebarn/count.gone: two runs merged, walked. -/
import Derived.Deep.CutBlock
import Derived.BigQuiet
import Derived.Shelf.SlSortCmp.KitK
import Derived.Deep.LoopGhost
import Derived.Sort.WalkB2
import Derived.Sort.WalkB12
import Derived.Test.YtphgakobfegpcaaGreatDoorM01
import Derived.Test.YtphgakobfegpcaaGreatDoorM05
import Derived.Test.YtphgakobfegpcaaGreatDoorM12
import Derived.Test.YtphgakobfegpcaaGreatDoorM44
import Derived.Test.YtphgakobfegpcaaGreatDoorLCountDiffs03
import Derived.Test.YtphgakobfegpcaaGreatDoorLCountDiffs04
namespace Go.Proofs.YtphgakobfegpcaaGreatDoor
open Go.RowKit Go.Sort Go.Proofs

theorem ahead_le (l : List Int) (h0 : ∀ x ∈ l, 0 ≤ x) (i : Nat) (n : Int) : ∀ k, 0 ≤ aheadN l i n k ∧ aheadN l i n k ≤ sumI (l.take k)
  | 0 => by simp [aheadN, sumI]
  | k + 1 => by
    have ih := ahead_le l h0 i n k
    unfold aheadN
    cases hq : l[k]? with
    | none =>
      rw [List.getElem?_eq_none_iff] at hq
      rw [List.take_of_length_le (by omega)]
      rw [List.take_of_length_le (by omega)] at ih
      simp only
      omega
    | some x =>
      obtain ⟨hk, rfl⟩ := List.getElem?_eq_some_iff.1 hq
      rw [sumI_take l k hk]
      have := h0 l[k] (List.getElem_mem hk)
      simp only
      split <;> omega
theorem ahead_step (l : List Int) (i : Nat) (n : Int) (k : Nat) (h : k < l.length) : aheadN l i n (k + 1) = aheadN l i n k + if n < l[k] ∨ (l[k] = n ∧ k < i) then l[k] else 0 := by
  conv => lhs; unfold aheadN
  rw [List.getElem?_eq_getElem h]
  simp [gtG]
theorem strs_one (w : World) (x : List UInt8) : StrsAt (w.alloc (.cells #[.string ⟨x.toArray⟩] 9)) (some ⟨w.heap.size, 0, none⟩) [x] :=
  .inr ⟨w.heap.size, 0, rfl, by simp, fun i hi => by
    obtain rfl : i = 0 := by simpa using hi
    exact cell_of_row _ _ 0 _ _ _ (heap_alloc_new w _)⟩

set_option maxHeartbeats 3200000 in
set_option maxRecDepth 100000 in
theorem classesOf_any {q : Nat} {F R : List Nat} {B : BkV} {w : World} (H : MBk w q F R B) (hI : BkI B) :
    Calls Tryz.prog 27 #[.pointer (some ⟨q, 0, none⟩)] w fun e w' => ∃ A cap, e = .returned (.slice A B.1.length cap) ∧ StrsAt w' A (classesL (outsB B)) ∧ Below w.heap.size w w' := by
  obtain ⟨AG, cG, hcq, hrG⟩ := H.goodsAt
  obtain ⟨hO1, hO2, hO3⟩ := hI.outs
  obtain ⟨N, hN⟩ : ∃ N, N = B.1.length := ⟨_, rfl⟩
  obtain ⟨O, hO⟩ : ∃ O, O = outsB B := ⟨_, rfl⟩
  have hOL : O.length = N := by rw [hO, hN]; simp [outsB]
  have HOL := Lib.hid hOL
  have HQ := Lib.hid (fun W (h : Below w.heap.size w W) => (h.cell (lt_of_cell hcq)).trans hcq)
  rw [← hN] at HQ
  have HCG : Hid (0 < N → ∃ g og, AG = some ⟨g, og, none⟩ ∧ ∀ k (hk : k < O.length) W, Below w.heap.size w W → W.cell? ⟨g, og + k * 6 + 2 + 1, none⟩ = some (.int .i64 O[k])) := fun h0 => by
    obtain ⟨g, og, hA, lg, cg⟩ := hrG.resolve_left (fun h => by rw [h] at hN; simp at hN; omega)
    refine ⟨g, og, hA, fun k hk W hb => ?_⟩
    have hkB : k < B.1.length := by rw [← hN, ← hOL]; exact hk
    have h := cg k hkB 3 (.int .i64 B.1[k].2.2.1) rfl
    have e : O[k] = B.1[k].2.2.1 := by simp [hO, outsB]
    rw [e]
    exact (hb.cell (p := ⟨g, og + k * 6 + 3, none⟩) lg).trans h
  rw [← hO] at hO1 hO2 hO3 ⊢
  have hN30 : N ≤ 30 := by omega
  have hs0 : 0 ≤ sumI O := sumI_nonneg hO1
  have hs1 : sumI O ≤ 1979120929996800 := by
    have h1 := sumI_le hO2
    have h2 : (65970697666560 : Int) * O.length ≤ 65970697666560 * 30 := by omega
    omega
  have HST := Lib.hid (fun k => sumI_take_le hO1 k)
  have HTS := Lib.hid (fun k h => sumI_take O k h)
  have HAL := Lib.hid (fun i n k => ahead_le O hO1 i n k)
  have HAS := Lib.hid (fun i n k h => ahead_step O i n k h)
  have HCN : Hid ((classesL O).length = N) := by show _ = _; simp [classesL]; exact hOL
  have HCT : Hid (∀ k, k < N → strVals ((classesL O).take (k + 1)) = strVals ((classesL O).take k) ++ strVals [clsOf O k]) := fun k hk => by
    have hk' : k < (classesL O).length := by simp [classesL]; omega
    rw [List.take_succ_eq_append_getElem hk']
    simp [strVals, classesL]
  have HCO : Hid (∀ k (h : k < O.length), clsOf O k = classB (aheadN O k O[k] O.length) (sumI O)) := fun k h => by
    unfold clsOf
    rw [List.getElem?_eq_getElem h]
    rfl
  have HLN : Hid (B.1.length = N) := hN.symm
  rw [HLN.out]
  clear hcq hrG hO1 hO2 hO3 hN hO H hI hOL
  go_enter Tryz.func27, Tryz.ntmps27
  go_wp2_with fail
  go_loopw [3, 4] (fun a i wr => ∃ k : Nat, k ≤ N ∧ i = .int .i64 k ∧ a = .int .i64 (sumI (O.take k)) ∧ Hid (Below w.heap.size w wr)) (fun _ i _ => N - (intOf i).toNat)
  case atStart => exact ⟨0, by omega, rfl, rfl, Below.refl _ _⟩
  case round =>
    obtain ⟨k, hk, rfl, rfl, HB⟩ := hrel
    have cq := HQ.out wr HB.out
    by_cases hkN : k < N
    · obtain ⟨g, og, rfl, hcg⟩ := HCG.out (by omega)
      have hkO : k < O.length := by rw [HOL.out]; exact hkN
      have hc := hcg k hkO wr HB.out
      have hts := HTS.out k hkO
      have hb0 := HST.out k
      have hb1 := HST.out (k + 1)
      obtain ⟨sk, hsk⟩ : ∃ sk, sk = sumI (O.take k) := ⟨_, rfl⟩
      obtain ⟨ok, hok⟩ : ∃ ok, ok = O[k] := ⟨_, rfl⟩
      rw [hts, ← hok] at hb1
      rw [← hsk] at hb0 hb1
      rw [← hok] at hc hts
      rw [← hsk] at hts ⊢
      have HTS1 := Lib.hid hts
      have hwr : IntKind.i64.wrap (sk + ok) = sk + ok := wrap_small (by omega) (by omega)
      have hk0 : (0 : Int) ≤ (k : Nat) := by omega
      have hk1 : ((k : Nat) : Int) < (N : Nat) := by omega
      clear hcg hts hsk hok
      go_wp2_with fail
      go_roundw
      case rel => exact ⟨k + 1, by omega, by go_num, by rw [HTS1.out], HB.out⟩
      case measure => simp [intOf]; omega
    · obtain rfl : k = N := by omega
      have hT : O.take k = O := List.take_of_length_le (by rw [HOL.out]; exact Nat.le_refl _)
      have B1 := HB
      rw [hT]
      obtain ⟨w1, hw1⟩ : ∃ w1 : World, w1 = wr := ⟨_, rfl⟩
      rw [← hw1] at B1 cq ⊢
      clear hT HB hw1
      go_wp2_with fail
      go_loopw [5, 6] (fun v i wr => ∃ i' : Nat, i' ≤ k ∧ i = .int .i64 i' ∧ Hid (wr.ownsRow w.heap.size 9 1 v i' (strVals ((classesL O).take i'))) ∧ Hid (Below w.heap.size w wr)) (fun _ i _ => k - (intOf i).toNat)
      case atStart => exact ⟨0, by omega, rfl, World.ownsRow_nil _ _ _ _, B1.out⟩
      case round =>
        obtain ⟨i, hi, rfl, HOW, HB⟩ := hrel
        have cq := HQ.out wr HB.out
        obtain ⟨w2, hw2⟩ : ∃ w2 : World, w2 = wr := ⟨_, rfl⟩
        rw [← hw2] at HOW HB cq ⊢
        clear hw2
        by_cases hiN : i < k
        · obtain ⟨g, og, rfl, hcg⟩ := HCG.out (by omega)
          have hiO : i < O.length := by rw [HOL.out]; exact hiN
          have HCGI := Lib.hid (hcg i hiO)
          have HCGK := Lib.hid hcg
          obtain ⟨oi, hoi⟩ : ∃ oi, oi = O[i] := ⟨_, rfl⟩
          rw [← hoi] at HCGI
          have hco := HCO.out i hiO
          rw [← hoi, HOL.out] at hco
          have HCOI := Lib.hid hco
          have hi0 : (0 : Int) ≤ (i : Nat) := by omega
          have hi1 : ((i : Nat) : Int) < (k : Nat) := by omega
          clear hcg hoi hco
          go_wp2_with fail
          go_loopw [7, 8] (fun a j wr => ∃ j' : Nat, j' ≤ k ∧ j = .int .i64 j' ∧ a = .int .i64 (aheadN O i oi j') ∧ Hid (Below w2.heap.size w2 wr)) (fun _ j _ => k - (intOf j).toNat)
          case atStart => exact ⟨0, by omega, rfl, rfl, Below.refl _ _⟩
          case round =>
            obtain ⟨j, hj, rfl, rfl, HBJ⟩ := hrel
            have hbw := HB.out.trans (HBJ.out.mono HB.out.size)
            have cq := HQ.out wr hbw
            by_cases hjN : j < k
            · have hjO : j < O.length := by rw [HOL.out]; exact hjN
              have c1 := HCGK.out j hjO wr hbw
              have c2 := HCGI.out wr hbw
              have hst := HAS.out i oi j hjO
              have ha0 := HAL.out i oi j
              have ha1 := HAL.out i oi (j + 1)
              have hb0 := HST.out j
              have hb1 := HST.out (j + 1)
              obtain ⟨oj, hoj⟩ : ∃ oj, oj = O[j] := ⟨_, rfl⟩
              obtain ⟨aj, haj⟩ : ∃ aj, aj = aheadN O i oi j := ⟨_, rfl⟩
              obtain ⟨aj1, haj1⟩ : ∃ aj1, aj1 = aheadN O i oi (j + 1) := ⟨_, rfl⟩
              rw [← hoj] at c1 hst
              rw [← haj, ← haj1] at hst
              rw [← haj] at ha0 ⊢
              rw [← haj1] at ha1
              have HST1 := Lib.hid hst
              have HAJ1 := Lib.hid haj1
              have hj0 : (0 : Int) ≤ (j : Nat) := by omega
              have hj1 : ((j : Nat) : Int) < (k : Nat) := by omega
              clear hst hbw hoj haj haj1
              by_cases h1 : oi < oj
              · have HN1 := Lib.hid (HST1.out.trans (by rw [if_pos (.inl h1)]))
                have hwr : IntKind.i64.wrap (aj + oj) = aj + oj := wrap_small (by have := HN1.out; omega) (by have := HN1.out; omega)
                clear HST1
                go_wp2_with fail
                go_quiet (fail)
                go_wp2_with fail
                go_roundw
                case rel => exact ⟨j + 1, by omega, by go_num, by rw [← HAJ1.out, HN1.out], below_drewN HBJ.out _⟩
                case measure => simp [intOf]; omega
              · by_cases h2 : oj = oi
                · have h2b : (oj == oi) = true := by simpa using h2
                  by_cases h3 : j < i
                  · have h3i : ((j : Nat) : Int) < (i : Nat) := by omega
                    have HN1 := Lib.hid (HST1.out.trans (by rw [if_pos (.inr ⟨h2, h3⟩)]))
                    have hwr : IntKind.i64.wrap (aj + oj) = aj + oj := wrap_small (by have := HN1.out; omega) (by have := HN1.out; omega)
                    have hwr2 : IntKind.i64.wrap (aj + oi) = aj + oi := by rw [← h2]; exact hwr
                    clear HST1
                    go_wp2_with fail
                    go_quiet (fail)
                    go_wp2_with fail
                    go_roundw
                    case rel => exact ⟨j + 1, by omega, by go_num, by rw [← HAJ1.out, HN1.out]; simp [h2], below_drewN HBJ.out _⟩
                    case measure => simp [intOf]; omega
                  · have h3i : ¬ ((j : Nat) : Int) < (i : Nat) := by omega
                    have HN1 := Lib.hid (HST1.out.trans (by rw [if_neg (by rintro (h | ⟨-, h⟩); exact h1 h; exact h3 h)]))
                    clear HST1
                    go_wp2_with fail
                    go_quiet (fail)
                    go_wp2_with fail
                    go_roundw
                    case rel => exact ⟨j + 1, by omega, by go_num, by rw [← HAJ1.out, HN1.out, Int.add_zero], below_drewN HBJ.out _⟩
                    case measure => simp [intOf]; omega
                · have h2b : (oj == oi) = false := by simpa using h2
                  have HN1 := Lib.hid (HST1.out.trans (by rw [if_neg (by rintro (h | ⟨h, -⟩); exact h1 h; exact h2 h)]))
                  clear HST1
                  go_wp2_with fail
                  go_quiet (fail)
                  go_wp2_with fail
                  go_roundw
                  case rel => exact ⟨j + 1, by omega, by go_num, by rw [← HAJ1.out, HN1.out, Int.add_zero], below_drewN HBJ.out _⟩
                  case measure => simp [intOf]; omega
            · obtain rfl : j = k := by omega
              have hco2 := HCOI.out
              have ha0 := HAL.out i oi j
              have hb0 := HST.out j
              have HCTI := Lib.hid (HCT.out i hiN)
              obtain ⟨aj, haj⟩ : ∃ aj, aj = aheadN O i oi j := ⟨_, rfl⟩
              rw [← haj] at ha0 hco2 ⊢
              obtain ⟨sm, hsm⟩ : ∃ sm, sm = sumI O := ⟨_, rfl⟩
              rw [← hsm] at hs0 hs1 hb0 hco2 ⊢
              have HOWJ := Lib.hid (own_bl HOW.out HBJ.out)
              have HBW := Lib.hid hbw
              have hszw := hbw.size
              have hw1 : IntKind.i64.wrap (100 * aj) = 100 * aj := wrap_small (by omega) (by omega)
              have hw2 : IntKind.i64.wrap (80 * sm) = 80 * sm := wrap_small (by omega) (by omega)
              have hw3 : IntKind.i64.wrap (95 * sm) = 95 * sm := wrap_small (by omega) (by omega)
              obtain ⟨ci, hci⟩ : ∃ ci, ci = clsOf O i := ⟨_, rfl⟩
              rw [← hci] at hco2 HCTI
              have HCI : Hid (ci = classB aj sm) := hco2
              clear haj hco2 hci hbw
              have hcls : (ci = [97] ∧ 0 < sm ∧ 100 * aj < 80 * sm) ∨ (ci = [98] ∧ 0 < sm ∧ ¬ 100 * aj < 80 * sm ∧ 100 * aj < 95 * sm) ∨ (ci = [99] ∧ (¬ 0 < sm ∨ (0 < sm ∧ ¬ 100 * aj < 80 * sm ∧ ¬ 100 * aj < 95 * sm))) := by
                have h := HCI.out
                unfold classB at h
                split at h
                · exact .inr (.inr ⟨h, .inl (by omega)⟩)
                split at h
                · exact .inl ⟨h, by omega, by assumption⟩
                split at h
                · exact .inr (.inl ⟨h, by omega, by assumption, by assumption⟩)
                · exact .inr (.inr ⟨h, .inr ⟨by omega, by assumption, by assumption⟩⟩)
              clear HCI
              rcases hcls with ⟨rfl, g1, g2⟩ | ⟨rfl, g1, g2, g3⟩ | ⟨rfl, g1 | ⟨g1, g2, g3⟩⟩
              all_goals
                go_wp2_with (at_builtin; refine wpList_append_strs _ rfl (.tmp 122) (.tmp 124) rfl w.heap.size u5 i (strVals ((classesL O).take i)) rfl (own_bl HOWJ.out (below_one _ _)) (some ⟨wr.heap.size, 0, none⟩) 1 [_] rfl (strs_one wr _) (by simp; omega) (by simp; omega) ?_; intro v3 w3 HO3 hb3; have HB3 := Lib.hid hb3; clear hb3)
                subst hsm
                go_roundw
                case rel =>
                  refine ⟨i + 1, by omega, by go_num, ?_, (HBW.out.trans ((below_one wr _).mono HBW.out.size)).trans HB3.out⟩
                  show World.ownsRow _ _ _ _ _ _ _
                  rw [HCTI.out]
                  exact HO3.out
                case measure => simp [intOf]; omega
        · obtain rfl : i = k := by omega
          have hT : (classesL O).take i = classesL O := List.take_of_length_le (by rw [HCN.out]; exact Nat.le_refl _)
          have ho := HOW.out
          rw [hT] at ho
          have hcn := HCN.out
          obtain ⟨A', c', rfl, hra, -⟩ := StrsAt.of_own (xs := classesL O) (by rw [hcn]; exact ho)
          have HRA := Lib.hid hra
          clear hT hra HOW ho
          go_wp2_with fail
          go_ret
          refine ⟨A', c', by rw [← HCN.out]; rfl, HRA.out, HB.out⟩
end Go.Proofs.YtphgakobfegpcaaGreatDoor
namespace Go.Proofs.YtphgakobfegpcaaGreatDoor.StabGone
open Go.Sort Go.RowKit Go.Lib Go.Proofs Go.Proofs.YtphgakobfegpcaaGreatDoor.Stab
variable {α : Type} [Inhabited α]

/-- What the walks are told of a program: these functions' texts and types; an element takes k cells. -/
structure Fits (P : Program) (k : Nat) : Prop where
  mixed : P.follows .mixedOrders = true
  fSwap : P.funcs[229]? = some Tryz.f229
  fRot : P.funcs[202]? = some Tryz.f202
  fSym : P.funcs[167]? = some Tryz.f167
  fIns : P.funcs[166]? = some Tryz.f166
  fStab : P.funcs[118]? = some Tryz.f118
  t0 : P.underlying 0 = some (TypeDesc.tuple #[])
  a0 : ∀ w, (isAgg 0).run P w = .ok false w
  z0 : ∀ w, (Go.sizeOf 0).run P w = .ok 1 w
  v0 : ∀ w, (zeroValue 0).run P w = .ok (Value.tuple #[]) w
  t3 : P.underlying 3 = some (TypeDesc.int IntKind.i64)
  a3 : ∀ w, (isAgg 3).run P w = .ok false w
  z3 : ∀ w, (Go.sizeOf 3).run P w = .ok 1 w
  v3 : ∀ w, (zeroValue 3).run P w = .ok (Value.int IntKind.i64 0) w
  t4 : P.underlying 4 = some (TypeDesc.bool)
  a4 : ∀ w, (isAgg 4).run P w = .ok false w
  z4 : ∀ w, (Go.sizeOf 4).run P w = .ok 1 w
  v4 : ∀ w, (zeroValue 4).run P w = .ok (Value.bool false) w
  tU : P.underlying 236 = some (TypeDesc.int IntKind.u64)
  aU : ∀ w, (isAgg 236).run P w = .ok false w
  zU : ∀ w, (Go.sizeOf 236).run P w = .ok 1 w
  vU : ∀ w, (zeroValue 236).run P w = .ok (Value.int IntKind.u64 0) w
  tS : P.underlying 139 = some (TypeDesc.slice 141)
  aS : ∀ w, (isAgg 139).run P w = .ok false w
  zS : ∀ w, (Go.sizeOf 139).run P w = .ok 1 w
  vS : ∀ w, (zeroValue 139).run P w = .ok (Value.slice none 0 0) w
  tF : P.underlying 143 = some (TypeDesc.func #[141, 141] #[3] false)
  aF : ∀ w, (isAgg 143).run P w = .ok false w
  zF : ∀ w, (Go.sizeOf 143).run P w = .ok 1 w
  vF : ∀ w, (zeroValue 143).run P w = .ok (Value.nilFunc) w
  aE : ∀ w, (isAgg 141).run P w = .ok true w
  zE : ∀ w, (Go.sizeOf 141).run P w = .ok k w
theorem fits : Fits Tryz.prog 2 where
  mixed := by kernel_rfl
  fSwap := Tryz.func229
  fRot := Tryz.func202
  fSym := Tryz.func167
  fIns := Tryz.func166
  fStab := Tryz.func118
  t0 := Tryz.underlying0
  a0 := Tryz.isAgg0
  z0 := Tryz.sizeOf0
  v0 := Tryz.zeroValue0
  t3 := Tryz.underlying3
  a3 := Tryz.isAgg3
  z3 := Tryz.sizeOf3
  v3 := Tryz.zeroValue3
  t4 := Tryz.underlying4
  a4 := Tryz.isAgg4
  z4 := Tryz.sizeOf4
  v4 := Tryz.zeroValue4
  tU := Tryz.underlying236
  aU := Tryz.isAgg236
  zU := Tryz.sizeOf236
  vU := Tryz.zeroValue236
  tS := Tryz.underlying139
  aS := Tryz.isAgg139
  zS := Tryz.sizeOf139
  vS := Tryz.zeroValue139
  tF := Tryz.underlying143
  aF := Tryz.isAgg143
  zF := Tryz.sizeOf143
  vF := Tryz.zeroValue143
  aE := Tryz.isAgg141
  zE := Tryz.sizeOf141

set_option maxHeartbeats 600000 in
set_option maxRecDepth 1000000 in
theorem swapRange_any {P : Program} {K : Nat} (L : Fits P K) (enc : α → List Value) (g : Nat) (cb : Array Value) (blk off cap : Nat) (d0 : Array α) (w0 w : World) (R : RowK enc K w0 blk off d0) (A X M Y B : List α) (hXY : X.length = Y.length)
    (hlen : A.length + X.length + M.length + Y.length + B.length = d0.size) (hsz : d0.size < 4611686018427387904) (S : SWK enc K w0 blk off (A ++ (X ++ (M ++ (Y ++ B)))).toArray w)
    (ai bi ni : Int) (ha : ai = (A.length : Nat)) (hb : bi = (A.length + X.length + M.length : Nat)) (hn : ni = (X.length : Nat)) :
    Calls P 229 #[.slice (some ⟨blk, off, none⟩) d0.size cap, .int .i64 ai, .int .i64 bi, .int .i64 ni, .func (.func g) #[] cb] w fun e w' =>
      e = .returned (.tuple #[]) ∧ SWK enc K w0 blk off (A ++ (Y ++ (M ++ (X ++ B)))).toArray w' := by
  subst ha hb hn
  have HS := Lib.hid S
  have HXY := Lib.hid hXY
  have hle : A.length + X.length + M.length + X.length ≤ d0.size := by omega
  have HL := Lib.hid hlen
  clear S hXY hlen
  obtain ⟨a, hA⟩ : ∃ a, a = A.length := ⟨_, rfl⟩
  obtain ⟨n, hN⟩ : ∃ n, n = X.length := ⟨_, rfl⟩
  obtain ⟨b, hB⟩ : ∃ b, b = A.length + X.length + M.length := ⟨_, rfl⟩
  obtain ⟨sz, hSZ⟩ : ∃ s, s = d0.size := ⟨_, rfl⟩
  have HA := Lib.hid hA
  have HN := Lib.hid hN
  have HB := Lib.hid hB
  have HZ := Lib.hid hSZ
  have hab : a + n ≤ b := by omega
  rw [← hB, ← hN, ← hSZ] at hle
  rw [← hSZ] at hsz
  rw [← hB, ← hA, ← hN, ← hSZ]
  clear hA hN hB hSZ
  have mixed := L.mixed; have t0 := L.t0; have a0 := L.a0; have z0 := L.z0; have v0 := L.v0; have t3 := L.t3; have a3 := L.a3; have z3 := L.z3; have v3 := L.v3; have t4 := L.t4; have a4 := L.a4; have z4 := L.z4; have v4 := L.v4; have tU := L.tU; have aU := L.aU; have zU := L.zU; have vU := L.vU; have tS := L.tS; have aS := L.aS; have zS := L.zS; have vS := L.vS; have tF := L.tF; have aF := L.aF; have zF := L.zF; have vF := L.vF; have aE := L.aE; have zE := L.zE
  have FG := L.fSwap
  go_enter FG, Tryz.ntmps229
  go_wp2
  go_loopg [10] n (fun kx s10 wr => ∃ i : Nat, s10 = .int .i64 i ∧ i ≤ n ∧ n - i ≤ kx ∧ Hid (SWK enc K w0 blk off (swR A X M Y B i).toArray wr))
  case atStart => exact ⟨0, rfl, by omega, by omega, by rw [swR_zero]; exact HS⟩
  case round =>
    obtain ⟨i, rfl, hi, hk, S1⟩ := hrel
    by_cases hlt : i < n
    · have hds : (swR A X M Y B i).toArray.size = d0.size := by rw [List.size_toArray, swR_length _ _ _ _ _ _ HXY.out]; exact HL.out
      have S2 := S1.out.swapped R (a + i) (b + i) (by rw [hds, ← HZ.out]; omega) (by rw [hds, ← HZ.out]; omega)
      have l1 := S1.out.ld1 R hds P (a + i) (by rw [hds, ← HZ.out]; omega)
      have l2 := S1.out.ld1 R hds P (b + i) (by rw [hds, ← HZ.out]; omega)
      have s1 := S1.out.st1 R hds P (a + i) (by rw [hds, ← HZ.out]; omega) (swR A X M Y B i).toArray[b + i]!
      have s2 := S1.out.st2 R hds P (a + i) (b + i) (by rw [hds, ← HZ.out]; omega) (by rw [hds, ← HZ.out]; omega) (swR A X M Y B i).toArray[b + i]! (swR A X M Y B i).toArray[a + i]!
      have n1 : (enc (swR A X M Y B i).toArray[a + i]!).length = K := R.hk _
      have n2 : (enc (swR A X M Y B i).toArray[b + i]!).length = K := R.hk _
      have st := swR_step A X M Y B i HXY.out (by rw [← HN.out]; exact hlt)
      rw [← HB.out, ← HA.out] at st
      rw [st] at S2
      generalize enc (swR A X M Y B i).toArray[a + i]! = cI at S2 l1 s2 n1
      generalize enc (swR A X M Y B i).toArray[b + i]! = cJ at S2 l2 s1 s2 n2
      have H2 := Lib.hid S2
      clear S1 S2 st hds
      have b1 : (a : Int) + (i : Int) < (sz : Int) := by omega
      have b2 : (b : Int) + (i : Int) < (sz : Int) := by omega
      have b3 : (0 : Int) ≤ (a : Int) + (i : Int) := by omega
      have b4 : (0 : Int) ≤ (b : Int) + (i : Int) := by omega
      have b5 : ((a : Int) + (i : Int)).toNat = a + i := by omega
      have b6 : ((b : Int) + (i : Int)).toNat = b + i := by omega
      go_wp2_with fail
      have W1 : IntKind.i64.wrap ((a : Int) + (i : Int)) = (a : Int) + (i : Int) := by rw [IntKind.wrap_i64]; omega
      have W2 : IntKind.i64.wrap ((b : Int) + (i : Int)) = (b : Int) + (i : Int) := by rw [IntKind.wrap_i64]; omega
      go_big_region_o
      clear W1 W2 b5 b6 l1 l2 s1 s2
      go_wp2
      go_roundg (n - (i + 1))
      case measure => omega
      case rel => exact ⟨i + 1, by go_num, by omega, Nat.le_refl _, H2⟩
    · obtain rfl : i = n := by omega
      go_wp2
      go_end0
      refine ⟨rfl, ?_⟩
      have := S1.out
      rw [HN.out, swR_all _ _ _ _ _ HXY.out] at this
      exact this
end Go.Proofs.YtphgakobfegpcaaGreatDoor.StabGone
namespace Go.Proofs.YtphgakobfegpcaaGreatDoor.StabGone
open Go.Sort Go.RowKit Go.Lib Go.Proofs Go.Proofs.YtphgakobfegpcaaGreatDoor.Stab
variable {α : Type} [Inhabited α]

set_option maxHeartbeats 600000 in
set_option maxRecDepth 1000000 in
theorem rotate_any {P : Program} {K : Nat} (L : Fits P K) (enc : α → List Value) (g : Nat) (cb : Array Value) (blk off cap : Nat) (d0 : Array α) (w0 w : World) (R : RowK enc K w0 blk off d0) (A U V B : List α) (hU : 0 < U.length) (hV : 0 < V.length)
    (a m b sz : Nat) (hsz0 : sz = d0.size) (ha : a = A.length) (hm : m = A.length + U.length) (hb : b = A.length + U.length + V.length)
    (hlen : A.length + U.length + V.length + B.length = d0.size) (hsz : sz < 4611686018427387904) (S : SWK enc K w0 blk off (A ++ (U ++ (V ++ B))).toArray w) :
    Calls P 202 #[.slice (some ⟨blk, off, none⟩) sz cap, .int .i64 (a : Nat), .int .i64 (m : Nat), .int .i64 (b : Nat), .func (.func g) #[] cb] w fun e w' =>
      e = .returned (.tuple #[]) ∧ SWK enc K w0 blk off (A ++ (V ++ (U ++ B))).toArray w' := by
  have f1 : a < m := by omega
  have f2 : m < b := by omega
  have f3 : b ≤ sz := by omega
  have HS := Lib.hid S
  have HF := Lib.hid (And.intro hsz0 (And.intro ha (And.intro hm (And.intro hb hlen))))
  have HR := Lib.hid R
  clear S R hsz0 ha hm hb hlen
  have mixed := L.mixed; have t0 := L.t0; have a0 := L.a0; have z0 := L.z0; have v0 := L.v0; have t3 := L.t3; have a3 := L.a3; have z3 := L.z3; have v3 := L.v3; have t4 := L.t4; have a4 := L.a4; have z4 := L.z4; have v4 := L.v4; have tU := L.tU; have aU := L.aU; have zU := L.zU; have vU := L.vU; have tS := L.tS; have aS := L.aS; have zS := L.zS; have vS := L.vS; have tF := L.tF; have aF := L.aF; have zF := L.zF; have vF := L.vF; have aE := L.aE; have zE := L.zE
  have eSw : ∀ args w, (callFunc 229 args).run P w = .ok (.enter 229 args) w := enters_of L.fSwap (by kernel_rfl) rfl
  have FG := L.fRot
  go_enter FG, Tryz.ntmps202
  go_wp2
  go_loopg [10, 11] (b - a) (fun kx si sj wr => ∃ (i j : Nat) (A' U' V' B' : List α), si = .int .i64 i ∧ sj = .int .i64 j ∧ 0 < i ∧ 0 < j ∧ i + j ≤ kx ∧ i ≤ m ∧ m + j ≤ b ∧ Hid (i = U'.length ∧ j = V'.length ∧ A'.length + i = m ∧ A'.length + i + j + B'.length = d0.size ∧ A' ++ (V' ++ (U' ++ B')) = A ++ (V ++ (U ++ B)) ∧ SWK enc K w0 blk off (A' ++ (U' ++ (V' ++ B'))).toArray wr))
  case atStart =>
    obtain ⟨q1, q2, q3, q4, q5⟩ := HF.out
    exact ⟨m - a, b - m, A, U, V, B, by congr 1; omega, by congr 1; omega, by omega, by omega, by omega, by omega, by omega, ⟨by omega, by omega, by omega, by omega, rfl, HS.out⟩⟩
  case round =>
    obtain ⟨i, j, A', U', V', B', rfl, rfl, hi, hj, hk, hm, hb, H⟩ := hrel
    by_cases hij : i = j
    · subst hij
      go_wp2_with fail
      obtain ⟨q1, q2, q3, q4, q5⟩ := HF.out
      obtain ⟨h1, h2, h3, h4, h5, h6⟩ := H.out
      have hc := swapRange_any L enc g cb blk off cap d0 w0 wr HR.out A' U' [] V' B' (by omega) (by simp; omega) (by omega) (by simpa using h6) ((m : Int) - (i : Int)) (m : Int) (i : Int) (by omega) (by simp; omega) (by omega)
      rw [← q1] at hc
      refine hc.mono ?_
      rintro e w1 ⟨rfl, S1⟩
      rw [List.nil_append, h5] at S1
      have H1 := Lib.hid S1
      clear S1 hc q1 q2 q3 q4 q5 h1 h2 h3 h4 h5 h6
      go_wp2
      go_end0
      exact ⟨rfl, H1.out⟩
    · by_cases hgt : j < i
      · have hz1 : (j : Int) < (i : Int) := by omega
        have hz2 : ¬ (i : Int) = (j : Int) := by omega
        go_wp2_with fail
        obtain ⟨q1, q2, q3, q4, q5⟩ := HF.out
        obtain ⟨h1, h2, h3, h4, h5, h6⟩ := H.out
        have e1 : U' = U'.take j ++ U'.drop j := (List.take_append_drop _ _).symm
        have n1 : (U'.take j).length = j := by rw [List.length_take]; omega
        have n2 : (U'.drop j).length = i - j := by rw [List.length_drop]; omega
        have hc := swapRange_any L enc g cb blk off cap d0 w0 wr HR.out A' (U'.take j) (U'.drop j) V' B' (by omega) (by omega) (by omega) (by rw [← List.append_assoc (U'.take j), ← e1]; exact h6) ((m : Int) - (i : Int)) (m : Int) (j : Int) (by omega) (by omega) (by omega)
        rw [← q1] at hc
        refine hc.mono ?_
        rintro e w1 ⟨rfl, S1⟩
        have e5 : (A' ++ V') ++ (U'.take j ++ (U'.drop j ++ B')) = A ++ (V ++ (U ++ B)) := by
          rw [← h5, ← List.append_assoc (U'.take j), ← e1, List.append_assoc]
        have H1 : Hid (i - j = (U'.drop j).length ∧ j = (U'.take j).length ∧ (A' ++ V').length + (i - j) = m ∧ (A' ++ V').length + (i - j) + j + B'.length = d0.size ∧ (A' ++ V') ++ (U'.take j ++ (U'.drop j ++ B')) = A ++ (V ++ (U ++ B)) ∧ SWK enc K w0 blk off ((A' ++ V') ++ (U'.drop j ++ (U'.take j ++ B'))).toArray w1) :=
          ⟨n2.symm, n1.symm, by rw [List.length_append]; omega, by rw [List.length_append]; omega, e5, by rw [List.append_assoc]; exact S1⟩
        clear S1 hc q1 q2 q3 q4 q5 h1 h2 h3 h4 h5 h6 e1 n1 n2 e5
        go_wp2
        go_roundg (i - j + j)
        case measure => omega
        case rel => exact ⟨i - j, j, _, _, _, _, by congr 1; omega, rfl, by omega, by omega, Nat.le_refl _, by omega, by omega, H1⟩
      · have hz1 : ¬ (j : Int) < (i : Int) := by omega
        have hz2 : ¬ (i : Int) = (j : Int) := by omega
        go_wp2_with fail
        obtain ⟨q1, q2, q3, q4, q5⟩ := HF.out
        obtain ⟨h1, h2, h3, h4, h5, h6⟩ := H.out
        have e1 : V'.take (j - i) ++ V'.drop (j - i) = V' := List.take_append_drop _ _
        have n1 : (V'.take (j - i)).length = j - i := by rw [List.length_take]; omega
        have n2 : (V'.drop (j - i)).length = i := by rw [List.length_drop]; omega
        have hc := swapRange_any L enc g cb blk off cap d0 w0 wr HR.out A' U' (V'.take (j - i)) (V'.drop (j - i)) B' (by omega) (by omega) (by omega) (by rw [← List.append_assoc (V'.take (j - i)), e1]; exact h6) ((m : Int) - (i : Int)) ((m : Int) + (j : Int) - (i : Int)) (i : Int) (by omega) (by omega) (by omega)
        rw [← q1] at hc
        refine hc.mono ?_
        rintro e w1 ⟨rfl, S1⟩
        have e5 : A' ++ (V'.take (j - i) ++ (V'.drop (j - i) ++ (U' ++ B'))) = A ++ (V ++ (U ++ B)) := by
          rw [← h5, ← List.append_assoc (V'.take (j - i)), e1]
        have H1 : Hid (i = (V'.drop (j - i)).length ∧ j - i = (V'.take (j - i)).length ∧ A'.length + i = m ∧ A'.length + i + (j - i) + (U' ++ B').length = d0.size ∧ A' ++ (V'.take (j - i) ++ (V'.drop (j - i) ++ (U' ++ B'))) = A ++ (V ++ (U ++ B)) ∧ SWK enc K w0 blk off (A' ++ (V'.drop (j - i) ++ (V'.take (j - i) ++ (U' ++ B')))).toArray w1) :=
          ⟨n2.symm, n1.symm, h3, by rw [List.length_append]; omega, e5, S1⟩
        clear S1 hc q1 q2 q3 q4 q5 h1 h2 h3 h4 h5 h6 e1 n1 n2 e5
        go_wp2
        go_roundg (i + (j - i))
        case measure => omega
        case rel => exact ⟨i, j - i, _, _, _, _, rfl, by congr 1; omega, by omega, by omega, Nat.le_refl _, by omega, by omega, H1⟩
end Go.Proofs.YtphgakobfegpcaaGreatDoor.StabGone
namespace Go.Proofs.YtphgakobfegpcaaGreatDoor.StabGone
open Go.Sort Go.RowKit Go.Lib Go.Proofs Go.Proofs.YtphgakobfegpcaaGreatDoor.Stab
variable {α : Type} [Inhabited α]

set_option maxHeartbeats 1000000 in
set_option maxRecDepth 1000000 in
theorem sym_one {P : Program} {K : Nat} (L : Fits P K) (enc : α → List Value) (cf : α → α → Int) (hO : SWO (ltOf cf)) (g : Nat) (cb : Array Value) (eg : ∀ args w, (callFunc g args).run P w = .ok (.enter g args) w) (blk off cap : Nat) (d0 : Array α) (w0 w : World) (R : RowK enc K w0 blk off d0) (hC : CmpLays P g cb enc K cf blk off d0.size w0)
    (A V B : List α) (x : α) (hV : Srt (ltOf cf) V) (a m b sz : Nat) (hsz0 : sz = d0.size) (ha : a = A.length) (hm : m = a + 1) (hb : b = m + V.length) (hV0 : 0 < V.length)
    (hlen : A.length + 1 + V.length + B.length = d0.size) (hsz : sz < 4611686018427387904) (S : SWK enc K w0 blk off (A ++ ([x] ++ (V ++ B))).toArray w) :
    Calls P 167 #[.slice (some ⟨blk, off, none⟩) sz cap, .int .i64 (a : Nat), .int .i64 (m : Nat), .int .i64 (b : Nat), .func (.func g) #[] cb] w fun e w' =>
      e = .returned (.tuple #[]) ∧ SWK enc K w0 blk off (A ++ (mrg (ltOf cf) [x] V ++ B)).toArray w' := by
  have f1 : a < m := by omega
  have f2 : m < b := by omega
  have f3 : b ≤ sz := by omega
  have f4 : (m : Int) - (a : Int) = 1 := by omega
  have HS := Lib.hid S
  have HF := Lib.hid (And.intro hsz0 (And.intro ha (And.intro hm (And.intro hb hlen))))
  have HR := Lib.hid R
  have HC := Lib.hid hC
  have HO := Lib.hid hO
  have HV := Lib.hid hV
  have F4 := Lib.hid f4
  obtain ⟨d, hd⟩ : ∃ d, d = (A ++ ([x] ++ (V ++ B))).toArray := ⟨_, rfl⟩
  have HD := Lib.hid hd
  have hds : d.size = d0.size := by rw [hd]; simp; omega
  have HDS := Lib.hid hds
  have HX := Lib.hid (show d[a]! = x by rw [hd]; exact get_in A [x] (V ++ B) 0 a (by simp) (by omega))
  have HVG := Lib.hid (show ∀ t (h : t < V.length), d[m + t]! = V[t] from fun t h => by
    rw [hd, show A ++ ([x] ++ (V ++ B)) = (A ++ [x]) ++ (V ++ B) by simp]; exact get_in (A ++ [x]) V B t (m + t) h (by simp; omega))
  rw [← hd] at HS
  clear S R hC hO hV hsz0 ha hm hb hlen hd hds f4
  have mixed := L.mixed; have t0 := L.t0; have a0 := L.a0; have z0 := L.z0; have v0 := L.v0; have t3 := L.t3; have a3 := L.a3; have z3 := L.z3; have v3 := L.v3; have t4 := L.t4; have a4 := L.a4; have z4 := L.z4; have v4 := L.v4; have tU := L.tU; have aU := L.aU; have zU := L.zU; have vU := L.vU; have tS := L.tS; have aS := L.aS; have zS := L.zS; have vS := L.vS; have tF := L.tF; have aF := L.aF; have zF := L.zF; have vF := L.vF; have aE := L.aE; have zE := L.zE
  have FG := L.fSym
  go_enter FG, Tryz.ntmps167
  have hmi : ((m : Int) - (a : Int) == 1) = true := by have := F4.out; simp; omega
  have hmi' : (m : Int) - (a : Int) = 1 := F4.out
  go_wp2
  clear hmi hmi'
  go_loopg [10, 11] (b - m) (fun kx si sj wr => ∃ (i j : Nat), si = .int .i64 i ∧ sj = .int .i64 j ∧ m ≤ i ∧ i ≤ j ∧ j ≤ b ∧ j - i ≤ kx ∧ Hid ((i = m ∨ ∃ h : i - m - 1 < V.length, ltOf cf V[i - m - 1] x = true) ∧ (j = b ∨ ∃ h : j - m < V.length, ltOf cf V[j - m] x = false)) ∧ Hid (SWK enc K w0 blk off d wr))
  case atStart => exact ⟨m, b, rfl, rfl, Nat.le_refl _, by omega, Nat.le_refl _, Nat.le_refl _, ⟨.inl rfl, .inl rfl⟩, HS⟩
  case round =>
    obtain ⟨i, j, rfl, rfl, hi, hij, hj, hk, HI, S1⟩ := hrel
    by_cases hlt : i < j
    · obtain ⟨h, hh⟩ : ∃ h, h = (i + j) / 2 := ⟨_, rfl⟩
      have hh2 : ((i : Int) + (j : Int)) / 2 = (h : Int) := by omega
      have h1 : m ≤ h := by omega
      have h2 : h < j := by omega
      have ht : h - m < V.length := by have := HF.out; omega
      have hdy : d[h]! = V[h - m] := by have := HVG.out (h - m) ht; rw [show m + (h - m) = h by omega] at this; exact this
      obtain ⟨y, hy⟩ : ∃ y, y = V[h - m] := ⟨_, rfl⟩
      have HY := Lib.hid hy
      rw [← hy] at hdy
      have hsz1 : d.size = d0.size := HDS.out
      have hszd : d.size = sz := by rw [HDS.out]; exact HF.out.1.symm
      have lj : ∀ n os, Sem.run P (loadCellsFrom ⟨blk, off + h * K, none⟩ 0 K #[]) (grow (wr.drewN n) os) = .ok (enc y).toArray (grow (wr.drewN n) os) := fun n os => by
        rw [← hdy]; exact S1.out.ld HR.out hsz1 P h (by omega) n os
      have lp : ∀ n os, Sem.run P (loadCellsFrom ⟨blk, off + a * K, none⟩ 0 K #[]) (grow (wr.drewN n) os) = .ok (enc x).toArray (grow (wr.drewN n) os) := fun n os => by
        rw [← HX.out]; exact S1.out.ld HR.out hsz1 P a (by omega) n os
      have hcg : ∀ n os, Calls P g (#[.agg (enc y).toArray, .agg (enc x).toArray] ++ cb) (grow (wr.drewN n) os) fun e w' => e = .returned (.int .i64 (cf y x)) ∧ ∃ q os', w' = grow ((grow (wr.drewN n) os).drewN q) os' := fun n os => S1.out.cmp HC.out hsz1 y x n os
      have b1 : (h : Int) < (sz : Int) := by omega
      have b2 : (a : Int) < (sz : Int) := by omega
      have b3 : (i : Int) < (j : Int) := by omega
      have HH := Lib.hid hh
      clear hdy hsz1 hszd hy hh
      by_cases hlv : cf y x < 0
      · go_wp2_with fail
        go_quiet_grown (first | (go_at_fn g; refine Calls.grown_of (hcg _ _)))
        have S2 := Lib.hid (S1.out.grown nq osq)
        clear lj lp hcg b1 b2
        go_wp2
        go_roundg (j - (h + 1))
        case measure => omega
        case rel =>
          refine ⟨h + 1, j, by go_num, rfl, by omega, by omega, hj, Nat.le_refl _, ⟨.inr ?_, HI.out.2⟩, S2⟩
          have e1 : h + 1 - m - 1 = h - m := by omega
          refine ⟨by omega, ?_⟩
          have e2 : V[h + 1 - m - 1]'(by omega) = y := by rw [HY.out]; congr 1
          rw [e2]; exact decide_eq_true hlv
      · go_wp2_with fail
        go_quiet_grown (first | (go_at_fn g; refine Calls.grown_of (hcg _ _)))
        have S2 := Lib.hid (S1.out.grown nq osq)
        clear lj lp hcg b1 b2
        go_wp2
        go_roundg (h - i)
        case measure => omega
        case rel =>
          refine ⟨i, h, rfl, rfl, hi, by omega, by omega, Nat.le_refl _, ⟨HI.out.1, .inr ⟨ht, ?_⟩⟩, S2⟩
          rw [← HY.out]; exact decide_eq_false (by omega)
    · obtain rfl : i = j := by omega
      obtain ⟨q1, q2, q3, q4, q5⟩ := HF.out
      have hst : i - m ≤ V.length := by omega
      have hI := HI.out
      have hm1 := ins_left HO.out x V (i - m) HV.out hst (by
        rcases hI.1 with h | ⟨h, h'⟩
        · exact .inl (by omega)
        · exact .inr ⟨h, h'⟩) (by
        rcases hI.2 with h | ⟨h, h'⟩
        · exact .inl (by omega)
        · exact .inr ⟨h, h'⟩)
      obtain ⟨s, hs⟩ : ∃ s, s = i - m := ⟨_, rfl⟩
      rw [← hs] at hm1 hst
      have HM := Lib.hid hm1
      have e0 : A ++ ([x] ++ (V ++ B)) = shR A x (V.take s) (V.drop s ++ B) 0 := by
        rw [shR_zero, ← List.append_assoc (V.take s), List.take_append_drop]; rfl
      have S2 : Hid (SWK enc K w0 blk off (shR A x (V.take s) (V.drop s ++ B) 0).toArray wr) := by
        rw [← e0, ← HD.out]; exact S1
      have hsl : (V.take s).length = s := by rw [List.length_take]; omega
      have HSL := Lib.hid hsl
      have hszt : ∀ t, (shR A x (V.take s) (V.drop s ++ B) t).toArray.size = d0.size := fun t => by
        rw [List.size_toArray, shR_length, List.length_append, List.length_drop, HSL.out]; omega
      have HST := Lib.hid hszt
      have his : (i : Int) = (m : Int) + (s : Int) := by omega
      have hms : (m : Int) = (a : Int) + 1 := by omega
      have hib : (a : Int) + (s : Int) + 1 ≤ (b : Int) := by omega
      have HMS := Lib.hid hms
      have HIS := Lib.hid his
      clear hI HI S1 hm1 e0 hs hst hsl hszt q1 q2 q3 q4 q5 his hms HX HVG HV HO
      go_wp2
      go_loopg [13] s (fun kx sk wr2 => ∃ t k : Nat, sk = .int .i64 (k : Nat) ∧ a + t ≤ k ∧ k ≤ a + t ∧ t ≤ s ∧ s - t ≤ kx ∧ Hid (SWK enc K w0 blk off (shR A x (V.take s) (V.drop s ++ B) t).toArray wr2))
      case atStart => exact ⟨0, a, rfl, by omega, by omega, by omega, by omega, S2⟩
      case round =>
        obtain ⟨t, k, rfl, hka, hkb, ht, hkx, S3⟩ := hrel
        by_cases htl : t < s
        · have hc1 : (k : Int) < (i : Int) - 1 := by have := HIS.out; have := HMS.out; omega
          have hds := HST.out t
          have hsz1 : d0.size = sz := HF.out.1.symm
          have hka' : A.length = a := HF.out.2.1.symm
          have S4 := S3.out.swapped HR.out k (k + 1) (by omega) (by omega)
          have l1 := S3.out.ld1 HR.out hds P k (by omega)
          have l2 := S3.out.ld1 HR.out hds P (k + 1) (by omega)
          have s1 := S3.out.st1 HR.out hds P k (by omega) (shR A x (V.take s) (V.drop s ++ B) t).toArray[k + 1]!
          have s2 := S3.out.st2 HR.out hds P k (k + 1) (by omega) (by omega) (shR A x (V.take s) (V.drop s ++ B) t).toArray[k + 1]! (shR A x (V.take s) (V.drop s ++ B) t).toArray[k]!
          have n1 : (enc (shR A x (V.take s) (V.drop s ++ B) t).toArray[k]!).length = K := HR.out.hk _
          have n2 : (enc (shR A x (V.take s) (V.drop s ++ B) t).toArray[k + 1]!).length = K := HR.out.hk _
          have st := shR_step A x (V.take s) (V.drop s ++ B) t (by rw [HSL.out]; exact htl)
          rw [show A.length + t = k by omega] at st
          rw [st] at S4
          generalize enc (shR A x (V.take s) (V.drop s ++ B) t).toArray[k]! = cI at S4 l1 s2 n1
          generalize enc (shR A x (V.take s) (V.drop s ++ B) t).toArray[k + 1]! = cJ at S4 l2 s1 s2 n2
          have H4 := Lib.hid S4
          clear S3 S4 st hds hsz1 hka'
          have b1 : (k : Int) < (sz : Int) := by omega
          have b2 : (k : Int) + 1 < (sz : Int) := by omega
          have b3 : (0 : Int) ≤ (k : Int) := by omega
          have b4 : (0 : Int) ≤ (k : Int) + 1 := by omega
          have b6 : ((k : Int) + 1).toNat = k + 1 := by omega
          go_wp2_with fail
          have W1 : IntKind.i64.wrap ((k : Int)) = (k : Int) := by rw [IntKind.wrap_i64]; omega
          have W2 : IntKind.i64.wrap ((k : Int) + 1) = (k : Int) + 1 := by rw [IntKind.wrap_i64]; omega
          go_big_region_o
          clear W1 W2 b6 l1 l2 s1 s2
          go_wp2
          go_roundg (s - (t + 1))
          case measure => omega
          case rel => exact ⟨t + 1, k + 1, by go_num, by omega, by omega, by omega, Nat.le_refl _, H4⟩
        · have hc1 : ¬ (k : Int) < (i : Int) - 1 := by have := HIS.out; have := HMS.out; omega
          go_wp2
          (try simp only [Exit.inBlock, Exit.then]); refine bodyPost_ret (results_none rfl _ _ _) rfl ?_
          refine ⟨rfl, ?_⟩
          have h9 := S3.out
          have e9 := shR_all A x (V.take s) (V.drop s ++ B)
          rw [HSL.out] at e9
          rw [show t = s by omega, e9] at h9
          rw [HM.out, List.append_assoc]
          exact h9
end Go.Proofs.YtphgakobfegpcaaGreatDoor.StabGone
