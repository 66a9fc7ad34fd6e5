/- slices.SortStableFunc at tithebarn/count.gone: walked whole. Counts: goods sorted by what went. -/
import Derived.Deep.RegionHeld3
import Derived.Test.YtphgakobfegpcaaGreatDoorM07
import Derived.Test.YtphgakobfegpcaaGreatDoorLCountClasses01
import Derived.Test.YtphgakobfegpcaaGreatDoorLCountClasses03
namespace Go.Proofs.YtphgakobfegpcaaGreatDoor.StabGone
open Go.Sort Go.RowKit Go.Lib Go.Proofs Go.Proofs.YtphgakobfegpcaaGreatDoor.Stab
variable {α : Type} [Inhabited α]

theorem sym_any {P : Program} {K : Nat} (L : Fits P K) (enc : α → List Value) (cf : α → α → Int) (hO : SWO (ltOf cf)) (g : Nat) (cb : Array Value) (eg : ∀ args w, (callFunc g args).run P w = .ok (.enter g args) w) (blk off cap sz : Nat) (d0 : Array α) (w0 : World) (R : RowK enc K w0 blk off d0) (hC : CmpLays P g cb enc K cf blk off d0.size w0)
    (hsz0 : sz = d0.size) (hsz : sz < 4611686018427387904) : ∀ N, SymIH P K enc cf g cb blk off cap sz w0 N
  | 0 => fun A U V B a m b w h1 h2 h3 => by omega
  | N + 1 => fun A U V B a m b w h1 h2 h3 ha hm hb hlen hU hV S => by
    by_cases hu : U.length = 1
    · obtain ⟨x, rfl⟩ := List.length_eq_one_iff.1 hu
      exact sym_one L enc cf hO g cb eg blk off cap d0 w0 w R hC A V B x hV a m b sz hsz0 ha (by simpa using hm) hb h3 (by omega) hsz S
    · by_cases hv : V.length = 1
      · obtain ⟨x, rfl⟩ := List.length_eq_one_iff.1 hv
        exact sym_last L enc cf hO g cb eg blk off cap d0 w0 w R hC A U B x hU a m b sz hsz0 ha hm (by simpa using hb) (by omega) (by omega) hsz S
      · exact sym_gen L enc cf hO g cb eg blk off cap d0 w0 w R hC A U V B hU hV a m b sz N hsz0 ha hm hb (by omega) (by omega) (by omega) hlen hsz S (sym_any L enc cf hO g cb eg blk off cap sz d0 w0 R hC hsz0 hsz N)

/-- The insertion sort of a part. -/
theorem ins_any (enc : α → List Value) (cf : α → α → Int) (hO : SWO (ltOf cf)) (g : Nat) (cb : Array Value) (eg : ∀ args w, (callFunc g args).run Tryz.prog w = .ok (.enter g args) w) (blk off cap sz : Nat) (d0 : Array α) (w0 w : World) (R : RowK enc 2 w0 blk off d0) (hC : CmpLays Tryz.prog g cb enc 2 cf blk off d0.size w0)
    (hsz0 : sz = d0.size) (hsz : sz < 4611686018427387904) (A M B : List α) (a b : Nat) (ha : a = A.length) (hb : b = a + M.length) (hlen : b + B.length = sz) (S : SWK enc 2 w0 blk off (A ++ (M ++ B)).toArray w) :
    Calls Tryz.prog 166 #[.slice (some ⟨blk, off, none⟩) sz cap, .int .i64 (a : Nat), .int .i64 (b : Nat), .func (.func g) #[] cb] w fun e w' =>
      e = .returned (.tuple #[]) ∧ SWK enc 2 w0 blk off (A ++ (srt (ltOf cf) M ++ B)).toArray w' := by
  have hds : (A ++ (M ++ B)).toArray.size = d0.size := by simp; omega
  have hds' : (A ++ (M ++ B)).toArray.size = sz := by rw [hds, hsz0]
  have h := AnyQ.insertionSortCmpFunc (P := Tryz.prog) Tryz.insGone 2 Tryz.isAgg141 Tryz.sizeOf141 enc R.hk R.h1 cf g cb blk off cap a b (A ++ (M ++ B)).toArray w eg ?_ (S.holds R.hblk R.hH hds) (S.lt R.hblk) (by omega) (by rw [hds']; omega) (by rw [hds']; exact hsz)
  · rw [hds'] at h
    refine (show Calls Tryz.prog 166 _ _ _ from h).mono ?_
    rintro e w' ⟨he, n, os, rfl⟩
    refine ⟨he, ?_⟩
    have e9 := insertionSort_list hO A M B
    rw [← ha, ← hb] at e9
    rw [e9]
    refine S.on R.hblk n _ os ?_
    simp [srt_length]
  · intro n os dk hs x y
    obtain ⟨m0, os0, rfl⟩ := S
    have hh := SWK.on (w0 := w0) (enc := enc) (k := 2) (blk := blk) (off := off) ⟨m0, os0, rfl⟩ R.hblk n dk os hs
    obtain ⟨m1, os1, e1⟩ := hh
    rw [e1]
    exact hC m1 os1 dk (hs.trans hds) x y

set_option maxHeartbeats 1000000 in
set_option maxRecDepth 1000000 in
theorem stable_any (enc : α → List Value) (cf : α → α → Int) (hO : SWO (ltOf cf)) (g : Nat) (cb : Array Value) (eg : ∀ args w, (callFunc g args).run Tryz.prog w = .ok (.enter g args) w) (blk off cap sz : Nat) (d0 : Array α) (w0 w : World) (R : RowK enc 2 w0 blk off d0) (hC : CmpLays Tryz.prog g cb enc 2 cf blk off d0.size w0)
    (hsz0 : sz = d0.size) (hsz : sz ≤ 1000000000000) (l : List α) (hl : l.length = sz) (S : SWK enc 2 w0 blk off l.toArray w) :
    Calls Tryz.prog 118 #[.slice (some ⟨blk, off, none⟩) sz cap, .int .i64 (sz : Nat), .func (.func g) #[] cb] w fun e w' =>
      e = .returned (.tuple #[]) ∧ SWK enc 2 w0 blk off (srt (ltOf cf) l).toArray w' := by
  have hINS : ∀ (A M B : List α) (a b : Nat) (w : World), a = A.length → b = a + M.length → b + B.length = sz → SWK enc 2 w0 blk off (A ++ (M ++ B)).toArray w →
      Calls Tryz.prog 166 #[.slice (some ⟨blk, off, none⟩) sz cap, .int .i64 (a : Nat), .int .i64 (b : Nat), .func (.func g) #[] cb] w fun e w' => e = .returned (.tuple #[]) ∧ SWK enc 2 w0 blk off (A ++ (srt (ltOf cf) M ++ B)).toArray w' :=
    fun A M B a b w h1 h2 h3 h4 => ins_any enc cf hO g cb eg blk off cap sz d0 w0 w R hC hsz0 (by omega) A M B a b h1 h2 h3 h4
  have INS := Lib.hid hINS
  have SYM := Lib.hid (sym_any (fits) enc cf hO g cb eg blk off cap sz d0 w0 R hC hsz0 (by omega) sz)
  have HO := Lib.hid hO
  have HL := Lib.hid hl
  have HS := Lib.hid S
  clear hINS R hC hO hl S hsz0 eg
  go_enter Tryz.func118, Tryz.ntmps118
  go_wp2
  go_loopg [7, 8] sz (fun kx sa sb wr => ∃ (a b : Nat) (Q T : List α), sa = .int .i64 a ∧ sb = .int .i64 b ∧ a + 20 ≤ b ∧ b ≤ a + 20 ∧ a ≤ sz ∧ sz - a ≤ kx ∧ Hid (a = Q.length ∧ a + T.length = sz ∧ blks (ltOf cf) 20 l = Q ++ blks (ltOf cf) 20 T ∧ SWK enc 2 w0 blk off (Q ++ T).toArray wr))
  case atStart => exact ⟨0, 20, [], l, rfl, rfl, by omega, by omega, by omega, by omega, ⟨rfl, by rw [HL.out]; omega, rfl, HS.out⟩⟩
  case round =>
    obtain ⟨a, b, Q, T, rfl, rfl, hab, hba, ha, hk, H⟩ := hrel
    by_cases hlt : b ≤ sz
    · have hz : (b : Int) ≤ (sz : Int) := by omega
      go_wp2_with fail
      obtain ⟨h1, h2, h3, h4⟩ := H.out
      have eT : T = T.take 20 ++ T.drop 20 := (List.take_append_drop _ _).symm
      have n1 : (T.take 20).length = 20 := by rw [List.length_take]; omega
      have n2 : (T.drop 20).length = T.length - 20 := by rw [List.length_drop]
      refine (INS.out Q (T.take 20) (T.drop 20) a b wr h1 (by omega) (by omega) (by rw [← eT]; exact h4)).mono ?_
      rintro e w1 ⟨rfl, S1⟩
      have e5 : blks (ltOf cf) 20 l = (Q ++ srt (ltOf cf) (T.take 20)) ++ blks (ltOf cf) 20 (T.drop 20) := by
        have := blks_full (lt := ltOf cf) 20 (by omega) (T.take 20) (T.drop 20) n1
        rw [← eT] at this
        rw [h3, this, List.append_assoc]
      have H1 : Hid (b = (Q ++ srt (ltOf cf) (T.take 20)).length ∧ b + (T.drop 20).length = sz ∧ blks (ltOf cf) 20 l = (Q ++ srt (ltOf cf) (T.take 20)) ++ blks (ltOf cf) 20 (T.drop 20) ∧ SWK enc 2 w0 blk off ((Q ++ srt (ltOf cf) (T.take 20)) ++ T.drop 20).toArray w1) :=
        ⟨by rw [List.length_append, srt_length]; omega, by omega, e5, by rw [List.append_assoc]; exact S1⟩
      clear h1 h2 h3 h4 eT n1 n2 S1 e5
      go_wp2
      go_roundg (sz - b)
      case measure => omega
      case rel => exact ⟨b, b + 20, _, _, rfl, by go_num, by omega, by omega, by omega, by omega, H1⟩
    · have hz : ¬ (b : Int) ≤ (sz : Int) := by omega
      go_wp2_with fail
      obtain ⟨h1, h2, h3, h4⟩ := H.out
      have hI := INS.out Q T [] a sz wr h1 (by omega) (by simp) (by rw [List.append_nil]; exact h4)
      refine hI.mono ?_
      rintro e w1 ⟨rfl, S1⟩
      have S2 : Hid (SWK enc 2 w0 blk off (blks (ltOf cf) 20 l).toArray w1) := by
        rw [h3, blks_small 20 T (by omega)]
        rw [List.append_nil] at S1
        exact S1
      clear h1 h2 h3 h4 hI S1 H
      go_wp2_with fail
      go_loopg [6, 7, 8, 9] sz (fun kx s6 s7 s8 s9 wr2 => ∃ bs : Nat, s6 = .int .i64 bs ∧ 20 ≤ bs ∧ bs ≤ 2 * sz + 20 ∧ sz - bs ≤ kx ∧ Hid (SWK enc 2 w0 blk off (blks (ltOf cf) bs l).toArray wr2))
      case atStart => exact ⟨20, rfl, by omega, by omega, by omega, S2⟩
      case round =>
        obtain ⟨bs, rfl, hb1, hb2, hkx, S3⟩ := hrel
        by_cases hlt : bs < sz
        · have hz2 : (bs : Int) < (sz : Int) := by omega
          obtain ⟨wo, hwo⟩ : ∃ wo : World, wo = wr := ⟨_, rfl⟩
          subst hwo
          go_wp2_with fail
          go_loopg [7, 8] sz (fun ky sa sb wr3 => ∃ (a b : Nat) (Q T : List α), sa = .int .i64 a ∧ sb = .int .i64 b ∧ a + 2 * bs ≤ b ∧ b ≤ a + 2 * bs ∧ a ≤ sz ∧ sz - a ≤ ky ∧ Hid (a = Q.length ∧ a + T.length = sz ∧ blks (ltOf cf) (2 * bs) l = Q ++ blks (ltOf cf) (2 * bs) T ∧ SWK enc 2 w0 blk off (Q ++ blks (ltOf cf) bs T).toArray wr3))
          case atStart => exact ⟨0, 2 * bs, [], l, rfl, by congr 1, by omega, by omega, by omega, by omega, ⟨rfl, by rw [HL.out]; omega, rfl, S3.out⟩⟩
          case round =>
            obtain ⟨a, b, Q, T, rfl, rfl, hab, hba, ha, hk, H⟩ := hrel
            by_cases hle : b ≤ sz
            · have hz3 : (b : Int) ≤ (sz : Int) := by omega
              go_wp2_with fail
              obtain ⟨h1, h2, h3, h4⟩ := H.out
              have eT : T.take (2 * bs) ++ T.drop (2 * bs) = T := List.take_append_drop _ _
              have n0 : (T.take (2 * bs)).length = 2 * bs := by rw [List.length_take]; omega
              obtain ⟨M1, hM1⟩ : ∃ M, M = (T.take (2 * bs)).take bs := ⟨_, rfl⟩
              obtain ⟨M2, hM2⟩ : ∃ M, M = (T.take (2 * bs)).drop bs := ⟨_, rfl⟩
              have n1 : M1.length = bs := by rw [hM1, List.length_take]; omega
              have n2 : M2.length = bs := by rw [hM2, List.length_drop]; omega
              have eM : M1 ++ M2 = T.take (2 * bs) := by rw [hM1, hM2]; exact List.take_append_drop _ _
              obtain ⟨T', hT'⟩ : ∃ M, M = T.drop (2 * bs) := ⟨_, rfl⟩
              have n3 : T'.length = T.length - 2 * bs := by rw [hT', List.length_drop]
              rw [← eM, ← hT'] at eT
              have b1 : blks (ltOf cf) bs T = srt (ltOf cf) M1 ++ (srt (ltOf cf) M2 ++ blks (ltOf cf) bs T') := by
                rw [← eT, List.append_assoc, blks_full bs (by omega) _ _ n1, blks_full bs (by omega) _ _ n2]
              have b2 : blks (ltOf cf) (2 * bs) T = mrg (ltOf cf) (srt (ltOf cf) M1) (srt (ltOf cf) M2) ++ blks (ltOf cf) (2 * bs) T' := by
                rw [← eT, blks_full (2 * bs) (by omega) _ _ (by rw [List.length_append]; omega), srt_append HO.out]
              rw [show ((a : Int) + (bs : Int)) = ((a + bs : Nat) : Int) by omega]
              refine (SYM.out Q (srt (ltOf cf) M1) (srt (ltOf cf) M2) (blks (ltOf cf) bs T') a (a + bs) b wr (by rw [srt_length, srt_length]; omega) (by rw [srt_length]; omega) (by rw [srt_length]; omega) h1 (by rw [srt_length]; omega) (by rw [srt_length]; omega) (by rw [blks_length bs (by omega)]; omega) (srt_sorted HO.out _) (srt_sorted HO.out _) (by rw [← b1]; exact h4)).mono ?_
              rintro e w4 ⟨rfl, S4⟩
              have H1 : Hid (b = (Q ++ mrg (ltOf cf) (srt (ltOf cf) M1) (srt (ltOf cf) M2)).length ∧ b + T'.length = sz ∧ blks (ltOf cf) (2 * bs) l = (Q ++ mrg (ltOf cf) (srt (ltOf cf) M1) (srt (ltOf cf) M2)) ++ blks (ltOf cf) (2 * bs) T' ∧ SWK enc 2 w0 blk off ((Q ++ mrg (ltOf cf) (srt (ltOf cf) M1) (srt (ltOf cf) M2)) ++ blks (ltOf cf) bs T').toArray w4) :=
                ⟨by rw [List.length_append, mrg_length, srt_length, srt_length]; omega, by omega, by rw [h3, b2, List.append_assoc], by rw [List.append_assoc]; exact S4⟩
              clear h1 h2 h3 h4 eT n0 n1 n2 n3 eM hM1 hM2 hT' b1 b2 S4 H
              go_wp2
              go_roundg (sz - b)
              case measure => omega
              case rel => exact ⟨b, b + 2 * bs, _, _, rfl, by congr 1, by omega, by omega, by omega, by omega, H1⟩
            · have hz3 : ¬ (b : Int) ≤ (sz : Int) := by omega
              obtain ⟨h1, h2, h3, h4⟩ := H.out
              by_cases hm : a + bs < sz
              · have hz4 : (a : Int) + (bs : Int) < (sz : Int) := by omega
                obtain ⟨M1, hM1⟩ : ∃ M, M = T.take bs := ⟨_, rfl⟩
                obtain ⟨M2, hM2⟩ : ∃ M, M = T.drop bs := ⟨_, rfl⟩
                have n1 : M1.length = bs := by rw [hM1, List.length_take]; omega
                have n2 : M2.length = T.length - bs := by rw [hM2, List.length_drop]
                have eM : M1 ++ M2 = T := by rw [hM1, hM2]; exact List.take_append_drop _ _
                have b1 : blks (ltOf cf) bs T = srt (ltOf cf) M1 ++ srt (ltOf cf) M2 := by
                  rw [← eM, blks_full bs (by omega) _ _ n1, blks_small bs M2 (by omega)]
                have b2 : blks (ltOf cf) (2 * bs) T = mrg (ltOf cf) (srt (ltOf cf) M1) (srt (ltOf cf) M2) := by
                  rw [blks_small (2 * bs) T (by omega), ← eM, srt_append HO.out]
                have hS := SYM.out Q (srt (ltOf cf) M1) (srt (ltOf cf) M2) [] a (a + bs) sz wr (by rw [srt_length, srt_length]; omega) (by rw [srt_length]; omega) (by rw [srt_length]; omega) h1 (by rw [srt_length]; omega) (by rw [srt_length]; omega) (by simp) (srt_sorted HO.out _) (srt_sorted HO.out _) (by rw [List.append_nil, ← b1]; exact h4)
                have B2 := Lib.hid (show blks (ltOf cf) (2 * bs) l = Q ++ (mrg (ltOf cf) (srt (ltOf cf) M1) (srt (ltOf cf) M2) ++ []) by rw [List.append_nil, h3, b2])
                have HSY := Lib.hid hS
                clear h1 h2 h3 h4 n1 n2 eM hM1 hM2 b1 b2 hS H
                go_wp2_with fail
                rw [show ((a : Int) + (bs : Int)) = ((a + bs : Nat) : Int) by omega]
                refine HSY.out.mono ?_
                rintro e w4 ⟨rfl, S4⟩
                rw [← B2.out] at S4
                have H4 := Lib.hid S4
                clear S4 HSY
                go_wp2
                go_roundg (sz - 2 * bs)
                case measure => omega
                case rel => exact ⟨2 * bs, by congr 1; omega, by omega, by omega, Nat.le_refl _, H4⟩
              · have hz4 : ¬ (a : Int) + (bs : Int) < (sz : Int) := by omega
                have H4 : Hid (SWK enc 2 w0 blk off (blks (ltOf cf) (2 * bs) l).toArray wr) := by
                  rw [h3, blks_small (2 * bs) T (by omega)]
                  rw [blks_small bs T (by omega)] at h4
                  exact h4
                clear h1 h2 h3 h4 H
                go_wp2
                go_roundg (sz - 2 * bs)
                case measure => omega
                case rel => exact ⟨2 * bs, by congr 1; omega, by omega, by omega, Nat.le_refl _, H4⟩
        · have hz2 : ¬ (bs : Int) < (sz : Int) := by omega
          go_wp2_with fail
          go_end0
          refine ⟨rfl, ?_⟩
          have := S3.out
          rw [blks_small bs l (by rw [HL.out]; omega)] at this
          exact this
end Go.Proofs.YtphgakobfegpcaaGreatDoor.StabGone
namespace Go.Proofs.YtphgakobfegpcaaGreatDoor
open Go.RowKit Go.Sort Go.Proofs

theorem goneInfo : (Tryz.prog.info? 141).map (fun i => (i.zero, i.size, i.bytes)) = some (some (.agg #[.int .i64 0, .int .i64 0]), 2, 16) := by kernel_rfl
theorem encGone_len (x : GoneV) : (encGone x).length = 2 := rfl
theorem encGone_one (x : GoneV) : ∀ v ∈ encGone x, v.oneCell' = true := fun v hv => by
  simp [encGone] at hv
  rcases hv with rfl | rfl <;> rfl
theorem egGone : ∀ args w, (callFunc 67 args).run Tryz.prog w = .ok (.enter 67 args) w := enters_of Tryz.func67 (by kernel_rfl) rfl

set_option maxHeartbeats 800000 in
theorem cmpGone_any (x y : GoneV) (W : World) : Calls Tryz.prog 67 #[.agg (encGone x).toArray, .agg (encGone y).toArray] W fun e w' => e = .returned (.int .i64 (cfGone x y)) ∧ ∃ q os', w' = grow (W.drewN q) os' := by
  obtain ⟨a1, a2⟩ := x
  obtain ⟨b1, b2⟩ := y
  simp only [encGone, cfGone]
  go_enter Tryz.func67, Tryz.ntmps67
  go_wp2_with fail
  refine (Tryz.cmp_Compare_int _ _ _).mono ?_
  rintro e w' ⟨rfl, rfl⟩
  go_wp2_with fail
  go_ret
  refine ⟨rfl, 0, #[.cells #[.int .i64 (a1 : Nat), .int .i64 a2] 141, .cells #[.int .i64 (b1 : Nat), .int .i64 b2] 141], ?_⟩
  rw [alloc_eq_grow, alloc_eq_grow, grow_grow]; rfl
theorem cmpLaysGone (blk off size : Nat) (w : World) : CmpLays Tryz.prog 67 #[] encGone 2 cfGone blk off size w := fun _ _ _ _ x y => cmpGone_any x y _

set_option maxHeartbeats 400000 in
theorem sortGone_any (g cap : Nat) (xs : List GoneV) (w : World) (hn : xs.length ≤ 1000000) (hg : g < w.heap.size) (hH : HoldsK encGone 2 w g 0 xs.toArray) :
    Calls Tryz.prog 66 #[.slice (some ⟨g, 0, none⟩) xs.length cap, .func (.func 67) #[] #[]] w fun e w' =>
      e = .returned (.tuple #[]) ∧ SWK encGone 2 w g 0 (Stab.srt (ltOf cfGone) xs).toArray w' := by
  have R : RowK encGone 2 w g 0 xs.toArray := ⟨encGone_len, encGone_one, hH, hg⟩
  have hc := StabGone.stable_any encGone cfGone swoGone 67 #[] egGone g 0 cap xs.length xs.toArray w w R (cmpLaysGone g 0 _ w) (by simp) (by omega) xs rfl (SWK.start hH)
  have HC := Lib.hid hc
  generalize xs.length = n at HC
  clear hc R hH
  go_enter Tryz.func66, Tryz.ntmps66
  go_wp2_with fail
  refine HC.out.mono ?_
  rintro e w1 ⟨rfl, S1⟩
  have H1 := Lib.hid S1
  clear S1 HC
  go_wp2
  go_end0
  exact ⟨rfl, H1.out⟩
set_option maxHeartbeats 400000 in
theorem insGone_none (w : World) : Calls Tryz.prog 166 #[.slice none 0 0, .int .i64 0, .int .i64 0, .func (.func 67) #[] #[]] w fun e w' => e = .returned (.tuple #[]) ∧ w = w' := by
  go_enter Tryz.func166, Tryz.ntmps166
  go_wp2
  refine wp_loop_rounds 1 ?_
  rw [rounds_succ]
  go_wp2
  go_end0
  exact ⟨rfl, rfl⟩
set_option maxHeartbeats 400000 in
theorem stabGone_none (w : World) : Calls Tryz.prog 118 #[.slice none 0 0, .int .i64 0, .func (.func 67) #[] #[]] w fun e w' => e = .returned (.tuple #[]) ∧ w = w' := by
  go_enter Tryz.func118, Tryz.ntmps118
  go_wp2
  refine wp_loop_rounds 1 ?_
  rw [rounds_succ]
  go_wp2_with fail
  refine (insGone_none w).mono ?_
  rintro e w1 ⟨rfl, rfl⟩
  go_wp2
  refine wp_loop_rounds 1 ?_
  rw [rounds_succ]
  go_wp2
  go_end0
  exact ⟨rfl, rfl⟩
set_option maxHeartbeats 400000 in
theorem sortGone_none (w : World) : Calls Tryz.prog 66 #[.slice none 0 0, .func (.func 67) #[] #[]] w fun e w' => e = .returned (.tuple #[]) ∧ w = w' := by
  go_enter Tryz.func66, Tryz.ntmps66
  go_wp2_with fail
  refine (stabGone_none w).mono ?_
  rintro e w1 ⟨rfl, rfl⟩
  go_wp2
  go_end0
  exact ⟨rfl, rfl⟩
end Go.Proofs.YtphgakobfegpcaaGreatDoor
