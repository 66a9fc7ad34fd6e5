/- slices.SortStableFunc at tithebarn/count.gone: walked whole. Counts: goods sorted by what went. Counts: Classes. Contracts of the library at this translation: laid by the kit's shelf (lay-shelf, lay-plain), those alone that the claim uses. -/
import Derived.Deep.RegionHeld3
import Derived.Shelf.Strings.Search3
import Derived.Test.YtphgakobfegpcaaGreatDoorProg
import Derived.Test.YtphgakobfegpcaaGreatDoorM07
import Derived.Test.YtphgakobfegpcaaGreatDoorM15
import Derived.Test.YtphgakobfegpcaaGreatDoorM17
import Derived.Test.YtphgakobfegpcaaGreatDoorM20
import Derived.Test.YtphgakobfegpcaaGreatDoorM22
import Derived.Test.YtphgakobfegpcaaGreatDoorLCountDiffs04
import Derived.Test.YtphgakobfegpcaaGreatDoorLCountDiffs07
namespace Go.Proofs.YtphgakobfegpcaaGreatDoor.StabGone
open Go.Sort Go.RowKit Go.Lib Go.Proofs Go.Proofs.YtphgakobfegpcaaGreatDoor.Stab
variable {α : Type} [Inhabited α]

theorem sym_any {P : Program} {K : Nat} (L : Fits P K) (enc : α → List Value) (cf : α → α → Int) (hO : SWO (ltOf cf)) (g : Nat) (cb : Array Value) (eg : ∀ args w, (callFunc g args).run P w = .ok (.enter g args) w) (blk off cap sz : Nat) (d0 : Array α) (w0 : World) (R : RowK enc K w0 blk off d0) (hC : CmpLays P g cb enc K cf blk off d0.size w0)
    (hsz0 : sz = d0.size) (hsz : sz < 4611686018427387904) : ∀ N, SymIH P K enc cf g cb blk off cap sz w0 N
  | 0 => fun A U V B a m b w h1 h2 h3 => by omega
  | N + 1 => fun A U V B a m b w h1 h2 h3 ha hm hb hlen hU hV S => by
    by_cases hu : U.length = 1
    · obtain ⟨x, rfl⟩ := List.length_eq_one_iff.1 hu
      exact sym_one L enc cf hO g cb eg blk off cap d0 w0 w R hC A V B x hV a m b sz hsz0 ha (by simpa using hm) hb h3 (by omega) hsz S
    · by_cases hv : V.length = 1
      · obtain ⟨x, rfl⟩ := List.length_eq_one_iff.1 hv
        exact sym_last L enc cf hO g cb eg blk off cap d0 w0 w R hC A U B x hU a m b sz hsz0 ha hm (by simpa using hb) (by omega) (by omega) hsz S
      · exact sym_gen L enc cf hO g cb eg blk off cap d0 w0 w R hC A U V B hU hV a m b sz N hsz0 ha hm hb (by omega) (by omega) (by omega) hlen hsz S (sym_any L enc cf hO g cb eg blk off cap sz d0 w0 R hC hsz0 hsz N)

/-- The insertion sort of a part. -/
theorem ins_any (enc : α → List Value) (cf : α → α → Int) (hO : SWO (ltOf cf)) (g : Nat) (cb : Array Value) (eg : ∀ args w, (callFunc g args).run Tryz.prog w = .ok (.enter g args) w) (blk off cap sz : Nat) (d0 : Array α) (w0 w : World) (R : RowK enc 2 w0 blk off d0) (hC : CmpLays Tryz.prog g cb enc 2 cf blk off d0.size w0)
    (hsz0 : sz = d0.size) (hsz : sz < 4611686018427387904) (A M B : List α) (a b : Nat) (ha : a = A.length) (hb : b = a + M.length) (hlen : b + B.length = sz) (S : SWK enc 2 w0 blk off (A ++ (M ++ B)).toArray w) :
    Calls Tryz.prog 166 #[.slice (some ⟨blk, off, none⟩) sz cap, .int .i64 (a : Nat), .int .i64 (b : Nat), .func (.func g) #[] cb] w fun e w' =>
      e = .returned (.tuple #[]) ∧ SWK enc 2 w0 blk off (A ++ (srt (ltOf cf) M ++ B)).toArray w' := by
  have hds : (A ++ (M ++ B)).toArray.size = d0.size := by simp; omega
  have hds' : (A ++ (M ++ B)).toArray.size = sz := by rw [hds, hsz0]
  have h := AnyQ.insertionSortCmpFunc (P := Tryz.prog) Tryz.insGone 2 Tryz.isAgg141 Tryz.sizeOf141 enc R.hk R.h1 cf g cb blk off cap a b (A ++ (M ++ B)).toArray w eg ?_ (S.holds R.hblk R.hH hds) (S.lt R.hblk) (by omega) (by rw [hds']; omega) (by rw [hds']; exact hsz)
  · rw [hds'] at h
    refine (show Calls Tryz.prog 166 _ _ _ from h).mono ?_
    rintro e w' ⟨he, n, os, rfl⟩
    refine ⟨he, ?_⟩
    have e9 := insertionSort_list hO A M B
    rw [← ha, ← hb] at e9
    rw [e9]
    refine S.on R.hblk n _ os ?_
    simp [srt_length]
  · intro n os dk hs x y
    obtain ⟨m0, os0, rfl⟩ := S
    have hh := SWK.on (w0 := w0) (enc := enc) (k := 2) (blk := blk) (off := off) ⟨m0, os0, rfl⟩ R.hblk n dk os hs
    obtain ⟨m1, os1, e1⟩ := hh
    rw [e1]
    exact hC m1 os1 dk (hs.trans hds) x y

set_option maxHeartbeats 1000000 in
set_option maxRecDepth 1000000 in
theorem stable_any (enc : α → List Value) (cf : α → α → Int) (hO : SWO (ltOf cf)) (g : Nat) (cb : Array Value) (eg : ∀ args w, (callFunc g args).run Tryz.prog w = .ok (.enter g args) w) (blk off cap sz : Nat) (d0 : Array α) (w0 w : World) (R : RowK enc 2 w0 blk off d0) (hC : CmpLays Tryz.prog g cb enc 2 cf blk off d0.size w0)
    (hsz0 : sz = d0.size) (hsz : sz ≤ 1000000000000) (l : List α) (hl : l.length = sz) (S : SWK enc 2 w0 blk off l.toArray w) :
    Calls Tryz.prog 118 #[.slice (some ⟨blk, off, none⟩) sz cap, .int .i64 (sz : Nat), .func (.func g) #[] cb] w fun e w' =>
      e = .returned (.tuple #[]) ∧ SWK enc 2 w0 blk off (srt (ltOf cf) l).toArray w' := by
  have hINS : ∀ (A M B : List α) (a b : Nat) (w : World), a = A.length → b = a + M.length → b + B.length = sz → SWK enc 2 w0 blk off (A ++ (M ++ B)).toArray w →
      Calls Tryz.prog 166 #[.slice (some ⟨blk, off, none⟩) sz cap, .int .i64 (a : Nat), .int .i64 (b : Nat), .func (.func g) #[] cb] w fun e w' => e = .returned (.tuple #[]) ∧ SWK enc 2 w0 blk off (A ++ (srt (ltOf cf) M ++ B)).toArray w' :=
    fun A M B a b w h1 h2 h3 h4 => ins_any enc cf hO g cb eg blk off cap sz d0 w0 w R hC hsz0 (by omega) A M B a b h1 h2 h3 h4
  have INS := Lib.hid hINS
  have SYM := Lib.hid (sym_any (fits) enc cf hO g cb eg blk off cap sz d0 w0 R hC hsz0 (by omega) sz)
  have HO := Lib.hid hO
  have HL := Lib.hid hl
  have HS := Lib.hid S
  clear hINS R hC hO hl S hsz0 eg
  go_enter Tryz.func118, Tryz.ntmps118
  go_wp2
  go_loopg [7, 8] sz (fun kx sa sb wr => ∃ (a b : Nat) (Q T : List α), sa = .int .i64 a ∧ sb = .int .i64 b ∧ a + 20 ≤ b ∧ b ≤ a + 20 ∧ a ≤ sz ∧ sz - a ≤ kx ∧ Hid (a = Q.length ∧ a + T.length = sz ∧ blks (ltOf cf) 20 l = Q ++ blks (ltOf cf) 20 T ∧ SWK enc 2 w0 blk off (Q ++ T).toArray wr))
  case atStart => exact ⟨0, 20, [], l, rfl, rfl, by omega, by omega, by omega, by omega, ⟨rfl, by rw [HL.out]; omega, rfl, HS.out⟩⟩
  case round =>
    obtain ⟨a, b, Q, T, rfl, rfl, hab, hba, ha, hk, H⟩ := hrel
    by_cases hlt : b ≤ sz
    · have hz : (b : Int) ≤ (sz : Int) := by omega
      go_wp2_with fail
      obtain ⟨h1, h2, h3, h4⟩ := H.out
      have eT : T = T.take 20 ++ T.drop 20 := (List.take_append_drop _ _).symm
      have n1 : (T.take 20).length = 20 := by rw [List.length_take]; omega
      have n2 : (T.drop 20).length = T.length - 20 := by rw [List.length_drop]
      refine (INS.out Q (T.take 20) (T.drop 20) a b wr h1 (by omega) (by omega) (by rw [← eT]; exact h4)).mono ?_
      rintro e w1 ⟨rfl, S1⟩
      have e5 : blks (ltOf cf) 20 l = (Q ++ srt (ltOf cf) (T.take 20)) ++ blks (ltOf cf) 20 (T.drop 20) := by
        have := blks_full (lt := ltOf cf) 20 (by omega) (T.take 20) (T.drop 20) n1
        rw [← eT] at this
        rw [h3, this, List.append_assoc]
      have H1 : Hid (b = (Q ++ srt (ltOf cf) (T.take 20)).length ∧ b + (T.drop 20).length = sz ∧ blks (ltOf cf) 20 l = (Q ++ srt (ltOf cf) (T.take 20)) ++ blks (ltOf cf) 20 (T.drop 20) ∧ SWK enc 2 w0 blk off ((Q ++ srt (ltOf cf) (T.take 20)) ++ T.drop 20).toArray w1) :=
        ⟨by rw [List.length_append, srt_length]; omega, by omega, e5, by rw [List.append_assoc]; exact S1⟩
      clear h1 h2 h3 h4 eT n1 n2 S1 e5
      go_wp2
      go_roundg (sz - b)
      case measure => omega
      case rel => exact ⟨b, b + 20, _, _, rfl, by go_num, by omega, by omega, by omega, by omega, H1⟩
    · have hz : ¬ (b : Int) ≤ (sz : Int) := by omega
      go_wp2_with fail
      obtain ⟨h1, h2, h3, h4⟩ := H.out
      have hI := INS.out Q T [] a sz wr h1 (by omega) (by simp) (by rw [List.append_nil]; exact h4)
      refine hI.mono ?_
      rintro e w1 ⟨rfl, S1⟩
      have S2 : Hid (SWK enc 2 w0 blk off (blks (ltOf cf) 20 l).toArray w1) := by
        rw [h3, blks_small 20 T (by omega)]
        rw [List.append_nil] at S1
        exact S1
      clear h1 h2 h3 h4 hI S1 H
      go_wp2_with fail
      go_loopg [6, 7, 8, 9] sz (fun kx s6 s7 s8 s9 wr2 => ∃ bs : Nat, s6 = .int .i64 bs ∧ 20 ≤ bs ∧ bs ≤ 2 * sz + 20 ∧ sz - bs ≤ kx ∧ Hid (SWK enc 2 w0 blk off (blks (ltOf cf) bs l).toArray wr2))
      case atStart => exact ⟨20, rfl, by omega, by omega, by omega, S2⟩
      case round =>
        obtain ⟨bs, rfl, hb1, hb2, hkx, S3⟩ := hrel
        by_cases hlt : bs < sz
        · have hz2 : (bs : Int) < (sz : Int) := by omega
          obtain ⟨wo, hwo⟩ : ∃ wo : World, wo = wr := ⟨_, rfl⟩
          subst hwo
          go_wp2_with fail
          go_loopg [7, 8] sz (fun ky sa sb wr3 => ∃ (a b : Nat) (Q T : List α), sa = .int .i64 a ∧ sb = .int .i64 b ∧ a + 2 * bs ≤ b ∧ b ≤ a + 2 * bs ∧ a ≤ sz ∧ sz - a ≤ ky ∧ Hid (a = Q.length ∧ a + T.length = sz ∧ blks (ltOf cf) (2 * bs) l = Q ++ blks (ltOf cf) (2 * bs) T ∧ SWK enc 2 w0 blk off (Q ++ blks (ltOf cf) bs T).toArray wr3))
          case atStart => exact ⟨0, 2 * bs, [], l, rfl, by congr 1, by omega, by omega, by omega, by omega, ⟨rfl, by rw [HL.out]; omega, rfl, S3.out⟩⟩
          case round =>
            obtain ⟨a, b, Q, T, rfl, rfl, hab, hba, ha, hk, H⟩ := hrel
            by_cases hle : b ≤ sz
            · have hz3 : (b : Int) ≤ (sz : Int) := by omega
              go_wp2_with fail
              obtain ⟨h1, h2, h3, h4⟩ := H.out
              have eT : T.take (2 * bs) ++ T.drop (2 * bs) = T := List.take_append_drop _ _
              have n0 : (T.take (2 * bs)).length = 2 * bs := by rw [List.length_take]; omega
              obtain ⟨M1, hM1⟩ : ∃ M, M = (T.take (2 * bs)).take bs := ⟨_, rfl⟩
              obtain ⟨M2, hM2⟩ : ∃ M, M = (T.take (2 * bs)).drop bs := ⟨_, rfl⟩
              have n1 : M1.length = bs := by rw [hM1, List.length_take]; omega
              have n2 : M2.length = bs := by rw [hM2, List.length_drop]; omega
              have eM : M1 ++ M2 = T.take (2 * bs) := by rw [hM1, hM2]; exact List.take_append_drop _ _
              obtain ⟨T', hT'⟩ : ∃ M, M = T.drop (2 * bs) := ⟨_, rfl⟩
              have n3 : T'.length = T.length - 2 * bs := by rw [hT', List.length_drop]
              rw [← eM, ← hT'] at eT
              have b1 : blks (ltOf cf) bs T = srt (ltOf cf) M1 ++ (srt (ltOf cf) M2 ++ blks (ltOf cf) bs T') := by
                rw [← eT, List.append_assoc, blks_full bs (by omega) _ _ n1, blks_full bs (by omega) _ _ n2]
              have b2 : blks (ltOf cf) (2 * bs) T = mrg (ltOf cf) (srt (ltOf cf) M1) (srt (ltOf cf) M2) ++ blks (ltOf cf) (2 * bs) T' := by
                rw [← eT, blks_full (2 * bs) (by omega) _ _ (by rw [List.length_append]; omega), srt_append HO.out]
              rw [show ((a : Int) + (bs : Int)) = ((a + bs : Nat) : Int) by omega]
              refine (SYM.out Q (srt (ltOf cf) M1) (srt (ltOf cf) M2) (blks (ltOf cf) bs T') a (a + bs) b wr (by rw [srt_length, srt_length]; omega) (by rw [srt_length]; omega) (by rw [srt_length]; omega) h1 (by rw [srt_length]; omega) (by rw [srt_length]; omega) (by rw [blks_length bs (by omega)]; omega) (srt_sorted HO.out _) (srt_sorted HO.out _) (by rw [← b1]; exact h4)).mono ?_
              rintro e w4 ⟨rfl, S4⟩
              have H1 : Hid (b = (Q ++ mrg (ltOf cf) (srt (ltOf cf) M1) (srt (ltOf cf) M2)).length ∧ b + T'.length = sz ∧ blks (ltOf cf) (2 * bs) l = (Q ++ mrg (ltOf cf) (srt (ltOf cf) M1) (srt (ltOf cf) M2)) ++ blks (ltOf cf) (2 * bs) T' ∧ SWK enc 2 w0 blk off ((Q ++ mrg (ltOf cf) (srt (ltOf cf) M1) (srt (ltOf cf) M2)) ++ blks (ltOf cf) bs T').toArray w4) :=
                ⟨by rw [List.length_append, mrg_length, srt_length, srt_length]; omega, by omega, by rw [h3, b2, List.append_assoc], by rw [List.append_assoc]; exact S4⟩
              clear h1 h2 h3 h4 eT n0 n1 n2 n3 eM hM1 hM2 hT' b1 b2 S4 H
              go_wp2
              go_roundg (sz - b)
              case measure => omega
              case rel => exact ⟨b, b + 2 * bs, _, _, rfl, by congr 1, by omega, by omega, by omega, by omega, H1⟩
            · have hz3 : ¬ (b : Int) ≤ (sz : Int) := by omega
              obtain ⟨h1, h2, h3, h4⟩ := H.out
              by_cases hm : a + bs < sz
              · have hz4 : (a : Int) + (bs : Int) < (sz : Int) := by omega
                obtain ⟨M1, hM1⟩ : ∃ M, M = T.take bs := ⟨_, rfl⟩
                obtain ⟨M2, hM2⟩ : ∃ M, M = T.drop bs := ⟨_, rfl⟩
                have n1 : M1.length = bs := by rw [hM1, List.length_take]; omega
                have n2 : M2.length = T.length - bs := by rw [hM2, List.length_drop]
                have eM : M1 ++ M2 = T := by rw [hM1, hM2]; exact List.take_append_drop _ _
                have b1 : blks (ltOf cf) bs T = srt (ltOf cf) M1 ++ srt (ltOf cf) M2 := by
                  rw [← eM, blks_full bs (by omega) _ _ n1, blks_small bs M2 (by omega)]
                have b2 : blks (ltOf cf) (2 * bs) T = mrg (ltOf cf) (srt (ltOf cf) M1) (srt (ltOf cf) M2) := by
                  rw [blks_small (2 * bs) T (by omega), ← eM, srt_append HO.out]
                have hS := SYM.out Q (srt (ltOf cf) M1) (srt (ltOf cf) M2) [] a (a + bs) sz wr (by rw [srt_length, srt_length]; omega) (by rw [srt_length]; omega) (by rw [srt_length]; omega) h1 (by rw [srt_length]; omega) (by rw [srt_length]; omega) (by simp) (srt_sorted HO.out _) (srt_sorted HO.out _) (by rw [List.append_nil, ← b1]; exact h4)
                have B2 := Lib.hid (show blks (ltOf cf) (2 * bs) l = Q ++ (mrg (ltOf cf) (srt (ltOf cf) M1) (srt (ltOf cf) M2) ++ []) by rw [List.append_nil, h3, b2])
                have HSY := Lib.hid hS
                clear h1 h2 h3 h4 n1 n2 eM hM1 hM2 b1 b2 hS H
                go_wp2_with fail
                rw [show ((a : Int) + (bs : Int)) = ((a + bs : Nat) : Int) by omega]
                refine HSY.out.mono ?_
                rintro e w4 ⟨rfl, S4⟩
                rw [← B2.out] at S4
                have H4 := Lib.hid S4
                clear S4 HSY
                go_wp2
                go_roundg (sz - 2 * bs)
                case measure => omega
                case rel => exact ⟨2 * bs, by congr 1; omega, by omega, by omega, Nat.le_refl _, H4⟩
              · have hz4 : ¬ (a : Int) + (bs : Int) < (sz : Int) := by omega
                have H4 : Hid (SWK enc 2 w0 blk off (blks (ltOf cf) (2 * bs) l).toArray wr) := by
                  rw [h3, blks_small (2 * bs) T (by omega)]
                  rw [blks_small bs T (by omega)] at h4
                  exact h4
                clear h1 h2 h3 h4 H
                go_wp2
                go_roundg (sz - 2 * bs)
                case measure => omega
                case rel => exact ⟨2 * bs, by congr 1; omega, by omega, by omega, Nat.le_refl _, H4⟩
        · have hz2 : ¬ (bs : Int) < (sz : Int) := by omega
          go_wp2_with fail
          go_end0
          refine ⟨rfl, ?_⟩
          have := S3.out
          rw [blks_small bs l (by rw [HL.out]; omega)] at this
          exact this
end Go.Proofs.YtphgakobfegpcaaGreatDoor.StabGone
namespace Go.Proofs.YtphgakobfegpcaaGreatDoor
open Go.RowKit Go.Sort Go.Proofs

theorem goneInfo : (Tryz.prog.info? 141).map (fun i => (i.zero, i.size, i.bytes)) = some (some (.agg #[.int .i64 0, .int .i64 0]), 2, 16) := by kernel_rfl
theorem encGone_len (x : GoneV) : (encGone x).length = 2 := rfl
theorem encGone_one (x : GoneV) : ∀ v ∈ encGone x, v.oneCell' = true := fun v hv => by
  simp [encGone] at hv
  rcases hv with rfl | rfl <;> rfl
theorem egGone : ∀ args w, (callFunc 67 args).run Tryz.prog w = .ok (.enter 67 args) w := enters_of Tryz.func67 (by kernel_rfl) rfl

set_option maxHeartbeats 800000 in
theorem cmpGone_any (x y : GoneV) (W : World) : Calls Tryz.prog 67 #[.agg (encGone x).toArray, .agg (encGone y).toArray] W fun e w' => e = .returned (.int .i64 (cfGone x y)) ∧ ∃ q os', w' = grow (W.drewN q) os' := by
  obtain ⟨a1, a2⟩ := x
  obtain ⟨b1, b2⟩ := y
  simp only [encGone, cfGone]
  go_enter Tryz.func67, Tryz.ntmps67
  go_wp2_with fail
  refine (Tryz.cmp_Compare_int _ _ _).mono ?_
  rintro e w' ⟨rfl, rfl⟩
  go_wp2_with fail
  go_ret
  refine ⟨rfl, 0, #[.cells #[.int .i64 (a1 : Nat), .int .i64 a2] 141, .cells #[.int .i64 (b1 : Nat), .int .i64 b2] 141], ?_⟩
  rw [alloc_eq_grow, alloc_eq_grow, grow_grow]; rfl
theorem cmpLaysGone (blk off size : Nat) (w : World) : CmpLays Tryz.prog 67 #[] encGone 2 cfGone blk off size w := fun _ _ _ _ x y => cmpGone_any x y _

set_option maxHeartbeats 400000 in
theorem sortGone_any (g cap : Nat) (xs : List GoneV) (w : World) (hn : xs.length ≤ 1000000) (hg : g < w.heap.size) (hH : HoldsK encGone 2 w g 0 xs.toArray) :
    Calls Tryz.prog 66 #[.slice (some ⟨g, 0, none⟩) xs.length cap, .func (.func 67) #[] #[]] w fun e w' =>
      e = .returned (.tuple #[]) ∧ SWK encGone 2 w g 0 (Stab.srt (ltOf cfGone) xs).toArray w' := by
  have R : RowK encGone 2 w g 0 xs.toArray := ⟨encGone_len, encGone_one, hH, hg⟩
  have hc := StabGone.stable_any encGone cfGone swoGone 67 #[] egGone g 0 cap xs.length xs.toArray w w R (cmpLaysGone g 0 _ w) (by simp) (by omega) xs rfl (SWK.start hH)
  have HC := Lib.hid hc
  generalize xs.length = n at HC
  clear hc R hH
  go_enter Tryz.func66, Tryz.ntmps66
  go_wp2_with fail
  refine HC.out.mono ?_
  rintro e w1 ⟨rfl, S1⟩
  have H1 := Lib.hid S1
  clear S1 HC
  go_wp2
  go_end0
  exact ⟨rfl, H1.out⟩
set_option maxHeartbeats 400000 in
theorem insGone_none (w : World) : Calls Tryz.prog 166 #[.slice none 0 0, .int .i64 0, .int .i64 0, .func (.func 67) #[] #[]] w fun e w' => e = .returned (.tuple #[]) ∧ w = w' := by
  go_enter Tryz.func166, Tryz.ntmps166
  go_wp2
  refine wp_loop_rounds 1 ?_
  rw [rounds_succ]
  go_wp2
  go_end0
  exact ⟨rfl, rfl⟩
set_option maxHeartbeats 400000 in
theorem stabGone_none (w : World) : Calls Tryz.prog 118 #[.slice none 0 0, .int .i64 0, .func (.func 67) #[] #[]] w fun e w' => e = .returned (.tuple #[]) ∧ w = w' := by
  go_enter Tryz.func118, Tryz.ntmps118
  go_wp2
  refine wp_loop_rounds 1 ?_
  rw [rounds_succ]
  go_wp2_with fail
  refine (insGone_none w).mono ?_
  rintro e w1 ⟨rfl, rfl⟩
  go_wp2
  refine wp_loop_rounds 1 ?_
  rw [rounds_succ]
  go_wp2
  go_end0
  exact ⟨rfl, rfl⟩
set_option maxHeartbeats 400000 in
theorem sortGone_none (w : World) : Calls Tryz.prog 66 #[.slice none 0 0, .func (.func 67) #[] #[]] w fun e w' => e = .returned (.tuple #[]) ∧ w = w' := by
  go_enter Tryz.func66, Tryz.ntmps66
  go_wp2_with fail
  refine (stabGone_none w).mono ?_
  rintro e w1 ⟨rfl, rfl⟩
  go_wp2
  go_end0
  exact ⟨rfl, rfl⟩
end Go.Proofs.YtphgakobfegpcaaGreatDoor
namespace Go.Proofs.YtphgakobfegpcaaGreatDoor
open Go.RowKit Go.Sort Go.Proofs

set_option maxHeartbeats 400000 in
theorem class_any (a n : Int) (ha : 0 ≤ a) (ha2 : a ≤ 10000000000000000) (hn : 0 ≤ n) (hn2 : n ≤ 10000000000000000) (w : World) :
    Calls Tryz.prog 69 #[.int .i64 a, .int .i64 n] w fun e w' => e = .returned (.string ⟨(classB a n).toArray⟩) ∧ w = w' := by
  have hw1 : IntKind.i64.wrap (100 * a) = 100 * a := wrap_small (by omega) (by omega)
  have hw2 : IntKind.i64.wrap (80 * n) = 80 * n := wrap_small (by omega) (by omega)
  have hw3 : IntKind.i64.wrap (95 * n) = 95 * n := wrap_small (by omega) (by omega)
  unfold classB
  by_cases h0 : n = 0
  · rw [if_pos h0]
    subst h0
    go_enter Tryz.func69, Tryz.ntmps69
    go_wp2_with fail
    go_ret
    exact ⟨rfl, rfl⟩
  · rw [if_neg h0]
    by_cases h1 : 100 * a < 80 * n
    · rw [if_pos h1]
      go_enter Tryz.func69, Tryz.ntmps69
      go_wp2_with fail
      go_ret
      exact ⟨rfl, rfl⟩
    · rw [if_neg h1]
      by_cases h2 : 100 * a < 95 * n
      · rw [if_pos h2]
        go_enter Tryz.func69, Tryz.ntmps69
        go_wp2_with fail
        go_ret
        exact ⟨rfl, rfl⟩
      · rw [if_neg h2]
        go_enter Tryz.func69, Tryz.ntmps69
        go_wp2_with fail
        go_ret
        exact ⟨rfl, rfl⟩

theorem prs_take (l : List Int) (k : Nat) (h : k < l.length) : (prs l).take (k + 1) = (prs l).take k ++ [(k, l[k])] := by
  rw [List.take_succ_eq_append_getElem (by rw [prs_length]; exact h), prs_get l k h]
theorem below_made {w w' : World} (h : w.grownBy w' none) : Below w.heap.size w w' := ⟨h.os, h.tape, h.output, h.size, fun k hk => h.block k hk (by simp)⟩
theorem own_row {w : World} {B e size n q cap : Nat} {xs : List Value} (h : w.ownsRow B e size (.slice (some ⟨q, 0, none⟩) n cap) n xs) (h1 : size = 1) : ∃ L : List Value, w.heap[q]? = some (.cells L.toArray e (0, 0)) ∧ n ≤ L.length := by
  obtain ⟨L, h2, h3⟩ := own_block h
  exact ⟨L, h2, by rw [h1] at h3; omega⟩
theorem cls_all {w : World} {q : Nat} (O : List Int) (L : List Value) {ty : TypeId} (hq : w.heap[q]? = some (.cells L.toArray ty (0, 0))) (h : ∀ j (hj : j < (Stab.srt (ltOf cfGone) (prs O)).length), L[(Stab.srt (ltOf cfGone) (prs O))[j].1]? = some (.string ⟨(clsOf O (Stab.srt (ltOf cfGone) (prs O))[j].1).toArray⟩)) : StrsAt w (some ⟨q, 0, none⟩) (classesL O) := by
  refine .inr ⟨q, 0, rfl, row_lt hq, fun i hi => ?_⟩
  have hi' : i < O.length := by simpa [classesL] using hi
  obtain ⟨j, hj, e⟩ := srt_all O i hi'
  have h1 := h j hj
  rw [e] at h1
  rw [cell_of_row w q _ _ _ _ hq, Nat.zero_add]
  simpa [classesL] using h1

set_option maxHeartbeats 3200000 in
set_option maxRecDepth 100000 in
theorem classes_any {p : Nat} {F : List Nat} {B : BkV} {w : World} (H : BookIs w p F B) (hI : BkI B) :
    Calls Tryz.prog 19 #[.pointer (some ⟨p, 0, none⟩)] w fun e w' => ∃ A cap, e = .returned (.slice A B.1.length cap) ∧ StrsAt w' A (classesL (outsB B)) ∧ Below w.heap.size w w' := by
  obtain ⟨i0, hi, hz0, hz1, hz2⟩ := info_parts goneInfo
  obtain ⟨j0, hj, hy0, hy1, hy2⟩ := info_parts stringInfo1
  have HGO := Lib.hid (goodsBk_any H hI)
  have HSA := Lib.hid hI.sums_at
  have HSU := Lib.hid (fun c W (h : Below w.heap.size w W) => sumsBk_any (H.below h) c)
  obtain ⟨hO1, hO2, hO3⟩ := hI.outs
  obtain ⟨N, hN⟩ : ∃ N, N = B.1.length := ⟨_, rfl⟩
  have HN := Lib.hid hN
  obtain ⟨O, hO⟩ : ∃ O, O = outsB B := ⟨_, rfl⟩
  have HOL : Hid (O.length = N) := by show _ = _; rw [hO, hN]; simp [outsB]
  have HOK : Hid (∀ k (hk : k < B.1.length) (h : k < O.length), O[k] = B.1[k].2.2.1) := fun k hk h => by simp [hO, outsB]
  rw [← hO] at hO1 hO2 hO3 ⊢
  have hN30 : N ≤ 30 := by rw [← HOL.out]; exact hO3
  have hs0 : 0 ≤ sumI O := sumI_nonneg hO1
  have hs1 : sumI O ≤ 1979120929996800 := by
    have h1 := sumI_le hO2
    have h2 : (65970697666560 : Int) * O.length ≤ 65970697666560 * 30 := by omega
    omega
  have HST := Lib.hid (fun k => sumI_take_le hO1 k)
  have HTS := Lib.hid (fun k h => sumI_take O k h)
  have HPT := Lib.hid (prs_take O)
  have HSR := Lib.hid (cls_srt O)
  have HIX := Lib.hid (srt_idx O)
  obtain ⟨S, hS⟩ : ∃ S, S = Stab.srt (ltOf cfGone) (prs O) := ⟨_, rfl⟩
  have HSE := Lib.hid hS
  have HSL : Hid (S.length = N) := by show _ = _; rw [hS, Stab.srt_length, prs_length]; exact HOL.out
  have HSP : Hid (sndS S = sumI O) := by
    show _ = _
    rw [hS, sndS_perm (Stab.srt_perm _ _)]
    unfold sndS prs
    rw [List.map_map]
    congr 1
    exact List.ext_getElem (by simp) fun i h1 h2 => by simp
  have HSN : Hid (∀ j, 0 ≤ sndS (S.take j) ∧ sndS (S.take j) ≤ sumI O) := fun j => by
    have h0 : ∀ x ∈ S.map (·.2), 0 ≤ x := fun x hx => by
      obtain ⟨y, hy, rfl⟩ := List.mem_map.1 hx
      rw [hS] at hy
      obtain ⟨h1, h2⟩ := prs_mem ((Stab.srt_perm _ _).mem_iff.1 hy)
      rw [h2]
      exact hO1 _ (List.getElem_mem h1)
    have := sumI_take_le h0 j
    rw [← List.map_take] at this
    rw [← HSP.out]
    exact this
  have HSK := Lib.hid (sndS_take S)
  have HALL := Lib.hid (fun (W : World) q L ty => cls_all (w := W) (q := q) O L (ty := ty))
  have HLN : Hid (B.1.length = N) := hN.symm
  rw [← hS] at HSR HIX HALL
  clear hS hO hO1 hO2 hO3 H hI hN
  rw [HLN.out]
  rw [HLN.out] at HGO
  go_enter Tryz.func19, Tryz.ntmps19
  go_wp2_with fail
  refine HGO.out.mono ?_
  rintro e w2 ⟨A, cap, rfl, hgr, -, b2⟩
  have B2 := Lib.hid b2
  have HGR := Lib.hid (fun W (h : Below w2.heap.size w2 W) => hgr.below h)
  clear hgr b2 HGO
  go_wp2_with fail
  go_loopw [3, 4, 17] (fun v a i wr => ∃ k : Nat, k ≤ N ∧ i = .int .i64 k ∧ a = .int .i64 (sumI (O.take k)) ∧ Hid (wr.ownsRow w2.heap.size 141 2 v k (flatL encGone ((prs O).take k))) ∧ Hid (Below w2.heap.size w2 wr)) (fun _ _ i _ => N - (intOf i).toNat)
  case atStart => exact ⟨0, by omega, rfl, rfl, World.ownsRow_nil _ _ _ _, Below.refl _ _⟩
  case round =>
    obtain ⟨k, hk, rfl, rfl, HOWN, HB⟩ := hrel
    by_cases hkN : k < N
    · have hkB : k < B.1.length := by rw [HLN.out]; exact hkN
      have hkO : k < O.length := by rw [HOL.out]; exact hkN
      have hbw := B2.out.trans (HB.out.mono B2.out.size)
      obtain ⟨bk, o, rfl, lg, cg⟩ := HGR.out wr HB.out |>.resolve_left (fun h => by rw [List.map_eq_nil_iff] at h; rw [h] at hkB; simp at hkB)
      have ck := cg k (by rw [List.length_map]; exact hkB)
      rw [List.getElem_map] at ck
      have hsum := HSU.out B.1[k].1.1
      rw [HSA.out k hkB] at hsum
      have hok := HOK.out k hkB hkO
      have hts := HTS.out k hkO
      have hpt := HPT.out k hkO
      obtain ⟨⟨⟨x1, x2⟩, s1, s2, s3, s4⟩, hx⟩ : ∃ x, x = B.1[k] := ⟨_, rfl⟩
      rw [← hx] at ck hsum hok
      simp only at ck hsum hok
      have HSM := Lib.hid hsum
      have c0 := ck 0 _ rfl
      have c1 := ck 1 _ rfl
      simp only [Nat.add_zero] at c0
      have hb1 := HST.out (k + 1)
      have hb0 := HST.out k
      rw [hok] at hts hpt
      have HTS1 := Lib.hid hts
      have HNX : Hid (flatL encGone ((prs O).take (k + 1)) = flatL encGone ((prs O).take k) ++ flatL encGone [(k, s2)]) := by
        show _ = _
        rw [hpt, flatL_append]
      obtain ⟨sk, hsk⟩ : ∃ sk, sk = sumI (O.take k) := ⟨_, rfl⟩
      have HSK0 := Lib.hid hsk
      rw [← hsk] at hts hb0 ⊢
      rw [hts] at hb1
      have hwr : IntKind.i64.wrap (sk + s2) = sk + s2 := wrap_small (by omega) (by omega)
      have hfd : ∀ W, (Instr.field 47 (.agg #[.int .i64 s1, .int .i64 s2, .int .i64 s3, .int .i64 s4]) 1).run Tryz.prog W = .ok (.int .i64 s2) W := fun _ => by kernel_rfl
      have hsz := HB.out.size
      have ba := below_one wr (.cells #[.string ⟨x1.toArray⟩, .int .i64 x2] 50)
      have BA := Lib.hid (hbw.trans (ba.mono hbw.size))
      have BA2 := Lib.hid (HB.out.trans (ba.mono HB.out.size))
      have HOW1 := Lib.hid (own_bl HOWN.out ba)
      clear hx cg ck hsum hok hts hpt hsk hbw ba
      go_wp2_with fail
      refine (HSM.out _ BA.out).mono ?_
      rintro e w3 ⟨rfl, b3⟩
      have B3 := Lib.hid (BA2.out.trans (b3.mono BA2.out.size))
      have HOW3 := Lib.hid (own_bl HOW1.out b3)
      simp only [encSums]
      have hsz3 := B3.out.size
      clear b3 HSM BA BA2 HOW1
      go_wp2_with (at_builtin; refine wpList_append_rows _ rfl (.tmp 27) (.tmp 31) 139 rfl w2.heap.size 141 i0 _ 16 Tryz.underlying139 hi hz0 hz1 hz2 rfl encGone_len (by decide) encGone_one u3 k (flatL encGone ((prs O).take k)) rfl (own_bl HOW3.out (below_one _ _)) (some ⟨w3.heap.size, 0, none⟩) 1 [(k, s2)] rfl (row_one (heap_alloc_new _ _)) (by simp; omega) (by decide) (by simp; omega) ?_; intro v4 w4 HO4 hb4; have HB4 := Lib.hid hb4; clear hb4)
      go_roundw
      case rel =>
        refine ⟨k + 1, by omega, by go_num, by rw [HTS1.out, ← HSK0.out], ?_, (B3.out.trans ((below_one w3 _).mono B3.out.size)).trans HB4.out⟩
        show World.ownsRow _ _ _ _ _ _ _
        rw [HNX.out]
        exact HO4.out
      case measure => simp [intOf]; omega
    · obtain rfl : k = N := by omega
      have hT : O.take k = O := List.take_of_length_le (by rw [HOL.out]; exact Nat.le_refl _)
      have hT2 : (prs O).take k = prs O := List.take_of_length_le (by rw [prs_length, HOL.out]; exact Nat.le_refl _)
      rw [hT]
      have HSO := HOWN.out
      rw [hT2] at HSO
      obtain ⟨A3, c3, rfl, HSRT⟩ : ∃ A3 c3, u3 = .slice A3 k c3 ∧ Hid (Calls Tryz.prog 66 #[.slice A3 k c3, .func (.func 67) #[] #[]] wr fun e w' => e = .returned (.tuple #[]) ∧ RowAt encGone 2 w' A3 S ∧ Below w2.heap.size wr w') := by
        rcases HSO.2 with ⟨rfl, h0⟩ | ⟨g, cp, cur, rfl, hB, hg, _⟩
        · refine ⟨none, 0, by rw [h0], ?_⟩
          rw [h0]
          refine (sortGone_none wr).mono ?_
          rintro e w' ⟨rfl, rfl⟩
          exact ⟨rfl, .inl (List.eq_nil_of_length_eq_zero (by rw [HSL.out]; exact h0)), Below.refl _ _⟩
        · refine ⟨some ⟨g, 0, none⟩, cp, rfl, ?_⟩
          have hgl := row_lt hg
          have hpl : (prs O).length = k := by rw [prs_length]; exact HOL.out
          have hH : HoldsK encGone 2 wr g 0 (prs O).toArray := holds_of_own encGone_len (by decide) (by rw [hpl]; exact HSO)
          have hso := sortGone_any g cp (prs O) wr (by omega) hgl hH
          rw [hpl, ← HSE.out] at hso
          refine (show Calls Tryz.prog _ _ _ _ from hso).mono ?_
          rintro e w' ⟨rfl, S2⟩
          exact ⟨rfl, RowAt.of_sort encGone_len ⟨encGone_len, encGone_one, hH, hgl⟩ S2 (by rw [HSL.out, List.size_toArray, hpl]), sort_below (Below.refl _ _) S2 hB HB.out.size⟩
      clear hT hT2 HSO HOWN HSE
      go_wp2_with fail
      refine HSRT.out.mono ?_
      rintro e w5 ⟨rfl, hrow5, b5⟩
      have B5 := Lib.hid (HB.out.trans b5)
      have HR5 := Lib.hid hrow5
      have hsz5 := B5.out.size
      clear b5 hrow5 HSRT
      go_wp2_with (at_make; refine wpList_make_full _ rfl _ _ 44 rfl w2.heap.size 9 j0 _ 1 Tryz.underlying44 hj hy0 hy1 _ _ _ _ k rfl rfl rfl rfl (by rw [hy2]; omega) (by unfold maxLen; omega) (by omega) ?_; intro w6 hown6 hg6)
      obtain ⟨q, hq⟩ : ∃ q, q = w5.heap.size := ⟨_, rfl⟩
      rw [← hq] at hown6 ⊢
      obtain ⟨L6, hq6, hL6⟩ := own_row hown6 rfl
      have HQ6 := Lib.hid hq6
      have b6 := below_made hg6
      have B6 := Lib.hid (B5.out.trans (b6.mono B5.out.size))
      have HR6 := Lib.hid (HR5.out.below b6)
      have HRB : Hid (∀ a, A3 = some a → S ≠ [] → a.block < q) := fun a ha hs => by
        rcases HR5.out with h | ⟨b', o', h1, h2, -⟩
        · exact absurd h hs
        · rw [h1] at ha; cases ha; show b' < q; omega
      have hqw : w.heap.size ≤ q := by have := B2.out.size; omega
      have hq6l := row_lt hq6
      clear hown6 hg6 hq6 b6 hq HR5
      go_loopw [9, 44] (fun a i wr => ∃ (j : Nat) (L : List Value), j ≤ k ∧ i = .int .i64 j ∧ a = .int .i64 (sndS (S.take j)) ∧ L.length = L6.length ∧ Hid (wr.heap[q]? = some (.cells L.toArray 9 (0, 0))) ∧ Hid (∀ j' (h : j' < S.length), j' < j → L[S[j'].1]? = some (.string ⟨(clsOf O S[j'].1).toArray⟩)) ∧ Hid (ButF [q] w6 wr)) (fun _ i _ => k - (intOf i).toNat)
      case atStart => exact ⟨0, L6, by omega, rfl, rfl, rfl, HQ6.out, fun j' h h2 => absurd h2 (Nat.not_lt_zero _), ButF.refl _ _⟩
      case round =>
        obtain ⟨j, L, hj, rfl, rfl, hLL, HQ, HDN, HBF⟩ := hrel
        by_cases hjN : j < k
        · have hjS : j < S.length := by rw [HSL.out]; exact hjN
          have hne : S ≠ [] := fun e => by rw [e] at hjS; simp at hjS
          obtain ⟨gs, os, rfl, lg, cg⟩ := HR6.out |>.resolve_left hne
          have hgq : gs < q := HRB.out ⟨gs, os, none⟩ rfl hne
          obtain ⟨hix, -⟩ := HIX.out j hjS
          have hcl := HSR.out j hjS
          have hsk := HSK.out j hjS
          have hn0 := HSN.out j
          have hn1 := HSN.out (j + 1)
          have ck := cg j hjS
          obtain ⟨⟨at_, n⟩, hy⟩ : ∃ y, y = S[j] := ⟨_, rfl⟩
          rw [← hy] at hix hcl hsk ck
          simp only at hix hcl hsk
          have HY := Lib.hid hy
          have c0 := HBF.out.cell (ck 0 _ rfl) (by simp; omega)
          have c1 := HBF.out.cell (ck 1 _ rfl) (by simp; omega)
          simp only [Nat.add_zero] at c0
          have hatk : at_ < k := by rw [← HOL.out]; exact hix
          have hatL : at_ < L.length := by omega
          obtain ⟨sj, hsj⟩ : ∃ sj, sj = sndS (S.take j) := ⟨_, rfl⟩
          rw [← hsj] at hcl hsk hn0 ⊢
          rw [hsk] at hn1
          have HSKJ := Lib.hid hsk
          have HCL := Lib.hid hcl
          have hwr : IntKind.i64.wrap (sj + n) = sj + n := wrap_small (by omega) (by omega)
          have ba := below_one wr (.cells #[.int .i64 (at_ : Nat), .int .i64 n] 141)
          have hbx := heap_alloc_new wr (.cells #[.int .i64 (at_ : Nat), .int .i64 n] 141)
          have hqr := (ba.block q (row_lt HQ.out)).trans HQ.out
          have HBA := Lib.hid (HBF.out.then_below ba)
          have hq2 := row_lt HQ.out
          clear hy cg ck hcl hsk hsj HQ HBF hix
          go_upto_region 18 with fail
          generalize wr.alloc (.cells #[.int .i64 (at_ : Nat), .int .i64 n] 141) = wz at hbx hqr HBA ba ⊢
          have x0 : wz.cell? ⟨wr.heap.size, 0, none⟩ = some (.int .i64 (at_ : Nat)) := cell_of_row _ _ _ _ _ _ hbx
          have x1 : wz.cell? ⟨wr.heap.size, 1, none⟩ = some (.int .i64 n) := cell_of_row _ _ _ _ _ _ hbx
          have q0 : wz.cell? ⟨q, at_, none⟩ = some L[at_] := (cell_of_row _ _ _ _ _ _ hqr).trans (by simp [List.getElem?_eq_getElem hatL])
          have f0 := frozen_of_row wz q at_ _ _ hqr
          have hat0 : (0 : Int) ≤ (at_ : Nat) := by omega
          have hat1 : ((at_ : Nat) : Int) < (k : Nat) := by omega
          have HCLS := Lib.hid (fun W => class_any sj (sumI O) hn0.1 (by omega) hs0 (by omega) W)
          go_wp2_with fail
          go_region_held3 (fun W => W.cell? ⟨wr.heap.size, 0, none⟩ = some (.int .i64 (at_ : Nat)))
            (first | exact x0 | exact cell_set_other x0 (by omega) | go_keep)
            (first | (go_at_call 69; refine (HCLS.out _).mono ?_; rintro e v ⟨rfl, rfl⟩))
          all_goals
            have h9 : (wz.setCell ⟨q, at_, none⟩ (.string ⟨(classB sj (sumI O)).toArray⟩)).drew.heap[q]? = some (.cells (L.set at_ (.string ⟨(classB sj (sumI O)).toArray⟩)).toArray 9 (0, 0)) := set_rowL hqr at_ (.string ⟨(classB sj (sumI O)).toArray⟩)
            have t9 := (sets_turned (b := q) [(at_, .string ⟨(classB sj (sumI O)).toArray⟩)] wz).drew
            have hW : sets wz q [(at_, .string ⟨(classB sj (sumI O)).toArray⟩)] = wz.setCell ⟨q, at_, none⟩ (.string ⟨(classB sj (sumI O)).toArray⟩) := rfl
            rw [hW] at t9
            have x19 := (World.cell?_of_block (a := ⟨wr.heap.size, 1, none⟩) (t9.block wr.heap.size (by omega))).trans x1
            clear hW hqr q0 f0 x0 x1 HCLS hbx
            generalize (wz.setCell ⟨q, at_, none⟩ (.string ⟨(classB sj (sumI O)).toArray⟩)).drew = W9 at h9 t9 x19 ⊢
            have HBF9 := Lib.hid (HBA.out.step (ButF.of_turned t9 (.inl (by simp))))
            have H9 := Lib.hid h9
            rw [← HCL.out] at H9
            clear h9 t9 HBA ba c0 c1
            go_wp2_with fail
            go_roundw
            case rel =>
              refine ⟨j + 1, L.set at_ (.string ⟨(clsOf O at_).toArray⟩), by omega, by go_num, by rw [HSKJ.out], by rw [List.length_set]; exact hLL, H9.out, fun j' h hlt => ?_, HBF9.out⟩
              by_cases he : S[j'].1 = at_
              · rw [he, List.getElem?_set_self hatL]
              · rw [List.getElem?_set_ne (fun e => he e.symm)]
                refine HDN.out j' h ?_
                have : j' ≠ j := fun e => he (by subst e; rw [← HY.out])
                omega
            case measure => simp [intOf]; omega
        · obtain rfl : j = k := by omega
          have hT : S.take j = S := List.take_of_length_le (by rw [HSL.out]; exact Nat.le_refl _)
          have HST2 : Hid (StrsAt wr (some ⟨q, 0, none⟩) (classesL O)) := HALL.out wr q L _ HQ.out fun j' h => HDN.out j' h (by rw [HSL.out] at h; exact h)
          have HB9 : Hid (Below w.heap.size w wr) := B2.out.trans ((B6.out.mono B2.out.size).trans (HBF.out.below (by have := B6.out.size; have := B2.out.size; omega) (by simp; omega)))
          clear HQ HDN HBF
          go_wp2_with fail
          go_ret
          exact ⟨_, _, rfl, HST2.out, HB9.out⟩
end Go.Proofs.YtphgakobfegpcaaGreatDoor
namespace Go.Proofs
open Go.Shelf
def Tryz.lays143_ren : Go.Shelf.Ren := ⟨fun | 143 => 73 | 219 => 124 | 217 => 170 | 225 => 171 | 224 => 172 | 267 => 173 | 266 => 210 | 314 => 211 | n => n, fun | 9 => 9 | 3 => 3 | 4 => 4 | 5 => 5 | 46 => 236 | 146 => 288 | 51 => 280 | n => n, fun | 1 => 13 | n => n⟩
theorem Tryz.lays143 : Go.Proofs.Lays.n143 Tryz.prog Tryz.lays143_ren := {
  mixed := by kernel_rfl
  f143 := Tryz.func73.trans (congrArg some (by kernel_rfl))
  f217 := Tryz.func170.trans (congrArg some (by kernel_rfl))
  f219 := Tryz.func124.trans (congrArg some (by kernel_rfl))
  f224 := Tryz.func172.trans (congrArg some (by kernel_rfl))
  f225 := Tryz.func171.trans (congrArg some (by kernel_rfl))
  f266 := Tryz.func210.trans (congrArg some (by kernel_rfl))
  f267 := Tryz.func173.trans (congrArg some (by kernel_rfl))
  f314 := Tryz.func211.trans (congrArg some (by kernel_rfl))
  t3 := Tryz.underlying3
  a3 := Tryz.isAgg3
  z3 := Tryz.sizeOf3
  v3 := Tryz.zeroValue3
  t4 := Tryz.underlying4
  a4 := Tryz.isAgg4
  z4 := Tryz.sizeOf4
  v4 := Tryz.zeroValue4
  t5 := Tryz.underlying5
  a5 := Tryz.isAgg5
  z5 := Tryz.sizeOf5
  v5 := Tryz.zeroValue5
  t9 := Tryz.underlying9
  a9 := Tryz.isAgg9
  z9 := Tryz.sizeOf9
  v9 := Tryz.zeroValue9
  t46 := Tryz.underlying236
  a46 := Tryz.isAgg236
  z46 := Tryz.sizeOf236
  v46 := Tryz.zeroValue236
  t51 := Tryz.underlying280
  a51 := Tryz.isAgg280
  z51 := Tryz.sizeOf280
  v51 := Tryz.zeroValue280
  t146 := Tryz.underlying288
  a146 := Tryz.isAgg288
  z146 := Tryz.sizeOf288
  v146 := Tryz.zeroValue288
  g1 := by kernel_rfl }
open Go.RowKit Go.Lib in
theorem Tryz.strings_Index_one (s : ByteArray) (c : UInt8) (w : World) :
    Calls Tryz.prog 73 #[.string s, .string ⟨#[c]⟩] w fun e w' => e = .returned (.int .i64 (Lib.indexByte s.data.toList c)) ∧ w' = w := Any.strings_Index_one Tryz.lays143 s c w
open Go.RowKit Go.Lib in
theorem Tryz.strings_Index (s sub : ByteArray) (m : Int) (w : World) (hs : s.size < 4294967281) (hm : w.cell? ⟨13, 0, none⟩ = some (.int .i64 m)) :
    Calls Tryz.prog 73 #[.string s, .string sub] w fun e w' => e = .returned (.int .i64 (Lib.index s.data.toList sub.data.toList)) ∧ w' = w := Any.strings_Index Tryz.lays143 s sub m w hs hm
end Go.Proofs
