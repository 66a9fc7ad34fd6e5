/- slices.SortStableFunc at tithebarn/api.Lot: walked whole. Lots: Sorted. The program's book: Lots. -/
import Derived.Test.YtphgakobfegpcaaGreatDoorM07
import Derived.Test.YtphgakobfegpcaaGreatDoorM12
import Derived.Test.YtphgakobfegpcaaGreatDoorM19
import Derived.Test.YtphgakobfegpcaaGreatDoorM20
import Derived.Test.YtphgakobfegpcaaGreatDoorM22
import Derived.Test.YtphgakobfegpcaaGreatDoorM29
import Derived.Test.YtphgakobfegpcaaGreatDoorM42
import Derived.Test.YtphgakobfegpcaaGreatDoorM46
namespace Go.Proofs.YtphgakobfegpcaaGreatDoor.StabLot
open Go.Sort Go.RowKit Go.Lib Go.Proofs Go.Proofs.YtphgakobfegpcaaGreatDoor.Stab
variable {α : Type} [Inhabited α]

theorem sym_any {P : Program} {K : Nat} (L : Fits P K) (enc : α → List Value) (cf : α → α → Int) (hO : SWO (ltOf cf)) (g : Nat) (cb : Array Value) (eg : ∀ args w, (callFunc g args).run P w = .ok (.enter g args) w) (blk off cap sz : Nat) (d0 : Array α) (w0 : World) (R : RowK enc K w0 blk off d0) (hC : CmpLays P g cb enc K cf blk off d0.size w0)
    (hsz0 : sz = d0.size) (hsz : sz < 4611686018427387904) : ∀ N, SymIH P K enc cf g cb blk off cap sz w0 N
  | 0 => fun A U V B a m b w h1 h2 h3 => by omega
  | N + 1 => fun A U V B a m b w h1 h2 h3 ha hm hb hlen hU hV S => by
    by_cases hu : U.length = 1
    · obtain ⟨x, rfl⟩ := List.length_eq_one_iff.1 hu
      exact sym_one L enc cf hO g cb eg blk off cap d0 w0 w R hC A V B x hV a m b sz hsz0 ha (by simpa using hm) hb h3 (by omega) hsz S
    · by_cases hv : V.length = 1
      · obtain ⟨x, rfl⟩ := List.length_eq_one_iff.1 hv
        exact sym_last L enc cf hO g cb eg blk off cap d0 w0 w R hC A U B x hU a m b sz hsz0 ha hm (by simpa using hb) (by omega) (by omega) hsz S
      · exact sym_gen L enc cf hO g cb eg blk off cap d0 w0 w R hC A U V B hU hV a m b sz N hsz0 ha hm hb (by omega) (by omega) (by omega) hlen hsz S (sym_any L enc cf hO g cb eg blk off cap sz d0 w0 R hC hsz0 hsz N)

/-- The insertion sort of a part. -/
theorem ins_any (enc : α → List Value) (cf : α → α → Int) (hO : SWO (ltOf cf)) (g : Nat) (cb : Array Value) (eg : ∀ args w, (callFunc g args).run Tryz.prog w = .ok (.enter g args) w) (blk off cap sz : Nat) (d0 : Array α) (w0 w : World) (R : RowK enc 4 w0 blk off d0) (hC : CmpLays Tryz.prog g cb enc 4 cf blk off d0.size w0)
    (hsz0 : sz = d0.size) (hsz : sz < 4611686018427387904) (A M B : List α) (a b : Nat) (ha : a = A.length) (hb : b = a + M.length) (hlen : b + B.length = sz) (S : SWK enc 4 w0 blk off (A ++ (M ++ B)).toArray w) :
    Calls Tryz.prog 214 #[.slice (some ⟨blk, off, none⟩) sz cap, .int .i64 (a : Nat), .int .i64 (b : Nat), .func (.func g) #[] cb] w fun e w' =>
      e = .returned (.tuple #[]) ∧ SWK enc 4 w0 blk off (A ++ (srt (ltOf cf) M ++ B)).toArray w' := by
  have hds : (A ++ (M ++ B)).toArray.size = d0.size := by simp; omega
  have hds' : (A ++ (M ++ B)).toArray.size = sz := by rw [hds, hsz0]
  have h := AnyQ.insertionSortCmpFunc (P := Tryz.prog) Tryz.insLot 4 Tryz.isAgg65 Tryz.sizeOf65 enc R.hk R.h1 cf g cb blk off cap a b (A ++ (M ++ B)).toArray w eg ?_ (S.holds R.hblk R.hH hds) (S.lt R.hblk) (by omega) (by rw [hds']; omega) (by rw [hds']; exact hsz)
  · rw [hds'] at h
    refine (show Calls Tryz.prog 214 _ _ _ from h).mono ?_
    rintro e w' ⟨he, n, os, rfl⟩
    refine ⟨he, ?_⟩
    have e9 := insertionSort_list hO A M B
    rw [← ha, ← hb] at e9
    rw [e9]
    refine S.on R.hblk n _ os ?_
    simp [srt_length]
  · intro n os dk hs x y
    obtain ⟨m0, os0, rfl⟩ := S
    have hh := SWK.on (w0 := w0) (enc := enc) (k := 4) (blk := blk) (off := off) ⟨m0, os0, rfl⟩ R.hblk n dk os hs
    obtain ⟨m1, os1, e1⟩ := hh
    rw [e1]
    exact hC m1 os1 dk (hs.trans hds) x y

set_option maxHeartbeats 1000000 in
set_option maxRecDepth 1000000 in
theorem stable_any (enc : α → List Value) (cf : α → α → Int) (hO : SWO (ltOf cf)) (g : Nat) (cb : Array Value) (eg : ∀ args w, (callFunc g args).run Tryz.prog w = .ok (.enter g args) w) (blk off cap sz : Nat) (d0 : Array α) (w0 w : World) (R : RowK enc 4 w0 blk off d0) (hC : CmpLays Tryz.prog g cb enc 4 cf blk off d0.size w0)
    (hsz0 : sz = d0.size) (hsz : sz ≤ 1000000000000) (l : List α) (hl : l.length = sz) (S : SWK enc 4 w0 blk off l.toArray w) :
    Calls Tryz.prog 179 #[.slice (some ⟨blk, off, none⟩) sz cap, .int .i64 (sz : Nat), .func (.func g) #[] cb] w fun e w' =>
      e = .returned (.tuple #[]) ∧ SWK enc 4 w0 blk off (srt (ltOf cf) l).toArray w' := by
  have hINS : ∀ (A M B : List α) (a b : Nat) (w : World), a = A.length → b = a + M.length → b + B.length = sz → SWK enc 4 w0 blk off (A ++ (M ++ B)).toArray w →
      Calls Tryz.prog 214 #[.slice (some ⟨blk, off, none⟩) sz cap, .int .i64 (a : Nat), .int .i64 (b : Nat), .func (.func g) #[] cb] w fun e w' => e = .returned (.tuple #[]) ∧ SWK enc 4 w0 blk off (A ++ (srt (ltOf cf) M ++ B)).toArray w' :=
    fun A M B a b w h1 h2 h3 h4 => ins_any enc cf hO g cb eg blk off cap sz d0 w0 w R hC hsz0 (by omega) A M B a b h1 h2 h3 h4
  have INS := Lib.hid hINS
  have SYM := Lib.hid (sym_any (fits) enc cf hO g cb eg blk off cap sz d0 w0 R hC hsz0 (by omega) sz)
  have HO := Lib.hid hO
  have HL := Lib.hid hl
  have HS := Lib.hid S
  clear hINS R hC hO hl S hsz0 eg
  go_enter Tryz.func179, Tryz.ntmps179
  go_wp2
  go_loopg [7, 8] sz (fun kx sa sb wr => ∃ (a b : Nat) (Q T : List α), sa = .int .i64 a ∧ sb = .int .i64 b ∧ a + 20 ≤ b ∧ b ≤ a + 20 ∧ a ≤ sz ∧ sz - a ≤ kx ∧ Hid (a = Q.length ∧ a + T.length = sz ∧ blks (ltOf cf) 20 l = Q ++ blks (ltOf cf) 20 T ∧ SWK enc 4 w0 blk off (Q ++ T).toArray wr))
  case atStart => exact ⟨0, 20, [], l, rfl, rfl, by omega, by omega, by omega, by omega, ⟨rfl, by rw [HL.out]; omega, rfl, HS.out⟩⟩
  case round =>
    obtain ⟨a, b, Q, T, rfl, rfl, hab, hba, ha, hk, H⟩ := hrel
    by_cases hlt : b ≤ sz
    · have hz : (b : Int) ≤ (sz : Int) := by omega
      go_wp2_with fail
      obtain ⟨h1, h2, h3, h4⟩ := H.out
      have eT : T = T.take 20 ++ T.drop 20 := (List.take_append_drop _ _).symm
      have n1 : (T.take 20).length = 20 := by rw [List.length_take]; omega
      have n2 : (T.drop 20).length = T.length - 20 := by rw [List.length_drop]
      refine (INS.out Q (T.take 20) (T.drop 20) a b wr h1 (by omega) (by omega) (by rw [← eT]; exact h4)).mono ?_
      rintro e w1 ⟨rfl, S1⟩
      have e5 : blks (ltOf cf) 20 l = (Q ++ srt (ltOf cf) (T.take 20)) ++ blks (ltOf cf) 20 (T.drop 20) := by
        have := blks_full (lt := ltOf cf) 20 (by omega) (T.take 20) (T.drop 20) n1
        rw [← eT] at this
        rw [h3, this, List.append_assoc]
      have H1 : Hid (b = (Q ++ srt (ltOf cf) (T.take 20)).length ∧ b + (T.drop 20).length = sz ∧ blks (ltOf cf) 20 l = (Q ++ srt (ltOf cf) (T.take 20)) ++ blks (ltOf cf) 20 (T.drop 20) ∧ SWK enc 4 w0 blk off ((Q ++ srt (ltOf cf) (T.take 20)) ++ T.drop 20).toArray w1) :=
        ⟨by rw [List.length_append, srt_length]; omega, by omega, e5, by rw [List.append_assoc]; exact S1⟩
      clear h1 h2 h3 h4 eT n1 n2 S1 e5
      go_wp2
      go_roundg (sz - b)
      case measure => omega
      case rel => exact ⟨b, b + 20, _, _, rfl, by go_num, by omega, by omega, by omega, by omega, H1⟩
    · have hz : ¬ (b : Int) ≤ (sz : Int) := by omega
      go_wp2_with fail
      obtain ⟨h1, h2, h3, h4⟩ := H.out
      have hI := INS.out Q T [] a sz wr h1 (by omega) (by simp) (by rw [List.append_nil]; exact h4)
      refine hI.mono ?_
      rintro e w1 ⟨rfl, S1⟩
      have S2 : Hid (SWK enc 4 w0 blk off (blks (ltOf cf) 20 l).toArray w1) := by
        rw [h3, blks_small 20 T (by omega)]
        rw [List.append_nil] at S1
        exact S1
      clear h1 h2 h3 h4 hI S1 H
      go_wp2_with fail
      go_loopg [6, 7, 8, 9] sz (fun kx s6 s7 s8 s9 wr2 => ∃ bs : Nat, s6 = .int .i64 bs ∧ 20 ≤ bs ∧ bs ≤ 2 * sz + 20 ∧ sz - bs ≤ kx ∧ Hid (SWK enc 4 w0 blk off (blks (ltOf cf) bs l).toArray wr2))
      case atStart => exact ⟨20, rfl, by omega, by omega, by omega, S2⟩
      case round =>
        obtain ⟨bs, rfl, hb1, hb2, hkx, S3⟩ := hrel
        by_cases hlt : bs < sz
        · have hz2 : (bs : Int) < (sz : Int) := by omega
          obtain ⟨wo, hwo⟩ : ∃ wo : World, wo = wr := ⟨_, rfl⟩
          subst hwo
          go_wp2_with fail
          go_loopg [7, 8] sz (fun ky sa sb wr3 => ∃ (a b : Nat) (Q T : List α), sa = .int .i64 a ∧ sb = .int .i64 b ∧ a + 2 * bs ≤ b ∧ b ≤ a + 2 * bs ∧ a ≤ sz ∧ sz - a ≤ ky ∧ Hid (a = Q.length ∧ a + T.length = sz ∧ blks (ltOf cf) (2 * bs) l = Q ++ blks (ltOf cf) (2 * bs) T ∧ SWK enc 4 w0 blk off (Q ++ blks (ltOf cf) bs T).toArray wr3))
          case atStart => exact ⟨0, 2 * bs, [], l, rfl, by congr 1, by omega, by omega, by omega, by omega, ⟨rfl, by rw [HL.out]; omega, rfl, S3.out⟩⟩
          case round =>
            obtain ⟨a, b, Q, T, rfl, rfl, hab, hba, ha, hk, H⟩ := hrel
            by_cases hle : b ≤ sz
            · have hz3 : (b : Int) ≤ (sz : Int) := by omega
              go_wp2_with fail
              obtain ⟨h1, h2, h3, h4⟩ := H.out
              have eT : T.take (2 * bs) ++ T.drop (2 * bs) = T := List.take_append_drop _ _
              have n0 : (T.take (2 * bs)).length = 2 * bs := by rw [List.length_take]; omega
              obtain ⟨M1, hM1⟩ : ∃ M, M = (T.take (2 * bs)).take bs := ⟨_, rfl⟩
              obtain ⟨M2, hM2⟩ : ∃ M, M = (T.take (2 * bs)).drop bs := ⟨_, rfl⟩
              have n1 : M1.length = bs := by rw [hM1, List.length_take]; omega
              have n2 : M2.length = bs := by rw [hM2, List.length_drop]; omega
              have eM : M1 ++ M2 = T.take (2 * bs) := by rw [hM1, hM2]; exact List.take_append_drop _ _
              obtain ⟨T', hT'⟩ : ∃ M, M = T.drop (2 * bs) := ⟨_, rfl⟩
              have n3 : T'.length = T.length - 2 * bs := by rw [hT', List.length_drop]
              rw [← eM, ← hT'] at eT
              have b1 : blks (ltOf cf) bs T = srt (ltOf cf) M1 ++ (srt (ltOf cf) M2 ++ blks (ltOf cf) bs T') := by
                rw [← eT, List.append_assoc, blks_full bs (by omega) _ _ n1, blks_full bs (by omega) _ _ n2]
              have b2 : blks (ltOf cf) (2 * bs) T = mrg (ltOf cf) (srt (ltOf cf) M1) (srt (ltOf cf) M2) ++ blks (ltOf cf) (2 * bs) T' := by
                rw [← eT, blks_full (2 * bs) (by omega) _ _ (by rw [List.length_append]; omega), srt_append HO.out]
              rw [show ((a : Int) + (bs : Int)) = ((a + bs : Nat) : Int) by omega]
              refine (SYM.out Q (srt (ltOf cf) M1) (srt (ltOf cf) M2) (blks (ltOf cf) bs T') a (a + bs) b wr (by rw [srt_length, srt_length]; omega) (by rw [srt_length]; omega) (by rw [srt_length]; omega) h1 (by rw [srt_length]; omega) (by rw [srt_length]; omega) (by rw [blks_length bs (by omega)]; omega) (srt_sorted HO.out _) (srt_sorted HO.out _) (by rw [← b1]; exact h4)).mono ?_
              rintro e w4 ⟨rfl, S4⟩
              have H1 : Hid (b = (Q ++ mrg (ltOf cf) (srt (ltOf cf) M1) (srt (ltOf cf) M2)).length ∧ b + T'.length = sz ∧ blks (ltOf cf) (2 * bs) l = (Q ++ mrg (ltOf cf) (srt (ltOf cf) M1) (srt (ltOf cf) M2)) ++ blks (ltOf cf) (2 * bs) T' ∧ SWK enc 4 w0 blk off ((Q ++ mrg (ltOf cf) (srt (ltOf cf) M1) (srt (ltOf cf) M2)) ++ blks (ltOf cf) bs T').toArray w4) :=
                ⟨by rw [List.length_append, mrg_length, srt_length, srt_length]; omega, by omega, by rw [h3, b2, List.append_assoc], by rw [List.append_assoc]; exact S4⟩
              clear h1 h2 h3 h4 eT n0 n1 n2 n3 eM hM1 hM2 hT' b1 b2 S4 H
              go_wp2
              go_roundg (sz - b)
              case measure => omega
              case rel => exact ⟨b, b + 2 * bs, _, _, rfl, by congr 1, by omega, by omega, by omega, by omega, H1⟩
            · have hz3 : ¬ (b : Int) ≤ (sz : Int) := by omega
              obtain ⟨h1, h2, h3, h4⟩ := H.out
              by_cases hm : a + bs < sz
              · have hz4 : (a : Int) + (bs : Int) < (sz : Int) := by omega
                obtain ⟨M1, hM1⟩ : ∃ M, M = T.take bs := ⟨_, rfl⟩
                obtain ⟨M2, hM2⟩ : ∃ M, M = T.drop bs := ⟨_, rfl⟩
                have n1 : M1.length = bs := by rw [hM1, List.length_take]; omega
                have n2 : M2.length = T.length - bs := by rw [hM2, List.length_drop]
                have eM : M1 ++ M2 = T := by rw [hM1, hM2]; exact List.take_append_drop _ _
                have b1 : blks (ltOf cf) bs T = srt (ltOf cf) M1 ++ srt (ltOf cf) M2 := by
                  rw [← eM, blks_full bs (by omega) _ _ n1, blks_small bs M2 (by omega)]
                have b2 : blks (ltOf cf) (2 * bs) T = mrg (ltOf cf) (srt (ltOf cf) M1) (srt (ltOf cf) M2) := by
                  rw [blks_small (2 * bs) T (by omega), ← eM, srt_append HO.out]
                have hS := SYM.out Q (srt (ltOf cf) M1) (srt (ltOf cf) M2) [] a (a + bs) sz wr (by rw [srt_length, srt_length]; omega) (by rw [srt_length]; omega) (by rw [srt_length]; omega) h1 (by rw [srt_length]; omega) (by rw [srt_length]; omega) (by simp) (srt_sorted HO.out _) (srt_sorted HO.out _) (by rw [List.append_nil, ← b1]; exact h4)
                have B2 := Lib.hid (show blks (ltOf cf) (2 * bs) l = Q ++ (mrg (ltOf cf) (srt (ltOf cf) M1) (srt (ltOf cf) M2) ++ []) by rw [List.append_nil, h3, b2])
                have HSY := Lib.hid hS
                clear h1 h2 h3 h4 n1 n2 eM hM1 hM2 b1 b2 hS H
                go_wp2_with fail
                rw [show ((a : Int) + (bs : Int)) = ((a + bs : Nat) : Int) by omega]
                refine HSY.out.mono ?_
                rintro e w4 ⟨rfl, S4⟩
                rw [← B2.out] at S4
                have H4 := Lib.hid S4
                clear S4 HSY
                go_wp2
                go_roundg (sz - 2 * bs)
                case measure => omega
                case rel => exact ⟨2 * bs, by congr 1; omega, by omega, by omega, Nat.le_refl _, H4⟩
              · have hz4 : ¬ (a : Int) + (bs : Int) < (sz : Int) := by omega
                have H4 : Hid (SWK enc 4 w0 blk off (blks (ltOf cf) (2 * bs) l).toArray wr) := by
                  rw [h3, blks_small (2 * bs) T (by omega)]
                  rw [blks_small bs T (by omega)] at h4
                  exact h4
                clear h1 h2 h3 h4 H
                go_wp2
                go_roundg (sz - 2 * bs)
                case measure => omega
                case rel => exact ⟨2 * bs, by congr 1; omega, by omega, by omega, Nat.le_refl _, H4⟩
        · have hz2 : ¬ (bs : Int) < (sz : Int) := by omega
          go_wp2_with fail
          go_end0
          refine ⟨rfl, ?_⟩
          have := S3.out
          rw [blks_small bs l (by rw [HL.out]; omega)] at this
          exact this
end Go.Proofs.YtphgakobfegpcaaGreatDoor.StabLot
namespace Go.Proofs.YtphgakobfegpcaaGreatDoor
open Go.RowKit Go.Sort Go.Proofs

theorem lotInfo : (Tryz.prog.info? 65).map (fun i => (i.zero, i.size, i.bytes)) = some (some (.agg #[.string ⟨#[]⟩, .string ⟨#[]⟩, .int .i64 0, .int .i64 0]), 4, 48) := by kernel_rfl
theorem egLot : ∀ args w, (callFunc 95 args).run Tryz.prog w = .ok (.enter 95 args) w := enters_of Tryz.func95 (by kernel_rfl) rfl
theorem cmpLaysLot (blk off size : Nat) (w : World) : CmpLays Tryz.prog 95 #[] encLot 4 cfLot blk off size w := fun _ _ _ _ x y => cmpLot_any x y _

set_option maxHeartbeats 400000 in
theorem sortLots_any (g cap : Nat) (xs : List LotV) (w : World) (hn : xs.length ≤ 1000000) (hg : g < w.heap.size) (hH : HoldsK encLot 4 w g 0 xs.toArray) :
    Calls Tryz.prog 142 #[.slice (some ⟨g, 0, none⟩) xs.length cap, .func (.func 95) #[] #[]] w fun e w' =>
      e = .returned (.tuple #[]) ∧ SWK encLot 4 w g 0 (Stab.srt (ltOf cfLot) xs).toArray w' := by
  have R : RowK encLot 4 w g 0 xs.toArray := ⟨encLot_len, encLot_one, hH, hg⟩
  have hc := StabLot.stable_any encLot cfLot swoLot 95 #[] egLot g 0 cap xs.length xs.toArray w w R (cmpLaysLot g 0 _ w) (by simp) (by omega) xs rfl (SWK.start hH)
  have HC := Lib.hid hc
  generalize xs.length = n at HC
  clear hc R hH
  go_enter Tryz.func142, Tryz.ntmps142
  go_wp2_with fail
  refine HC.out.mono ?_
  rintro e w1 ⟨rfl, S1⟩
  have H1 := Lib.hid S1
  clear S1 HC
  go_wp2
  go_end0
  exact ⟨rfl, H1.out⟩

/-- What Sorted tells. -/
def SortedEnds (xs : List LotV) (w : World) (e : Ending) (w' : World) : Prop :=
  ∃ A cap, e = .returned (.slice A xs.length cap) ∧ (xs = [] → A = none ∧ cap = 0) ∧ RowAt encLot 4 w' A (Stab.srt (ltOf cfLot) xs) ∧ (∀ a, A = some a → w.heap.size ≤ a.block) ∧ Below w.heap.size w w'

set_option maxHeartbeats 400000 in
theorem sorted_any (A : Option Addr) (cap : Nat) (xs : List LotV) (w : World) (hn : xs.length ≤ 1000000) (hX : RowAt encLot 4 w A xs) (h0 : xs ≠ []) :
    Calls Tryz.prog 94 #[.slice A xs.length cap] w (SortedEnds xs w) := by
  obtain ⟨i0, hi, hz0, hz1, hz2⟩ := info_parts lotInfo
  obtain ⟨b, o, rfl, hb, _⟩ := hX.resolve_left h0
  have hcl : Calls Tryz.prog 141 #[.slice (some ⟨b, o, none⟩) xs.length cap] w fun e w' => ∃ v', e = .returned v' ∧ w'.ownsRow w.heap.size 65 4 v' xs.length (flatL encLot xs) ∧ v' ≠ .slice none 0 0 ∧ Below w.heap.size w w' :=
    AnyE.slices_Clone Tryz.cloneLot i0 _ 4 48 hi hz0 hz1 hz2 rfl (by decide) Tryz.sizeOf65 b o xs.length cap (flatL encLot xs) w (flatL_length encLot_len xs) (by unfold maxLen; omega) (by omega) (hX.news encLot_len (by decide) rfl) (fun u hu => by
      obtain ⟨x, _, hx⟩ := List.mem_flatMap.1 hu
      exact encLot_one x u hx)
  have HCL := Lib.hid hcl
  clear hcl hX
  obtain ⟨n, hnn⟩ : ∃ n, n = xs.length := ⟨_, rfl⟩
  have HN := Lib.hid hnn
  rw [← hnn] at HCL hn ⊢
  clear hnn
  go_enter Tryz.func94, Tryz.ntmps94
  go_wp2_with fail
  refine HCL.out.mono ?_
  rintro e w1 ⟨v, rfl, hown, hne, b1⟩
  obtain ⟨g, cp, cur, rfl, hB, hg⟩ : ∃ g cp cur, v = .slice (some ⟨g, 0, none⟩) n cp ∧ w.heap.size ≤ g ∧ w1.heap[g]? = some (.cells cur 65 (0, 0)) := by
    rcases hown.2 with ⟨h, _⟩ | ⟨g, cp, cur, h, h1, h2, _⟩
    · exact absurd h hne
    · exact ⟨g, cp, cur, h, h1, h2⟩
  have hgl : g < w1.heap.size := by
    rcases Nat.lt_or_ge g w1.heap.size with hl | hl
    · exact hl
    · rw [Array.getElem?_eq_none hl] at hg; cases hg
  have hH : HoldsK encLot 4 w1 g 0 xs.toArray := holds_of_own encLot_len (by decide) (by rw [HN.out] at hown; exact hown)
  have hso := sortLots_any g cp xs w1 (by rw [← HN.out]; exact hn) hgl hH
  rw [← HN.out] at hso
  have HSO := Lib.hid hso
  have HH := Lib.hid hH
  have B1 := Lib.hid b1
  clear hso hH hown hne hg b1 HCL
  go_wp2_with fail
  refine HSO.out.mono ?_
  rintro e w2 ⟨rfl, S2⟩
  have H2 := Lib.hid S2
  clear S2 HSO
  go_wp2
  go_ret
  refine ⟨_, _, by rw [← HN.out]; rfl, fun h => absurd h h0, ?_, fun a ha => by cases ha; exact hB, sort_below B1.out H2.out hB B1.out.size⟩
  exact RowAt.of_sort encLot_len ⟨encLot_len, encLot_one, HH.out, hgl⟩ H2.out (by rw [Stab.srt_length, List.size_toArray])

set_option maxHeartbeats 400000 in
theorem insLots_none (w : World) : Calls Tryz.prog 214 #[.slice none 0 0, .int .i64 0, .int .i64 0, .func (.func 95) #[] #[]] w fun e w' => e = .returned (.tuple #[]) ∧ w = w' := by
  go_enter Tryz.func214, Tryz.ntmps214
  go_wp2
  refine wp_loop_rounds 1 ?_
  rw [rounds_succ]
  go_wp2
  go_end0
  exact ⟨rfl, rfl⟩
set_option maxHeartbeats 400000 in
theorem stabLots_none (w : World) : Calls Tryz.prog 179 #[.slice none 0 0, .int .i64 0, .func (.func 95) #[] #[]] w fun e w' => e = .returned (.tuple #[]) ∧ w = w' := by
  go_enter Tryz.func179, Tryz.ntmps179
  go_wp2
  refine wp_loop_rounds 1 ?_
  rw [rounds_succ]
  go_wp2_with fail
  refine (insLots_none w).mono ?_
  rintro e w1 ⟨rfl, rfl⟩
  go_wp2
  refine wp_loop_rounds 1 ?_
  rw [rounds_succ]
  go_wp2
  go_end0
  exact ⟨rfl, rfl⟩
set_option maxHeartbeats 400000 in
theorem sorted_none (w : World) : Calls Tryz.prog 94 #[.slice none 0 0] w fun e w' => e = .returned (.slice none 0 0) ∧ w = w' := by
  have hcl : Calls Tryz.prog 141 #[.slice none 0 0] w fun e w' => e = .returned (.slice none 0 0) ∧ w' = w := AnyE.slices_Clone_nil Tryz.cloneLot 0 0 w
  have HCL := Lib.hid hcl
  have HSO : Hid (∀ W : World, Calls Tryz.prog 142 #[.slice none 0 0, .func (.func 95) #[] #[]] W fun e w' => e = .returned (.tuple #[]) ∧ W = w') := fun W => by
    go_enter Tryz.func142, Tryz.ntmps142
    go_wp2_with fail
    refine (stabLots_none W).mono ?_
    rintro e w1 ⟨rfl, rfl⟩
    go_wp2
    go_end0
    exact ⟨rfl, rfl⟩
  clear hcl
  go_enter Tryz.func94, Tryz.ntmps94
  go_wp2_with fail
  refine HCL.out.mono ?_
  rintro e w1 ⟨rfl, rfl⟩
  go_wp2_with fail
  refine (HSO.out _).mono ?_
  rintro e w1 ⟨rfl, rfl⟩
  go_wp2
  go_ret
  exact ⟨rfl, rfl⟩
end Go.Proofs.YtphgakobfegpcaaGreatDoor
namespace Go.Proofs.YtphgakobfegpcaaGreatDoor
open Go.RowKit Go.Sort Go.Proofs

theorem lots_len {B : BkV} (hI : BkI B) : ∀ x ∈ B.2.1, x.1.1.length ≤ 8 := fun x hx => by
  have h := (hI.lok x hx).1
  unfold lotE at h
  split at h
  · cases h
  · rename_i h2
    cases hn : nameB x.1.1 with
    | true => exact (nameB_len hn).2
    | false => exact absurd (by simp [hn]) h2
theorem filter_take_yes {α : Type} (p : α → Bool) (l : List α) (k : Nat) (h : k < l.length) (hp : p l[k] = true) : (l.take (k + 1)).filter p = (l.take k).filter p ++ [l[k]] := by
  rw [List.take_succ_eq_append_getElem h, List.filter_append, List.filter_cons_of_pos hp]
  rfl
theorem filter_take_no {α : Type} (p : α → Bool) (l : List α) (k : Nat) (h : k < l.length) (hp : p l[k] = false) : (l.take (k + 1)).filter p = (l.take k).filter p := by
  rw [List.take_succ_eq_append_getElem h, List.filter_append, List.filter_cons_of_neg (by simp [hp])]
  simp

set_option maxHeartbeats 1600000 in
set_option maxRecDepth 100000 in
theorem lotsBk_any {p : Nat} {F : List Nat} {B : BkV} {w : World} (H : BookIs w p F B) (hI : BkI B) (code : List UInt8) :
    Calls Tryz.prog 39 #[.pointer (some ⟨p, 0, none⟩), .string ⟨code.toArray⟩] w fun e w' => ∃ A cap, e = .returned (.slice A (lotsB B code).length cap) ∧ RowAt encLot 4 w' A (lotsB B code) ∧ (∀ a, A = some a → w.heap.size ≤ a.block) ∧ Below w.heap.size w w' := by
  obtain ⟨i0, hi, hz0, hz1, hz2⟩ := info_parts lotInfo
  obtain ⟨g, l, h, s, q, c, -, -, hm⟩ := H
  obtain ⟨⟨-, c1, -, -, -⟩, -⟩ := hm.cells
  have HC := Lib.hid (fun W (h : Below w.heap.size w W) => ((BookM.below hm h).cells).1.2.1)
  have HM := Lib.hid (fun W (h : Below w.heap.size w W) k => (hm.lots.below h).look (P := Tryz.prog) (t := 134) (kt := 9) (by kernel_rfl) Tryz.underlying134 (zeroLotE _) k false)
  obtain ⟨m, hM, hget⟩ := hm.lots
  obtain ⟨L, hL⟩ : ∃ L, L = B.2.1.map (·.1) := ⟨_, rfl⟩
  obtain ⟨ks, hks⟩ : ∃ ks, ks = B.2.1.map fun x : LoH => x.1.1 := ⟨_, rfl⟩
  have hl : ks.length = L.length := by rw [hks, hL]; simp
  have HG : Hid (∀ i (h : i < L.length) (h' : i < ks.length), lotsF B ks[i] = some L[i]) := fun i h h' => by
    have hi : i < B.2.1.length := by rw [hL] at h; simpa using h
    have e1 : ks[i] = B.2.1[i].1.1 := by simp [hks]
    have e2 : L[i] = B.2.1[i].1 := by simp [hL]
    rw [e1, e2]
    unfold lotsF
    rw [hI.fL_is (List.getElem_mem hi)]
    rfl
  have hp : (m.map (·.1)).Perm ks := by
    have := (lots_perm hI hM.nodup hget).map (·.1)
    rw [hks]
    rw [List.map_map] at this
    exact this
  have hsrt : ks.Pairwise fun x y => ltB x y = true := by rw [hks, List.pairwise_map]; exact hI.ls
  have hfew : ks.length ≤ 60 := by rw [hks, List.length_map]; exact hI.lfew
  have HK := Lib.hid (keysLots_any hM hp hsrt (fun k hk => by rw [hks] at hk; obtain ⟨x, hx, rfl⟩ := List.mem_map.1 hk; have := lots_len hI x hx; omega) (by omega))
  have HLO : Hid (lotsB B code = Stab.srt (ltOf cfLot) (L.filter fun x => decide (x.2.1 = code))) := by
    show _ = _
    rw [hL, List.filter_map]
    rfl
  obtain ⟨N, hN⟩ : ∃ N, N = ks.length := ⟨_, rfl⟩
  have HN := Lib.hid hN
  have HL : Hid (N = L.length) := hN.trans hl
  rw [← hN] at HK hfew
  have B0 := Lib.hid (below_one w (.cells #[.map (some l)] 134))
  have HFL := Lib.hid (fun k => by
    have h1 := List.length_filter_le (fun x : LotV => decide (x.2.1 = code)) (L.take k)
    have h2 : (L.take k).length ≤ L.length := List.length_take_le' _ _
    have h3 := HL.out
    exact (show ((L.take k).filter fun x => decide (x.2.1 = code)).length ≤ 60 by omega))
  generalize lotsB B code = LO at HLO ⊢
  clear hm hget hp hsrt hl hN hks hL hI hM
  go_enter Tryz.func39, Tryz.ntmps39
  go_wp2_with fail
  refine (mkLots_any _ _).mono ?_
  rintro e w1 ⟨rfl, rfl⟩
  clear c1
  go_wp2_with fail
  refine HK.out.mono ?_
  rintro e w2 ⟨A, cap, rfl, hst, b2⟩
  have B2 := Lib.hid (B0.out.trans (b2.mono B0.out.size))
  have HST := Lib.hid (fun W (h : Below w2.heap.size w2 W) => hst.below h)
  clear hst b2 HK B0
  go_wp2_with fail
  go_loopw [5, 15] (fun v i wr => ∃ k : Nat, k ≤ N ∧ i = .int .i64 k ∧ Hid (((L.take k).filter fun x => decide (x.2.1 = code)) = [] → v = .slice none 0 0) ∧ Hid (wr.ownsRow w2.heap.size 65 4 v ((L.take k).filter fun x => decide (x.2.1 = code)).length (flatL encLot ((L.take k).filter fun x => decide (x.2.1 = code)))) ∧ Hid (Below w2.heap.size w2 wr)) (fun _ i _ => N - (intOf i).toNat)
  case atStart => exact ⟨0, by omega, rfl, fun _ => rfl, World.ownsRow_nil _ _ _ _, Below.refl _ _⟩
  case round =>
    obtain ⟨k, hk, rfl, HZ, HOWN, HB⟩ := hrel
    by_cases hkN : k < N
    · have hkx : k < ks.length := by rw [← HN.out]; exact hkN
      have hkL : k < L.length := by rw [← HL.out]; exact hkN
      have hbw := B2.out.trans (HB.out.mono B2.out.size)
      obtain ⟨bk, o, rfl, lg, cg⟩ := HST.out wr HB.out |>.resolve_left (fun h => by rw [h] at hkx; simp at hkx)
      have ck := cg k hkx
      have hlook := HM.out wr hbw ks[k]
      have c1 := HC.out wr hbw
      rw [HG.out k hkL hkx] at hlook
      have HNY := Lib.hid (filter_take_yes (fun x : LotV => decide (x.2.1 = code)) L k hkL)
      have HNN := Lib.hid (filter_take_no (fun x : LotV => decide (x.2.1 = code)) L k hkL)
      obtain ⟨x, hx⟩ : ∃ x, x = L[k] := ⟨_, rfl⟩
      rw [← hx] at hlook HNY HNN
      have hfl := HFL.out k
      clear hx
      obtain ⟨x1, x2, x3, x4⟩ := x
      simp only [Option.getD_some, eLot, encLot, Bool.false_eq_true, if_false] at hlook
      have hfd : ∀ W : World, (Instr.field 65 (.agg #[.string ⟨x1.toArray⟩, .string ⟨x2.toArray⟩, .int .i64 x3, .int .i64 x4]) 1).run Tryz.prog W = .ok (.string ⟨x2.toArray⟩) W := fun _ => by kernel_rfl
      have hsz := HB.out.size
      generalize ks[k] = kk at ck hlook
      clear hbw cg
      by_cases hc : x2 = code
      · have hcb : (x2 == code) = true := by simpa using hc
        have HNX := Lib.hid (HNY.out (by simpa using hc))
        clear hc HNY HNN
        go_wp2_with (at_builtin; refine wpList_append_rows _ rfl (.tmp 28) (.tmp 35) 78 rfl w2.heap.size 65 i0 _ 48 Tryz.underlying78 hi hz0 hz1 hz2 rfl encLot_len (by decide) encLot_one u5 ((L.take k).filter fun x => decide (x.2.1 = code)).length (flatL encLot ((L.take k).filter fun x => decide (x.2.1 = code))) rfl (own_bl HOWN.out (below_one _ _)) (some ⟨wr.heap.size, 0, none⟩) 1 [(x1, x2, x3, x4)] rfl (row_one (heap_alloc_new _ _)) (by simp; omega) (by decide) (by simp; omega) ?_; intro v3 w3 HO3 hb3; have HB3 := Lib.hid hb3; clear hb3)
        go_roundw
        case rel =>
          refine ⟨k + 1, by omega, by go_num, ?_, ?_, (HB.out.trans ((below_one wr _).mono HB.out.size)).trans HB3.out⟩
          · show _ = _ → _
            rw [HNX.out]
            exact fun h => absurd h (by simp)
          · show World.ownsRow _ _ _ _ _ _ _
            rw [HNX.out, List.length_append, flatL_append]
            exact HO3.out
        case measure => simp [intOf]; omega
      · have hcb : (x2 == code) = false := by simpa using hc
        have HNX := Lib.hid (HNN.out (by simpa using hc))
        clear hc HNY HNN
        go_wp2_with fail
        go_roundw
        case rel =>
          refine ⟨k + 1, by omega, by go_num, ?_, ?_, HB.out⟩
          · show _ = _ → _
            rw [HNX.out]
            exact HZ.out
          · show World.ownsRow _ _ _ _ _ _ _
            rw [HNX.out]
            exact HOWN.out
        case measure => simp [intOf]; omega
    · obtain rfl : k = N := by omega
      have hT : L.take k = L := List.take_of_length_le (by rw [← HL.out]; exact Nat.le_refl _)
      have ho := HOWN.out
      have hz := HZ.out
      have hf := HFL.out k
      rw [hT] at ho hz hf
      generalize (L.filter fun x => decide (x.2.1 = code)) = X at ho hz hf HLO
      clear HFL HOWN HZ hT HST HG HM
      by_cases hX : X = []
      · have hv := hz hX
        subst hv
        have HE : Hid (LO = []) := HLO.out.trans (by rw [hX]; rfl)
        clear hX hz ho hf HLO
        go_wp2_with fail
        refine (sorted_none _).mono ?_
        rintro e w3 ⟨rfl, rfl⟩
        go_wp2_with fail
        go_ret
        rw [HE.out]
        exact ⟨none, 0, rfl, .inl rfl, (fun a ha => by cases ha), B2.out.trans (HB.out.mono B2.out.size)⟩
      · obtain ⟨A', c', rfl, hra, hge⟩ := RowAt.of_own encLot_len ho
        have HSO := Lib.hid (sorted_any A' c' X wr (by omega) hra hX)
        have HLN : Hid (LO.length = X.length) := by
          show _ = _
          rw [HLO.out, Stab.srt_length]
        clear hX hz ho hra hge hf
        go_wp2_with fail
        refine HSO.out.mono ?_
        rintro e w3 ⟨A3, c3, rfl, -, h2, h3, b3⟩
        have H2 := Lib.hid h2
        have H3 := Lib.hid h3
        have B3 := Lib.hid b3
        clear h2 h3 b3
        go_wp2_with fail
        go_ret
        rw [HLN.out]
        refine ⟨A3, c3, rfl, by rw [HLO.out]; exact H2.out, fun a ha => ?_, (B2.out.trans (HB.out.mono B2.out.size)).trans (B3.out.mono (Nat.le_trans B2.out.size HB.out.size))⟩
        have := H3.out a ha
        have := B2.out.size
        have := HB.out.size
        omega
end Go.Proofs.YtphgakobfegpcaaGreatDoor
