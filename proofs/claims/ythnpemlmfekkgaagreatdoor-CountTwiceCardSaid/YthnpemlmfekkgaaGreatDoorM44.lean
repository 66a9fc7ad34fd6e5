/- The law CountTwice, walked. A slice of entries that comes in as an argument, opened. Printed by gen/opener.py. -/
import Derived.Deep.Slices
import Derived.OpenShut
import Derived.SliceStrings
import Derived.Test.YthnpemlmfekkgaaGreatDoorM16
import Derived.Test.YthnpemlmfekkgaaGreatDoorM28
import Derived.Test.YthnpemlmfekkgaaGreatDoorM29
import Derived.Test.YthnpemlmfekkgaaGreatDoorM42
import Derived.Test.YthnpemlmfekkgaaGreatDoorM43
namespace Go.Proofs.YthnpemlmfekkgaaGreatDoor
open Go.RowKit Go.Sort Go.Proofs

theorem allOk_take0 (B : BkV) (l : List EntV) : allOk B (l.take 0) := trivial
/-- What a sheet's entries are: short. -/
theorem diffL_short {m : StkV} {l : List LineV} (h : ∀ x ∈ l, x.1.1.length ≤ 30 ∧ x.2.1.length ≤ 30) : ∀ x ∈ diffL m l, ShortE x := fun x hx => by
  unfold diffL at hx
  obtain ⟨y, hy, hx⟩ := List.mem_flatMap.1 hx
  obtain ⟨h1, h2⟩ := h y hy
  unfold diffX at hx
  split at hx
  · rw [List.mem_singleton.1 hx]
    simp [ShortE, zeroGoods, zeroPlace]
    omega
  split at hx
  · rw [List.mem_singleton.1 hx]
    simp [ShortE, zeroGoods, zeroPlace]
    omega
  · simp at hx
theorem diffB_inl {B : BkV} {l : List LineV} {out : List EntV} (h : diffB B l = .inl out) : out = diffL B.2.2 l := by
  unfold diffB at h
  split at h
  · cases h
  split at h
  · cases h
  · cases h
    rfl

set_option maxHeartbeats 1600000 in
set_option maxRecDepth 100000 in
theorem countTwice_out (E : Nat → Addr) (A0 : Option Addr) (cap0 : Nat) (xs0 : List EntV) (A1 : Option Addr) (cap1 : Nat) (xs1 : List LineV) (w : World) (hG : BkG E w) (hX0 : RowAt encEnt 14 w A0 xs0) (hX1 : RowAt encLine 5 w A1 xs1) (h : ¬ (longL xs0 40 = 0 ∧ longS xs1 = 0)) :
    Calls Tryz.prog 3 #[.slice A0 xs0.length cap0, .slice A1 xs1.length cap1] w fun e w' => e = .returned (.bool true) ∧ Below w.heap.size w w' := by
  have HC := Lib.hid (counted_any E w hG)
  have HL := Lib.hid (fun W (hb : Below w.heap.size w W) => longEntries_any A0 cap0 xs0 40 W (by decide) (hX0.below hb))
  have HS := Lib.hid (fun W (hb : Below w.heap.size w W) => longSheet_any A1 cap1 xs1 W (hX1.below hb))
  have h01 : longL xs0 40 = 0 ∨ longL xs0 40 = 1 := by
    unfold longL
    repeat' split
    all_goals simp
  have h02 : longS xs1 = 0 ∨ longS xs1 = 1 := by
    unfold longS
    repeat' split
    all_goals simp
  generalize longL xs0 40 = a at *
  generalize longS xs1 = b at *
  clear hG hX0 hX1
  rcases h01 with rfl | rfl
  · rcases h02 with rfl | rfl
    · exact absurd ⟨rfl, rfl⟩ h
    · clear h
      go_enter Tryz.func3, Tryz.ntmps3
      go_wp2_with fail
      refine HC.out.mono ?_
      rintro e w1 ⟨rfl, b1⟩
      have B1 := Lib.hid b1
      clear b1
      go_wp2_with fail
      refine (HL.out w1 B1.out).mono ?_
      rintro e w2 ⟨rfl, b2⟩
      have B2 := Lib.hid (B1.out.trans (b2.mono B1.out.size))
      clear b2
      go_wp2_with fail
      refine (HS.out w2 B2.out).mono ?_
      rintro e w3 ⟨rfl, b3⟩
      have B3 := Lib.hid (B2.out.trans (b3.mono B2.out.size))
      clear b3
      go_wp2_with fail
      go_ret
      exact ⟨rfl, B3.out⟩
  · clear h
    go_enter Tryz.func3, Tryz.ntmps3
    go_wp2_with fail
    refine HC.out.mono ?_
    rintro e w1 ⟨rfl, b1⟩
    have B1 := Lib.hid b1
    clear b1
    go_wp2_with fail
    refine (HL.out w1 B1.out).mono ?_
    rintro e w2 ⟨rfl, b2⟩
    have B2 := Lib.hid (B1.out.trans (b2.mono B1.out.size))
    clear b2
    go_wp2_with fail
    go_ret
    exact ⟨rfl, B2.out⟩

set_option maxHeartbeats 3200000 in
set_option maxRecDepth 100000 in
theorem countTwice_in (E : Nat → Addr) (A0 : Option Addr) (cap0 : Nat) (xs0 : List EntV) (A1 : Option Addr) (cap1 : Nat) (xs1 : List LineV) (w : World) (hG : BkG E w) (hE : ErrG E w) (hX0 : RowAt encEnt 14 w A0 xs0) (hX1 : RowAt encLine 5 w A1 xs1) (hC1 : xs1.length ≤ cap1)
    (hl0 : longL xs0 40 = 0) (hl1 : longS xs1 = 0) :
    Calls Tryz.prog 3 #[.slice A0 xs0.length cap0, .slice A1 xs1.length cap1] w fun e w' => e = .returned (.bool true) ∧ Below w.heap.size w w' := by
  have HC := Lib.hid (counted_any E w hG)
  have HL := Lib.hid (fun W (hb : Below w.heap.size w W) => longEntries_any A0 cap0 xs0 40 W (by decide) (hX0.below hb))
  have HS := Lib.hid (fun W (hb : Below w.heap.size w W) => longSheet_any A1 cap1 xs1 W (hX1.below hb))
  rw [hl0] at HL
  rw [hl1] at HS
  obtain ⟨s1, s2⟩ := longL_short hl0
  obtain ⟨s3, s4⟩ := longS_short hl1
  have HBO := Lib.hid (fun W (hb : Below w.heap.size w W) => bookOf_any E A0 cap0 xs0 W (hX0.below hb) (by omega) (fun x hx => longN_ShortE (s2 x hx)) (hG.below hb) (hE.below hb))
  have hI0 := BkI.all BkI.nil xs0
  generalize doAll bk0 xs0 = B at HBO hI0
  have HI := Lib.hid (fun l => BkI.all hI0 l)
  have HSH : Hid (∀ out, diffB B xs1 = .inl out → ∀ x ∈ out, ShortE x) := fun out h x hx => diffL_short s4 x (by rw [diffB_inl h] at hx; exact hx)
  have HLN : Hid (∀ out, diffB B xs1 = .inl out → out.length ≤ 30) := fun out h => by
    have := diffL_len B.2.2 xs1
    rw [diffB_inl h]
    omega
  have HTW := Lib.hid (fun out (h : diffB B xs1 = .inl out) h2 => ctwice_plain h h2)
  have HX1 := Lib.hid (fun W (hb : Below w.heap.size w W) => hX1.below hb)
  have HG := Lib.hid (fun W (hb : Below w.heap.size w W) => hG.below hb)
  have HDF := Lib.hid (fun out p F W (hb : Below w.heap.size w W) (H : BookIs W p F (doAll B out)) => cntDiff_any E A1 cap1 xs1 H (HI.out out) (hX1.below hb) (by omega) hC1 (hG.below hb))
  have HDO := Lib.hid (fun out p F x W (hb : Below w.heap.size w W) (H : BookIs W p F (doAll B out)) (hs : ShortE x) => do_any E x H (HI.out out) (by have := hs.2.1; omega) (by have := hs.2.2.1; omega) (hG.below hb))
  have HAT := Lib.hid (fun out pl lot q c W h => atStock_P (q := q) (c := c) (HI.out out).stk pl lot W h)
  obtain ⟨N, hN⟩ : ∃ N, N = xs1.length := ⟨_, rfl⟩
  have HN := Lib.hid hN
  rw [← hN] at HS HDF s3 ⊢
  clear hG hE hX0 hX1 hC1 hl0 hl1 s1 s2 s4 hI0 hN
  go_enter Tryz.func3, Tryz.ntmps3
  go_wp2_with fail
  refine HC.out.mono ?_
  rintro e w1 ⟨rfl, b1⟩
  have B1 := Lib.hid b1
  clear b1 HC
  go_wp2_with fail
  refine (HL.out w1 B1.out).mono ?_
  rintro e w2 ⟨rfl, b2⟩
  have B2 := Lib.hid (B1.out.trans (b2.mono B1.out.size))
  clear b2 HL B1
  go_wp2_with fail
  refine (HS.out w2 B2.out).mono ?_
  rintro e w3 ⟨rfl, b3⟩
  have B3 := Lib.hid (B2.out.trans (b3.mono B2.out.size))
  clear b3 HS B2
  go_wp2_with fail
  refine (HBO.out w3 B3.out).mono ?_
  rintro e w4 ⟨p, q0, rfl, hbo, b4⟩
  have B4 := Lib.hid (B3.out.trans (b4.mono B3.out.size))
  obtain ⟨F, G, R, hbk, -, hF, -, -⟩ := hbo
  have HF : Hid (∀ k ∈ F, w.heap.size ≤ k) := fun k hk => by have := (hF k hk).1; have := B3.out.size; omega
  have HBK := Lib.hid hbk
  clear b4 HBO hF B3 hbk
  go_wp2_with fail
  refine (HDF.out [] p F w4 B4.out HBK.out).mono ?_
  rintro e w5 ⟨hd, b5⟩
  have B5 := Lib.hid (B4.out.trans (b5.mono B4.out.size))
  have HBK5 := Lib.hid (HBK.out.below b5)
  have HLT := Lib.hid HBK.out.lt
  clear b5 HBK
  have hd' : DiffAt E w4.heap.size (diffB B xs1) e w5 := hd
  clear hd
  cases hr : diffB B xs1 with
  | inr f =>
    obtain ⟨fk, fi⟩ := f
    rw [hr] at hd'
    obtain ⟨v, rfl, hk0, b, rfl, hb⟩ := hd'
    clear hk0 hb hr
    go_wp2_with fail
    go_ret
    exact ⟨rfl, B5.out⟩
  | inl out =>
    rw [hr] at hd'
    obtain ⟨Ad, cd, rfl, hrow, hge⟩ := hd'
    have HLO := Lib.hid (HLN.out out hr)
    have HSO := Lib.hid (HSH.out out hr)
    have HTO := Lib.hid (HTW.out out hr)
    have HROW := Lib.hid hrow
    have HGE := Lib.hid hge
    obtain ⟨M, hM⟩ : ∃ M, M = out.length := ⟨_, rfl⟩
    have HM := Lib.hid hM
    rw [← hM] at HLO ⊢
    have hM30 := HLO.out
    clear hrow hge hr hM HLN HSH HTW HLO
    go_wp2_with fail
    go_loopw [11] (fun i wr => ∃ k : Nat, k ≤ M ∧ i = .int .i64 k ∧ Hid (allOk B (out.take k)) ∧ Hid (∃ F', BookIs wr p F' (doAll B (out.take k)) ∧ (∀ j ∈ F', w.heap.size ≤ j) ∧ (∀ a, Ad = some a → a.block ∉ F')) ∧ Hid (RowAt encEnt 14 wr Ad out) ∧ Hid (Below w.heap.size w wr)) (fun i _ => M - (intOf i).toNat)
    case atStart => exact ⟨0, by omega, rfl, trivial, ⟨F, HBK5.out, HF.out, fun a ha hf => by have := HGE.out a ha; have := HLT.out _ hf; omega⟩, HROW.out, B5.out⟩
    case round =>
      obtain ⟨k, hk, rfl, HOK, HBK, HRW, HB⟩ := hrel
      by_cases hkM : k < M
      · have hkx : k < out.length := by rw [← HM.out]; exact hkM
        obtain ⟨F', hbk, hf1, hf2⟩ := HBK.out
        obtain ⟨g, o, rfl, lg, cg⟩ := HRW.out |>.resolve_left (fun h => by rw [h] at hkx; simp at hkx)
        obtain ⟨x, hx⟩ : ∃ x, x = out[k] := ⟨_, rfl⟩
        have hlies : Lies wr g (o + k * 14) (encEnt x) := fun j v hv => cg k hkx j v (by rw [← hx]; exact hv)
        have HX := Lib.hid hx
        have hsx := HSO.out x (by rw [hx]; exact List.getElem_mem hkx)
        have HD := Lib.hid (HDO.out (out.take k) p F' x wr HB.out hbk hsx)
        have HLT' := Lib.hid hbk.lt
        have HNX : Hid (doB (doAll B (out.take k)) x = doAll B (out.take (k + 1))) := by
          show _ = _
          rw [doAll_take B out k hkx, hx]
        have HOX : Hid (doE (doAll B (out.take k)) x = 0 → allOk B (out.take (k + 1))) := fun h => allOk_take hkx HOK.out (by rw [← hx]; exact h)
        have HL := Lib.hid hlies
        have HF1 := Lib.hid hf1
        have HF2 := Lib.hid (hf2 _ rfl)
        have h14 : (encEnt x).length = 14 := rfl
        clear hx cg hlies hsx hbk hf1 hf2 HBK
        generalize doE (doAll B (out.take k)) x = de at HD HOX
        generalize encEnt x = LX at HD HL h14
        go_wp2_with (refine wpList_load_at rfl 43 _ rfl g (o + k * 14) rfl LX HL.out _ Tryz.underlying43 rfl (by rw [h14]; kernel_rfl) ?_)
        refine HD.out.mono ?_
        rintro e w6 ⟨rfl, ⟨F6, hb6, hf6⟩, bf6⟩
        have B6 := Lib.hid (HB.out.trans (bf6.below HB.out.size HF1.out))
        by_cases h0 : de = 0
        · have HBK6 : Hid (∃ F', BookIs w6 p F' (doAll B (out.take (k + 1))) ∧ (∀ j ∈ F', w.heap.size ≤ j) ∧ (∀ a, (some ⟨g, o, none⟩ : Option Addr) = some a → a.block ∉ F')) := by
            refine ⟨F6, by rw [← HNX.out]; exact hb6, fun j hj => ?_, fun a ha hf => ?_⟩
            · rcases hf6 j hj with h | h
              · exact HF1.out j h
              · have := HB.out.size; omega
            · cases ha
              rcases hf6 _ hf with h | h
              · exact HF2.out h
              · exact absurd lg (by simpa using h)
          have HRW6 : Hid (RowAt encEnt 14 w6 (some ⟨g, o, none⟩) out) := by
            rcases HRW.out with h | ⟨b', o', h1, h2, h3⟩
            · exact .inl h
            · cases h1
              exact .inr ⟨g, o, rfl, Nat.lt_of_lt_of_le h2 bf6.size, fun i hi c v hv => (World.cell?_of_block (bf6.block g h2 HF2.out)).trans (h3 i hi c v hv)⟩
          have HOK6 := Lib.hid (HOX.out h0)
          rw [h0, errOf_zero]
          clear h0 hb6 hf6 bf6 HOX HRW
          go_wp2_with fail
          go_roundw
          case rel => exact ⟨k + 1, by omega, by go_num, HOK6.out, HBK6.out, HRW6.out, B6.out⟩
          case measure => simp [intOf]; omega
        · rw [errOf_pos _ _ h0]
          clear h0 hb6 hf6 bf6 HOX HRW
          go_wp2_with fail
          go_ret
          exact ⟨rfl, B6.out⟩
      · obtain rfl : k = M := by omega
        have hT : out.take k = out := List.take_of_length_le (by rw [← HM.out]; exact Nat.le_refl _)
        rw [hT] at HOK HBK
        obtain ⟨F', hbk, -, -⟩ := HBK.out
        obtain ⟨hr2, hat⟩ := HTO.out HOK.out
        have HD := Lib.hid (HDF.out out p F' wr HB.out hbk)
        rw [hr2] at HD
        have HAX := Lib.hid hat
        have HBK' := Lib.hid hbk
        clear hT hbk hr2 hat HBK HTO HOK HRW
        go_wp2_with fail
        refine HD.out.mono ?_
        rintro e w6 ⟨⟨Ad2, cd2, rfl, -, -⟩, b6⟩
        have B6 := Lib.hid (HB.out.trans (b6.mono HB.out.size))
        have HST := Lib.hid (stockBk_any (HBK'.out.below b6))
        clear b6 HD HB HBK'
        go_wp2_with fail
        refine HST.out.mono ?_
        rintro e w7 ⟨qs, cs, rfl, -, -, hst, b7⟩
        have B7 := Lib.hid (B6.out.trans (b7.mono B6.out.size))
        have HSK := Lib.hid (fun W (hb : Below w7.heap.size w7 W) => hst.below hb)
        clear b7 hst HST B6
        go_wp2_with fail
        go_loopw [14] (fun i wr => ∃ j : Nat, j ≤ N ∧ i = .int .i64 j ∧ Hid (Below w7.heap.size w7 wr)) (fun i _ => N - (intOf i).toNat)
        case atStart => exact ⟨0, by omega, rfl, Below.refl _ _⟩
        case round =>
          obtain ⟨j, hj, rfl, HB7⟩ := hrel
          by_cases hjN : j < N
          · have hjx : j < xs1.length := by rw [← HN.out]; exact hjN
            obtain ⟨g, o, rfl, lg, cg⟩ := HX1.out w (Below.refl _ _) |>.resolve_left (fun h => by rw [h] at hjx; simp at hjx)
            obtain ⟨y, hy⟩ : ∃ y, y = xs1[j] := ⟨_, rfl⟩
            have hbw := B7.out.trans (HB7.out.mono B7.out.size)
            have HR5 : Hid (∀ W, Below w.heap.size w W → ∀ c v, (encLine y)[c]? = some v → W.cell? ⟨g, o + j * 5 + c, none⟩ = some v) := fun W hb c v hv =>
              (hb.cell (p := ⟨g, o + j * 5 + c, none⟩) lg).trans (cg j hjx c v (by rw [← hy]; exact hv))
            have hay := HAX.out y (by rw [hy]; exact List.getElem_mem hjx)
            have HA := Lib.hid (fun W (h : Below w7.heap.size w7 W) => HAT.out out y.1 y.2.1 qs cs W (HSK.out W h))
            generalize atM (doAll B out).2.2 (y.1, y.2.1) = am at HA hay
            obtain ⟨⟨a1, a2, a3⟩, a4, a5⟩ := y
            have ha5 : a5 = ((am : Nat) : Int) := hay.symm
            subst ha5
            simp only [encPlace] at HA
            have HUP : Hid (∀ W, Below w.heap.size w W → W.cell? ⟨g, o + j * 5, none⟩ = some (.string ⟨a1.toArray⟩) ∧ W.cell? ⟨g, o + j * 5 + 1, none⟩ = some (.int .i64 a2) ∧ W.cell? ⟨g, o + j * 5 + 2, none⟩ = some (.int .i64 a3) ∧ W.cell? ⟨g, o + j * 5 + 3, none⟩ = some (.string ⟨a4.toArray⟩) ∧ W.cell? ⟨g, o + j * 5 + 4, none⟩ = some (.int .i64 (am : Nat))) := fun W hb => by
              have h := HR5.out W hb
              exact ⟨h 0 _ rfl, h 1 _ rfl, h 2 _ rfl, h 3 _ rfl, h 4 _ rfl⟩
            have hd := hbw.drew
            have HD7 := Lib.hid (HB7.out.drew)
            have hj0 : (0 : Int) ≤ (j : Nat) := by omega
            have hjn : ((j : Nat) : Int) < (N : Nat) := by omega
            clear hy cg hay hbw HAX HAT HSK HR5
            go_wp2_with fail
            go_region_held3 (fun W => W.cell? ⟨g, o + j * 5, none⟩ = some (.string ⟨a1.toArray⟩) ∧ W.cell? ⟨g, o + j * 5 + 1, none⟩ = some (.int .i64 a2) ∧ W.cell? ⟨g, o + j * 5 + 2, none⟩ = some (.int .i64 a3) ∧ W.cell? ⟨g, o + j * 5 + 3, none⟩ = some (.string ⟨a4.toArray⟩) ∧ W.cell? ⟨g, o + j * 5 + 4, none⟩ = some (.int .i64 (am : Nat)))
              (first | exact HUP.out _ hd | exact HUP.out _ kk | go_keep)
              (first | (go_at_call 13; refine (HA.out _ HD7.out).mono ?_; rintro e v ⟨rfl, bb⟩; have kk := hd.trans (bb.mono hd.size)))
            all_goals
              have B8 := Lib.hid (HD7.out.trans (bb.mono HD7.out.size))
              clear kk bb hd HUP HA HD7
              go_wp2_with fail
              go_roundw
              case rel => exact ⟨j + 1, by omega, by go_num, B8.out⟩
              case measure => simp [intOf]; omega
          · obtain rfl : j = N := by omega
            go_wp2_with fail
            go_ret
            exact ⟨rfl, B7.out.trans (HB7.out.mono B7.out.size)⟩

theorem countTwice_walk (E : Nat → Addr) (A0 : Option Addr) (cap0 : Nat) (xs0 : List EntV) (A1 : Option Addr) (cap1 : Nat) (xs1 : List LineV) (w : World) (hG : BkG E w) (hE : ErrG E w) (hX0 : RowAt encEnt 14 w A0 xs0) (hX1 : RowAt encLine 5 w A1 xs1) (hC1 : xs1.length ≤ cap1) :
    Calls Tryz.prog 3 #[.slice A0 xs0.length cap0, .slice A1 xs1.length cap1] w fun e w' => e = .returned (.bool true) ∧ Below w.heap.size w w' := by
  by_cases h : longL xs0 40 = 0 ∧ longS xs1 = 0
  · exact countTwice_in E A0 cap0 xs0 A1 cap1 xs1 w hG hE hX0 hX1 hC1 h.1 h.2
  · exact countTwice_out E A0 cap0 xs0 A1 cap1 xs1 w hG hX0 hX1 h
end Go.Proofs.YthnpemlmfekkgaaGreatDoor
namespace Go.Proofs.YthnpemlmfekkgaaGreatDoor
open Go.RowKit Go.Sort Go.Proofs Go.ChangeShapes Go.WideShapes Go.Deep

set_option maxRecDepth 100000 in
set_option maxHeartbeats 1600000 in
theorem ents_of {H : Type} {enc : TypeId × Value → H} {W : World} {base : Nat} {v : Value} {d : DataW H} {p : List MemPlace} (hval : Value.okWide Tryz.prog W .any base 22 v)
    (h : DataW.Trod enc Tryz.prog W 0 (fun _ => true) true 22 v d p) : ∃ A cap xs, v = .slice A (List.length xs) cap ∧ RowAt encEnt 14 W A xs := by
  obtain ⟨A, len, cap, rfl⟩ := okWide_slice Tryz.underlying22 hval
  obtain ⟨fuel, hf⟩ := h
  rcases open_slice Tryz.underlying22 hf with ⟨hcs, _⟩ | ⟨a, len', cap', m, n, D, Pl, hcs, _, hl, _, hm, _, hall⟩
  · simp [Value.cells] at hcs
    obtain ⟨rfl, rfl, rfl⟩ := hcs
    exact ⟨none, 0, [], rfl, .inl rfl⟩
  · simp [Value.cells] at hcs
    obtain ⟨rfl, rfl, rfl⟩ := hcs
    simp only [if_true] at hm
    have each : ∀ i, i < len → ∃ q : EntV, (∀ c u, (encEnt q)[c]? = some u → W.cell? ((a.add (i * 14)).add c) = some u) := by
      intro i hi
      obtain ⟨cs, k1, g⟩ := hall i (by omega)
      rw [show Tryz.prog.cellsOf 43 = 14 by kernel_rfl] at k1
      obtain ⟨_, hlen, hcell⟩ := World.cells?_some k1
      obtain ⟨yg, ng, _, _, _, hlg, hg⟩ := DataW.trod_struct Tryz.underlying43 g
      have hlg : yg.length = 6 := hlg
      have g_0 := hg 0 _ rfl
      have g_1 := hg 1 _ rfl
      have g_2 := hg 2 _ rfl
      have g_3 := hg 3 _ rfl
      have g_4 := hg 4 _ rfl
      have g_5 := hg 5 _ rfl
      rw [List.getElem?_eq_getElem (by omega)] at g_0 g_1 g_2 g_3 g_4 g_5
      obtain ⟨s0, e0, _, wf0⟩ := DataW.trod_string Tryz.underlying9 g_0
      obtain ⟨yg_1, ng_1, _, _, _, hlg_1, hg_1⟩ := DataW.trod_struct Tryz.underlying37 g_1
      have hlg_1 : yg_1.length = 2 := hlg_1
      have g_1_0 := hg_1 0 _ rfl
      have g_1_1 := hg_1 1 _ rfl
      rw [List.getElem?_eq_getElem (by omega)] at g_1_0 g_1_1
      obtain ⟨s1, e1, _, wf1⟩ := DataW.trod_string Tryz.underlying9 g_1_0
      obtain ⟨n2, e2, _, wf2⟩ := DataW.trod_int Tryz.underlying3 g_1_1
      obtain ⟨yg_2, ng_2, _, _, _, hlg_2, hg_2⟩ := DataW.trod_struct Tryz.underlying39 g_2
      have hlg_2 : yg_2.length = 4 := hlg_2
      have g_2_0 := hg_2 0 _ rfl
      have g_2_1 := hg_2 1 _ rfl
      have g_2_2 := hg_2 2 _ rfl
      have g_2_3 := hg_2 3 _ rfl
      rw [List.getElem?_eq_getElem (by omega)] at g_2_0 g_2_1 g_2_2 g_2_3
      obtain ⟨s3, e3, _, wf3⟩ := DataW.trod_string Tryz.underlying9 g_2_0
      obtain ⟨s4, e4, _, wf4⟩ := DataW.trod_string Tryz.underlying9 g_2_1
      obtain ⟨n5, e5, _, wf5⟩ := DataW.trod_int Tryz.underlying3 g_2_2
      obtain ⟨n6, e6, _, wf6⟩ := DataW.trod_int Tryz.underlying3 g_2_3
      obtain ⟨yg_3, ng_3, _, _, _, hlg_3, hg_3⟩ := DataW.trod_struct Tryz.underlying41 g_3
      have hlg_3 : yg_3.length = 3 := hlg_3
      have g_3_0 := hg_3 0 _ rfl
      have g_3_1 := hg_3 1 _ rfl
      have g_3_2 := hg_3 2 _ rfl
      rw [List.getElem?_eq_getElem (by omega)] at g_3_0 g_3_1 g_3_2
      obtain ⟨s7, e7, _, wf7⟩ := DataW.trod_string Tryz.underlying9 g_3_0
      obtain ⟨n8, e8, _, wf8⟩ := DataW.trod_int Tryz.underlying3 g_3_1
      obtain ⟨n9, e9, _, wf9⟩ := DataW.trod_int Tryz.underlying3 g_3_2
      obtain ⟨yg_4, ng_4, _, _, _, hlg_4, hg_4⟩ := DataW.trod_struct Tryz.underlying41 g_4
      have hlg_4 : yg_4.length = 3 := hlg_4
      have g_4_0 := hg_4 0 _ rfl
      have g_4_1 := hg_4 1 _ rfl
      have g_4_2 := hg_4 2 _ rfl
      rw [List.getElem?_eq_getElem (by omega)] at g_4_0 g_4_1 g_4_2
      obtain ⟨s10, e10, _, wf10⟩ := DataW.trod_string Tryz.underlying9 g_4_0
      obtain ⟨n11, e11, _, wf11⟩ := DataW.trod_int Tryz.underlying3 g_4_1
      obtain ⟨n12, e12, _, wf12⟩ := DataW.trod_int Tryz.underlying3 g_4_2
      obtain ⟨n13, e13, _, wf13⟩ := DataW.trod_int Tryz.underlying3 g_5
      match cs, hlen with
      | [v0, v1, v2, v3, v4, v5, v6, v7, v8, v9, v10, v11, v12, v13], _ =>
        have e0 : List.take (Tryz.prog.cellsOf 9) (List.drop 0 ([v0, v1, v2, v3, v4, v5, v6, v7, v8, v9, v10, v11, v12, v13])) = [.string s0] := e0
        rw [show Tryz.prog.cellsOf 9 = 1 by kernel_rfl] at e0
        have e1 : List.take (Tryz.prog.cellsOf 9) (List.drop 0 (List.take (Tryz.prog.cellsOf 37) (List.drop 1 ([v0, v1, v2, v3, v4, v5, v6, v7, v8, v9, v10, v11, v12, v13])))) = [.string s1] := e1
        rw [show Tryz.prog.cellsOf 37 = 2 by kernel_rfl, show Tryz.prog.cellsOf 9 = 1 by kernel_rfl] at e1
        have e2 : List.take (Tryz.prog.cellsOf 3) (List.drop 1 (List.take (Tryz.prog.cellsOf 37) (List.drop 1 ([v0, v1, v2, v3, v4, v5, v6, v7, v8, v9, v10, v11, v12, v13])))) = [.int .i64 n2] := e2
        rw [show Tryz.prog.cellsOf 37 = 2 by kernel_rfl, show Tryz.prog.cellsOf 3 = 1 by kernel_rfl] at e2
        have e3 : List.take (Tryz.prog.cellsOf 9) (List.drop 0 (List.take (Tryz.prog.cellsOf 39) (List.drop 3 ([v0, v1, v2, v3, v4, v5, v6, v7, v8, v9, v10, v11, v12, v13])))) = [.string s3] := e3
        rw [show Tryz.prog.cellsOf 39 = 4 by kernel_rfl, show Tryz.prog.cellsOf 9 = 1 by kernel_rfl] at e3
        have e4 : List.take (Tryz.prog.cellsOf 9) (List.drop 1 (List.take (Tryz.prog.cellsOf 39) (List.drop 3 ([v0, v1, v2, v3, v4, v5, v6, v7, v8, v9, v10, v11, v12, v13])))) = [.string s4] := e4
        rw [show Tryz.prog.cellsOf 39 = 4 by kernel_rfl, show Tryz.prog.cellsOf 9 = 1 by kernel_rfl] at e4
        have e5 : List.take (Tryz.prog.cellsOf 3) (List.drop 2 (List.take (Tryz.prog.cellsOf 39) (List.drop 3 ([v0, v1, v2, v3, v4, v5, v6, v7, v8, v9, v10, v11, v12, v13])))) = [.int .i64 n5] := e5
        rw [show Tryz.prog.cellsOf 39 = 4 by kernel_rfl, show Tryz.prog.cellsOf 3 = 1 by kernel_rfl] at e5
        have e6 : List.take (Tryz.prog.cellsOf 3) (List.drop 3 (List.take (Tryz.prog.cellsOf 39) (List.drop 3 ([v0, v1, v2, v3, v4, v5, v6, v7, v8, v9, v10, v11, v12, v13])))) = [.int .i64 n6] := e6
        rw [show Tryz.prog.cellsOf 39 = 4 by kernel_rfl, show Tryz.prog.cellsOf 3 = 1 by kernel_rfl] at e6
        have e7 : List.take (Tryz.prog.cellsOf 9) (List.drop 0 (List.take (Tryz.prog.cellsOf 41) (List.drop 7 ([v0, v1, v2, v3, v4, v5, v6, v7, v8, v9, v10, v11, v12, v13])))) = [.string s7] := e7
        rw [show Tryz.prog.cellsOf 41 = 3 by kernel_rfl, show Tryz.prog.cellsOf 9 = 1 by kernel_rfl] at e7
        have e8 : List.take (Tryz.prog.cellsOf 3) (List.drop 1 (List.take (Tryz.prog.cellsOf 41) (List.drop 7 ([v0, v1, v2, v3, v4, v5, v6, v7, v8, v9, v10, v11, v12, v13])))) = [.int .i64 n8] := e8
        rw [show Tryz.prog.cellsOf 41 = 3 by kernel_rfl, show Tryz.prog.cellsOf 3 = 1 by kernel_rfl] at e8
        have e9 : List.take (Tryz.prog.cellsOf 3) (List.drop 2 (List.take (Tryz.prog.cellsOf 41) (List.drop 7 ([v0, v1, v2, v3, v4, v5, v6, v7, v8, v9, v10, v11, v12, v13])))) = [.int .i64 n9] := e9
        rw [show Tryz.prog.cellsOf 41 = 3 by kernel_rfl, show Tryz.prog.cellsOf 3 = 1 by kernel_rfl] at e9
        have e10 : List.take (Tryz.prog.cellsOf 9) (List.drop 0 (List.take (Tryz.prog.cellsOf 41) (List.drop 10 ([v0, v1, v2, v3, v4, v5, v6, v7, v8, v9, v10, v11, v12, v13])))) = [.string s10] := e10
        rw [show Tryz.prog.cellsOf 41 = 3 by kernel_rfl, show Tryz.prog.cellsOf 9 = 1 by kernel_rfl] at e10
        have e11 : List.take (Tryz.prog.cellsOf 3) (List.drop 1 (List.take (Tryz.prog.cellsOf 41) (List.drop 10 ([v0, v1, v2, v3, v4, v5, v6, v7, v8, v9, v10, v11, v12, v13])))) = [.int .i64 n11] := e11
        rw [show Tryz.prog.cellsOf 41 = 3 by kernel_rfl, show Tryz.prog.cellsOf 3 = 1 by kernel_rfl] at e11
        have e12 : List.take (Tryz.prog.cellsOf 3) (List.drop 2 (List.take (Tryz.prog.cellsOf 41) (List.drop 10 ([v0, v1, v2, v3, v4, v5, v6, v7, v8, v9, v10, v11, v12, v13])))) = [.int .i64 n12] := e12
        rw [show Tryz.prog.cellsOf 41 = 3 by kernel_rfl, show Tryz.prog.cellsOf 3 = 1 by kernel_rfl] at e12
        have e13 : List.take (Tryz.prog.cellsOf 3) (List.drop 13 ([v0, v1, v2, v3, v4, v5, v6, v7, v8, v9, v10, v11, v12, v13])) = [.int .i64 n13] := e13
        rw [show Tryz.prog.cellsOf 3 = 1 by kernel_rfl] at e13
        obtain rfl : v0 = .string s0 := by simpa [Value.cells] using e0
        obtain rfl : v1 = .string s1 := by simpa [Value.cells] using e1
        obtain rfl : v2 = .int .i64 n2 := by simpa [Value.cells] using e2
        obtain rfl : v3 = .string s3 := by simpa [Value.cells] using e3
        obtain rfl : v4 = .string s4 := by simpa [Value.cells] using e4
        obtain rfl : v5 = .int .i64 n5 := by simpa [Value.cells] using e5
        obtain rfl : v6 = .int .i64 n6 := by simpa [Value.cells] using e6
        obtain rfl : v7 = .string s7 := by simpa [Value.cells] using e7
        obtain rfl : v8 = .int .i64 n8 := by simpa [Value.cells] using e8
        obtain rfl : v9 = .int .i64 n9 := by simpa [Value.cells] using e9
        obtain rfl : v10 = .string s10 := by simpa [Value.cells] using e10
        obtain rfl : v11 = .int .i64 n11 := by simpa [Value.cells] using e11
        obtain rfl : v12 = .int .i64 n12 := by simpa [Value.cells] using e12
        obtain rfl : v13 = .int .i64 n13 := by simpa [Value.cells] using e13
        refine ⟨(s0.data.toList, (s1.data.toList, n2), (s3.data.toList, s4.data.toList, n5, n6), (s7.data.toList, n8, n9), (s10.data.toList, n11, n12), n13), fun c u hc => ?_⟩
        have hlt : c < 14 := (List.getElem?_eq_some_iff.1 hc).1
        rw [hcell c hlt, ← hc]
        rfl
    obtain ⟨q, hq⟩ := choose_lt each
    have hxs : ((List.range len).map q).length = len := by simp
    refine ⟨some a, cap, (List.range len).map q, by rw [hxs], ?_⟩
    rcases Nat.eq_zero_or_pos len with h0 | h0
    · subst h0; exact .inl (by simp)
    · obtain ⟨ab, ao, spot⟩ := a
      have hspot : spot = none := by simpa [Addr.add] using World.cell?_spot (hq 0 h0 0 _ rfl)
      subst hspot
      refine .inr ⟨ab, ao, rfl, ?_, fun i hi c u hc => ?_⟩
      · have := hq 0 h0 0 _ rfl
        rw [Addr.add_lit, Addr.add_lit] at this
        exact lt_of_cell this
      · rw [hxs] at hi
        have := hq i hi c u (by simpa using hc)
        rw [Addr.add_lit, Addr.add_lit] at this
        exact this
end Go.Proofs.YthnpemlmfekkgaaGreatDoor
