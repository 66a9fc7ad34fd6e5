/- Places read: place.Read. The document's Cut, walked. Rows of cells, as walks read them. -/
import Derived.Deep.AppendLies
import Derived.Test.YtmhkcmoepopnoaaGreatDoorM01
import Derived.Test.YtmhkcmoepopnoaaGreatDoorM08
import Derived.Test.YtmhkcmoepopnoaaGreatDoorM12
import Derived.Test.YtmhkcmoepopnoaaGreatDoorM19
namespace Go.Proofs.YtmhkcmoepopnoaaGreatDoor
open Go.RowKit Go.Sort Go.Proofs

theorem ReadG.place {E : Nat → Addr} {w : World} (h : ReadG E w) : PlaceG E w := ⟨h.name, h.bound, h.tab⟩
def zeroPlace : PlaceV := ([], 0, 0)
/-- What reading a place's words answers. -/
def placeWords (ws : List (List UInt8)) : PlaceV × Nat :=
  match ws with
  | [a, c, d] => match numQ c 4, numQ d 4 with
    | some u, some v => if placeE (a, (u : Int), (v : Int)) = 0 then ((a, (u : Int), (v : Int)), 0) else (zeroPlace, placeE (a, (u : Int), (v : Int)))
    | _, _ => (zeroPlace, 1)
  | _ => (zeroPlace, 1)
theorem placeWords_len {ws : List (List UInt8)} (h : ws.length ≠ 3) : placeWords ws = (zeroPlace, 1) := by
  unfold placeWords
  split
  · simp at h
  · rfl
theorem placeE_le (x : PlaceV) : placeE x ≤ 5 := by
  unfold placeE
  split
  · omega
  · split <;> omega
theorem placeWords_le (ws : List (List UInt8)) : (placeWords ws).2 ≤ 12 := by
  unfold placeWords
  split
  · split
    · rename_i u v _ _
      split
      · simp
      · exact Nat.le_trans (placeE_le _) (by omega)
    · simp
  · simp
theorem three {ws : List (List UInt8)} (h : ws.length = 3) : ∃ a b c, ws = [a, b, c] := by
  match ws, h with
  | [a, b, c], _ => exact ⟨a, b, c, rfl⟩
theorem strs3 {w : World} {A : Option Addr} {a b c : List UInt8} (h : StrsAt w A [a, b, c]) : ∃ bl o, A = some ⟨bl, o, none⟩ ∧ bl < w.heap.size ∧ w.cell? ⟨bl, o, none⟩ = some (.string ⟨a.toArray⟩) ∧ w.cell? ⟨bl, o + 1, none⟩ = some (.string ⟨b.toArray⟩) ∧ w.cell? ⟨bl, o + 2, none⟩ = some (.string ⟨c.toArray⟩) := by
  obtain ⟨bl, o, h1, h2, h3⟩ := h.resolve_left (by simp)
  exact ⟨bl, o, h1, h2, h3 0 (by simp), h3 1 (by simp), h3 2 (by simp)⟩

set_option maxHeartbeats 1600000 in
theorem placeRead_any (E : Nat → Addr) (s : ByteArray) (hs : s.size ≤ 1000000) (w : World) (hG : ReadG E w) :
    Calls Tryz.prog 88 #[.string s] w fun e w' => e = .returned (.tuple #[.agg (encPlace (placeWords (splitL 45 (bts s))).1).toArray, errOf E (placeWords (splitL 45 (bts s))).2]) ∧ Below w.heap.size w w' := by
  have HSP := Lib.hid (fun W (h : MaxG W) => split_any s 45 W (by omega) h)
  have hle := fun x (h : x ∈ splitL 45 (bts s)) => splitL_lens h
  generalize splitL 45 (bts s) = ws at HSP hle ⊢
  have hbl : (bts s).length = s.size := rfl
  rw [hbl] at hle
  have HG := Lib.hid hG
  clear hG hbl
  go_enter Tryz.func88, Tryz.ntmps88
  go_wp2_with fail
  have b0 := below_one w (.cells #[.string ⟨#[]⟩, .int .i64 0, .int .i64 0] 24)
  have hz0 : (w.alloc (.cells #[.string ⟨#[]⟩, .int .i64 0, .int .i64 0] 24)).heap[w.heap.size]? = some (.cells #[.string ⟨#[]⟩, .int .i64 0, .int .i64 0] 24 (0, 0)) := heap_alloc_new _ _
  have hG0 := HG.out.below b0
  obtain ⟨rb, hrb⟩ : ∃ rb, rb = w.heap.size := ⟨_, rfl⟩
  have HRB : Hid (w.heap.size ≤ rb) := by show _ ≤ _; omega
  rw [← hrb] at hz0 ⊢
  generalize w.alloc (.cells #[.string ⟨#[]⟩, .int .i64 0, .int .i64 0] 24) = W0 at b0 hz0 hG0 ⊢
  refine (HSP.out W0 hG0.maxl).mono ?_
  rintro e w1 ⟨A, cap, rfl, hS, -, bb1⟩
  have hz1 := (bb1.block rb (row_lt hz0)).trans hz0
  have HG1 := Lib.hid (hG0.below bb1)
  have B1 := Lib.hid (b0.trans (bb1.mono b0.size))
  have hg1 := HG1.out.text
  have lg := lt_of_cell hg1
  simp only at lg
  unfold ErrAt at hg1
  have hgrb : 6 ≠ rb := by have := lt_of_cell HG.out.text; simp only at this; omega
  clear bb1 hz0 b0 hG0 HSP HG hrb
  by_cases h4 : ws.length = 3
  · obtain ⟨a, c, d, rfl⟩ := three h4
    have ha := hle a (by simp)
    have hcl := hle c (by simp)
    have hdl := hle d (by simp)
    have HW := Lib.hid (show placeWords [a, c, d] = match numQ c 4, numQ d 4 with
      | some u, some v => if placeE (a, (u : Int), (v : Int)) = 0 then ((a, (u : Int), (v : Int)), 0) else (zeroPlace, placeE (a, (u : Int), (v : Int)))
      | _, _ => (zeroPlace, 1) from rfl)
    obtain ⟨bl, o, rfl, hl, p0, p1, p2⟩ := strs3 hS
    have l4 : [a, c, d].length = 3 := rfl
    rw [l4]
    have hblr : bl < w1.heap.size := hl
    clear hS l4 hle h4
    go_wp2_with fail
    refine (numb_any c 4 (by omega) (by omega) _ HG1.out.tab HG1.out.atoi).mono ?_
    rintro e w2 ⟨u, rfl, hu, b2⟩
    have q0 := (b2.cell (p := ⟨_, _, none⟩) (lt_of_cell p0)).trans p0
    have q1 := (b2.cell (p := ⟨_, _, none⟩) (lt_of_cell p1)).trans p1
    have q2 := (b2.cell (p := ⟨_, _, none⟩) (lt_of_cell p2)).trans p2
    have hz2 := (b2.block rb (row_lt hz1)).trans hz1
    have hg2 := (b2.cell (p := ⟨_, 0, none⟩) lg).trans hg1
    have lg2 : 6 < w2.heap.size := Nat.lt_of_lt_of_le lg b2.size
    have B2 := Lib.hid (B1.out.trans (b2.mono B1.out.size))
    have HG2 := Lib.hid (HG1.out.below b2)
    have HU := Lib.hid hu
    clear b2 hu p0 p1 p2 hz1 hg1 lg B1 HG1 hl hblr
    go_wp2_with fail
    refine (numb_any d 4 (by omega) (by omega) _ HG2.out.tab HG2.out.atoi).mono ?_
    rintro e w3 ⟨v, rfl, hv, b3⟩
    have r0 := (b3.cell (p := ⟨_, _, none⟩) (lt_of_cell q0)).trans q0
    have r1 := (b3.cell (p := ⟨_, _, none⟩) (lt_of_cell q1)).trans q1
    have r2 := (b3.cell (p := ⟨_, _, none⟩) (lt_of_cell q2)).trans q2
    have hz3 := (b3.block rb (row_lt hz2)).trans hz2
    have hg3 := (b3.cell (p := ⟨_, 0, none⟩) lg2).trans hg2
    have B3 := Lib.hid (B2.out.trans (b3.mono B2.out.size))
    have HG3 := Lib.hid (HG2.out.below b3)
    have HV := Lib.hid hv
    clear b3 hv q0 q1 q2 hz2 hg2 lg2 B2 HG2
    cases hq : numQ c 4 with
    | none =>
      rw [hq] at HW
      have z0 : w3.cell? ⟨rb, 0, none⟩ = some (.string ⟨#[]⟩) := cell_of_row _ _ _ _ _ _ hz3
      have f0 := frozen_of_row w3 rb 0 _ _ hz3
      have z1 : w3.cell? ⟨rb, 1, none⟩ = some (.int .i64 0) := cell_of_row _ _ _ _ _ _ hz3
      have f1 := frozen_of_row w3 rb 1 _ _ hz3
      have z2 : w3.cell? ⟨rb, 2, none⟩ = some (.int .i64 0) := cell_of_row _ _ _ _ _ _ hz3
      have f2 := frozen_of_row w3 rb 2 _ _ hz3
      go_wp2_with fail
      go_region
      all_goals
        have hrow := puts_row [.string ⟨#[]⟩, .int .i64 0, .int .i64 0] hz3 rfl
        go_wp2_with fail
        (try simp only [Exit.inBlock, Exit.then])
        refine bodyPost_ret (results_cell_row2 rfl _ _ rb 24 #[.string ⟨#[]⟩, .int .i64 0, .int .i64 0] (0, 0) _ rfl hrow Tryz.underlying24 rfl (by kernel_rfl)) rfl ?_
        rw [HW.out]
        exact ⟨rfl, (puts_below HRB.out [.string ⟨#[]⟩, .int .i64 0, .int .i64 0] w3 0 B3.out).drew⟩
    | some uu =>
      have hu := HU.out uu hq
      subst hu
      rw [hq] at HW
      cases hq2 : numQ d 4 with
      | none =>
        rw [hq2] at HW
        have z0 : w3.cell? ⟨rb, 0, none⟩ = some (.string ⟨#[]⟩) := cell_of_row _ _ _ _ _ _ hz3
        have f0 := frozen_of_row w3 rb 0 _ _ hz3
        have z1 : w3.cell? ⟨rb, 1, none⟩ = some (.int .i64 0) := cell_of_row _ _ _ _ _ _ hz3
        have f1 := frozen_of_row w3 rb 1 _ _ hz3
        have z2 : w3.cell? ⟨rb, 2, none⟩ = some (.int .i64 0) := cell_of_row _ _ _ _ _ _ hz3
        have f2 := frozen_of_row w3 rb 2 _ _ hz3
        go_wp2_with fail
        go_region
        all_goals
          have hrow := puts_row [.string ⟨#[]⟩, .int .i64 0, .int .i64 0] hz3 rfl
          go_wp2_with fail
          (try simp only [Exit.inBlock, Exit.then])
          refine bodyPost_ret (results_cell_row2 rfl _ _ rb 24 #[.string ⟨#[]⟩, .int .i64 0, .int .i64 0] (0, 0) _ rfl hrow Tryz.underlying24 rfl (by kernel_rfl)) rfl ?_
          rw [HW.out]
          exact ⟨rfl, (puts_below HRB.out [.string ⟨#[]⟩, .int .i64 0, .int .i64 0] w3 0 B3.out).drew⟩
      | some vv =>
        have hv := HV.out vv hq2
        subst hv
        rw [hq2] at HW
        have HCK := Lib.hid (fun W h => checkPlace_any E (a, (uu : Int), (vv : Int)) W h)
        have hW := HW.out
        simp only at hW
        have HWW := Lib.hid hW
        clear HW hW hq hq2 HU HV
        generalize placeE (a, (uu : Int), (vv : Int)) = k at HCK HWW
        simp only [encPlace] at HCK
        have HZ3 := Lib.hid hz3
        have t0 := ((below_one w3 (.cells #[.string ⟨#[]⟩, .int .i64 0, .int .i64 0] 24)).cell (p := ⟨_, _, none⟩) (lt_of_cell r0)).trans r0
        have t1 := ((below_one w3 (.cells #[.string ⟨#[]⟩, .int .i64 0, .int .i64 0] 24)).cell (p := ⟨_, _, none⟩) (lt_of_cell r1)).trans r1
        have t2 := ((below_one w3 (.cells #[.string ⟨#[]⟩, .int .i64 0, .int .i64 0] 24)).cell (p := ⟨_, _, none⟩) (lt_of_cell r2)).trans r2
        go_wp2_with fail
        skip
        all_goals
          have b30 : Below w3.heap.size w3 (w3.alloc (.cells #[.string ⟨a.toArray⟩, .int .i64 (uu : Nat), .int .i64 (vv : Nat)] 24)) := (below_one _ _)
          have hx4 : (w3.alloc (.cells #[.string ⟨a.toArray⟩, .int .i64 (uu : Nat), .int .i64 (vv : Nat)] 24)).heap[w3.heap.size]? = some (.cells #[.string ⟨a.toArray⟩, .int .i64 (uu : Nat), .int .i64 (vv : Nat)] 24 (0, 0)) := heap_alloc_new w3 _
          refine (HCK.out _ (HG3.out.below b30).place).mono ?_
          rintro e w4 ⟨rfl, b4⟩
          have hz4 := (b4.block rb (by have := row_lt HZ3.out; simp; omega)).trans ((heap_alloc_old w3 _ (row_lt HZ3.out)).trans HZ3.out)
          have hx5 := (b4.block w3.heap.size (by simp)).trans hx4
          have v0 : w4.cell? ⟨w3.heap.size, 0, none⟩ = some (.string ⟨a.toArray⟩) := cell_of_row _ _ _ _ _ _ hx5
          have v1 : w4.cell? ⟨w3.heap.size, 1, none⟩ = some (.int .i64 (uu : Nat)) := cell_of_row _ _ _ _ _ _ hx5
          have v2 : w4.cell? ⟨w3.heap.size, 2, none⟩ = some (.int .i64 (vv : Nat)) := cell_of_row _ _ _ _ _ _ hx5
          have B4 := Lib.hid (B3.out.trans ((b30.trans (b4.mono b30.size)).mono B3.out.size))
          clear b4 b30 hx4 hx5 r0 t0 r1 t1 r2 t2 HCK
          by_cases h0 : k = 0
          · subst h0
            rw [errOf_zero]
            have z0 : w4.cell? ⟨rb, 0, none⟩ = some (.string ⟨#[]⟩) := cell_of_row _ _ _ _ _ _ hz4
            have f0 := frozen_of_row w4 rb 0 _ _ hz4
            have z1 : w4.cell? ⟨rb, 1, none⟩ = some (.int .i64 0) := cell_of_row _ _ _ _ _ _ hz4
            have f1 := frozen_of_row w4 rb 1 _ _ hz4
            have z2 : w4.cell? ⟨rb, 2, none⟩ = some (.int .i64 0) := cell_of_row _ _ _ _ _ _ hz4
            have f2 := frozen_of_row w4 rb 2 _ _ hz4
            go_wp2_with fail
            have hrow := puts_row [.string ⟨a.toArray⟩, .int .i64 (uu : Nat), .int .i64 (vv : Nat)] hz4 rfl
            (try simp only [Exit.inBlock, Exit.then])
            refine bodyPost_ret (results_cell_row2 rfl _ _ rb 24 #[.string ⟨a.toArray⟩, .int .i64 (uu : Nat), .int .i64 (vv : Nat)] (0, 0) _ rfl hrow Tryz.underlying24 rfl (by kernel_rfl)) rfl ?_
            rw [HWW.out]
            exact ⟨rfl, (puts_below HRB.out [.string ⟨a.toArray⟩, .int .i64 (uu : Nat), .int .i64 (vv : Nat)] w4 0 B4.out)⟩
          · rw [errOf_pos _ _ h0]
            have z0 : w4.cell? ⟨rb, 0, none⟩ = some (.string ⟨#[]⟩) := cell_of_row _ _ _ _ _ _ hz4
            have f0 := frozen_of_row w4 rb 0 _ _ hz4
            have z1 : w4.cell? ⟨rb, 1, none⟩ = some (.int .i64 0) := cell_of_row _ _ _ _ _ _ hz4
            have f1 := frozen_of_row w4 rb 1 _ _ hz4
            have z2 : w4.cell? ⟨rb, 2, none⟩ = some (.int .i64 0) := cell_of_row _ _ _ _ _ _ hz4
            have f2 := frozen_of_row w4 rb 2 _ _ hz4
            go_wp2_with fail
            have hrow := puts_row [.string ⟨#[]⟩, .int .i64 0, .int .i64 0] hz4 rfl
            (try simp only [Exit.inBlock, Exit.then])
            refine bodyPost_ret (results_cell_row2 rfl _ _ rb 24 #[.string ⟨#[]⟩, .int .i64 0, .int .i64 0] (0, 0) _ rfl hrow Tryz.underlying24 rfl (by kernel_rfl)) rfl ?_
            rw [HWW.out, if_neg h0, errOf_pos _ _ h0]
            exact ⟨rfl, (puts_below HRB.out [.string ⟨#[]⟩, .int .i64 0, .int .i64 0] w4 0 B4.out)⟩
  · have HW0 := Lib.hid (placeWords_len h4)
    obtain ⟨n, hn⟩ : ∃ n, n = ws.length := ⟨_, rfl⟩
    rw [← hn] at h4 ⊢
    have h4' : ¬ (n : Int) = 3 := by omega
    clear hn
    have z0 : w1.cell? ⟨rb, 0, none⟩ = some (.string ⟨#[]⟩) := cell_of_row _ _ _ _ _ _ hz1
    have f0 := frozen_of_row w1 rb 0 _ _ hz1
    have z1 : w1.cell? ⟨rb, 1, none⟩ = some (.int .i64 0) := cell_of_row _ _ _ _ _ _ hz1
    have f1 := frozen_of_row w1 rb 1 _ _ hz1
    have z2 : w1.cell? ⟨rb, 2, none⟩ = some (.int .i64 0) := cell_of_row _ _ _ _ _ _ hz1
    have f2 := frozen_of_row w1 rb 2 _ _ hz1
    go_wp2_with fail
    go_region
    all_goals
      have hrow := puts_row [.string ⟨#[]⟩, .int .i64 0, .int .i64 0] hz1 rfl
      go_wp2_with fail
      (try simp only [Exit.inBlock, Exit.then])
      refine bodyPost_ret (results_cell_row2 rfl _ _ rb 24 #[.string ⟨#[]⟩, .int .i64 0, .int .i64 0] (0, 0) _ rfl hrow Tryz.underlying24 rfl (by kernel_rfl)) rfl ?_
      rw [HW0.out]
      exact ⟨rfl, (puts_below HRB.out [.string ⟨#[]⟩, .int .i64 0, .int .i64 0] w1 0 B1.out).drew⟩
end Go.Proofs.YtmhkcmoepopnoaaGreatDoor
namespace Go.Proofs.YtmhkcmoepopnoaaGreatDoor
open Go.RowKit

set_option maxHeartbeats 2000000 in
set_option maxRecDepth 100000 in
theorem refCutB (s : ByteArray) (c : UInt8) (w : World) (hs : s.size ≤ 1000000) :
    Calls Tryz.prog 51 #[.string s, .int .u8 (c.toNat : Nat)] w (TextsEnds (splitL c (bts s)) w) := by
  obtain ⟨i0, hi, hz0, hz1, hz2⟩ := info_parts stringInfo1
  have hc := c.toNat_lt
  go_enter Tryz.func51, Tryz.ntmps51
  go_wp2
  go_loopw [5, 6, 7] (fun out f i wr => ∃ (l : List (List UInt8)) (k n m : Nat), i = .int .i64 n ∧ f = .int .i64 m ∧ m ≤ n ∧ n ≤ s.size ∧ k ≤ n ∧ Hid (k = l.length ∧ splitL c ((bts s).take n) = l ++ [((bts s).take n).drop m]) ∧ Hid (wr.ownsRow w.heap.size 9 1 out k (strVals l)) ∧ Below w.heap.size w wr) (fun _ _ i _ => s.size - (intOf i).toNat)
  case atStart => exact ⟨[], 0, 0, 0, rfl, rfl, by omega, by omega, by omega, ⟨rfl, by simp [splitL]⟩, World.ownsRow_nil _ _ _ _, Below.refl _ _⟩
  case round =>
    obtain ⟨l, k, n, m, rfl, rfl, hmn, hns, hkn, HL, HO, hbel⟩ := hrel
    have HB := Lib.hid hbel
    have hwb := hbel.size
    clear hbel
    have mi : (m : Int) ≤ (n : Int) := by omega
    have ni : (n : Int) ≤ (s.size : Int) := by omega
    have mi0 : (0 : Int) ≤ (m : Int) := Int.natCast_nonneg m
    have e1 : s.extract m n = ⟨(((bts s).take n).drop m).toArray⟩ := ext_data _ _ (by rw [bts_extract])
    obtain ⟨x, hx⟩ : ∃ x, x = ((bts s).take n).drop m := ⟨_, rfl⟩
    rw [← hx] at e1
    have HX := Lib.hid hx
    clear hx
    by_cases hlt : n < s.size
    · have HS := Lib.hid (bts_snoc s n hlt)
      by_cases hcc : s[n] = c
      · have t1 : ((s[n].toNat : Int) == (c.toNat : Int)) = true := by rw [hcc]; simp
        have HSP : Hid (splitL c ((bts s).take (n + 1)) = (l ++ [x]) ++ [((bts s).take (n + 1)).drop (n + 1)]) := by
          show _ = _
          rw [HS.out, hcc, splitL_snoc_sep, HL.out.2, ← HX.out]
          have : ((bts s).take n ++ [c]).drop (n + 1) = [] := List.drop_of_length_le (by rw [List.length_append, List.length_take, List.length_singleton]; omega)
          rw [this]
        clear hcc HS
        go_wp2_with (at_builtin; refine wpList_append_lies _ rfl (.tmp 19) (.tmp 24) 85 rfl w.heap.size 9 i0 (.string ⟨#[]⟩) 1 16 Tryz.underlying85 hi hz0 hz1 hz2 rfl (by decide) u5 k (strVals l) rfl (HO.out.alloc _) _ 1 1 [.string ⟨x.toArray⟩] rfl rfl (World.news_of_block (cs := #[.string ⟨x.toArray⟩]) (t := 9) (fr := (0, 0)) (heap_alloc_new _ _)) (by simp [Value.oneCell']) (by omega) (by unfold maxLen; omega) (by omega) (by simp; omega) _ rfl ?_; intro gg cap' w3 hown3 hgrow hat hlt3; have HK := Lib.hid (And.intro hown3 (And.intro hgrow hat)); clear hown3 hgrow hat)
        have hb3 : Below w.heap.size w w3 := (HB.out.alloc HB.out.size _).grown HK.out.2.1 (by simp; omega) (fun j hj => (HO.out.lt j hj).1)
        go_roundw
        case rel =>
          refine ⟨l ++ [x], k + 1, n + 1, n + 1, by go_num, by go_num, by omega, by omega, by omega, ⟨?_, HSP.out⟩, ?_, hb3⟩
          · rw [List.length_append, ← HL.out.1]; rfl
          · have e : strVals (l ++ [x]) = strVals l ++ [.string ⟨x.toArray⟩] := by simp [strVals]
            rw [e]; exact HK.out.1
        case measure => simp [intOf]; omega
      · have t1 : ((s[n].toNat : Int) == (c.toNat : Int)) = false := by
          have : s[n].toNat ≠ c.toNat := fun e => hcc (UInt8.toNat_inj.1 e)
          simpa using by omega
        have HSP : Hid (splitL c ((bts s).take (n + 1)) = l ++ [((bts s).take (n + 1)).drop m]) := by
          show _ = _
          rw [HS.out, splitL_snoc _ hcc l x (by rw [HL.out.2, ← HX.out])]
          congr 2
          rw [List.drop_append_of_le_length (by rw [List.length_take]; have : (bts s).length = s.size := rfl; omega), ← HX.out]
        clear hcc HS e1
        go_wp2
        go_roundw
        case rel => exact ⟨l, k, n + 1, m, by go_num, rfl, by omega, by omega, by omega, ⟨HL.out.1, HSP.out⟩, HO, HB.out⟩
        case measure => simp [intOf]; omega
    · obtain rfl : n = s.size := by omega
      have hall := HL.out.2
      rw [bts_all] at hall
      have HALL := Lib.hid hall
      have hx2 := HX.out
      rw [bts_all] at hx2
      have HX2 := Lib.hid hx2
      clear hall hx2
      go_wp2_with (at_builtin; refine wpList_append_lies _ rfl (.tmp 28) (.tmp 32) 85 rfl w.heap.size 9 i0 (.string ⟨#[]⟩) 1 16 Tryz.underlying85 hi hz0 hz1 hz2 rfl (by decide) u5 k (strVals l) rfl (HO.out.alloc _) _ 1 1 [.string ⟨x.toArray⟩] rfl rfl (World.news_of_block (cs := #[.string ⟨x.toArray⟩]) (t := 9) (fr := (0, 0)) (heap_alloc_new _ _)) (by simp [Value.oneCell']) (by omega) (by unfold maxLen; omega) (by omega) (by simp; omega) _ rfl ?_; intro gg cap' w3 hown3 hgrow hat hlt3; have HK := Lib.hid (And.intro hown3 (And.intro hgrow hat)); clear hown3 hgrow hat)
      have hb3 : Below w.heap.size w w3 := (HB.out.alloc HB.out.size _).grown HK.out.2.1 (by simp; omega) (fun j hj => (HO.out.lt j hj).1)
      go_ret
      have e : strVals (l ++ [x]) = strVals l ++ [.string ⟨x.toArray⟩] := by simp [strVals]
      have hown := HK.out.1
      rw [← e] at hown
      have hl : k + 1 = (l ++ [x]).length := by rw [List.length_append, ← HL.out.1]; rfl
      rw [hl] at hown
      have hsp : splitL c (bts s) = l ++ [x] := by rw [HALL.out, HX2.out]
      obtain ⟨A, cap, hv, hS, hA⟩ := StrsAt.of_own hown
      rw [hsp]
      exact ⟨A, cap, by rw [← hv, ← hl]; rfl, hS, hA, hb3⟩
end Go.Proofs.YtmhkcmoepopnoaaGreatDoor
namespace Go.Proofs.YtmhkcmoepopnoaaGreatDoor
open Go.RowKit

theorem rowC {w : World} {b : Nat} {cs : Array Value} {t : TypeId} (h : w.heap[b]? = some (.cells cs t (0, 0))) (j : Nat) : w.cell? ⟨b, j, none⟩ = cs[j]? := cell_of_row _ _ _ _ _ _ h
theorem rowF {w : World} {b : Nat} {cs : Array Value} {t : TypeId} (h : w.heap[b]? = some (.cells cs t (0, 0))) (j : Nat) : w.frozen? ⟨b, j, none⟩ = false := frozen_of_row _ _ _ _ _ h
theorem row3f {w : World} {b : Nat} {u v x : Value} {t : TypeId} (h : w.heap[b]? = some (.cells #[u, v, x] t (0, 0))) :
    (w.cell? ⟨b, 0, none⟩ = some u ∧ w.cell? ⟨b, 1, none⟩ = some v ∧ w.cell? ⟨b, 2, none⟩ = some x) ∧ w.frozen? ⟨b, 0, none⟩ = false ∧ w.frozen? ⟨b, 1, none⟩ = false ∧ w.frozen? ⟨b, 2, none⟩ = false :=
  ⟨⟨rowC h 0, rowC h 1, rowC h 2⟩, rowF h 0, rowF h 1, rowF h 2⟩
theorem row5f {w : World} {b : Nat} {u v x y z : Value} {t : TypeId} (h : w.heap[b]? = some (.cells #[u, v, x, y, z] t (0, 0))) :
    (w.cell? ⟨b, 0, none⟩ = some u ∧ w.cell? ⟨b, 1, none⟩ = some v ∧ w.cell? ⟨b, 2, none⟩ = some x ∧ w.cell? ⟨b, 3, none⟩ = some y ∧ w.cell? ⟨b, 4, none⟩ = some z) ∧ w.frozen? ⟨b, 0, none⟩ = false ∧ w.frozen? ⟨b, 1, none⟩ = false ∧ w.frozen? ⟨b, 2, none⟩ = false ∧ w.frozen? ⟨b, 3, none⟩ = false ∧ w.frozen? ⟨b, 4, none⟩ = false :=
  ⟨⟨rowC h 0, rowC h 1, rowC h 2, rowC h 3, rowC h 4⟩, rowF h 0, rowF h 1, rowF h 2, rowF h 3, rowF h 4⟩

/-- A struct stored into a box of its own. -/
theorem wpList_store_box {P : Program} {ops : Array Oper} {rest : List Oper} {o : Oper} {a : Act} {w : World} {Q : Exit → Act → World → Prop} (hgd : o.guard = none) (ty : TypeId) (x y : Operand) (ho : o.op = .store ty x y) (b : Nat) (vs : List Value) (hx : a.eval x = .pointer (some ⟨b, 0, none⟩)) (hy : a.eval y = .agg vs.toArray)
    (t : TypeId) (L : List Value) (hb : w.heap[b]? = some (.cells L.toArray t (0, 0))) (hi : (P.info? ty).map (·.size) = some vs.length) (hl : L.length = vs.length) (h1 : ∀ v ∈ vs, v.oneCell' = true)
    (h : ∀ w', w'.heap[b]? = some (.cells vs.toArray t (0, 0)) → Turned b w w' → wpList P ops Q rest (a.put o.dst undef) w') : wpList P ops Q (o :: rest) a w :=
  wpList_store_at hgd ty x y ho b 0 vs hx hy t L hb hi (by omega) h1 fun w' hr ht => h w' (by rw [hr, Nat.zero_add, List.drop_of_length_le (Nat.le_of_eq hl)]; simp) ht
end Go.Proofs.YtmhkcmoepopnoaaGreatDoor
