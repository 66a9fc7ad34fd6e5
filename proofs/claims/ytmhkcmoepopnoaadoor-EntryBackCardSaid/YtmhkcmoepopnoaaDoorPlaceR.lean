/- Places read: place.Read. -/
import Derived.Test.YtmhkcmoepopnoaaDoorPlaceX
import Derived.Test.YtmhkcmoepopnoaaDoorLotR
import Derived.Test.YtmhkcmoepopnoaaDoorResC
namespace Go.Proofs.YtmhkcmoepopnoaaDoor
open Go.RowKit Go.Sort Go.Proofs

theorem ReadG.place {E : Nat → Addr} {w : World} (h : ReadG E w) : PlaceG E w := ⟨h.name, h.bound, h.tab⟩
def zeroPlace : PlaceV := ([], 0, 0)
/-- What reading a place's words answers. -/
def placeWords (ws : List (List UInt8)) : PlaceV × Nat :=
  match ws with
  | [a, c, d] => match numQ c 4, numQ d 4 with
    | some u, some v => if placeE (a, (u : Int), (v : Int)) = 0 then ((a, (u : Int), (v : Int)), 0) else (zeroPlace, placeE (a, (u : Int), (v : Int)))
    | _, _ => (zeroPlace, 1)
  | _ => (zeroPlace, 1)
theorem placeWords_len {ws : List (List UInt8)} (h : ws.length ≠ 3) : placeWords ws = (zeroPlace, 1) := by
  unfold placeWords
  split
  · simp at h
  · rfl
theorem placeE_le (x : PlaceV) : placeE x ≤ 5 := by
  unfold placeE
  split
  · omega
  · split <;> omega
theorem placeWords_le (ws : List (List UInt8)) : (placeWords ws).2 ≤ 12 := by
  unfold placeWords
  split
  · split
    · rename_i u v _ _
      split
      · simp
      · exact Nat.le_trans (placeE_le _) (by omega)
    · simp
  · simp
theorem three {ws : List (List UInt8)} (h : ws.length = 3) : ∃ a b c, ws = [a, b, c] := by
  match ws, h with
  | [a, b, c], _ => exact ⟨a, b, c, rfl⟩
theorem strs3 {w : World} {A : Option Addr} {a b c : List UInt8} (h : StrsAt w A [a, b, c]) : ∃ bl o, A = some ⟨bl, o, none⟩ ∧ bl < w.heap.size ∧ w.cell? ⟨bl, o, none⟩ = some (.string ⟨a.toArray⟩) ∧ w.cell? ⟨bl, o + 1, none⟩ = some (.string ⟨b.toArray⟩) ∧ w.cell? ⟨bl, o + 2, none⟩ = some (.string ⟨c.toArray⟩) := by
  obtain ⟨bl, o, h1, h2, h3⟩ := h.resolve_left (by simp)
  exact ⟨bl, o, h1, h2, h3 0 (by simp), h3 1 (by simp), h3 2 (by simp)⟩

set_option maxHeartbeats 1600000 in
theorem placeRead_any (E : Nat → Addr) (s : ByteArray) (hs : s.size ≤ 1000000) (w : World) (hG : ReadG E w) :
    Calls Tryd.prog 29 #[.string s] w fun e w' => e = .returned (.tuple #[.agg (encPlace (placeWords (splitL 45 (bts s))).1).toArray, errOf E (placeWords (splitL 45 (bts s))).2]) ∧ Below w.heap.size w w' := by
  have HSP := Lib.hid (fun W (h : MaxG W) => split_any s 45 W (by omega) h)
  have hle := fun x (h : x ∈ splitL 45 (bts s)) => splitL_lens h
  generalize splitL 45 (bts s) = ws at HSP hle ⊢
  have hbl : (bts s).length = s.size := rfl
  rw [hbl] at hle
  have HG := Lib.hid hG
  clear hG hbl
  go_enter Tryd.func29, Tryd.ntmps29
  go_wp2_with fail
  have b0 := below_one w (.cells #[.string ⟨#[]⟩, .int .i64 0, .int .i64 0] 27)
  have hz0 : (w.alloc (.cells #[.string ⟨#[]⟩, .int .i64 0, .int .i64 0] 27)).heap[w.heap.size]? = some (.cells #[.string ⟨#[]⟩, .int .i64 0, .int .i64 0] 27 (0, 0)) := heap_alloc_new _ _
  have hG0 := HG.out.below b0
  obtain ⟨rb, hrb⟩ : ∃ rb, rb = w.heap.size := ⟨_, rfl⟩
  have HRB : Hid (w.heap.size ≤ rb) := by show _ ≤ _; omega
  rw [← hrb] at hz0 ⊢
  generalize w.alloc (.cells #[.string ⟨#[]⟩, .int .i64 0, .int .i64 0] 27) = W0 at b0 hz0 hG0 ⊢
  refine (HSP.out W0 hG0.maxl).mono ?_
  rintro e w1 ⟨A, cap, rfl, hS, -, bb1⟩
  have hz1 := (bb1.block rb (row_lt hz0)).trans hz0
  have HG1 := Lib.hid (hG0.below bb1)
  have B1 := Lib.hid (b0.trans (bb1.mono b0.size))
  have hg1 := HG1.out.text
  have lg := lt_of_cell hg1
  simp only at lg
  unfold ErrAt at hg1
  have hgrb : 4 ≠ rb := by have := lt_of_cell HG.out.text; simp only at this; omega
  clear bb1 hz0 b0 hG0 HSP HG hrb
  by_cases h4 : ws.length = 3
  · obtain ⟨a, c, d, rfl⟩ := three h4
    have ha := hle a (by simp)
    have hcl := hle c (by simp)
    have hdl := hle d (by simp)
    have HW := Lib.hid (show placeWords [a, c, d] = match numQ c 4, numQ d 4 with
      | some u, some v => if placeE (a, (u : Int), (v : Int)) = 0 then ((a, (u : Int), (v : Int)), 0) else (zeroPlace, placeE (a, (u : Int), (v : Int)))
      | _, _ => (zeroPlace, 1) from rfl)
    obtain ⟨bl, o, rfl, hl, p0, p1, p2⟩ := strs3 hS
    have l4 : [a, c, d].length = 3 := rfl
    rw [l4]
    have hblr : bl < w1.heap.size := hl
    clear hS l4 hle h4
    go_wp2_with fail
    refine (numb_any c 4 (by omega) (by omega) _ HG1.out.tab HG1.out.atoi).mono ?_
    rintro e w2 ⟨u, rfl, hu, b2⟩
    have q0 := (b2.cell (p := ⟨_, _, none⟩) (lt_of_cell p0)).trans p0
    have q1 := (b2.cell (p := ⟨_, _, none⟩) (lt_of_cell p1)).trans p1
    have q2 := (b2.cell (p := ⟨_, _, none⟩) (lt_of_cell p2)).trans p2
    have hz2 := (b2.block rb (row_lt hz1)).trans hz1
    have hg2 := (b2.cell (p := ⟨_, 0, none⟩) lg).trans hg1
    have lg2 : 4 < w2.heap.size := Nat.lt_of_lt_of_le lg b2.size
    have B2 := Lib.hid (B1.out.trans (b2.mono B1.out.size))
    have HG2 := Lib.hid (HG1.out.below b2)
    have HU := Lib.hid hu
    clear b2 hu p0 p1 p2 hz1 hg1 lg B1 HG1 hl hblr
    go_wp2_with fail
    refine (numb_any d 4 (by omega) (by omega) _ HG2.out.tab HG2.out.atoi).mono ?_
    rintro e w3 ⟨v, rfl, hv, b3⟩
    have r0 := (b3.cell (p := ⟨_, _, none⟩) (lt_of_cell q0)).trans q0
    have r1 := (b3.cell (p := ⟨_, _, none⟩) (lt_of_cell q1)).trans q1
    have r2 := (b3.cell (p := ⟨_, _, none⟩) (lt_of_cell q2)).trans q2
    have hz3 := (b3.block rb (row_lt hz2)).trans hz2
    have hg3 := (b3.cell (p := ⟨_, 0, none⟩) lg2).trans hg2
    have B3 := Lib.hid (B2.out.trans (b3.mono B2.out.size))
    have HG3 := Lib.hid (HG2.out.below b3)
    have HV := Lib.hid hv
    clear b3 hv q0 q1 q2 hz2 hg2 lg2 B2 HG2
    cases hq : numQ c 4 with
    | none =>
      rw [hq] at HW
      have z0 : w3.cell? ⟨rb, 0, none⟩ = some (.string ⟨#[]⟩) := cell_of_row _ _ _ _ _ _ hz3
      have f0 := frozen_of_row w3 rb 0 _ _ hz3
      have z1 : w3.cell? ⟨rb, 1, none⟩ = some (.int .i64 0) := cell_of_row _ _ _ _ _ _ hz3
      have f1 := frozen_of_row w3 rb 1 _ _ hz3
      have z2 : w3.cell? ⟨rb, 2, none⟩ = some (.int .i64 0) := cell_of_row _ _ _ _ _ _ hz3
      have f2 := frozen_of_row w3 rb 2 _ _ hz3
      go_wp2_with fail
      go_region
      all_goals
        have hrow := puts_row [.string ⟨#[]⟩, .int .i64 0, .int .i64 0] hz3 rfl
        go_wp2_with fail
        (try simp only [Exit.inBlock, Exit.then])
        refine bodyPost_ret (results_cell_row2 rfl _ _ rb 27 #[.string ⟨#[]⟩, .int .i64 0, .int .i64 0] (0, 0) _ rfl hrow Tryd.underlying27 rfl (by kernel_rfl)) rfl ?_
        rw [HW.out]
        exact ⟨rfl, (puts_below HRB.out [.string ⟨#[]⟩, .int .i64 0, .int .i64 0] w3 0 B3.out).drew⟩
    | some uu =>
      have hu := HU.out uu hq
      subst hu
      rw [hq] at HW
      cases hq2 : numQ d 4 with
      | none =>
        rw [hq2] at HW
        have z0 : w3.cell? ⟨rb, 0, none⟩ = some (.string ⟨#[]⟩) := cell_of_row _ _ _ _ _ _ hz3
        have f0 := frozen_of_row w3 rb 0 _ _ hz3
        have z1 : w3.cell? ⟨rb, 1, none⟩ = some (.int .i64 0) := cell_of_row _ _ _ _ _ _ hz3
        have f1 := frozen_of_row w3 rb 1 _ _ hz3
        have z2 : w3.cell? ⟨rb, 2, none⟩ = some (.int .i64 0) := cell_of_row _ _ _ _ _ _ hz3
        have f2 := frozen_of_row w3 rb 2 _ _ hz3
        go_wp2_with fail
        go_region
        all_goals
          have hrow := puts_row [.string ⟨#[]⟩, .int .i64 0, .int .i64 0] hz3 rfl
          go_wp2_with fail
          (try simp only [Exit.inBlock, Exit.then])
          refine bodyPost_ret (results_cell_row2 rfl _ _ rb 27 #[.string ⟨#[]⟩, .int .i64 0, .int .i64 0] (0, 0) _ rfl hrow Tryd.underlying27 rfl (by kernel_rfl)) rfl ?_
          rw [HW.out]
          exact ⟨rfl, (puts_below HRB.out [.string ⟨#[]⟩, .int .i64 0, .int .i64 0] w3 0 B3.out).drew⟩
      | some vv =>
        have hv := HV.out vv hq2
        subst hv
        rw [hq2] at HW
        have HCK := Lib.hid (fun W h => checkPlace_any E (a, (uu : Int), (vv : Int)) W h)
        have hW := HW.out
        simp only at hW
        have HWW := Lib.hid hW
        clear HW hW hq hq2 HU HV
        generalize placeE (a, (uu : Int), (vv : Int)) = k at HCK HWW
        simp only [encPlace] at HCK
        have HZ3 := Lib.hid hz3
        have t0 := ((below_one w3 (.cells #[.string ⟨#[]⟩, .int .i64 0, .int .i64 0] 27)).cell (p := ⟨_, _, none⟩) (lt_of_cell r0)).trans r0
        have t1 := ((below_one w3 (.cells #[.string ⟨#[]⟩, .int .i64 0, .int .i64 0] 27)).cell (p := ⟨_, _, none⟩) (lt_of_cell r1)).trans r1
        have t2 := ((below_one w3 (.cells #[.string ⟨#[]⟩, .int .i64 0, .int .i64 0] 27)).cell (p := ⟨_, _, none⟩) (lt_of_cell r2)).trans r2
        go_wp2_with fail
        skip
        all_goals
          have b30 : Below w3.heap.size w3 (w3.alloc (.cells #[.string ⟨a.toArray⟩, .int .i64 (uu : Nat), .int .i64 (vv : Nat)] 27)) := (below_one _ _)
          have hx4 : (w3.alloc (.cells #[.string ⟨a.toArray⟩, .int .i64 (uu : Nat), .int .i64 (vv : Nat)] 27)).heap[w3.heap.size]? = some (.cells #[.string ⟨a.toArray⟩, .int .i64 (uu : Nat), .int .i64 (vv : Nat)] 27 (0, 0)) := heap_alloc_new w3 _
          refine (HCK.out _ (HG3.out.below b30).place).mono ?_
          rintro e w4 ⟨rfl, b4⟩
          have hz4 := (b4.block rb (by have := row_lt HZ3.out; simp; omega)).trans ((heap_alloc_old w3 _ (row_lt HZ3.out)).trans HZ3.out)
          have hx5 := (b4.block w3.heap.size (by simp)).trans hx4
          have v0 : w4.cell? ⟨w3.heap.size, 0, none⟩ = some (.string ⟨a.toArray⟩) := cell_of_row _ _ _ _ _ _ hx5
          have v1 : w4.cell? ⟨w3.heap.size, 1, none⟩ = some (.int .i64 (uu : Nat)) := cell_of_row _ _ _ _ _ _ hx5
          have v2 : w4.cell? ⟨w3.heap.size, 2, none⟩ = some (.int .i64 (vv : Nat)) := cell_of_row _ _ _ _ _ _ hx5
          have B4 := Lib.hid (B3.out.trans ((b30.trans (b4.mono b30.size)).mono B3.out.size))
          clear b4 b30 hx4 hx5 r0 t0 r1 t1 r2 t2 HCK
          by_cases h0 : k = 0
          · subst h0
            rw [errOf_zero]
            have z0 : w4.cell? ⟨rb, 0, none⟩ = some (.string ⟨#[]⟩) := cell_of_row _ _ _ _ _ _ hz4
            have f0 := frozen_of_row w4 rb 0 _ _ hz4
            have z1 : w4.cell? ⟨rb, 1, none⟩ = some (.int .i64 0) := cell_of_row _ _ _ _ _ _ hz4
            have f1 := frozen_of_row w4 rb 1 _ _ hz4
            have z2 : w4.cell? ⟨rb, 2, none⟩ = some (.int .i64 0) := cell_of_row _ _ _ _ _ _ hz4
            have f2 := frozen_of_row w4 rb 2 _ _ hz4
            go_wp2_with fail
            have hrow := puts_row [.string ⟨a.toArray⟩, .int .i64 (uu : Nat), .int .i64 (vv : Nat)] hz4 rfl
            (try simp only [Exit.inBlock, Exit.then])
            refine bodyPost_ret (results_cell_row2 rfl _ _ rb 27 #[.string ⟨a.toArray⟩, .int .i64 (uu : Nat), .int .i64 (vv : Nat)] (0, 0) _ rfl hrow Tryd.underlying27 rfl (by kernel_rfl)) rfl ?_
            rw [HWW.out]
            exact ⟨rfl, (puts_below HRB.out [.string ⟨a.toArray⟩, .int .i64 (uu : Nat), .int .i64 (vv : Nat)] w4 0 B4.out)⟩
          · rw [errOf_pos _ _ h0]
            have z0 : w4.cell? ⟨rb, 0, none⟩ = some (.string ⟨#[]⟩) := cell_of_row _ _ _ _ _ _ hz4
            have f0 := frozen_of_row w4 rb 0 _ _ hz4
            have z1 : w4.cell? ⟨rb, 1, none⟩ = some (.int .i64 0) := cell_of_row _ _ _ _ _ _ hz4
            have f1 := frozen_of_row w4 rb 1 _ _ hz4
            have z2 : w4.cell? ⟨rb, 2, none⟩ = some (.int .i64 0) := cell_of_row _ _ _ _ _ _ hz4
            have f2 := frozen_of_row w4 rb 2 _ _ hz4
            go_wp2_with fail
            have hrow := puts_row [.string ⟨#[]⟩, .int .i64 0, .int .i64 0] hz4 rfl
            (try simp only [Exit.inBlock, Exit.then])
            refine bodyPost_ret (results_cell_row2 rfl _ _ rb 27 #[.string ⟨#[]⟩, .int .i64 0, .int .i64 0] (0, 0) _ rfl hrow Tryd.underlying27 rfl (by kernel_rfl)) rfl ?_
            rw [HWW.out, if_neg h0, errOf_pos _ _ h0]
            exact ⟨rfl, (puts_below HRB.out [.string ⟨#[]⟩, .int .i64 0, .int .i64 0] w4 0 B4.out)⟩
  · have HW0 := Lib.hid (placeWords_len h4)
    obtain ⟨n, hn⟩ : ∃ n, n = ws.length := ⟨_, rfl⟩
    rw [← hn] at h4 ⊢
    have h4' : ¬ (n : Int) = 3 := by omega
    clear hn
    have z0 : w1.cell? ⟨rb, 0, none⟩ = some (.string ⟨#[]⟩) := cell_of_row _ _ _ _ _ _ hz1
    have f0 := frozen_of_row w1 rb 0 _ _ hz1
    have z1 : w1.cell? ⟨rb, 1, none⟩ = some (.int .i64 0) := cell_of_row _ _ _ _ _ _ hz1
    have f1 := frozen_of_row w1 rb 1 _ _ hz1
    have z2 : w1.cell? ⟨rb, 2, none⟩ = some (.int .i64 0) := cell_of_row _ _ _ _ _ _ hz1
    have f2 := frozen_of_row w1 rb 2 _ _ hz1
    go_wp2_with fail
    go_region
    all_goals
      have hrow := puts_row [.string ⟨#[]⟩, .int .i64 0, .int .i64 0] hz1 rfl
      go_wp2_with fail
      (try simp only [Exit.inBlock, Exit.then])
      refine bodyPost_ret (results_cell_row2 rfl _ _ rb 27 #[.string ⟨#[]⟩, .int .i64 0, .int .i64 0] (0, 0) _ rfl hrow Tryd.underlying27 rfl (by kernel_rfl)) rfl ?_
      rw [HW0.out]
      exact ⟨rfl, (puts_below HRB.out [.string ⟨#[]⟩, .int .i64 0, .int .i64 0] w1 0 B1.out).drew⟩
end Go.Proofs.YtmhkcmoepopnoaaDoor
