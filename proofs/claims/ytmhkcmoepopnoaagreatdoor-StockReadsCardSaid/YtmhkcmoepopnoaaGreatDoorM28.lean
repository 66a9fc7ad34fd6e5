/- A line of a stock read: stock.ReadLine. -/
import Derived.Test.YtmhkcmoepopnoaaGreatDoorM03
import Derived.Test.YtmhkcmoepopnoaaGreatDoorM25
namespace Go.Proofs.YtmhkcmoepopnoaaGreatDoor
open Go.RowKit Go.Sort Go.Proofs

set_option maxHeartbeats 6000000 in
set_option maxRecDepth 100000 in
theorem lineRead_any (E : Nat → Addr) (s : ByteArray) (hs : s.size ≤ 1000000) (w : World) (hG : ReadG E w) :
    Calls Tryz.prog 73 #[.string s] w fun e w' => e = .returned (.tuple #[.agg (encLine (lineWords (splitL 32 (bts s))).1).toArray, errOf E (lineWords (splitL 32 (bts s))).2]) ∧ Below w.heap.size w w' := by
  have HSP := Lib.hid (fun W (h : MaxG W) => split_any s 32 W (by omega) h)
  have hle := fun x (h : x ∈ splitL 32 (bts s)) => splitL_lens h
  generalize splitL 32 (bts s) = ws at HSP hle ⊢
  rw [show (bts s).length = s.size from rfl] at hle
  have HG := Lib.hid (fun W (h : Below w.heap.size w W) => hG.below h)
  have hgT := lt_of_cell hG.text
  have hgN := lt_of_cell hG.name
  have hgB := lt_of_cell hG.bound
  simp only at hgT hgN hgB
  have b0 := below_one w (.cells #[.string ⟨#[]⟩, .int .i64 0, .int .i64 0, .string ⟨#[]⟩, .int .i64 0] 84)
  have hz0 := heap_alloc_new w (.cells #[.string ⟨#[]⟩, .int .i64 0, .int .i64 0, .string ⟨#[]⟩, .int .i64 0] 84)
  clear hG
  go_enter Tryz.func73, Tryz.ntmps73
  go_wp2_with fail
  obtain ⟨rb, hrb⟩ : ∃ rb, rb = w.heap.size := ⟨_, rfl⟩
  have HRB : Hid (w.heap.size ≤ rb) := by show _ ≤ _; omega
  rw [← hrb] at hz0 hgT hgN hgB ⊢
  generalize w.alloc (.cells #[.string ⟨#[]⟩, .int .i64 0, .int .i64 0, .string ⟨#[]⟩, .int .i64 0] 84) = W0 at b0 hz0 ⊢
  refine (HSP.out W0 (HG.out _ b0).maxl).mono ?_
  rintro e w1 ⟨A, cap, rfl, hS, -, bb1⟩
  have HZ1 := Lib.hid ((bb1.block rb (row_lt hz0)).trans hz0)
  have B1 := Lib.hid (b0.trans (bb1.mono b0.size))
  clear bb1 hz0 b0 HSP hrb
  by_cases h4 : ws.length = 3
  · obtain ⟨a, b, c, rfl⟩ := three h4
    have ha := hle a (by simp)
    have hb := hle b (by simp)
    have hcl := hle c (by simp)
    have HNU := Lib.hid (fun W h1 h2 => numb_any c 13 (by omega) (by omega) W h1 h2)
    have HNM := Lib.hid (fun W => name_wide b W)
    have HPL := Lib.hid (fun W hg => placeRead_any E ⟨a.toArray⟩ (by show a.toArray.size ≤ _; simp; omega) W hg)
    have HWI := Lib.hid (fun n W => within_any n 1 1099511627776 W)
    rw [show bts ⟨a.toArray⟩ = a from rfl] at HPL
    have HL0 := Lib.hid (fun h => lineWords_none (a := a) (b := b) (c := c) h)
    have HL1 := Lib.hid (fun n h => lineWords_some (a := a) (b := b) (c := c) (n := n) h)
    generalize placeWords (splitL 45 a) = P at HPL HL1
    generalize nameB b = nb at HNM HL1
    obtain ⟨bl, o, rfl, hl, p0, p1, p2⟩ := strs3 hS
    rw [show [a, b, c].length = 3 from rfl]
    clear hS hle h4
    go_wp2_with fail
    refine (HNU.out _ (HG.out _ B1.out).tab (HG.out _ B1.out).atoi).mono ?_
    rintro e w2 ⟨n0, rfl, hn0, b2⟩
    have B2 := Lib.hid (B1.out.trans (b2.mono B1.out.size))
    have HZ2 := Lib.hid ((b2.block rb (row_lt HZ1.out)).trans HZ1.out)
    have HN0 := Lib.hid hn0
    have up := fun (q : Addr) (v : Value) (h : w1.cell? q = some v) => (b2.cell (lt_of_cell h)).trans h
    have q0 := up _ _ p0
    have q1 := up _ _ p1
    clear up p0 p1 p2 b2 hn0 B1 HZ1 hl HNU
    cases hq : numQ c 13 with
    | none =>
      have HR := Lib.hid (HL0.out hq)
      have hg := (HG.out _ B2.out).text
      unfold ErrAt at hg
      have hne : 6 ≠ rb := by omega
      obtain ⟨⟨z0, z1, z2, z3, z4⟩, f0, f1, f2, f3, f4⟩ := row5f HZ2.out
      clear hq HL0 HL1 HN0
      go_wp2_with fail
      go_region
      all_goals
        go_wp2_with fail
        (try simp only [Exit.inBlock, Exit.then])
        refine bodyPost_ret (results_cell_row2 rfl _ _ rb 84 #[.string ⟨#[]⟩, .int .i64 0, .int .i64 0, .string ⟨#[]⟩, .int .i64 0] (0, 0) _ rfl (puts_row [.string ⟨#[]⟩, .int .i64 0, .int .i64 0, .string ⟨#[]⟩, .int .i64 0] HZ2.out rfl) Tryz.underlying84 rfl (by kernel_rfl)) rfl ?_
        rw [HR.out]
        exact ⟨rfl, (puts_below HRB.out [.string ⟨#[]⟩, .int .i64 0, .int .i64 0, .string ⟨#[]⟩, .int .i64 0] _ 0 B2.out).drew⟩
    | some n =>
      have hn := HN0.out n hq
      subst hn
      have HR := Lib.hid (HL1.out n hq)
      clear hq HL0 HL1 HN0
      go_wp2_with fail
      refine (HPL.out _ (HG.out _ B2.out)).mono ?_
      rintro e w3 ⟨rfl, b3⟩
      obtain ⟨⟨y1, y2, y3⟩, pe⟩ := P
      simp only [encPlace]
      have hz3 := (b3.block rb (row_lt HZ2.out)).trans HZ2.out
      have b3x := below_one w3 (.cells #[.string ⟨y1.toArray⟩, .int .i64 y2, .int .i64 y3] 24)
      have HX := Lib.hid (heap_alloc_new w3 (.cells #[.string ⟨y1.toArray⟩, .int .i64 y2, .int .i64 y3] 24))
      have HZ4 := Lib.hid ((b3x.block rb (row_lt hz3)).trans hz3)
      have HB4 := Lib.hid (B2.out.trans ((b3.trans (b3x.mono b3.size)).mono B2.out.size))
      have up := fun (q : Addr) (v : Value) (h : w2.cell? q = some v) => ((b3.trans (b3x.mono b3.size)).cell (lt_of_cell h)).trans h
      have k1 := up _ _ q1
      clear up q0 q1 b3 b3x hz3 HZ2 B2 HPL
      by_cases hpe : pe = 0
      · subst hpe
        rw [errOf_zero]
        go_wp2_with fail
        generalize w3.alloc (.cells #[.string ⟨y1.toArray⟩, .int .i64 y2, .int .i64 y3] 24) = w4 at *
        generalize w3.heap.size = xb at *
        refine (HNM.out _).mono ?_
        rintro e w5 ⟨rfl, b5⟩
        have HX5 := Lib.hid ((b5.block xb (row_lt HX.out)).trans HX.out)
        have HZ5 := Lib.hid ((b5.block rb (row_lt HZ4.out)).trans HZ4.out)
        have HB5 := Lib.hid (HB4.out.trans (b5.mono HB4.out.size))
        have j1 := (b5.cell (lt_of_cell k1)).trans k1
        clear b5 k1 HX HZ4 HB4
        obtain ⟨⟨z0, z1, z2, z3, z4⟩, f0, f1, f2, f3, f4⟩ := row5f HZ5.out
        cases nb with
        | false =>
          have hg := (HG.out _ HB5.out).name
          unfold ErrAt at hg
          have hne : 0 ≠ rb := by omega
          go_wp2_with fail
          go_region
          all_goals
            go_wp2_with fail
            (try simp only [Exit.inBlock, Exit.then])
            refine bodyPost_ret (results_cell_row2 rfl _ _ rb 84 #[.string ⟨#[]⟩, .int .i64 0, .int .i64 0, .string ⟨#[]⟩, .int .i64 0] (0, 0) _ rfl (puts_row [.string ⟨#[]⟩, .int .i64 0, .int .i64 0, .string ⟨#[]⟩, .int .i64 0] HZ5.out rfl) Tryz.underlying84 rfl (by kernel_rfl)) rfl ?_
            rw [HR.out, if_neg (by simp), if_pos (by simp)]
            exact ⟨rfl, (puts_below HRB.out [.string ⟨#[]⟩, .int .i64 0, .int .i64 0, .string ⟨#[]⟩, .int .i64 0] _ 0 HB5.out).drew⟩
        | true =>
          go_wp2_with fail
          refine (HWI.out _ _).mono ?_
          rintro e w6 ⟨rfl, rfl⟩
          by_cases hwi : wiB (n : Int) 1 1099511627776 = false
          · rw [hwi]
            have hg := (HG.out _ HB5.out).bound
            unfold ErrAt at hg
            have hne : 1 ≠ rb := by omega
            have HR2 := Lib.hid (HR.out.trans (by rw [if_neg (by simp), if_neg (by simp), if_pos hwi]))
            clear hwi
            go_wp2_with fail
            go_region
            all_goals
              go_wp2_with fail
              (try simp only [Exit.inBlock, Exit.then])
              refine bodyPost_ret (results_cell_row2 rfl _ _ rb 84 #[.string ⟨#[]⟩, .int .i64 0, .int .i64 0, .string ⟨#[]⟩, .int .i64 0] (0, 0) _ rfl (puts_row [.string ⟨#[]⟩, .int .i64 0, .int .i64 0, .string ⟨#[]⟩, .int .i64 0] HZ5.out rfl) Tryz.underlying84 rfl (by kernel_rfl)) rfl ?_
              rw [HR2.out]
              exact ⟨rfl, (puts_below HRB.out [.string ⟨#[]⟩, .int .i64 0, .int .i64 0, .string ⟨#[]⟩, .int .i64 0] _ 0 HB5.out).drew⟩
          · have hwt : wiB (n : Int) 1 1099511627776 = true := by simpa using hwi
            rw [hwt]
            have HR2 := Lib.hid (HR.out.trans (by rw [if_neg (by simp), if_neg (by simp), if_neg hwi]))
            obtain ⟨⟨x0, x1, x2⟩, -⟩ := row3f HX5.out
            clear hwi hwt
            go_wp2_with fail
            go_region
            all_goals
              go_wp2_with fail
              (try simp only [Exit.inBlock, Exit.then])
              refine bodyPost_ret (results_cell_row2 rfl _ _ rb 84 #[.string ⟨y1.toArray⟩, .int .i64 y2, .int .i64 y3, .string ⟨b.toArray⟩, .int .i64 (n : Int)] (0, 0) _ rfl (puts_row [.string ⟨y1.toArray⟩, .int .i64 y2, .int .i64 y3, .string ⟨b.toArray⟩, .int .i64 (n : Int)] HZ5.out rfl) Tryz.underlying84 rfl (by kernel_rfl)) rfl ?_
              rw [HR2.out]
              exact ⟨rfl, (puts_below HRB.out [.string ⟨y1.toArray⟩, .int .i64 y2, .int .i64 y3, .string ⟨b.toArray⟩, .int .i64 (n : Int)] _ 0 HB5.out).drew⟩
      · rw [errOf_pos _ _ hpe]
        go_wp2_with (refine wpList_store_box rfl 84 _ _ rfl rb [.string ⟨#[]⟩, .int .i64 0, .int .i64 0, .string ⟨#[]⟩, .int .i64 0] rfl rfl 84 [.string ⟨#[]⟩, .int .i64 0, .int .i64 0, .string ⟨#[]⟩, .int .i64 0] HZ4.out (by kernel_rfl) rfl (encLine_one zeroLine) ?_; intro wf hf tf)
        (try simp only [Exit.inBlock, Exit.then])
        refine bodyPost_ret (results_cell_row2 rfl _ _ rb 84 #[.string ⟨#[]⟩, .int .i64 0, .int .i64 0, .string ⟨#[]⟩, .int .i64 0] (0, 0) _ rfl hf Tryz.underlying84 rfl (by kernel_rfl)) rfl ?_
        rw [HR.out, if_pos (show pe ≠ 0 from hpe), errOf_pos _ _ hpe]
        exact ⟨rfl, HB4.out.trans (tf.below HRB.out)⟩
  · have HW := Lib.hid (lineWords_len h4)
    obtain ⟨n, hn⟩ : ∃ n, n = ws.length := ⟨_, rfl⟩
    rw [← hn] at h4 ⊢
    have h4' : ¬ (n : Int) = 3 := by omega
    have hg := (HG.out _ B1.out).text
    unfold ErrAt at hg
    have hne : 6 ≠ rb := by omega
    obtain ⟨⟨z0, z1, z2, z3, z4⟩, f0, f1, f2, f3, f4⟩ := row5f HZ1.out
    clear hn
    go_wp2_with fail
    go_region
    all_goals
      go_wp2_with fail
      (try simp only [Exit.inBlock, Exit.then])
      refine bodyPost_ret (results_cell_row2 rfl _ _ rb 84 #[.string ⟨#[]⟩, .int .i64 0, .int .i64 0, .string ⟨#[]⟩, .int .i64 0] (0, 0) _ rfl (puts_row [.string ⟨#[]⟩, .int .i64 0, .int .i64 0, .string ⟨#[]⟩, .int .i64 0] HZ1.out rfl) Tryz.underlying84 rfl (by kernel_rfl)) rfl ?_
      rw [HW.out]
      exact ⟨rfl, (puts_below HRB.out [.string ⟨#[]⟩, .int .i64 0, .int .i64 0, .string ⟨#[]⟩, .int .i64 0] _ 0 B1.out).drew⟩
end Go.Proofs.YtmhkcmoepopnoaaGreatDoor
