/- Places read by the document: ReadPlace. A line's words; a line read by the document: ReadLine. -/
import Derived.Test.YtmhkcmoepopnoaaGreatDoorM06
import Derived.Test.YtmhkcmoepopnoaaGreatDoorM10
import Derived.Test.YtmhkcmoepopnoaaGreatDoorM11
import Derived.Test.YtmhkcmoepopnoaaGreatDoorM20
namespace Go.Proofs.YtmhkcmoepopnoaaGreatDoor
open Go.RowKit Go.Sort Go.Proofs

theorem placeWords_cases (a c d : List UInt8) : ((refNum c 4 < 0 ∨ ¬ refNum c 4 < 0 ∧ refNum d 4 < 0) ∧ placeWords [a, c, d] = (zeroPlace, 1)) ∨ (¬ refNum c 4 < 0 ∧ ¬ refNum d 4 < 0 ∧ placeWords [a, c, d] = if placeE (a, refNum c 4, refNum d 4) = 0 then ((a, refNum c 4, refNum d 4), 0) else (zeroPlace, placeE (a, refNum c 4, refNum d 4))) := by
  rw [refNum_eq c 4 (by omega), refNum_eq d 4 (by omega)]
  rw [show placeWords [a, c, d] = match numQ c 4, numQ d 4 with
    | some u, some v => if placeE (a, (u : Int), (v : Int)) = 0 then ((a, (u : Int), (v : Int)), 0) else (zeroPlace, placeE (a, (u : Int), (v : Int)))
    | _, _ => (zeroPlace, 1) from rfl]
  cases numQ c 4 with
  | none => exact .inl ⟨.inl (by simp), rfl⟩
  | some u =>
    cases numQ d 4 with
    | none => exact .inl ⟨.inr ⟨by simp, by simp⟩, rfl⟩
    | some v => exact .inr ⟨by simp, by simp, rfl⟩

set_option maxHeartbeats 1600000 in
theorem refReadPlace_any (s : ByteArray) (hs : s.size ≤ 1000000) (w : World) :
    Calls Tryz.prog 57 #[.string s] w fun e w' => e = .returned (.tuple #[.agg (encPlace (placeWords (splitL 45 (bts s))).1).toArray, .int .i64 ((placeWords (splitL 45 (bts s))).2 : Nat)]) ∧ Below w.heap.size w w' := by
  have HCT := Lib.hid (fun W => refCutB s 45 W hs)
  have hle := fun x (h : x ∈ splitL 45 (bts s)) => splitL_lens h
  generalize splitL 45 (bts s) = ws at HCT hle ⊢
  rw [show (bts s).length = s.size from rfl] at hle
  have b0 := below_one w (.cells #[.string ⟨#[]⟩, .int .i64 0, .int .i64 0] 24)
  have hz0 := heap_alloc_new w (.cells #[.string ⟨#[]⟩, .int .i64 0, .int .i64 0] 24)
  go_enter Tryz.func57, Tryz.ntmps57
  go_wp2_with fail
  obtain ⟨rb, hrb⟩ : ∃ rb, rb = w.heap.size := ⟨_, rfl⟩
  have HRB : Hid (w.heap.size ≤ rb) := by show _ ≤ _; omega
  rw [← hrb] at hz0 ⊢
  generalize w.alloc (.cells #[.string ⟨#[]⟩, .int .i64 0, .int .i64 0] 24) = W0 at b0 hz0 ⊢
  refine (HCT.out W0).mono ?_
  rintro e w1 ⟨A, cap, rfl, hS, -, bb1⟩
  have hz1 := (bb1.block rb (row_lt hz0)).trans hz0
  have B1 := Lib.hid (b0.trans (bb1.mono b0.size))
  clear bb1 hz0 b0 HCT hrb
  by_cases h4 : ws.length = 3
  · obtain ⟨a, c, d, rfl⟩ := three h4
    have ha := hle a (by simp)
    have hcl := hle c (by simp)
    have hdl := hle d (by simp)
    have HCASE := Lib.hid (placeWords_cases a c d)
    have HN1 := Lib.hid (fun W => refNumber_any c 4 (by omega) (by omega) W)
    have HN2 := Lib.hid (fun W => refNumber_any d 4 (by omega) (by omega) W)
    obtain ⟨bl, o, rfl, hl, p0, p1, p2⟩ := strs3 hS
    generalize refNum c 4 = rc at HN1 HCASE
    generalize refNum d 4 = rd at HN2 HCASE
    rw [show [a, c, d].length = 3 from rfl]
    clear hS hle h4
    go_wp2_with fail
    refine (HN1.out _).mono ?_
    rintro e w2 ⟨rfl, rfl⟩
    go_wp2_with fail
    refine (HN2.out _).mono ?_
    rintro e w2 ⟨rfl, rfl⟩
    obtain ⟨⟨z0, z1, z2⟩, f0, f1, f2⟩ := row3f hz1
    have HZ1 := Lib.hid hz1
    clear hz1
    rcases HCASE.out with ⟨hneg, hw⟩ | ⟨hc, hd, hw⟩
    · have HW := Lib.hid hw
      clear hw
      rcases hneg with h | ⟨h, h'⟩
      all_goals
        go_wp2_with fail
        have hrow := puts_row [.string ⟨#[]⟩, .int .i64 0, .int .i64 0] HZ1.out rfl
        (try simp only [Exit.inBlock, Exit.then])
        refine bodyPost_ret (results_cell_row2 rfl _ _ rb 24 #[.string ⟨#[]⟩, .int .i64 0, .int .i64 0] (0, 0) _ rfl hrow Tryz.underlying24 rfl (by kernel_rfl)) rfl ?_
        rw [HW.out]
        exact ⟨rfl, puts_below HRB.out [.string ⟨#[]⟩, .int .i64 0, .int .i64 0] _ 0 B1.out⟩
    · have HW := Lib.hid hw
      have HPE := Lib.hid (fun W => refPlaceE_any (a, rc, rd) (by show a.length ≤ _; omega) W)
      generalize placeE (a, rc, rd) = k at HW HPE
      simp only [encPlace] at HPE
      have hx := heap_alloc_new w1 (.cells #[.string ⟨a.toArray⟩, .int .i64 rc, .int .i64 rd] 24)
      have b2 := below_one w1 (.cells #[.string ⟨a.toArray⟩, .int .i64 rc, .int .i64 rd] 24)
      have hz2 := (b2.block rb (row_lt HZ1.out)).trans HZ1.out
      have B2 := Lib.hid (B1.out.trans (b2.mono B1.out.size))
      clear hw z0 z1 z2 f0 f1 f2 b2
      go_wp2_with fail
      generalize w1.alloc (.cells #[.string ⟨a.toArray⟩, .int .i64 rc, .int .i64 rd] 24) = w2 at *
      generalize w1.heap.size = xb at *
      refine (HPE.out _).mono ?_
      rintro e w3 ⟨rfl, b3⟩
      have hx3 := (b3.block xb (row_lt hx)).trans hx
      have HZ3 := Lib.hid ((b3.block rb (row_lt hz2)).trans hz2)
      have B3 := Lib.hid (B2.out.trans (b3.mono B2.out.size))
      clear b3 hx hz2 hl p0 p1 p2
      obtain ⟨⟨z0, z1, z2⟩, f0, f1, f2⟩ := row3f HZ3.out
      obtain ⟨⟨x0, x1, x2⟩, -⟩ := row3f hx3
      clear hx3
      by_cases h0 : k = 0
      · subst h0
        go_wp2_with fail
        have hrow := puts_row [.string ⟨a.toArray⟩, .int .i64 rc, .int .i64 rd] HZ3.out rfl
        (try simp only [Exit.inBlock, Exit.then])
        refine bodyPost_ret (results_cell_row2 rfl _ _ rb 24 #[.string ⟨a.toArray⟩, .int .i64 rc, .int .i64 rd] (0, 0) _ rfl hrow Tryz.underlying24 rfl (by kernel_rfl)) rfl ?_
        rw [HW.out]
        exact ⟨rfl, puts_below HRB.out [.string ⟨a.toArray⟩, .int .i64 rc, .int .i64 rd] _ 0 B3.out⟩
      · have hk : 0 < (k : Int) := by omega
        go_wp2_with fail
        have hrow := puts_row [.string ⟨#[]⟩, .int .i64 0, .int .i64 0] HZ3.out rfl
        (try simp only [Exit.inBlock, Exit.then])
        refine bodyPost_ret (results_cell_row2 rfl _ _ rb 24 #[.string ⟨#[]⟩, .int .i64 0, .int .i64 0] (0, 0) _ rfl hrow Tryz.underlying24 rfl (by kernel_rfl)) rfl ?_
        rw [HW.out, if_neg h0]
        exact ⟨rfl, puts_below HRB.out [.string ⟨#[]⟩, .int .i64 0, .int .i64 0] _ 0 B3.out⟩
  · have HW := Lib.hid (placeWords_len h4)
    obtain ⟨⟨z0, z1, z2⟩, f0, f1, f2⟩ := row3f hz1
    have HZ1 := Lib.hid hz1
    obtain ⟨n, hn⟩ : ∃ n, n = ws.length := ⟨_, rfl⟩
    rw [← hn] at h4 ⊢
    have h4' : ¬ (n : Int) = 3 := by omega
    clear hn hz1
    go_wp2_with fail
    have hrow := puts_row [.string ⟨#[]⟩, .int .i64 0, .int .i64 0] HZ1.out rfl
    (try simp only [Exit.inBlock, Exit.then])
    refine bodyPost_ret (results_cell_row2 rfl _ _ rb 24 #[.string ⟨#[]⟩, .int .i64 0, .int .i64 0] (0, 0) _ rfl hrow Tryz.underlying24 rfl (by kernel_rfl)) rfl ?_
    rw [HW.out]
    exact ⟨rfl, puts_below HRB.out [.string ⟨#[]⟩, .int .i64 0, .int .i64 0] _ 0 B1.out⟩
end Go.Proofs.YtmhkcmoepopnoaaGreatDoor
namespace Go.Proofs.YtmhkcmoepopnoaaGreatDoor
open Go.RowKit Go.Sort Go.Proofs

def zeroLine : LineV := (([], 0, 0), [], 0)
/-- What reading a line's words answers. -/
def lineWords (ws : List (List UInt8)) : LineV × Nat :=
  match ws with
  | [a, b, c] => match numQ c 13 with
    | none => (zeroLine, 1)
    | some n => if (placeWords (splitL 45 a)).2 ≠ 0 then (zeroLine, (placeWords (splitL 45 a)).2) else if nameB b = false then (zeroLine, 5) else if wiB (n : Int) 1 1099511627776 = false then (zeroLine, 2) else (((placeWords (splitL 45 a)).1, b, (n : Int)), 0)
  | _ => (zeroLine, 1)
theorem lineWords_len {ws : List (List UInt8)} (h : ws.length ≠ 3) : lineWords ws = (zeroLine, 1) := by
  unfold lineWords
  split
  · simp at h
  · rfl
theorem lineWords_le (ws : List (List UInt8)) : (lineWords ws).2 ≤ 12 := by
  unfold lineWords
  split
  · rename_i a b c
    have := placeWords_le (splitL 45 a)
    split
    · simp
    · repeat' split
      all_goals first | exact this | simp
  · simp
theorem lineWords_none {a b c : List UInt8} (h : numQ c 13 = none) : lineWords [a, b, c] = (zeroLine, 1) := by
  show (match numQ c 13 with | none => (zeroLine, 1) | some n => _) = _
  rw [h]
theorem lineWords_some {a b c : List UInt8} {n : Nat} (h : numQ c 13 = some n) : lineWords [a, b, c] = if (placeWords (splitL 45 a)).2 ≠ 0 then (zeroLine, (placeWords (splitL 45 a)).2) else if nameB b = false then (zeroLine, 5) else if wiB (n : Int) 1 1099511627776 = false then (zeroLine, 2) else (((placeWords (splitL 45 a)).1, b, (n : Int)), 0) := by
  show (match numQ c 13 with | none => (zeroLine, 1) | some n => _) = _
  rw [h]

set_option maxHeartbeats 1600000 in
set_option maxRecDepth 100000 in
theorem refReadLine_any (A : Option Addr) (cap : Nat) (ws : List (List UInt8)) (w : World) (hS : StrsAt w A ws) (hle : ∀ x ∈ ws, x.length ≤ 1000000) :
    Calls Tryz.prog 76 #[.slice A ws.length cap] w fun e w' => e = .returned (.tuple #[.agg (encLine (lineWords ws).1).toArray, .int .i64 ((lineWords ws).2 : Nat)]) ∧ Below w.heap.size w w' := by
  have b0 := below_one w (.cells #[.string ⟨#[]⟩, .int .i64 0, .int .i64 0, .string ⟨#[]⟩, .int .i64 0] 84)
  have hz0 := heap_alloc_new w (.cells #[.string ⟨#[]⟩, .int .i64 0, .int .i64 0, .string ⟨#[]⟩, .int .i64 0] 84)
  have hS0 := hS.below b0
  go_enter Tryz.func76, Tryz.ntmps76
  by_cases h4 : ws.length = 3
  · obtain ⟨a, b, c, rfl⟩ := three h4
    have ha := hle a (by simp)
    have hb := hle b (by simp)
    have hcl := hle c (by simp)
    have HN1 := Lib.hid (fun W => refNumber_any c 13 (by omega) (by omega) W)
    have e1 := refNum_eq c 13 (by omega)
    have HNM := Lib.hid (fun W => isName_any b (by omega) W)
    have HPL := Lib.hid (fun W => refReadPlace_any ⟨a.toArray⟩ (by show a.toArray.size ≤ _; simp; omega) W)
    have HLE := Lib.hid (placeWords_le (splitL 45 a))
    rw [show bts ⟨a.toArray⟩ = a from rfl] at HPL
    have HL0 := Lib.hid (fun h => lineWords_none (a := a) (b := b) (c := c) h)
    have HL1 := Lib.hid (fun n h => lineWords_some (a := a) (b := b) (c := c) (n := n) h)
    generalize lineWords [a, b, c] = R at HL0 HL1 ⊢
    generalize placeWords (splitL 45 a) = P at HPL HL1 HLE
    generalize nameB b = nb at HNM HL1
    generalize refNum c 13 = rc at HN1 e1
    obtain ⟨bl, o, rfl, hl, p0, p1, p2⟩ := strs3 hS0
    rw [show [a, b, c].length = 3 from rfl]
    have E1 := Lib.hid e1
    clear hS hS0 hle h4 e1
    go_wp2_with fail
    obtain ⟨rb, hrb⟩ : ∃ rb, rb = w.heap.size := ⟨_, rfl⟩
    have HRB : Hid (w.heap.size ≤ rb) := by show _ ≤ _; omega
    rw [← hrb] at hz0 ⊢
    generalize w.alloc (.cells #[.string ⟨#[]⟩, .int .i64 0, .int .i64 0, .string ⟨#[]⟩, .int .i64 0] 84) = w1 at *
    refine (HN1.out _).mono ?_
    rintro e w2 ⟨rfl, rfl⟩
    have HB := Lib.hid b0
    have HZ := Lib.hid hz0
    clear b0 hz0 hrb
    cases hq : numQ c 13 with
    | none =>
      have hr : rc < 0 := by rw [E1.out, hq]; simp
      have HR := Lib.hid (HL0.out hq)
      clear hq HL0 HL1
      go_wp2_with (refine wpList_store_box rfl 84 _ _ rfl rb [.string ⟨#[]⟩, .int .i64 0, .int .i64 0, .string ⟨#[]⟩, .int .i64 0] rfl rfl 84 [.string ⟨#[]⟩, .int .i64 0, .int .i64 0, .string ⟨#[]⟩, .int .i64 0] HZ.out (by kernel_rfl) rfl (encLine_one zeroLine) ?_; intro wf hf tf)
      (try simp only [Exit.inBlock, Exit.then])
      refine bodyPost_ret (results_cell_row2 rfl _ _ rb 84 #[.string ⟨#[]⟩, .int .i64 0, .int .i64 0, .string ⟨#[]⟩, .int .i64 0] (0, 0) _ rfl hf Tryz.underlying84 rfl (by kernel_rfl)) rfl ?_
      rw [HR.out]
      exact ⟨rfl, HB.out.trans (tf.below HRB.out)⟩
    | some n =>
      have hr : rc = (n : Int) := by rw [E1.out, hq]
      have HR := Lib.hid (HL1.out n hq)
      subst hr
      clear hq HL0 HL1 HN1
      go_wp2_with fail
      refine (HPL.out _).mono ?_
      rintro e w3 ⟨rfl, b3⟩
      obtain ⟨⟨q1, q2, q3⟩, pe⟩ := P
      simp only [encPlace]
      have hz3 := (b3.block rb (row_lt HZ.out)).trans HZ.out
      have b3x := below_one w3 (.cells #[.string ⟨q1.toArray⟩, .int .i64 q2, .int .i64 q3] 24)
      have HX := Lib.hid (heap_alloc_new w3 (.cells #[.string ⟨q1.toArray⟩, .int .i64 q2, .int .i64 q3] 24))
      have HZ4 := Lib.hid ((b3x.block rb (row_lt hz3)).trans hz3)
      have HB4 := Lib.hid (HB.out.trans ((b3.trans (b3x.mono b3.size)).mono HB.out.size))
      have up := fun (q : Addr) (v : Value) (h : w1.cell? q = some v) => ((b3.trans (b3x.mono b3.size)).cell (lt_of_cell h)).trans h
      have k1 := up _ _ p1
      clear up p0 p1 p2 b3 b3x hz3 HZ HB HPL hl
      by_cases hpe : pe = 0
      · subst hpe
        go_wp2_with fail
        generalize w3.alloc (.cells #[.string ⟨q1.toArray⟩, .int .i64 q2, .int .i64 q3] 24) = w4 at *
        generalize w3.heap.size = xb at *
        refine (HNM.out _).mono ?_
        rintro e w5 ⟨rfl, rfl⟩
        cases nb with
        | false =>
          go_wp2_with (refine wpList_store_box rfl 84 _ _ rfl rb [.string ⟨#[]⟩, .int .i64 0, .int .i64 0, .string ⟨#[]⟩, .int .i64 0] rfl rfl 84 [.string ⟨#[]⟩, .int .i64 0, .int .i64 0, .string ⟨#[]⟩, .int .i64 0] HZ4.out (by kernel_rfl) rfl (encLine_one zeroLine) ?_; intro wf hf tf)
          (try simp only [Exit.inBlock, Exit.then])
          refine bodyPost_ret (results_cell_row2 rfl _ _ rb 84 #[.string ⟨#[]⟩, .int .i64 0, .int .i64 0, .string ⟨#[]⟩, .int .i64 0] (0, 0) _ rfl hf Tryz.underlying84 rfl (by kernel_rfl)) rfl ?_
          rw [HR.out, if_neg (by simp), if_pos (by simp)]
          exact ⟨rfl, HB4.out.trans (tf.below HRB.out)⟩
        | true =>
          rcases (show (n : Int) < 1 ∨ (¬ (n : Int) < 1 ∧ 1099511627776 < (n : Int)) ∨ (¬ (n : Int) < 1 ∧ ¬ 1099511627776 < (n : Int)) by omega) with h1 | ⟨h1, h2⟩ | ⟨h1, h2⟩
          · go_wp2_with (refine wpList_store_box rfl 84 _ _ rfl rb [.string ⟨#[]⟩, .int .i64 0, .int .i64 0, .string ⟨#[]⟩, .int .i64 0] rfl rfl 84 [.string ⟨#[]⟩, .int .i64 0, .int .i64 0, .string ⟨#[]⟩, .int .i64 0] HZ4.out (by kernel_rfl) rfl (encLine_one zeroLine) ?_; intro wf hf tf)
            (try simp only [Exit.inBlock, Exit.then])
            refine bodyPost_ret (results_cell_row2 rfl _ _ rb 84 #[.string ⟨#[]⟩, .int .i64 0, .int .i64 0, .string ⟨#[]⟩, .int .i64 0] (0, 0) _ rfl hf Tryz.underlying84 rfl (by kernel_rfl)) rfl ?_
            rw [HR.out, if_neg (by simp), if_neg (by simp), if_pos (by unfold wiB; simp; omega)]
            exact ⟨rfl, HB4.out.trans (tf.below HRB.out)⟩
          · go_wp2_with (refine wpList_store_box rfl 84 _ _ rfl rb [.string ⟨#[]⟩, .int .i64 0, .int .i64 0, .string ⟨#[]⟩, .int .i64 0] rfl rfl 84 [.string ⟨#[]⟩, .int .i64 0, .int .i64 0, .string ⟨#[]⟩, .int .i64 0] HZ4.out (by kernel_rfl) rfl (encLine_one zeroLine) ?_; intro wf hf tf)
            (try simp only [Exit.inBlock, Exit.then])
            refine bodyPost_ret (results_cell_row2 rfl _ _ rb 84 #[.string ⟨#[]⟩, .int .i64 0, .int .i64 0, .string ⟨#[]⟩, .int .i64 0] (0, 0) _ rfl hf Tryz.underlying84 rfl (by kernel_rfl)) rfl ?_
            rw [HR.out, if_neg (by simp), if_neg (by simp), if_pos (by unfold wiB; simp; omega)]
            exact ⟨rfl, HB4.out.trans (tf.below HRB.out)⟩
          · obtain ⟨⟨x0, x1, x2⟩, -⟩ := row3f HX.out
            obtain ⟨⟨z0, z1, z2, z3, z4⟩, f0, f1, f2, f3, f4⟩ := row5f HZ4.out
            go_wp2_with fail
            go_region
            all_goals
              go_wp2_with fail
              (try simp only [Exit.inBlock, Exit.then])
              refine bodyPost_ret (results_cell_row2 rfl _ _ rb 84 #[.string ⟨q1.toArray⟩, .int .i64 q2, .int .i64 q3, .string ⟨b.toArray⟩, .int .i64 (n : Int)] (0, 0) _ rfl (puts_row [.string ⟨q1.toArray⟩, .int .i64 q2, .int .i64 q3, .string ⟨b.toArray⟩, .int .i64 (n : Int)] HZ4.out rfl) Tryz.underlying84 rfl (by kernel_rfl)) rfl ?_
              rw [HR.out, if_neg (by simp), if_neg (by simp), if_neg (by unfold wiB; simp; omega)]
              exact ⟨rfl, (puts_below HRB.out [.string ⟨q1.toArray⟩, .int .i64 q2, .int .i64 q3, .string ⟨b.toArray⟩, .int .i64 (n : Int)] _ 0 HB4.out).drew⟩
      · have hk : 0 < (pe : Int) := by omega
        go_wp2_with (refine wpList_store_box rfl 84 _ _ rfl rb [.string ⟨#[]⟩, .int .i64 0, .int .i64 0, .string ⟨#[]⟩, .int .i64 0] rfl rfl 84 [.string ⟨#[]⟩, .int .i64 0, .int .i64 0, .string ⟨#[]⟩, .int .i64 0] HZ4.out (by kernel_rfl) rfl (encLine_one zeroLine) ?_; intro wf hf tf)
        (try simp only [Exit.inBlock, Exit.then])
        refine bodyPost_ret (results_cell_row2 rfl _ _ rb 84 #[.string ⟨#[]⟩, .int .i64 0, .int .i64 0, .string ⟨#[]⟩, .int .i64 0] (0, 0) _ rfl hf Tryz.underlying84 rfl (by kernel_rfl)) rfl ?_
        rw [HR.out, if_pos (show pe ≠ 0 from hpe)]
        exact ⟨rfl, HB4.out.trans (tf.below HRB.out)⟩
  · have HW := Lib.hid (lineWords_len h4)
    obtain ⟨n, hn⟩ : ∃ n, n = ws.length := ⟨_, rfl⟩
    rw [← hn] at h4 ⊢
    have h4' : ¬ (n : Int) = 3 := by omega
    have HB := Lib.hid b0
    have HZ := Lib.hid hz0
    clear hn hz0 b0
    go_wp2_with (refine wpList_store_box rfl 84 _ _ rfl w.heap.size [.string ⟨#[]⟩, .int .i64 0, .int .i64 0, .string ⟨#[]⟩, .int .i64 0] rfl rfl 84 [.string ⟨#[]⟩, .int .i64 0, .int .i64 0, .string ⟨#[]⟩, .int .i64 0] HZ.out (by kernel_rfl) rfl (encLine_one zeroLine) ?_; intro wf hf tf)
    (try simp only [Exit.inBlock, Exit.then])
    refine bodyPost_ret (results_cell_row2 rfl _ _ w.heap.size 84 #[.string ⟨#[]⟩, .int .i64 0, .int .i64 0, .string ⟨#[]⟩, .int .i64 0] (0, 0) _ rfl hf Tryz.underlying84 rfl (by kernel_rfl)) rfl ?_
    rw [HW.out]
    exact ⟨rfl, HB.out.trans (tf.below (Nat.le_refl _))⟩
end Go.Proofs.YtmhkcmoepopnoaaGreatDoor
