/- Places read by the document: ReadPlace. Lots read by the document: ReadLot. -/
import Derived.Test.YtpifbahafnaejaaGreatDoorM02
import Derived.Test.YtpifbahafnaejaaGreatDoorM03
import Derived.Test.YtpifbahafnaejaaGreatDoorM04
import Derived.Test.YtpifbahafnaejaaGreatDoorM05
import Derived.Test.YtpifbahafnaejaaGreatDoorM09
namespace Go.Proofs.YtpifbahafnaejaaGreatDoor
open Go.RowKit Go.Sort Go.Proofs

theorem placeWords_cases (a c d : List UInt8) : ((refNum c 4 < 0 ∨ ¬ refNum c 4 < 0 ∧ refNum d 4 < 0) ∧ placeWords [a, c, d] = (zeroPlace, 1)) ∨ (¬ refNum c 4 < 0 ∧ ¬ refNum d 4 < 0 ∧ placeWords [a, c, d] = if placeE (a, refNum c 4, refNum d 4) = 0 then ((a, refNum c 4, refNum d 4), 0) else (zeroPlace, placeE (a, refNum c 4, refNum d 4))) := by
  rw [refNum_eq c 4 (by omega), refNum_eq d 4 (by omega)]
  rw [show placeWords [a, c, d] = match numQ c 4, numQ d 4 with
    | some u, some v => if placeE (a, (u : Int), (v : Int)) = 0 then ((a, (u : Int), (v : Int)), 0) else (zeroPlace, placeE (a, (u : Int), (v : Int)))
    | _, _ => (zeroPlace, 1) from rfl]
  cases numQ c 4 with
  | none => exact .inl ⟨.inl (by simp), rfl⟩
  | some u =>
    cases numQ d 4 with
    | none => exact .inl ⟨.inr ⟨by simp, by simp⟩, rfl⟩
    | some v => exact .inr ⟨by simp, by simp, rfl⟩

set_option maxHeartbeats 1600000 in
theorem refReadPlace_any (s : ByteArray) (hs : s.size ≤ 1000000) (w : World) :
    Calls Tryz.prog 25 #[.string s] w fun e w' => e = .returned (.tuple #[.agg (encPlace (placeWords (splitL 45 (bts s))).1).toArray, .int .i64 ((placeWords (splitL 45 (bts s))).2 : Nat)]) ∧ Below w.heap.size w w' := by
  have HCT := Lib.hid (fun W => refCutB s 45 W hs)
  have hle := fun x (h : x ∈ splitL 45 (bts s)) => splitL_lens h
  generalize splitL 45 (bts s) = ws at HCT hle ⊢
  rw [show (bts s).length = s.size from rfl] at hle
  have b0 := below_one w (.cells #[.string ⟨#[]⟩, .int .i64 0, .int .i64 0] 27)
  have hz0 := heap_alloc_new w (.cells #[.string ⟨#[]⟩, .int .i64 0, .int .i64 0] 27)
  go_enter Tryz.func25, Tryz.ntmps25
  go_wp2_with fail
  obtain ⟨rb, hrb⟩ : ∃ rb, rb = w.heap.size := ⟨_, rfl⟩
  have HRB : Hid (w.heap.size ≤ rb) := by show _ ≤ _; omega
  rw [← hrb] at hz0 ⊢
  generalize w.alloc (.cells #[.string ⟨#[]⟩, .int .i64 0, .int .i64 0] 27) = W0 at b0 hz0 ⊢
  refine (HCT.out W0).mono ?_
  rintro e w1 ⟨A, cap, rfl, hS, -, bb1⟩
  have hz1 := (bb1.block rb (row_lt hz0)).trans hz0
  have B1 := Lib.hid (b0.trans (bb1.mono b0.size))
  clear bb1 hz0 b0 HCT hrb
  by_cases h4 : ws.length = 3
  · obtain ⟨a, c, d, rfl⟩ := three h4
    have ha := hle a (by simp)
    have hcl := hle c (by simp)
    have hdl := hle d (by simp)
    have HCASE := Lib.hid (placeWords_cases a c d)
    have HN1 := Lib.hid (fun W => refNumber_any c 4 (by omega) (by omega) W)
    have HN2 := Lib.hid (fun W => refNumber_any d 4 (by omega) (by omega) W)
    obtain ⟨bl, o, rfl, hl, p0, p1, p2⟩ := strs3 hS
    generalize refNum c 4 = rc at HN1 HCASE
    generalize refNum d 4 = rd at HN2 HCASE
    rw [show [a, c, d].length = 3 from rfl]
    clear hS hle h4
    go_wp2_with fail
    refine (HN1.out _).mono ?_
    rintro e w2 ⟨rfl, rfl⟩
    go_wp2_with fail
    refine (HN2.out _).mono ?_
    rintro e w2 ⟨rfl, rfl⟩
    obtain ⟨⟨z0, z1, z2⟩, f0, f1, f2⟩ := row3f hz1
    have HZ1 := Lib.hid hz1
    clear hz1
    rcases HCASE.out with ⟨hneg, hw⟩ | ⟨hc, hd, hw⟩
    · have HW := Lib.hid hw
      clear hw
      rcases hneg with h | ⟨h, h'⟩
      all_goals
        go_wp2_with fail
        have hrow := puts_row [.string ⟨#[]⟩, .int .i64 0, .int .i64 0] HZ1.out rfl
        (try simp only [Exit.inBlock, Exit.then])
        refine bodyPost_ret (results_cell_row2 rfl _ _ rb 27 #[.string ⟨#[]⟩, .int .i64 0, .int .i64 0] (0, 0) _ rfl hrow Tryz.underlying27 rfl (by kernel_rfl)) rfl ?_
        rw [HW.out]
        exact ⟨rfl, puts_below HRB.out [.string ⟨#[]⟩, .int .i64 0, .int .i64 0] _ 0 B1.out⟩
    · have HW := Lib.hid hw
      have HPE := Lib.hid (fun W => refPlaceE_any (a, rc, rd) (by show a.length ≤ _; omega) W)
      generalize placeE (a, rc, rd) = k at HW HPE
      simp only [encPlace] at HPE
      have hx := heap_alloc_new w1 (.cells #[.string ⟨a.toArray⟩, .int .i64 rc, .int .i64 rd] 27)
      have b2 := below_one w1 (.cells #[.string ⟨a.toArray⟩, .int .i64 rc, .int .i64 rd] 27)
      have hz2 := (b2.block rb (row_lt HZ1.out)).trans HZ1.out
      have B2 := Lib.hid (B1.out.trans (b2.mono B1.out.size))
      clear hw z0 z1 z2 f0 f1 f2 b2
      go_wp2_with fail
      generalize w1.alloc (.cells #[.string ⟨a.toArray⟩, .int .i64 rc, .int .i64 rd] 27) = w2 at *
      generalize w1.heap.size = xb at *
      refine (HPE.out _).mono ?_
      rintro e w3 ⟨rfl, b3⟩
      have hx3 := (b3.block xb (row_lt hx)).trans hx
      have HZ3 := Lib.hid ((b3.block rb (row_lt hz2)).trans hz2)
      have B3 := Lib.hid (B2.out.trans (b3.mono B2.out.size))
      clear b3 hx hz2 hl p0 p1 p2
      obtain ⟨⟨z0, z1, z2⟩, f0, f1, f2⟩ := row3f HZ3.out
      obtain ⟨⟨x0, x1, x2⟩, -⟩ := row3f hx3
      clear hx3
      by_cases h0 : k = 0
      · subst h0
        go_wp2_with fail
        have hrow := puts_row [.string ⟨a.toArray⟩, .int .i64 rc, .int .i64 rd] HZ3.out rfl
        (try simp only [Exit.inBlock, Exit.then])
        refine bodyPost_ret (results_cell_row2 rfl _ _ rb 27 #[.string ⟨a.toArray⟩, .int .i64 rc, .int .i64 rd] (0, 0) _ rfl hrow Tryz.underlying27 rfl (by kernel_rfl)) rfl ?_
        rw [HW.out]
        exact ⟨rfl, puts_below HRB.out [.string ⟨a.toArray⟩, .int .i64 rc, .int .i64 rd] _ 0 B3.out⟩
      · have hk : 0 < (k : Int) := by omega
        go_wp2_with fail
        have hrow := puts_row [.string ⟨#[]⟩, .int .i64 0, .int .i64 0] HZ3.out rfl
        (try simp only [Exit.inBlock, Exit.then])
        refine bodyPost_ret (results_cell_row2 rfl _ _ rb 27 #[.string ⟨#[]⟩, .int .i64 0, .int .i64 0] (0, 0) _ rfl hrow Tryz.underlying27 rfl (by kernel_rfl)) rfl ?_
        rw [HW.out, if_neg h0]
        exact ⟨rfl, puts_below HRB.out [.string ⟨#[]⟩, .int .i64 0, .int .i64 0] _ 0 B3.out⟩
  · have HW := Lib.hid (placeWords_len h4)
    obtain ⟨⟨z0, z1, z2⟩, f0, f1, f2⟩ := row3f hz1
    have HZ1 := Lib.hid hz1
    obtain ⟨n, hn⟩ : ∃ n, n = ws.length := ⟨_, rfl⟩
    rw [← hn] at h4 ⊢
    have h4' : ¬ (n : Int) = 3 := by omega
    clear hn hz1
    go_wp2_with fail
    have hrow := puts_row [.string ⟨#[]⟩, .int .i64 0, .int .i64 0] HZ1.out rfl
    (try simp only [Exit.inBlock, Exit.then])
    refine bodyPost_ret (results_cell_row2 rfl _ _ rb 27 #[.string ⟨#[]⟩, .int .i64 0, .int .i64 0] (0, 0) _ rfl hrow Tryz.underlying27 rfl (by kernel_rfl)) rfl ?_
    rw [HW.out]
    exact ⟨rfl, puts_below HRB.out [.string ⟨#[]⟩, .int .i64 0, .int .i64 0] _ 0 B1.out⟩
end Go.Proofs.YtpifbahafnaejaaGreatDoor
namespace Go.Proofs.YtpifbahafnaejaaGreatDoor
open Go.RowKit Go.Sort Go.Proofs

set_option maxHeartbeats 1600000 in
theorem refReadLot_any (A : Option Addr) (cap : Nat) (ws : List (List UInt8)) (w : World) (hS : StrsAt w A ws) (hle : ∀ x ∈ ws, x.length ≤ 1000000) :
    Calls Tryz.prog 22 #[.slice A ws.length cap] w fun e w' => e = .returned (.tuple #[.agg (encLot (lotWords ws).1).toArray, .int .i64 ((lotWords ws).2 : Nat)]) ∧ Below w.heap.size w w' := by
  obtain ⟨n, hn⟩ : ∃ n, n = ws.length := ⟨_, rfl⟩
  have HN := Lib.hid hn
  rw [← hn]
  clear hn
  have b0 := below_one w (.cells #[.string ⟨#[]⟩, .string ⟨#[]⟩, .int .i64 0, .int .i64 0] 25)
  have hz0 : (w.alloc (.cells #[.string ⟨#[]⟩, .string ⟨#[]⟩, .int .i64 0, .int .i64 0] 25)).heap[w.heap.size]? = some (.cells #[.string ⟨#[]⟩, .string ⟨#[]⟩, .int .i64 0, .int .i64 0] 25 (0, 0)) := heap_alloc_new _ _
  have hS0 := hS.below b0
  obtain ⟨rb, hrb⟩ : ∃ rb, rb = w.heap.size := ⟨_, rfl⟩
  have HRB : Hid (w.heap.size ≤ rb) := by show _ ≤ _; omega
  have HR := Lib.hid hrb
  rw [← hrb] at hz0
  by_cases h4 : n = 4
  · subst h4
    obtain ⟨a, b, c, d, rfl⟩ := four HN.out.symm
    have ha := hle a (by simp)
    have hb := hle b (by simp)
    have hcl := hle c (by simp)
    have hdl := hle d (by simp)
    obtain ⟨bl, o, rfl, hl, p0, p1, p2, p3⟩ := strs4 hS0
    have HN1 := Lib.hid (fun W => refNumber_any c 9 (by omega) (by omega) W)
    have HN2 := Lib.hid (fun W => refNumber_any d 9 (by omega) (by omega) W)
    have e1 := refNum_eq c 9 (by omega)
    have e2 := refNum_eq d 9 (by omega)
    obtain ⟨rc, hrc⟩ : ∃ rc, rc = refNum c 9 := ⟨_, rfl⟩
    obtain ⟨rd, hrd⟩ : ∃ rd, rd = refNum d 9 := ⟨_, rfl⟩
    rw [← hrc] at HN1 e1
    rw [← hrd] at HN2 e2
    have HW := Lib.hid (show lotWords [a, b, c, d] = match numQ c 9, numQ d 9 with
      | some u, some v => if lotE (a, b, (u : Int), (v : Int)) = 0 then ((a, b, (u : Int), (v : Int)), 0) else (zeroLot, lotE (a, b, (u : Int), (v : Int)))
      | _, _ => (zeroLot, 1) from rfl)
    have hcase : ((rc < 0 ∨ ¬ rc < 0 ∧ rd < 0) ∧ lotWords [a, b, c, d] = (zeroLot, 1)) ∨ (¬ rc < 0 ∧ ¬ rd < 0 ∧ lotWords [a, b, c, d] = if lotE (a, b, rc, rd) = 0 then ((a, b, rc, rd), 0) else (zeroLot, lotE (a, b, rc, rd))) := by
      rw [HW.out]
      cases hq : numQ c 9 with
      | none =>
        rw [hq] at e1
        exact .inl ⟨.inl (by rw [e1]; simp), rfl⟩
      | some u =>
        rw [hq] at e1
        cases hq2 : numQ d 9 with
        | none =>
          rw [hq2] at e2
          exact .inl ⟨.inr ⟨by rw [e1]; simp, by rw [e2]; simp⟩, rfl⟩
        | some v =>
          rw [hq2] at e2
          exact .inr ⟨by rw [e1]; simp, by rw [e2]; simp, by rw [e1, e2]⟩
    have HCASE := Lib.hid hcase
    clear hcase e1 e2 hrc hrd HW hS hS0 hle
    go_enter Tryz.func22, Tryz.ntmps22
    go_wp2_with fail
    rw [← HR.out]
    clear hrb
    generalize w.alloc (.cells #[.string ⟨#[]⟩, .string ⟨#[]⟩, .int .i64 0, .int .i64 0] 25) = W0 at b0 hz0 p0 p1 p2 p3 hl ⊢
    go_region_held3 (fun w' => w'.cell? ⟨bl, o, none⟩ = some (.string ⟨a.toArray⟩) ∧ w'.cell? ⟨bl, o + 1, none⟩ = some (.string ⟨b.toArray⟩) ∧ w'.cell? ⟨bl, o + 2, none⟩ = some (.string ⟨c.toArray⟩) ∧ w'.cell? ⟨bl, o + 3, none⟩ = some (.string ⟨d.toArray⟩))
      (first | exact ⟨p0, p1, p2, p3⟩ | go_keep)
      (first
        | (go_at_call_of 21 (Value.string ⟨c.toArray⟩); refine (HN1.out _).mono ?_; rintro e w3 ⟨rfl, rfl⟩)
        | (go_at_call_of 21 (Value.string ⟨d.toArray⟩); refine (HN2.out _).mono ?_; rintro e w3 ⟨rfl, rfl⟩))
    all_goals
      have hx : (W0.alloc (.cells #[.string ⟨a.toArray⟩, .string ⟨b.toArray⟩, .int .i64 rc, .int .i64 rd] 25)).drew.heap[W0.heap.size]? = some (.cells #[.string ⟨a.toArray⟩, .string ⟨b.toArray⟩, .int .i64 rc, .int .i64 rd] 25 (0, 0)) := heap_alloc_new W0 _
      have hz4 : (W0.alloc (.cells #[.string ⟨a.toArray⟩, .string ⟨b.toArray⟩, .int .i64 rc, .int .i64 rd] 25)).drew.heap[rb]? = some (.cells #[.string ⟨#[]⟩, .string ⟨#[]⟩, .int .i64 0, .int .i64 0] 25 (0, 0)) := (heap_alloc_old W0 _ (row_lt hz0)).trans hz0
      have bb4 : Below w.heap.size w (W0.alloc (.cells #[.string ⟨a.toArray⟩, .string ⟨b.toArray⟩, .int .i64 rc, .int .i64 rd] 25)).drew := b0.trans ((below_one W0 _).drew.mono b0.size)
      have hrx : rb < W0.heap.size := row_lt hz0
      obtain ⟨xb, hxb⟩ : ∃ xb, xb = W0.heap.size := ⟨_, rfl⟩
      rw [← hxb] at hx ⊢
      have HXB := Lib.hid hxb
      clear p0 p1 p2 p3 hl hxb
      generalize (W0.alloc (.cells #[.string ⟨a.toArray⟩, .string ⟨b.toArray⟩, .int .i64 rc, .int .i64 rd] 25)).drew = W4 at hx hz4 bb4 ⊢
      have B4 := Lib.hid bb4
      have v0 : W4.cell? ⟨xb, 0, none⟩ = some (.string ⟨a.toArray⟩) := cell_of_row _ _ _ _ _ _ hx
      have v1 : W4.cell? ⟨xb, 1, none⟩ = some (.string ⟨b.toArray⟩) := cell_of_row _ _ _ _ _ _ hx
      have v2 : W4.cell? ⟨xb, 2, none⟩ = some (.int .i64 rc) := cell_of_row _ _ _ _ _ _ hx
      have v3 : W4.cell? ⟨xb, 3, none⟩ = some (.int .i64 rd) := cell_of_row _ _ _ _ _ _ hx
      rcases HCASE.out with ⟨hneg, hw⟩ | ⟨hc, hd, hw⟩
      · have HW := Lib.hid hw
        clear hw bb4
        rcases hneg with h | ⟨h, h'⟩
        all_goals
          have z0 : W4.cell? ⟨rb, 0, none⟩ = some (.string ⟨#[]⟩) := cell_of_row _ _ _ _ _ _ hz4
          have f0 := frozen_of_row W4 rb 0 _ _ hz4
          have z1 : W4.cell? ⟨rb, 1, none⟩ = some (.string ⟨#[]⟩) := cell_of_row _ _ _ _ _ _ hz4
          have f1 := frozen_of_row W4 rb 1 _ _ hz4
          have z2 : W4.cell? ⟨rb, 2, none⟩ = some (.int .i64 0) := cell_of_row _ _ _ _ _ _ hz4
          have f2 := frozen_of_row W4 rb 2 _ _ hz4
          have z3 : W4.cell? ⟨rb, 3, none⟩ = some (.int .i64 0) := cell_of_row _ _ _ _ _ _ hz4
          have f3 := frozen_of_row W4 rb 3 _ _ hz4
          go_wp2_with fail
          have hrow := puts_row [.string ⟨#[]⟩, .string ⟨#[]⟩, .int .i64 0, .int .i64 0] hz4 rfl
          (try simp only [Exit.inBlock, Exit.then])
          refine bodyPost_ret (results_cell_row2 rfl _ _ rb 25 #[.string ⟨#[]⟩, .string ⟨#[]⟩, .int .i64 0, .int .i64 0] (0, 0) _ rfl hrow Tryz.underlying25 rfl (by kernel_rfl)) rfl ?_
          rw [HW.out]
          exact ⟨rfl, (puts_below HRB.out [.string ⟨#[]⟩, .string ⟨#[]⟩, .int .i64 0, .int .i64 0] W4 0 B4.out)⟩
      · have HW := Lib.hid hw
        have HLE := Lib.hid (fun W => refLotE_any (a, b, rc, rd) (by show a.length ≤ _; omega) (by show b.length ≤ _; omega) W)
        generalize lotE (a, b, rc, rd) = k at HW HLE
        simp only [encLot] at HLE
        clear hw
        have HX4 := Lib.hid hx
        have HZ4 := Lib.hid hz4
        go_wp2_with fail
        refine (HLE.out _).mono ?_
        rintro e w5 ⟨rfl, b5⟩
        have hz5 := (b5.block rb (row_lt HZ4.out)).trans HZ4.out
        have hx5 := (b5.block xb (row_lt HX4.out)).trans HX4.out
        have B5 := Lib.hid (B4.out.trans (b5.mono B4.out.size))
        have y0 : w5.cell? ⟨xb, 0, none⟩ = some (.string ⟨a.toArray⟩) := cell_of_row _ _ _ _ _ _ hx5
        have y1 : w5.cell? ⟨xb, 1, none⟩ = some (.string ⟨b.toArray⟩) := cell_of_row _ _ _ _ _ _ hx5
        have y2 : w5.cell? ⟨xb, 2, none⟩ = some (.int .i64 rc) := cell_of_row _ _ _ _ _ _ hx5
        have y3 : w5.cell? ⟨xb, 3, none⟩ = some (.int .i64 rd) := cell_of_row _ _ _ _ _ _ hx5
        clear b5 bb4 hx hz4 v0 v1 v2 v3 HLE
        by_cases h0 : k = 0
        · subst h0
          have z0 : w5.cell? ⟨rb, 0, none⟩ = some (.string ⟨#[]⟩) := cell_of_row _ _ _ _ _ _ hz5
          have f0 := frozen_of_row w5 rb 0 _ _ hz5
          have z1 : w5.cell? ⟨rb, 1, none⟩ = some (.string ⟨#[]⟩) := cell_of_row _ _ _ _ _ _ hz5
          have f1 := frozen_of_row w5 rb 1 _ _ hz5
          have z2 : w5.cell? ⟨rb, 2, none⟩ = some (.int .i64 0) := cell_of_row _ _ _ _ _ _ hz5
          have f2 := frozen_of_row w5 rb 2 _ _ hz5
          have z3 : w5.cell? ⟨rb, 3, none⟩ = some (.int .i64 0) := cell_of_row _ _ _ _ _ _ hz5
          have f3 := frozen_of_row w5 rb 3 _ _ hz5
          go_wp2_with fail
          have hrow := puts_row [.string ⟨a.toArray⟩, .string ⟨b.toArray⟩, .int .i64 rc, .int .i64 rd] hz5 rfl
          (try simp only [Exit.inBlock, Exit.then])
          refine bodyPost_ret (results_cell_row2 rfl _ _ rb 25 #[.string ⟨a.toArray⟩, .string ⟨b.toArray⟩, .int .i64 rc, .int .i64 rd] (0, 0) _ rfl hrow Tryz.underlying25 rfl (by kernel_rfl)) rfl ?_
          rw [HW.out]
          exact ⟨rfl, (puts_below HRB.out [.string ⟨a.toArray⟩, .string ⟨b.toArray⟩, .int .i64 rc, .int .i64 rd] w5 0 B5.out)⟩
        · have hk : 0 < (k : Int) := by omega
          have z0 : w5.cell? ⟨rb, 0, none⟩ = some (.string ⟨#[]⟩) := cell_of_row _ _ _ _ _ _ hz5
          have f0 := frozen_of_row w5 rb 0 _ _ hz5
          have z1 : w5.cell? ⟨rb, 1, none⟩ = some (.string ⟨#[]⟩) := cell_of_row _ _ _ _ _ _ hz5
          have f1 := frozen_of_row w5 rb 1 _ _ hz5
          have z2 : w5.cell? ⟨rb, 2, none⟩ = some (.int .i64 0) := cell_of_row _ _ _ _ _ _ hz5
          have f2 := frozen_of_row w5 rb 2 _ _ hz5
          have z3 : w5.cell? ⟨rb, 3, none⟩ = some (.int .i64 0) := cell_of_row _ _ _ _ _ _ hz5
          have f3 := frozen_of_row w5 rb 3 _ _ hz5
          go_wp2_with fail
          have hrow := puts_row [.string ⟨#[]⟩, .string ⟨#[]⟩, .int .i64 0, .int .i64 0] hz5 rfl
          (try simp only [Exit.inBlock, Exit.then])
          refine bodyPost_ret (results_cell_row2 rfl _ _ rb 25 #[.string ⟨#[]⟩, .string ⟨#[]⟩, .int .i64 0, .int .i64 0] (0, 0) _ rfl hrow Tryz.underlying25 rfl (by kernel_rfl)) rfl ?_
          rw [HW.out, if_neg h0]
          exact ⟨rfl, (puts_below HRB.out [.string ⟨#[]⟩, .string ⟨#[]⟩, .int .i64 0, .int .i64 0] w5 0 B5.out)⟩
  · have HW0 := Lib.hid (lotWords_len (ws := ws) (by rw [← HN.out]; exact h4))
    have h4' : ¬ (n : Int) = 4 := by omega
    clear hS hS0
    go_enter Tryz.func22, Tryz.ntmps22
    go_wp2
    (try simp only [Exit.inBlock, Exit.then])
    refine bodyPost_ret (results_cell_row2 rfl _ _ w.heap.size 25 #[.string ⟨#[]⟩, .string ⟨#[]⟩, .int .i64 0, .int .i64 0] (0, 0) _ rfl (heap_alloc_new _ _) Tryz.underlying25 rfl (by kernel_rfl)) rfl ?_
    rw [HW0.out]
    exact ⟨rfl, below_one _ _⟩
end Go.Proofs.YtpifbahafnaejaaGreatDoor
