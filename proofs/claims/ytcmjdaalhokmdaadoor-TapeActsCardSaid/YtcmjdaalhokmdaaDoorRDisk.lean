/- The document's disk: SetCut, Record, Append, Recover walked. -/
import Derived.Test.YtcmjdaalhokmdaaDoorRTape
import Derived.Test.YtcmjdaalhokmdaaDoorTapes
import Derived.Test.YtcmjdaalhokmdaaDoorDec
namespace Go.Proofs.YtcmjdaalhokmdaaDoor
open Go.RowKit

/-- Block q holds the document's disk. -/
def RDiskAt (w : World) (q : Nat) (d : Dk) : Prop := w.heap[q]? = some (.cells #[.string ⟨d.bs.toArray⟩, .bool d.off, .int .i64 d.cut] 42 (0, 0))
theorem RDiskAt.below {w w' : World} {q : Nat} {d : Dk} (h : RDiskAt w q d) (hb : Below w.heap.size w w') : RDiskAt w' q d := (hb.block q (heap_lt h)).trans h
theorem RDiskAt.cells {w : World} {q : Nat} {d : Dk} (h : RDiskAt w q d) : w.cell? ⟨q, 0, none⟩ = some (.string ⟨d.bs.toArray⟩) ∧ w.cell? ⟨q, 1, none⟩ = some (.bool d.off) ∧ w.cell? ⟨q, 2, none⟩ = some (.int .i64 d.cut) :=
  ⟨(cellB h 0).trans rfl, (cellB h 1).trans rfl, (cellB h 2).trans rfl⟩
theorem onlyQ_set {q i : Nat} {w : World} (v : Value) : OnlyD q q w (w.setCell ⟨q, i, none⟩ v) := ⟨rfl, rfl, rfl, by simp, fun k _ k1 _ => heap_setCell_other _ _ _ _ k1⟩

set_option maxHeartbeats 400000 in
theorem rset_any (q : Nat) (d : Dk) (n : Int) (w : World) (hD : RDiskAt w q d) : Calls Tryd.prog 16 #[.pointer (some ⟨q, 0, none⟩), .int .i64 n] w fun e w' =>
    e = .returned (.int .i64 ((cutD d n).1 : Nat)) ∧ RDiskAt w' q (cutD d n).2 ∧ OnlyD q q w w' := by
  have HD := Lib.hid hD
  obtain ⟨c0, c1, c2⟩ := hD.cells
  have f2 := freeB hD 2
  clear hD
  by_cases h0 : n < 0
  · have HW := Lib.hid (show cutD d n = (2, d) by unfold cutD; rw [if_pos h0])
    go_enter Tryd.func16, Tryd.ntmps16
    go_wp2
    go_ret
    rw [HW.out]
    exact ⟨rfl, HD.out, OnlyD.of_below (Below.refl _ _)⟩
  · cases ho : d.off with
    | true =>
      have HW := Lib.hid (show cutD d n = (12, d) by unfold cutD; rw [if_neg h0, if_pos ho])
      rw [ho] at c1
      clear ho
      go_enter Tryd.func16, Tryd.ntmps16
      go_wp2
      go_ret
      rw [HW.out]
      exact ⟨rfl, HD.out, OnlyD.of_below (Below.refl _ _)⟩
    | false =>
      have HW := Lib.hid (show cutD d n = (0, { d with cut := n }) by unfold cutD; rw [if_neg h0, if_neg (by simp [ho])])
      rw [ho] at c1
      clear ho
      go_enter Tryd.func16, Tryd.ntmps16
      go_wp2
      go_ret
      rw [HW.out]
      have h2 := heap_setCell_same w q 2 _ _ (.int .i64 n) HD.out
      exact ⟨rfl, by simpa [RDiskAt] using h2, onlyQ_set _⟩

set_option maxHeartbeats 400000 in
theorem rrecord_any (s : List UInt8) (hs : s.length ≤ 2000000) (w : World) :
    Calls Tryd.prog 37 #[.string ⟨s.toArray⟩] w fun e w' => e = .returned (.string ⟨(recL s).toArray⟩) ∧ Below w.heap.size w w' := by
  have hsz : (⟨s.toArray⟩ : ByteArray).size = s.length := by simp [ByteArray.size]
  have hl := Lib.itoa_length_le (s.length : Int) (by omega) (by omega)
  have HD := Lib.hid (decimal_nat s.length (by omega) w)
  go_enter Tryd.func37, Tryd.ntmps37
  go_wp2_with fail
  refine HD.out.mono ?_
  rintro e w1 ⟨rfl, b1⟩
  go_wp2
  go_ret
  refine ⟨?_, b1⟩
  show Ending.returned (.string ((⟨(Lib.itoa (s.length : Int)).toArray⟩ : ByteArray) ++ (⟨#[58]⟩ : ByteArray) ++ (⟨s.toArray⟩ : ByteArray) ++ (⟨#[10, 46]⟩ : ByteArray))) = _
  rw [show (⟨#[58]⟩ : ByteArray) = ⟨[58].toArray⟩ from rfl, show (⟨#[10, 46]⟩ : ByteArray) = ⟨[10, 46].toArray⟩ from rfl, mk_app, mk_app, mk_app, Lib.itoa_nonneg]
  simp [recL]

/-- What the document's Append leaves. -/
def RWrEnds (q : Nat) (w : World) (x : Nat × Dk) (e : Ending) (w' : World) : Prop := e = .returned (.int .i64 (x.1 : Nat)) ∧ RDiskAt w' q x.2 ∧ OnlyD q q w w'

set_option maxHeartbeats 1600000 in
theorem rappend_any (q : Nat) (d : Dk) (s : List UInt8) (w : World) (hD : RDiskAt w q d) (hs : s.length ≤ 2000000) (hb : d.bs.length ≤ 1048576) (hc : d.cut ≤ 9223372036854775807) :
    Calls Tryd.prog 14 #[.pointer (some ⟨q, 0, none⟩), .string ⟨s.toArray⟩] w (RWrEnds q w (appD d s)) := by
  have hsz : (⟨s.toArray⟩ : ByteArray).size = s.length := by simp [ByteArray.size]
  have HD := Lib.hid hD
  by_cases hl : 20000 < s.length
  · have HW := Lib.hid (show appD d s = (2, d) by unfold appD; rw [if_pos hl])
    clear hD
    go_enter Tryd.func14, Tryd.ntmps14
    go_wp2
    go_ret
    rw [HW.out]
    exact ⟨rfl, HD.out, OnlyD.of_below (Below.refl _ _)⟩
  have hrl := recL_le s (by omega)
  have HREC := Lib.hid (rrecord_any s hs w)
  have HAP := Lib.hid (show appD d s = if 1048576 < d.bs.length + (recL s).length then (8, d) else wrD d (recL s) by unfold appD; rw [if_neg hl])
  obtain ⟨r, hr⟩ : ∃ r, r = recL s := ⟨_, rfl⟩
  rw [← hr] at hrl HREC HAP
  have hrsz : (⟨r.toArray⟩ : ByteArray).size = r.length := by simp [ByteArray.size]
  have hbsz : (⟨d.bs.toArray⟩ : ByteArray).size = d.bs.length := by simp [ByteArray.size]
  clear hD hr
  go_enter Tryd.func14, Tryd.ntmps14
  go_wp2_with fail
  refine HREC.out.mono ?_
  rintro e w1 ⟨rfl, b1⟩
  have hD1 := HD.out.below b1
  obtain ⟨c0, c1, c2⟩ := hD1.cells
  have f0 := freeB hD1 0
  have f1 := freeB hD1 1
  have f2 := freeB hD1 2
  have H1 := Lib.hid hD1
  have B1 := Lib.hid (OnlyD.of_below (p := q) (g := q) b1)
  clear b1 hD1 HREC HD
  by_cases hfull : 1048576 < d.bs.length + r.length
  · have HW := Lib.hid (show appD d s = (8, d) by rw [HAP.out, if_pos hfull])
    have hfi : 1048576 < (d.bs.length : Int) + (r.length : Int) := by omega
    go_wp2_with fail
    go_ret
    rw [HW.out]
    exact ⟨rfl, H1.out, B1.out⟩
  have HW := Lib.hid (show appD d s = wrD d r by rw [HAP.out, if_neg hfull])
  have hfi : ¬ 1048576 < (d.bs.length : Int) + (r.length : Int) := by omega
  obtain ⟨bs, off, cut⟩ := d
  simp only at c0 c1 c2 hb hc hfull hfi hbsz
  cases off with
  | true =>
    have HW2 := Lib.hid (show wrD ⟨bs, true, cut⟩ r = (12, ⟨bs, true, cut⟩) by unfold wrD; rw [if_pos rfl])
    go_wp2_with fail
    go_ret
    rw [HW.out, HW2.out]
    exact ⟨rfl, H1.out, B1.out⟩
  | false =>
    by_cases hcut : 0 ≤ cut
    · by_cases hlt : cut < (r.length : Int)
      · have HW2 := Lib.hid (show wrD ⟨bs, false, cut⟩ r = (12, ⟨bs ++ r.take cut.toNat, true, cut⟩) by unfold wrD; rw [if_neg (by simp), if_pos ⟨hcut, hlt⟩])
        obtain ⟨m, rfl⟩ : ∃ m : Nat, cut = (m : Int) := ⟨cut.toNat, by omega⟩
        have hx : (⟨r.toArray⟩ : ByteArray).extract 0 m = ⟨(r.take m).toArray⟩ := by
          apply ByteArray.ext
          rw [ByteArray.data_extract]
          simp
        have hml : (r.take m).length = m := by rw [List.length_take]; omega
        have hmi : (m : Int) ≤ (r.length : Int) := by omega
        have hsum : ¬ 9223372036854775807 < bs.length + m := by omega
        go_wp2_with fail
        go_region
        all_goals
          go_wp2_with fail
          go_ret
          rw [HW.out, HW2.out]
          have g1 := heap_setCell_same w1 q 0 _ _ (.string ((⟨bs.toArray⟩ : ByteArray) ++ (⟨(r.take m).toArray⟩ : ByteArray))) H1.out
          have g2 := heap_setCell_same _ q 1 _ _ (.bool true) g1
          have hO := ((B1.out.trans (onlyQ_set (i := 0) (.string ((⟨bs.toArray⟩ : ByteArray) ++ (⟨(r.take m).toArray⟩ : ByteArray)))) (.inl rfl)).trans (onlyQ_set (i := 1) (.bool true)) (.inl rfl)).trans (OnlyD.of_below (p := q) (g := q) (Below.refl _ _).drew) (.inl rfl)
          refine ⟨rfl, ?_, hO⟩
          rw [mk_app] at g2
          simp only [mk_app]
          have g3 := g2
          simp at g3
          exact g3
      · have HW2 := Lib.hid (show wrD ⟨bs, false, cut⟩ r = (0, ⟨bs ++ r, false, cut - r.length⟩) by unfold wrD; rw [if_neg (by simp), if_neg (fun h => hlt h.2), if_pos hcut])
        have hcl : (r.length : Int) ≤ cut := by omega
        have hsum : ¬ 9223372036854775807 < bs.length + r.length := by omega
        go_wp2_with fail
        go_ret
        rw [HW.out, HW2.out]
        have g1 := heap_setCell_same w1 q 2 _ _ (.int .i64 (cut - r.length)) H1.out
        have g2 := heap_setCell_same _ q 0 _ _ (.string ((⟨bs.toArray⟩ : ByteArray) ++ (⟨r.toArray⟩ : ByteArray))) g1
        refine ⟨rfl, ?_, (B1.out.trans (onlyQ_set _) (.inl rfl)).trans (onlyQ_set _) (.inl rfl)⟩
        rw [mk_app] at g2
        simpa [RDiskAt, mk_app] using g2
    · have HW2 := Lib.hid (show wrD ⟨bs, false, cut⟩ r = (0, ⟨bs ++ r, false, cut⟩) by unfold wrD; rw [if_neg (by simp), if_neg (fun h => hcut h.1), if_neg hcut])
      have hsum : ¬ 9223372036854775807 < bs.length + r.length := by omega
      go_wp2_with fail
      go_ret
      rw [HW.out, HW2.out]
      have g2 := heap_setCell_same w1 q 0 _ _ (.string ((⟨bs.toArray⟩ : ByteArray) ++ (⟨r.toArray⟩ : ByteArray))) H1.out
      refine ⟨rfl, ?_, B1.out.trans (onlyQ_set _) (.inl rfl)⟩
      rw [mk_app] at g2
      simpa [RDiskAt, mk_app] using g2

/-- What the document's Recover leaves. -/
def RRecEnds (q : Nat) (d : Dk) (w : World) (e : Ending) (w' : World) : Prop :=
  ∃ l n A cap, ReadIs d.bs l n ∧ n ≤ d.bs.length ∧ l.length ≤ d.bs.length ∧ e = .returned (.slice A l.length cap) ∧ StrsAt w' A l ∧ (∀ a, A = some a → w.heap.size ≤ a.block) ∧ RDiskAt w' q ⟨d.bs.take n, false, -1⟩ ∧ OnlyD q q w w'

set_option maxHeartbeats 800000 in
theorem rrecover_any (q : Nat) (d : Dk) (w : World) (hD : RDiskAt w q d) (hb : d.bs.length ≤ 1048576) :
    Calls Tryd.prog 19 #[.pointer (some ⟨q, 0, none⟩)] w (RRecEnds q d w) := by
  have hbsz : (⟨d.bs.toArray⟩ : ByteArray).size = d.bs.length := by simp [ByteArray.size]
  have HRD := Lib.hid (refReadB ⟨d.bs.toArray⟩ (by rw [hbsz]; omega) w)
  rw [show bts ⟨d.bs.toArray⟩ = d.bs from rfl] at HRD
  have HD := Lib.hid hD
  obtain ⟨c0, -, -⟩ := hD.cells
  clear hD
  go_enter Tryd.func19, Tryd.ntmps19
  go_wp2_with fail
  refine HRD.out.mono ?_
  rintro e w1 ⟨l, n, A, cap, hr, hn, hl, rfl, hS, hA, b1⟩
  have hD1 := HD.out.below b1
  have hql := heap_lt HD.out
  obtain ⟨d0, d1, d2⟩ := hD1.cells
  have f0 := freeB hD1 0
  have f1 := freeB hD1 1
  have f2 := freeB hD1 2
  have H1 := Lib.hid hD1
  have B1 := Lib.hid b1
  have HS := Lib.hid hS
  have HAA := Lib.hid hA
  have HR := Lib.hid hr
  have hx : (⟨d.bs.toArray⟩ : ByteArray).extract 0 n = ⟨(d.bs.take n).toArray⟩ := by
    apply ByteArray.ext
    rw [ByteArray.data_extract]
    simp
  have hni : (n : Int) ≤ (d.bs.length : Int) := by omega
  clear b1 hD1 hS hA hr HD HRD c0
  go_wp2
  go_ret
  have g1 := heap_setCell_same w1 q 0 _ _ (.string ⟨(d.bs.take n).toArray⟩) H1.out
  have g2 := heap_setCell_same _ q 1 _ _ (.bool false) g1
  have g3 := heap_setCell_same _ q 2 _ _ (.int .i64 (-1)) g2
  have hO := (((onlyQ_set (q := q) (i := 0) (w := w1) (.string ⟨(d.bs.take n).toArray⟩)).trans (onlyQ_set (i := 1) (.bool false)) (.inl rfl)).trans (onlyQ_set (i := 2) (.int .i64 (-1))) (.inl rfl))
  refine ⟨l, n, A, cap, HR.out, hn, hl, rfl, HS.out.only hO (fun a ha => ?_), HAA.out, by simpa [RDiskAt] using g3, (OnlyD.of_below B1.out).trans hO (.inl rfl)⟩
  have := HAA.out a ha
  omega
end Go.Proofs.YtcmjdaalhokmdaaDoor
