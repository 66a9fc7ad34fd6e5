/- goods.Read: what it computes. -/
import Derived.Test.YtchamhjckindiaaGreatDoorGoods
import Derived.Lib.IndexMore
namespace Go.Proofs.YtchamhjckindiaaGreatDoor
open Go.RowKit

/-- What goods.Read answers of cases and pieces: the number; an error's number. -/
def finQ (n k pack : Nat) : Nat × Nat := if 1099511627776 < n ∨ 1099511627776 < k ∨ 1099511627776 < n * pack + k then (0, 2) else (n * pack + k, 0)

/-- What goods.Read answers of a text that is cut: the number; an error's number. -/
def readQ (a b : List UInt8) (f : Bool) (pack : Nat) : Nat × Nat :=
  match numQ (if f then a else [48]) 13 with
  | none => (0, 1)
  | some n =>
    if f = true ∧ n = 0 then (0, 1)
    else if b = [] then (if f then finQ n 0 pack else (0, 1))
    else match numQ b 13 with
      | none => (0, 1)
      | some k => if f = true ∧ k = 0 then (0, 1) else finQ n k pack

set_option maxHeartbeats 400000 in
theorem read_pack (E : Nat → Addr) (s : ByteArray) (pack : Int) (w : World) (h : pack < 1 ∨ 1000 < pack) (h2 : ErrAt 0 (E 2) w) :
    Calls Tryz.prog 11 #[.string s, .int .i64 pack] w fun e w' => e = .returned (.tuple #[.int .i64 0, errOf E 2]) ∧ Below w.heap.size w w' := by
  rw [errOf_pos _ _ (by omega)]
  have h2' := h2
  unfold ErrAt at h2'
  go_enter Tryz.func11, Tryz.ntmps11
  go_wp2_with fail
  refine (within_no _ _ _ _ (by omega)).mono ?_
  rintro e w1 ⟨rfl, rfl⟩
  go_wp2_with fail
  go_quiet (fail)
  go_wp2_with fail
  go_ret2
  exact ⟨rfl, below_drewN (Below.refl _ _) _⟩

set_option maxHeartbeats 1600000 in
theorem read_found (E : Nat → Addr) (s : ByteArray) (pack : Nat) (w : World) (hp : 1 ≤ pack) (hp2 : pack ≤ 1000) (hs : s.size < 4294967281) (hT : TabG w) (hA : AtoiG w) (hM : MaxG w)
    (h1 : ErrAt 1 (E 1) w) (h2 : ErrAt 0 (E 2) w) (a b : List UInt8) (hcut : Lib.cut s.data.toList [99] = (a, b, true)) (ha : a.length < 4294967281) (hb : b.length < 4294967281) :
    Calls Tryz.prog 11 #[.string s, .int .i64 pack] w fun e w' => e = .returned (.tuple #[.int .i64 (readQ a b true pack).1, errOf E (readQ a b true pack).2]) ∧ Below w.heap.size w w' := by
  obtain ⟨m, hm⟩ := hM
  have hC := Tryz.strings_Cut s ⟨#[99]⟩ m w hs hm
  rw [show (⟨#[99]⟩ : ByteArray).data.toList = [99] from rfl, hcut] at hC
  have HC := Lib.hid hC
  clear hC hcut hm m
  go_enter Tryz.func11, Tryz.ntmps11
  go_wp2_with fail
  refine (within_yes _ _ _ _ (by omega) (by omega)).mono ?_
  rintro e w1 ⟨rfl, rfl⟩
  go_wp2_with fail
  refine HC.out.mono ?_
  rintro e w1 ⟨rfl, j, rfl⟩
  go_wp2_with fail
  refine (number_any _ 13 (by show a.toArray.size ≤ _; simp; omega) (by omega) _ (hT.drewN j) hA).mono ?_
  rintro e w1 (⟨n, hq, hn, rfl, hb1⟩ | ⟨hq, m1, c0, c1, rfl, hb1⟩)
  · have hn13 := numQ_lt hn (by omega)
    have Hq := Lib.hid hq
    clear hq hn
    by_cases hz : n = 0
    · subst hz
      have HF := Lib.hid (show readQ a b true pack = (0, 1) by unfold readQ; simp [Hq.out])
      by_cases hz : b = []
      · subst hz
        have g1 := h1.below ((below_drewN (Below.refl w.heap.size w) _).trans hb1)
        unfold ErrAt at g1
        go_wp2_with fail
        go_quiet (fail)
        go_wp2_with fail
        go_ret2
        refine ⟨?_, below_drewN ((below_drewN (Below.refl w.heap.size w) _).trans hb1) _⟩
        rw [HF.out]
        rfl
      · have hz' : b.isEmpty = false := by simpa using hz
        have Hz := Lib.hid hz
        clear hz
        go_wp2_with fail
        refine (number_any _ 13 (by show b.toArray.size ≤ _; simp; omega) (by omega) _ ((hT.drewN _).below hb1) ((show AtoiG (w.drewN _) from hA).below hb1)).mono ?_
        rintro e w2 (⟨k, hq2, hk, rfl, hb2⟩ | ⟨hq2, m2, d0, d1, rfl, hb2⟩)
        · clear hq2 hk
          have g1 := h1.below (((below_drewN (Below.refl w.heap.size w) _).trans hb1).trans (hb2.mono hb1.size))
          unfold ErrAt at g1
          go_wp2_with fail
          go_quiet (fail)
          go_wp2_with fail
          go_ret2
          refine ⟨?_, below_drewN (((below_drewN (Below.refl w.heap.size w) _).trans hb1).trans (hb2.mono hb1.size)) _⟩
          rw [HF.out]
          rfl
        · clear hq2
          have g1 := h1.below (((below_drewN (Below.refl w.heap.size w) _).trans hb1).trans (hb2.mono hb1.size))
          unfold ErrAt at g1
          go_wp2_with fail
          go_quiet (fail)
          go_wp2_with fail
          go_ret2
          refine ⟨?_, below_drewN (((below_drewN (Below.refl w.heap.size w) _).trans hb1).trans (hb2.mono hb1.size)) _⟩
          rw [HF.out]
          rfl
    · have hn0 : 0 < n := by omega
      by_cases hz : b = []
      · subst hz
        have p0 : (0 : Int) ≤ (n : Int) * (pack : Int) := Int.mul_nonneg (by omega) (by omega)
        have p1 : (n : Int) * (pack : Int) ≤ 10000000000000000 := by
          have q1 : n * pack ≤ 10000000000000 * 1000 := Nat.mul_le_mul (by omega) hp2
          have q2 : ((n * pack : Nat) : Int) = (n : Int) * (pack : Int) := by simp
          omega
        by_cases t1 : 1099511627776 < n
        · have HF := Lib.hid (show readQ a [] true pack = (0, 2) by unfold readQ; simp [Hq.out, Nat.ne_of_gt hn0]; rw [finQ, if_pos (by omega)])
          have g2 := h2.below ((below_drewN (Below.refl w.heap.size w) _).trans hb1)
          unfold ErrAt at g2
          go_wp2_with fail
          go_quiet (fail)
          go_wp2_with fail
          go_ret2
          refine ⟨?_, below_drewN ((below_drewN (Below.refl w.heap.size w) _).trans hb1) _⟩
          rw [HF.out]
          rfl
        · have e0 : ((n * pack : Nat) : Int) = (n : Int) * (pack : Int) := by simp
          by_cases t3 : 1099511627776 < n * pack
          · have HF := Lib.hid (show readQ a [] true pack = (0, 2) by unfold readQ; simp [Hq.out, Nat.ne_of_gt hn0]; rw [finQ, if_pos (by omega)])
            have t3' : 1099511627776 < (n : Int) * (pack : Int) := by omega
            clear e0 t3
            have g2 := h2.below ((below_drewN (Below.refl w.heap.size w) _).trans hb1)
            unfold ErrAt at g2
            go_wp2_with fail
            go_quiet (fail)
            go_wp2_with fail
            go_ret2
            refine ⟨?_, below_drewN ((below_drewN (Below.refl w.heap.size w) _).trans hb1) _⟩
            rw [HF.out]
            rfl
          · have HF := Lib.hid (show readQ a [] true pack = (n * pack, 0) by unfold readQ; simp [Hq.out, Nat.ne_of_gt hn0]; rw [finQ, if_neg (by omega)]; simp)
            have t3' : (n : Int) * (pack : Int) ≤ 1099511627776 := by omega
            have HE := Lib.hid e0
            clear e0 t3
            go_wp2_with fail
            go_ret2
            refine ⟨?_, ((below_drewN (Below.refl w.heap.size w) _).trans hb1)⟩
            rw [HF.out]
            show _ = Ending.returned (.tuple #[.int .i64 ((n * pack : Nat) : Int), .nilIface])
            rw [HE.out]
            rfl
      · have hz' : b.isEmpty = false := by simpa using hz
        have Hz := Lib.hid hz
        clear hz
        go_wp2_with fail
        refine (number_any _ 13 (by show b.toArray.size ≤ _; simp; omega) (by omega) _ ((hT.drewN _).below hb1) ((show AtoiG (w.drewN _) from hA).below hb1)).mono ?_
        rintro e w2 (⟨k, hq2, hk, rfl, hb2⟩ | ⟨hq2, m2, d0, d1, rfl, hb2⟩)
        · have hk13 := numQ_lt hk (by omega)
          have Hq2 := Lib.hid hq2
          clear hq2 hk
          by_cases hk0 : k = 0
          · subst hk0
            have HF := Lib.hid (show readQ a b true pack = (0, 1) by unfold readQ; simp [Hq.out, Hq2.out, Hz.out])
            have g1 := h1.below (((below_drewN (Below.refl w.heap.size w) _).trans hb1).trans (hb2.mono hb1.size))
            unfold ErrAt at g1
            go_wp2_with fail
            go_quiet (fail)
            go_wp2_with fail
            go_ret2
            refine ⟨?_, below_drewN (((below_drewN (Below.refl w.heap.size w) _).trans hb1).trans (hb2.mono hb1.size)) _⟩
            rw [HF.out]
            rfl
          · have hk0 : 0 < k := by omega
            have p0 : (0 : Int) ≤ (n : Int) * (pack : Int) := Int.mul_nonneg (by omega) (by omega)
            have p1 : (n : Int) * (pack : Int) ≤ 10000000000000000 := by
              have q1 : n * pack ≤ 10000000000000 * 1000 := Nat.mul_le_mul (by omega) hp2
              have q2 : ((n * pack : Nat) : Int) = (n : Int) * (pack : Int) := by simp
              omega
            by_cases t1 : 1099511627776 < n
            · have HF := Lib.hid (show readQ a b true pack = (0, 2) by unfold readQ; simp [Hq.out, Hq2.out, Hz.out, Nat.ne_of_gt hn0, Nat.ne_of_gt hk0]; rw [finQ, if_pos (by omega)])
              have g2 := h2.below (((below_drewN (Below.refl w.heap.size w) _).trans hb1).trans (hb2.mono hb1.size))
              unfold ErrAt at g2
              go_wp2_with fail
              go_quiet (fail)
              go_wp2_with fail
              go_ret2
              refine ⟨?_, below_drewN (((below_drewN (Below.refl w.heap.size w) _).trans hb1).trans (hb2.mono hb1.size)) _⟩
              rw [HF.out]
              rfl
            · by_cases t2 : 1099511627776 < k
              · have HF := Lib.hid (show readQ a b true pack = (0, 2) by unfold readQ; simp [Hq.out, Hq2.out, Hz.out, Nat.ne_of_gt hn0, Nat.ne_of_gt hk0]; rw [finQ, if_pos (by omega)])
                have g2 := h2.below (((below_drewN (Below.refl w.heap.size w) _).trans hb1).trans (hb2.mono hb1.size))
                unfold ErrAt at g2
                go_wp2_with fail
                go_quiet (fail)
                go_wp2_with fail
                go_ret2
                refine ⟨?_, below_drewN (((below_drewN (Below.refl w.heap.size w) _).trans hb1).trans (hb2.mono hb1.size)) _⟩
                rw [HF.out]
                rfl
              · have e0 : ((n * pack + k : Nat) : Int) = (n : Int) * (pack : Int) + (k : Int) := by simp
                by_cases t3 : 1099511627776 < n * pack + k
                · have HF := Lib.hid (show readQ a b true pack = (0, 2) by unfold readQ; simp [Hq.out, Hq2.out, Hz.out, Nat.ne_of_gt hn0, Nat.ne_of_gt hk0]; rw [finQ, if_pos (by omega)])
                  have t3' : 1099511627776 < (n : Int) * (pack : Int) + (k : Int) := by omega
                  clear e0 t3
                  have g2 := h2.below (((below_drewN (Below.refl w.heap.size w) _).trans hb1).trans (hb2.mono hb1.size))
                  unfold ErrAt at g2
                  go_wp2_with fail
                  go_quiet (fail)
                  go_wp2_with fail
                  go_ret2
                  refine ⟨?_, below_drewN (((below_drewN (Below.refl w.heap.size w) _).trans hb1).trans (hb2.mono hb1.size)) _⟩
                  rw [HF.out]
                  rfl
                · have HF := Lib.hid (show readQ a b true pack = (n * pack + k, 0) by unfold readQ; simp [Hq.out, Hq2.out, Hz.out, Nat.ne_of_gt hn0, Nat.ne_of_gt hk0]; rw [finQ, if_neg (by omega)])
                  have t3' : (n : Int) * (pack : Int) + (k : Int) ≤ 1099511627776 := by omega
                  have HE := Lib.hid e0
                  clear e0 t3
                  go_wp2_with fail
                  go_ret2
                  refine ⟨?_, (((below_drewN (Below.refl w.heap.size w) _).trans hb1).trans (hb2.mono hb1.size))⟩
                  rw [HF.out]
                  show _ = Ending.returned (.tuple #[.int .i64 ((n * pack + k : Nat) : Int), .nilIface])
                  rw [HE.out]
                  rfl
        · have HF := Lib.hid (show readQ a b true pack = (0, 1) by unfold readQ; simp [Hq.out, hq2, Hz.out])
          clear hq2
          have g1 := h1.below (((below_drewN (Below.refl w.heap.size w) _).trans hb1).trans (hb2.mono hb1.size))
          unfold ErrAt at g1
          go_wp2_with fail
          go_quiet (fail)
          go_wp2_with fail
          go_ret2
          refine ⟨?_, below_drewN (((below_drewN (Below.refl w.heap.size w) _).trans hb1).trans (hb2.mono hb1.size)) _⟩
          rw [HF.out]
          rfl
  · have HF := Lib.hid (show readQ a b true pack = (0, 1) by unfold readQ; simp [hq])
    clear hq
    by_cases hz : b = []
    · subst hz
      have g1 := h1.below ((below_drewN (Below.refl w.heap.size w) _).trans hb1)
      unfold ErrAt at g1
      go_wp2_with fail
      go_quiet (fail)
      go_wp2_with fail
      go_ret2
      refine ⟨?_, below_drewN ((below_drewN (Below.refl w.heap.size w) _).trans hb1) _⟩
      rw [HF.out]
      rfl
    · have hz' : b.isEmpty = false := by simpa using hz
      clear hz
      go_wp2_with fail
      refine (number_any _ 13 (by show b.toArray.size ≤ _; simp; omega) (by omega) _ ((hT.drewN _).below hb1) ((show AtoiG (w.drewN _) from hA).below hb1)).mono ?_
      rintro e w2 (⟨k, hq2, hk, rfl, hb2⟩ | ⟨hq2, m2, d0, d1, rfl, hb2⟩)
      · clear hq2 hk
        have g1 := h1.below (((below_drewN (Below.refl w.heap.size w) _).trans hb1).trans (hb2.mono hb1.size))
        unfold ErrAt at g1
        go_wp2_with fail
        go_quiet (fail)
        go_wp2_with fail
        go_ret2
        refine ⟨?_, below_drewN (((below_drewN (Below.refl w.heap.size w) _).trans hb1).trans (hb2.mono hb1.size)) _⟩
        rw [HF.out]
        rfl
      · clear hq2
        have g1 := h1.below (((below_drewN (Below.refl w.heap.size w) _).trans hb1).trans (hb2.mono hb1.size))
        unfold ErrAt at g1
        go_wp2_with fail
        go_quiet (fail)
        go_wp2_with fail
        go_ret2
        refine ⟨?_, below_drewN (((below_drewN (Below.refl w.heap.size w) _).trans hb1).trans (hb2.mono hb1.size)) _⟩
        rw [HF.out]
        rfl

theorem num_zero : numQ [48] 13 = some 0 := (numQ_iff _ _ _).2 ⟨by rw [Lib.decDigits_one (by omega)]; rfl, by decide, by omega⟩

set_option maxHeartbeats 1600000 in
theorem read_plain (E : Nat → Addr) (s : ByteArray) (pack : Nat) (w : World) (hp : 1 ≤ pack) (hp2 : pack ≤ 1000) (hs : s.size < 4294967281) (hT : TabG w) (hA : AtoiG w) (hM : MaxG w)
    (h1 : ErrAt 1 (E 1) w) (h2 : ErrAt 0 (E 2) w) (a b : List UInt8) (hcut : Lib.cut s.data.toList [99] = (a, b, false)) :
    Calls Tryz.prog 11 #[.string s, .int .i64 pack] w fun e w' => e = .returned (.tuple #[.int .i64 (readQ a s.data.toList false pack).1, errOf E (readQ a s.data.toList false pack).2]) ∧ Below w.heap.size w w' := by
  obtain ⟨m, hm⟩ := hM
  have hC := Tryz.strings_Cut s ⟨#[99]⟩ m w hs hm
  rw [show (⟨#[99]⟩ : ByteArray).data.toList = [99] from rfl, hcut] at hC
  have HC := Lib.hid hC
  have HZ := Lib.hid num_zero
  clear hC hcut hm m
  go_enter Tryz.func11, Tryz.ntmps11
  go_wp2_with fail
  refine (within_yes _ _ _ _ (by omega) (by omega)).mono ?_
  rintro e w1 ⟨rfl, rfl⟩
  go_wp2_with fail
  refine HC.out.mono ?_
  rintro e w1 ⟨rfl, j, rfl⟩
  go_wp2_with fail
  refine (number_yes ⟨#[48]⟩ 13 0 ((numQ_iff _ _ _).1 HZ.out) (by omega) _ (hT.drewN j)).mono ?_
  rintro e w1 ⟨rfl, hb1⟩
  by_cases hz : s.data.toList = []
  · have hz' : s.toList = [] := by rw [Lib.toList_data]; exact hz
    have HF := Lib.hid (show readQ a s.data.toList false pack = (0, 1) by unfold readQ; simp [HZ.out, hz])
    clear hz
    have g1 := h1.below ((below_drewN (Below.refl w.heap.size w) _).trans hb1)
    unfold ErrAt at g1
    go_wp2_with fail
    go_quiet (fail)
    go_wp2_with fail
    go_ret2
    refine ⟨?_, below_drewN ((below_drewN (Below.refl w.heap.size w) _).trans hb1) _⟩
    rw [HF.out]
    rfl
  · have hz' : s.toList.isEmpty = false := by rw [Lib.toList_data]; simpa using hz
    have Hz := Lib.hid hz
    clear hz
    go_wp2_with fail
    refine (number_any s 13 (by omega) (by omega) _ ((hT.drewN _).below hb1) ((show AtoiG (w.drewN _) from hA).below hb1)).mono ?_
    rintro e w2 (⟨k, hq2, hk, rfl, hb2⟩ | ⟨hq2, m2, d0, d1, rfl, hb2⟩)
    · have hk13 := numQ_lt hk (by omega)
      have Hq2 := Lib.hid hq2
      clear hq2 hk
      by_cases t2 : 1099511627776 < k
      · have HF := Lib.hid (show readQ a s.data.toList false pack = (0, 2) by unfold readQ; simp [HZ.out, Hq2.out, Hz.out]; simp [finQ, t2])
        have g2 := h2.below (((below_drewN (Below.refl w.heap.size w) _).trans hb1).trans (hb2.mono hb1.size))
        unfold ErrAt at g2
        go_wp2_with fail
        go_quiet (fail)
        go_wp2_with fail
        go_ret2
        refine ⟨?_, below_drewN (((below_drewN (Below.refl w.heap.size w) _).trans hb1).trans (hb2.mono hb1.size)) _⟩
        rw [HF.out]
        rfl
      · have HF := Lib.hid (show readQ a s.data.toList false pack = (k, 0) by unfold readQ; simp [HZ.out, Hq2.out, Hz.out]; simp [finQ, t2])
        go_wp2_with fail
        go_ret2
        refine ⟨?_, (((below_drewN (Below.refl w.heap.size w) _).trans hb1).trans (hb2.mono hb1.size))⟩
        rw [HF.out]
        simp [errOf_zero]
    · have HF := Lib.hid (show readQ a s.data.toList false pack = (0, 1) by unfold readQ; simp [HZ.out, hq2, Hz.out])
      clear hq2
      have g1 := h1.below (((below_drewN (Below.refl w.heap.size w) _).trans hb1).trans (hb2.mono hb1.size))
      unfold ErrAt at g1
      go_wp2_with fail
      go_quiet (fail)
      go_wp2_with fail
      go_ret2
      refine ⟨?_, below_drewN (((below_drewN (Below.refl w.heap.size w) _).trans hb1).trans (hb2.mono hb1.size)) _⟩
      rw [HF.out]
      rfl
end Go.Proofs.YtchamhjckindiaaGreatDoor
