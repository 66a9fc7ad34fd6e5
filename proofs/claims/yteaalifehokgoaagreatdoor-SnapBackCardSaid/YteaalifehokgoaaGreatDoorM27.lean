/- Entries of the document: EntryError at entries of pieces. Printed by gen/rente.py. Entries of the document: EntryError whole; EntryText. -/
import Derived.Test.YteaalifehokgoaaGreatDoorM26
namespace Go.Proofs.YteaalifehokgoaaGreatDoor
open Go.RowKit Go.Sort Go.Proofs
theorem piecesE_b (x : EntV) : piecesE x = if nameB x.2.2.1.1 = false then 5 else if hasF x.1 = true ∧ placeE x.2.2.2.1 ≠ 0 then placeE x.2.2.2.1 else if hasT x.1 = true ∧ placeE x.2.2.2.2.1 ≠ 0 then placeE x.2.2.2.2.1
  else if wiB x.2.2.2.2.2 1 1099511627776 = false then 2 else if decide (x.1 = kMove) = true ∧ decide (x.2.2.2.1 = x.2.2.2.2.1) = true then 3
  else if hasF x.1 = false ∧ decide (x.2.2.2.1 = zeroPlace) = false then 3 else if hasT x.1 = false ∧ decide (x.2.2.2.2.1 = zeroPlace) = false then 3 else if decide (x.2.1 = zeroGoods) = false then 3
  else if decide (x.2.2.1.2.1 = []) = false then 3 else if x.2.2.1.2.2.1 ≠ 0 then 3 else if x.2.2.1.2.2.2 ≠ 0 then 3 else 0 := by
 rw [piecesE_parts]
 simp only [decide_eq_true_eq, decide_eq_false_iff_not]
theorem move_both (k : List UInt8) : decide (k = kMove) = (hasF k && hasT k) := by
 by_cases h : k = kMove
 ·subst h; decide
 ·rw [decide_eq_false h]
  unfold hasF hasT
  by_cases h1 : k = kOut ∨ k = kLess
  ·rcases h1 with rfl | rfl <;> decide
  ·have e1 : ¬ (k = kOut ∨ k = kLess ∨ k = kMove) := fun e => by
    rcases e with e | e | e
    ·exact h1 (.inl e)
    ·exact h1 (.inr e)
    ·exact h e
   rw [decide_eq_false e1]
   rfl
set_option maxHeartbeats 12800000 in
set_option maxRecDepth 100000 in
theorem refEntE_pieces (x : EntV) (w : World) (hk1 : x.1 ≠ kGoods) (hk2 : x.1 ≠ kLot) (hk3 : isP x.1 = true) (hid : x.2.2.1.1.length ≤ 1000000000) (hf : x.2.2.2.1.1.length ≤ 1000000000) (ht : x.2.2.2.2.1.1.length ≤ 1000000000) :
  Calls Tryz.prog 72 #[.agg (encEnt x).toArray] w fun e w' => e = .returned (.int .i64 (piecesE x : Nat)) ∧ Below w.heap.size w w' := by
 have HE := Lib.hid (piecesE_b x)
 have b0 := Lib.hid (below_two w (.cells (encEnt x).toArray 43) (.cells #[.string ⟨#[]⟩, .int .i64 0, .int .i64 0] 41))
 have h0 := EB.start x w
 have HK := Lib.hid (fun W => isKind_any x.1 W)
 rw [show isKB x.1 = true by unfold isKB; rw [hk3]; simp] at HK
 have HN := Lib.hid (fun W => isName_any x.2.2.1.1 hid W)
 have HF := Lib.hid (fun W => hasFrom_any x.1 W)
 have HT := Lib.hid (fun W => hasTo_any x.1 W)
 have HPF := Lib.hid (fun W => refPlaceE_any x.2.2.2.1 hf W)
 have HPT := Lib.hid (fun W => refPlaceE_any x.2.2.2.2.1 ht W)
 have hqd := fun W => eqPlace x.2.2.2.1 x.2.2.2.2.1 W
 have hqf := fun W => neqPlace x.2.2.2.1 zeroPlace W
 have hqt := fun W => neqPlace x.2.2.2.2.1 zeroPlace W
 have hqg := fun W => neqGoods x.2.1 zeroGoods W
 have hkg : (x.1 == [103, 111, 111, 100, 115]) = false := beq_eq_false_iff_ne.2 hk1
 have hkl : (x.1 == [108, 111, 116]) = false := beq_eq_false_iff_ne.2 hk2
 have hkm : (x.1 == [109, 111, 118, 101]) = (hasF x.1 && hasT x.1) := by rw [← move_both]; exact (by by_cases h : x.1 = kMove; rw [decide_eq_true h, h]; rfl; rw [decide_eq_false h]; exact beq_eq_false_iff_ne.2 h)
 rw [move_both] at HE
 generalize decide (x.2.2.2.1 = x.2.2.2.2.1) = dq at HE hqd
 generalize decide (x.2.2.2.1 = zeroPlace) = df at HE hqf
 generalize decide (x.2.2.2.2.1 = zeroPlace) = dt at HE hqt
 generalize decide (x.2.1 = zeroGoods) = dg at HE hqg
 generalize placeE x.2.2.2.1 = pf at HE HPF
 generalize placeE x.2.2.2.2.1 = pt at HE HPT
 generalize nameB x.2.2.1.1 = nm at HE HN
 generalize hasF x.1 = bF at HE HF hkm
 generalize hasT x.1 = bT at HE HT hkm
 have H0 := Lib.hid h0
 have c0 := h0.at_ 0 _ rfl
 simp only [encGoods, zeroGoods, zeroPlace] at hqf hqt hqg
 have HQ := Lib.hid (And.intro hqd (And.intro hqf (And.intro hqt hqg)))
 clear hqd hqf hqt hqg h0 hk1 hk2 hk3 hid hf ht
 obtain ⟨r, hr⟩ : ∃ r, r = piecesE x := ⟨_, rfl⟩
 rw [← hr] at HE ⊢
 clear hr
 obtain ⟨L, hLL⟩ : ∃ L, L = encEnt x := ⟨_, rfl⟩
 have HLL := Lib.hid hLL
 rw [← hLL] at c0 b0 ⊢
 clear hLL
 have HKM := Lib.hid hkm
 clear hkm
 go_enter Tryz.func72, Tryz.ntmps72
 go_wp2_with fail
 refine (HK.out _).mono ?_
 rintro e w1 ⟨rfl, rfl⟩
 have h0 := H0.out
 rw [← HLL.out] at h0
 have lf := h0.from_
 have c3 := h0.at_ 3 _ rfl
 generalize (w.alloc (.cells L.toArray 43)).alloc (.cells #[.string ⟨#[]⟩, .int .i64 0, .int .i64 0] 41) = W at *
 have H0 := Lib.hid h0
 clear h0
 go_wp2_with fail
 refine (HN.out _).mono ?_
 rintro e w1 ⟨rfl, rfl⟩
 cases nm with
 |false =>
  have HE3 := Lib.hid (show r = 5 by rw [HE.out]; simp)
  go_wp2_with fail
  go_ret
  rw [HE3.out]
  exact ⟨rfl, b0.out⟩
 |true =>
 have HE := Lib.hid (HE.out.trans (if_neg (by simp)))
 go_wp2_with fail
 refine (HF.out _).mono ?_
 rintro e w1 ⟨rfl, rfl⟩
 go_wp2_with fail
 refine (HT.out _).mono ?_
 rintro e w1 ⟨rfl, rfl⟩
 cases bF with
 |false =>
  cases bT with
  |false =>
   clear c0 c3 lf
   have h1 := H0.out
   obtain ⟨c0, c1, c2, c3, c4, c5, c6, c7, c8, c9, c10, c11, c12, c13⟩ := h1.all
   obtain ⟨z0, z1, z2⟩ := h1.zeros
   obtain ⟨k, ⟨g1, g2⟩, ⟨l1, l2, l3, l4⟩, ⟨f1, f2, f3⟩, ⟨t1, t2, t3⟩, n⟩ := x
   simp only [encPlace] at c0 c1 c2 c3 c4 c5 c6 c7 c8 c9 c10 c11 c12 c13 HE HQ HKM hkg hkl
   obtain ⟨hqd, hqf, hqt, hqg⟩ := HQ.out
   have hkm := HKM.out
   rw [show (false && false) = false from rfl] at hkm
   clear h1 HKM
   unfold wiB at HE
   by_cases hn1 : n < 1
   ·have HE3 := Lib.hid (show r = 2 by rw [HE.out]; simp; omega)
    go_wp2_with fail
    go_ret
    rw [HE3.out]
    exact ⟨rfl, b0.out⟩
   ·have hn1' : 1 ≤ n := by omega
    by_cases hn2 : 1099511627776 < n
    ·have HE3 := Lib.hid (show r = 2 by rw [HE.out]; simp; omega)
     go_wp2_with fail
     go_ret
     rw [HE3.out]
     exact ⟨rfl, b0.out⟩
    ·have hn2' : n ≤ 1099511627776 := by omega
     have hwi : decide (1 ≤ n ∧ n ≤ 1099511627776) = true := decide_eq_true ⟨hn1', hn2'⟩
     have HE := Lib.hid (HE.out)
     rw [hwi] at HE
     clear hwi
     cases df with
     |false =>
      have HE3 := Lib.hid (show r = 3 by rw [HE.out]; simp)
      go_wp2_with fail
      go_ret
      rw [HE3.out]
      exact ⟨rfl, b0.out⟩
     |true =>
      cases dt with
      |false =>
       have HE3 := Lib.hid (show r = 3 by rw [HE.out]; simp)
       go_wp2_with fail
       go_ret
       rw [HE3.out]
       exact ⟨rfl, b0.out⟩
      |true =>
       cases dg with
       |false =>
        have HE3 := Lib.hid (show r = 3 by rw [HE.out]; simp)
        go_wp2_with fail
        go_ret
        rw [HE3.out]
        exact ⟨rfl, b0.out⟩
       |true =>
        by_cases e2 : l2 = []
        ·subst e2
         by_cases e3 : l3 = 0
         ·subst e3
          by_cases e4 : l4 = 0
          ·subst e4
           have HE3 := Lib.hid (show r = 0 by rw [HE.out]; simp)
           go_wp2_with fail
           go_ret
           rw [HE3.out]
           exact ⟨rfl, b0.out⟩
          ·have e4b : (l4 == 0) = false := by simpa using e4
           have HE3 := Lib.hid (show r = 3 by rw [HE.out]; simp [e4])
           go_wp2_with fail
           go_ret
           rw [HE3.out]
           exact ⟨rfl, b0.out⟩
         ·have e3b : (l3 == 0) = false := by simpa using e3
          have HE3 := Lib.hid (show r = 3 by rw [HE.out]; simp [e3])
          go_wp2_with fail
          go_ret
          rw [HE3.out]
          exact ⟨rfl, b0.out⟩
        ·have e2b : (l2 == []) = false := beq_eq_false_iff_ne.2 e2
         have HE3 := Lib.hid (show r = 3 by rw [HE.out]; simp [e2])
         go_wp2_with fail
         go_ret
         rw [HE3.out]
         exact ⟨rfl, b0.out⟩
  |true =>
   clear c0 c3 lf
   have lt := H0.out.to_
   go_wp2_with (refine wpList_load_at rfl 41 (.tmp 98) rfl w.heap.size 10 rfl (encPlace x.2.2.2.2.1) lt _ Tryz.underlying41 rfl (by kernel_rfl) ?_)
   refine (HPT.out _).mono ?_
   rintro e w1 ⟨rfl, bb2⟩
   have h2 := H0.out.below bb2
   have B2 := Lib.hid (b0.out.trans (bb2.mono b0.out.size))
   clear bb2 lt H0 b0
   have b0 := B2
   by_cases hpt : pt = 0
   ·subst hpt
    have H0 := Lib.hid h2
    clear h2
    have h1 := H0.out
    obtain ⟨c0, c1, c2, c3, c4, c5, c6, c7, c8, c9, c10, c11, c12, c13⟩ := h1.all
    obtain ⟨z0, z1, z2⟩ := h1.zeros
    obtain ⟨k, ⟨g1, g2⟩, ⟨l1, l2, l3, l4⟩, ⟨f1, f2, f3⟩, ⟨t1, t2, t3⟩, n⟩ := x
    simp only [encPlace] at c0 c1 c2 c3 c4 c5 c6 c7 c8 c9 c10 c11 c12 c13 HE HQ HKM hkg hkl
    obtain ⟨hqd, hqf, hqt, hqg⟩ := HQ.out
    have hkm := HKM.out
    rw [show (false && true) = false from rfl] at hkm
    clear h1 HKM
    unfold wiB at HE
    by_cases hn1 : n < 1
    ·have HE3 := Lib.hid (show r = 2 by rw [HE.out]; simp; omega)
     go_wp2_with fail
     go_ret
     rw [HE3.out]
     exact ⟨rfl, b0.out⟩
    ·have hn1' : 1 ≤ n := by omega
     by_cases hn2 : 1099511627776 < n
     ·have HE3 := Lib.hid (show r = 2 by rw [HE.out]; simp; omega)
      go_wp2_with fail
      go_ret
      rw [HE3.out]
      exact ⟨rfl, b0.out⟩
     ·have hn2' : n ≤ 1099511627776 := by omega
      have hwi : decide (1 ≤ n ∧ n ≤ 1099511627776) = true := decide_eq_true ⟨hn1', hn2'⟩
      have HE := Lib.hid (HE.out)
      rw [hwi] at HE
      clear hwi
      cases df with
      |false =>
       have HE3 := Lib.hid (show r = 3 by rw [HE.out]; simp)
       go_wp2_with fail
       go_ret
       rw [HE3.out]
       exact ⟨rfl, b0.out⟩
      |true =>
       cases dg with
       |false =>
        have HE3 := Lib.hid (show r = 3 by rw [HE.out]; simp)
        go_wp2_with fail
        go_ret
        rw [HE3.out]
        exact ⟨rfl, b0.out⟩
       |true =>
        by_cases e2 : l2 = []
        ·subst e2
         by_cases e3 : l3 = 0
         ·subst e3
          by_cases e4 : l4 = 0
          ·subst e4
           have HE3 := Lib.hid (show r = 0 by rw [HE.out]; simp)
           go_wp2_with fail
           go_ret
           rw [HE3.out]
           exact ⟨rfl, b0.out⟩
          ·have e4b : (l4 == 0) = false := by simpa using e4
           have HE3 := Lib.hid (show r = 3 by rw [HE.out]; simp [e4])
           go_wp2_with fail
           go_ret
           rw [HE3.out]
           exact ⟨rfl, b0.out⟩
         ·have e3b : (l3 == 0) = false := by simpa using e3
          have HE3 := Lib.hid (show r = 3 by rw [HE.out]; simp [e3])
          go_wp2_with fail
          go_ret
          rw [HE3.out]
          exact ⟨rfl, b0.out⟩
        ·have e2b : (l2 == []) = false := beq_eq_false_iff_ne.2 e2
         have HE3 := Lib.hid (show r = 3 by rw [HE.out]; simp [e2])
         go_wp2_with fail
         go_ret
         rw [HE3.out]
         exact ⟨rfl, b0.out⟩
   ·have hpos : 0 < (pt : Int) := by omega
    have HE3 := Lib.hid (show r = pt by rw [HE.out]; simp [hpt])
    go_wp2_with fail
    go_ret
    rw [HE3.out]
    exact ⟨rfl, b0.out⟩
 |true =>
  go_wp2_with (refine wpList_load_at rfl 41 (.tmp 91) rfl w.heap.size 7 rfl (encPlace x.2.2.2.1) lf _ Tryz.underlying41 rfl (by kernel_rfl) ?_)
  refine (HPF.out _).mono ?_
  rintro e w1 ⟨rfl, bb1⟩
  have h1 := H0.out.below bb1
  have B1 := Lib.hid (b0.out.trans (bb1.mono b0.out.size))
  clear bb1 c0 c3 lf H0 b0
  by_cases hpf : pf = 0
  ·subst hpf
   have H0 := Lib.hid h1
   have b0 := B1
   cases bT with
   |false =>
    clear h1 B1
    have h1 := H0.out
    obtain ⟨c0, c1, c2, c3, c4, c5, c6, c7, c8, c9, c10, c11, c12, c13⟩ := h1.all
    obtain ⟨z0, z1, z2⟩ := h1.zeros
    obtain ⟨k, ⟨g1, g2⟩, ⟨l1, l2, l3, l4⟩, ⟨f1, f2, f3⟩, ⟨t1, t2, t3⟩, n⟩ := x
    simp only [encPlace] at c0 c1 c2 c3 c4 c5 c6 c7 c8 c9 c10 c11 c12 c13 HE HQ HKM hkg hkl
    obtain ⟨hqd, hqf, hqt, hqg⟩ := HQ.out
    have hkm := HKM.out
    rw [show (true && false) = false from rfl] at hkm
    clear h1 HKM
    unfold wiB at HE
    by_cases hn1 : n < 1
    ·have HE3 := Lib.hid (show r = 2 by rw [HE.out]; simp; omega)
     go_wp2_with fail
     go_ret
     rw [HE3.out]
     exact ⟨rfl, b0.out⟩
    ·have hn1' : 1 ≤ n := by omega
     by_cases hn2 : 1099511627776 < n
     ·have HE3 := Lib.hid (show r = 2 by rw [HE.out]; simp; omega)
      go_wp2_with fail
      go_ret
      rw [HE3.out]
      exact ⟨rfl, b0.out⟩
     ·have hn2' : n ≤ 1099511627776 := by omega
      have hwi : decide (1 ≤ n ∧ n ≤ 1099511627776) = true := decide_eq_true ⟨hn1', hn2'⟩
      have HE := Lib.hid (HE.out)
      rw [hwi] at HE
      clear hwi
      cases dt with
      |false =>
       have HE3 := Lib.hid (show r = 3 by rw [HE.out]; simp)
       go_wp2_with fail
       go_ret
       rw [HE3.out]
       exact ⟨rfl, b0.out⟩
      |true =>
       cases dg with
       |false =>
        have HE3 := Lib.hid (show r = 3 by rw [HE.out]; simp)
        go_wp2_with fail
        go_ret
        rw [HE3.out]
        exact ⟨rfl, b0.out⟩
       |true =>
        by_cases e2 : l2 = []
        ·subst e2
         by_cases e3 : l3 = 0
         ·subst e3
          by_cases e4 : l4 = 0
          ·subst e4
           have HE3 := Lib.hid (show r = 0 by rw [HE.out]; simp)
           go_wp2_with fail
           go_ret
           rw [HE3.out]
           exact ⟨rfl, b0.out⟩
          ·have e4b : (l4 == 0) = false := by simpa using e4
           have HE3 := Lib.hid (show r = 3 by rw [HE.out]; simp [e4])
           go_wp2_with fail
           go_ret
           rw [HE3.out]
           exact ⟨rfl, b0.out⟩
         ·have e3b : (l3 == 0) = false := by simpa using e3
          have HE3 := Lib.hid (show r = 3 by rw [HE.out]; simp [e3])
          go_wp2_with fail
          go_ret
          rw [HE3.out]
          exact ⟨rfl, b0.out⟩
        ·have e2b : (l2 == []) = false := beq_eq_false_iff_ne.2 e2
         have HE3 := Lib.hid (show r = 3 by rw [HE.out]; simp [e2])
         go_wp2_with fail
         go_ret
         rw [HE3.out]
         exact ⟨rfl, b0.out⟩
   |true =>
    clear h1 B1
    have lt := H0.out.to_
    go_wp2_with (refine wpList_load_at rfl 41 (.tmp 98) rfl w.heap.size 10 rfl (encPlace x.2.2.2.2.1) lt _ Tryz.underlying41 rfl (by kernel_rfl) ?_)
    refine (HPT.out _).mono ?_
    rintro e w1 ⟨rfl, bb2⟩
    have h2 := H0.out.below bb2
    have B2 := Lib.hid (b0.out.trans (bb2.mono b0.out.size))
    clear bb2 lt H0 b0
    have b0 := B2
    by_cases hpt : pt = 0
    ·subst hpt
     have H0 := Lib.hid h2
     clear h2
     have h1 := H0.out
     obtain ⟨c0, c1, c2, c3, c4, c5, c6, c7, c8, c9, c10, c11, c12, c13⟩ := h1.all
     obtain ⟨z0, z1, z2⟩ := h1.zeros
     obtain ⟨k, ⟨g1, g2⟩, ⟨l1, l2, l3, l4⟩, ⟨f1, f2, f3⟩, ⟨t1, t2, t3⟩, n⟩ := x
     simp only [encPlace] at c0 c1 c2 c3 c4 c5 c6 c7 c8 c9 c10 c11 c12 c13 HE HQ HKM hkg hkl
     obtain ⟨hqd, hqf, hqt, hqg⟩ := HQ.out
     have hkm := HKM.out
     rw [show (true && true) = true from rfl] at hkm
     clear h1 HKM
     unfold wiB at HE
     by_cases hn1 : n < 1
     ·have HE3 := Lib.hid (show r = 2 by rw [HE.out]; simp; omega)
      go_wp2_with fail
      go_ret
      rw [HE3.out]
      exact ⟨rfl, b0.out⟩
     ·have hn1' : 1 ≤ n := by omega
      by_cases hn2 : 1099511627776 < n
      ·have HE3 := Lib.hid (show r = 2 by rw [HE.out]; simp; omega)
       go_wp2_with fail
       go_ret
       rw [HE3.out]
       exact ⟨rfl, b0.out⟩
      ·have hn2' : n ≤ 1099511627776 := by omega
       have hwi : decide (1 ≤ n ∧ n ≤ 1099511627776) = true := decide_eq_true ⟨hn1', hn2'⟩
       have HE := Lib.hid (HE.out)
       rw [hwi] at HE
       clear hwi
       cases dq with
       |false =>
        cases dg with
        |false =>
         have HE3 := Lib.hid (show r = 3 by rw [HE.out]; simp)
         go_wp2_with fail
         go_ret
         rw [HE3.out]
         exact ⟨rfl, b0.out⟩
        |true =>
         by_cases e2 : l2 = []
         ·subst e2
          by_cases e3 : l3 = 0
          ·subst e3
           by_cases e4 : l4 = 0
           ·subst e4
            have HE3 := Lib.hid (show r = 0 by rw [HE.out]; simp)
            go_wp2_with fail
            go_ret
            rw [HE3.out]
            exact ⟨rfl, b0.out⟩
           ·have e4b : (l4 == 0) = false := by simpa using e4
            have HE3 := Lib.hid (show r = 3 by rw [HE.out]; simp [e4])
            go_wp2_with fail
            go_ret
            rw [HE3.out]
            exact ⟨rfl, b0.out⟩
          ·have e3b : (l3 == 0) = false := by simpa using e3
           have HE3 := Lib.hid (show r = 3 by rw [HE.out]; simp [e3])
           go_wp2_with fail
           go_ret
           rw [HE3.out]
           exact ⟨rfl, b0.out⟩
         ·have e2b : (l2 == []) = false := beq_eq_false_iff_ne.2 e2
          have HE3 := Lib.hid (show r = 3 by rw [HE.out]; simp [e2])
          go_wp2_with fail
          go_ret
          rw [HE3.out]
          exact ⟨rfl, b0.out⟩
       |true =>
        have HE3 := Lib.hid (show r = 3 by rw [HE.out]; simp)
        go_wp2_with fail
        go_ret
        rw [HE3.out]
        exact ⟨rfl, b0.out⟩
    ·have hpos : 0 < (pt : Int) := by omega
     have HE3 := Lib.hid (show r = pt by rw [HE.out]; simp [hpt])
     go_wp2_with fail
     go_ret
     rw [HE3.out]
     exact ⟨rfl, b0.out⟩
  ·have hpos : 0 < (pf : Int) := by omega
   have HE3 := Lib.hid (show r = pf by rw [HE.out]; simp [hpf])
   go_wp2_with fail
   go_ret
   rw [HE3.out]
   exact ⟨rfl, B1.out⟩
end Go.Proofs.YteaalifehokgoaaGreatDoor
namespace Go.Proofs.YteaalifehokgoaaGreatDoor
open Go.RowKit Go.Sort Go.Proofs
def ShortE (x : EntV) : Prop := x.2.1.1.length ≤ 1000000 ∧ x.2.2.1.1.length ≤ 1000000 ∧ x.2.2.1.2.1.length ≤ 1000000 ∧ x.2.2.2.1.1.length ≤ 1000000 ∧ x.2.2.2.2.1.1.length ≤ 1000000
theorem refEntE_any (x : EntV) (w : World) (hs : ShortE x) :
  Calls Tryz.prog 72 #[.agg (encEnt x).toArray] w fun e w' => e = .returned (.int .i64 (entE x : Nat)) ∧ Below w.heap.size w w' := by
 obtain ⟨h1, h2, h3, h4, h5⟩ := hs
 by_cases k1 : x.1 = kGoods
 ·exact refEntE_goods x w k1 (by omega)
 by_cases k2 : x.1 = kLot
 ·exact refEntE_lot x w k2 ⟨by omega, by omega⟩
 cases k3 : isP x.1 with
 |true =>
  have e : entE x = piecesE x := by unfold entE; rw [if_neg k1, if_neg k2, if_pos k3]
  rw [e]
  exact refEntE_pieces x w k1 k2 k3 (by omega) (by omega) (by omega)
 |false =>
  have e : entE x = 4 := by unfold entE; rw [if_neg k1, if_neg k2, if_neg (by rw [k3]; simp)]
  rw [e]
  exact refEntE_none x w (by unfold isKB; rw [decide_eq_false k1, decide_eq_false k2, k3]; rfl)
theorem EB1.new (w : World) (x : EntV) : (w.alloc (.cells (encEnt x).toArray 43)).heap[w.heap.size]? = some (.cells (encEnt x).toArray 43 (0, 0)) := heap_alloc_new _ _
end Go.Proofs.YteaalifehokgoaaGreatDoor
