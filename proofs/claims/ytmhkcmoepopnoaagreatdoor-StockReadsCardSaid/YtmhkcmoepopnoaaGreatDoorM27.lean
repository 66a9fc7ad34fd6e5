/- A stock read by the document: ReadStock. -/
import Derived.Test.YtmhkcmoepopnoaaGreatDoorM26
namespace Go.Proofs.YtmhkcmoepopnoaaGreatDoor
open Go.RowKit Go.Sort Go.Proofs

theorem results_cell_cell {P : Program} {fn : Func} {p q : Tmp} {ty ty2 : TypeId} (h : fn.results = #[.cell p ty, .cell q ty2]) (tmps : Array Value) (w : World) (g g2 : Nat) (t t2 : TypeId) (cs cs2 : Array Value) (fr fr2 : Nat × Nat) (d d2 : TypeDesc)
    (hp : tmps.getD p undef = .pointer (some ⟨g, 0, none⟩)) (hg : w.heap[g]? = some (.cells cs t fr)) (hu : P.underlying ty = some d) (hd : (match d with | .struct _ | .array _ _ => true | _ => false) = true) (hi : (P.info? ty).map (·.size) = some cs.size)
    (hp2 : tmps.getD q undef = .pointer (some ⟨g2, 0, none⟩)) (hg2 : w.heap[g2]? = some (.cells cs2 t2 fr2)) (hu2 : P.underlying ty2 = some d2) (hd2 : (match d2 with | .struct _ | .array _ _ => true | _ => false) = true) (hi2 : (P.info? ty2).map (·.size) = some cs2.size) :
    (results fn tmps).run P w = .ok (.tuple #[.agg cs, .agg cs2]) w := by
  have hp' : tmps[p]?.getD undef = .pointer (some ⟨g, 0, none⟩) := by simpa using hp
  have hp2' : tmps[q]?.getD undef = .pointer (some ⟨g2, 0, none⟩) := by simpa using hp2
  simp only [results, h]
  simp [Sem.run_bind, hp', hp2', asAddr, run_loadVar_row w g t ty cs fr d hg hu hd hi, run_loadVar_row w g2 t2 ty2 cs2 fr2 d2 hg2 hu2 hd2 hi2, Result.andThen]

theorem row2f {w : World} {b : Nat} {u v : Value} {t : TypeId} (h : w.heap[b]? = some (.cells #[u, v] t (0, 0))) :
    (w.cell? ⟨b, 0, none⟩ = some u ∧ w.cell? ⟨b, 1, none⟩ = some v) ∧ w.frozen? ⟨b, 0, none⟩ = false ∧ w.frozen? ⟨b, 1, none⟩ = false :=
  ⟨⟨rowC h 0, rowC h 1⟩, rowF h 0, rowF h 1⟩
theorem bare_any (c : Int) (w : World) : Calls Tryz.prog 75 #[.int .i64 c] w fun e w' => e = .returned (.agg #[.int .i64 c, .int .i64 (-1)]) ∧ Below w.heap.size w w' := by
  have b0 := below_one w (.cells #[.int .i64 0, .int .i64 0] 64)
  have hz := heap_alloc_new w (.cells #[.int .i64 0, .int .i64 0] 64)
  go_enter Tryz.func75, Tryz.ntmps75
  go_wp2_with (refine wpList_store_box rfl 64 _ _ rfl w.heap.size [.int .i64 c, .int .i64 (-1)] rfl rfl 64 [.int .i64 0, .int .i64 0] hz (by kernel_rfl) rfl (by simp [Value.oneCell']) ?_; intro wf hf tf)
  (try simp only [Exit.inBlock, Exit.then])
  refine bodyPost_ret (results_cell_row rfl _ _ w.heap.size 64 #[.int .i64 c, .int .i64 (-1)] (0, 0) _ rfl hf Tryz.underlying64 rfl (by kernel_rfl)) rfl ?_
  exact ⟨rfl, b0.trans (tf.below (Nat.le_refl _))⟩
theorem fine_any (w : World) : Calls Tryz.prog 78 #[] w fun e w' => e = .returned (.agg #[.int .i64 0, .int .i64 (-1)]) ∧ Below w.heap.size w w' := by
  have b0 := below_one w (.cells #[.int .i64 0, .int .i64 0] 64)
  have hz := heap_alloc_new w (.cells #[.int .i64 0, .int .i64 0] 64)
  go_enter Tryz.func78, Tryz.ntmps78
  go_wp2_with (refine wpList_store_box rfl 64 _ _ rfl w.heap.size [.int .i64 0, .int .i64 (-1)] rfl rfl 64 [.int .i64 0, .int .i64 0] hz (by kernel_rfl) rfl (by simp [Value.oneCell']) ?_; intro wf hf tf)
  (try simp only [Exit.inBlock, Exit.then])
  refine bodyPost_ret (results_cell_row rfl _ _ w.heap.size 64 #[.int .i64 0, .int .i64 (-1)] (0, 0) _ rfl hf Tryz.underlying64 rfl (by kernel_rfl)) rfl ?_
  exact ⟨rfl, b0.trans (tf.below (Nat.le_refl _))⟩

theorem splitL_count (c : UInt8) : ∀ l : List UInt8, (splitL c l).length ≤ l.length + 1
  | [] => by simp [splitL]
  | x :: r => by
    have ih := splitL_count c r
    unfold splitL
    split
    · simp only [List.length_cons]; omega
    · split
      · simp
      · rename_i h
        rw [h] at ih
        simp only [List.length_cons] at *
        omega
/-- What the document's reading of a stock answers. -/
def RRdEnds (R : (Nat × Nat) ⊕ List LineV) (w : World) (e : Ending) (w' : World) : Prop :=
  Below w.heap.size w w' ∧ match R with
  | .inl (c, i) => e = .returned (.tuple #[.agg #[.slice none 0 0], .agg #[.int .i64 (c : Nat), .int .i64 (i : Nat)]])
  | .inr d => ∃ A cap, e = .returned (.tuple #[.agg #[.slice A d.length cap], .agg #[.int .i64 0, .int .i64 (-1)]]) ∧ RowAt encLine 5 w' A d

theorem RRdEnds.fault {R : (Nat × Nat) ⊕ List LineV} {w w' : World} {c i : Nat} (hR : R = .inl (c, i)) (hb : Below w.heap.size w w') : RRdEnds R w (.returned (.tuple #[.agg #[.slice none 0 0], .agg #[.int .i64 (c : Nat), .int .i64 (i : Nat)]])) w' := by
  subst hR
  exact ⟨hb, rfl⟩
/-- A box that holds a slice is no block of lines. -/
theorem row_turn_sl {w w' : World} {A B : Option Addr} {l : List LineV} {q n c : Nat} {t : TypeId} (h : RowAt encLine 5 w A l) (hq : w.heap[q]? = some (.cells #[.slice B n c] t (0, 0))) (ht : Turned q w w') : RowAt encLine 5 w' A l := by
  rcases h with h | ⟨b, o, h1, h2, h3⟩
  · exact .inl h
  cases l with
  | nil => exact .inl rfl
  | cons x r =>
    have hb : b ≠ q := by
      rintro rfl
      have h4 := h3 0 (by simp) 0 _ rfl
      rw [cell_of_row _ _ _ _ _ _ hq] at h4
      match o, h4 with
      | 0, h4 => simp at h4
      | o + 1, h4 => simp at h4
    exact .inr ⟨b, o, h1, by rw [ht.size]; exact h2, fun i hi c v hv => ht.cell (h3 i hi c v hv) hb⟩
theorem row_set_int {w : World} {A : Option Addr} {l : List LineV} {q : Nat} {cs : Array Value} {t : TypeId} {j : Nat} {v : Value} (h : RowAt encLine 5 w A l) (hq : w.heap[q]? = some (.cells cs t (0, 0))) (hc : ∀ (o : Nat) s, cs[o]? ≠ some (.string s)) : RowAt encLine 5 (w.setCell ⟨q, j, none⟩ v) A l := by
  rcases h with h | ⟨b, o, h1, h2, h3⟩
  · exact .inl h
  cases l with
  | nil => exact .inl rfl
  | cons x r =>
    have hb : b ≠ q := by
      rintro rfl
      have h4 := h3 0 (by simp) 0 _ rfl
      rw [cell_of_row _ _ _ _ _ _ hq] at h4
      exact hc _ _ h4
    exact .inr ⟨b, o, h1, by simpa [World.setCell] using h2, fun i hi c u hu => (World.cell?_of_block (Below.heap_setCell _ _ _ _ hb)).trans (h3 i hi c u hu)⟩
theorem notStr2 (a b : Int) : ∀ (o : Nat) s, (#[Value.int .i64 a, Value.int .i64 b] : Array Value)[o]? ≠ some (.string s)
  | 0, s => by simp
  | 1, s => by simp
  | o + 2, s => by simp
theorem strs_turn {w w' : World} {A : Option Addr} {xs : List (List UInt8)} {q : Nat} (h : StrsAt w A xs) (ht : Turned q w w') (hq : ∀ b o, A = some ⟨b, o, none⟩ → b ≠ q) : StrsAt w' A xs := by
  rcases h with h | ⟨b, o, h1, h2, h3⟩
  · exact .inl h
  · exact .inr ⟨b, o, h1, by rw [ht.size]; exact h2, fun i hi => ht.cell (h3 i hi) (hq b o h1)⟩
theorem oneSl (A : Option Addr) (n c : Nat) : ∀ v ∈ [Value.slice A n c], v.oneCell' = true := by simp [Value.oneCell']
theorem oneII (a b : Int) : ∀ v ∈ [Value.int .i64 a, Value.int .i64 b], v.oneCell' = true := by simp [Value.oneCell']
set_option maxHeartbeats 6000000 in
set_option maxRecDepth 100000 in
theorem refReadStock_any (s : ByteArray) (hs : s.size ≤ 20000) (w : World) :
    Calls Tryz.prog 32 #[.string s] w (RRdEnds (rdGo (splitL 10 (bts s)) 0 []) w) := by
  have HCT := Lib.hid (fun W => refCutB s 10 W (by omega))
  have hle := fun x (h : x ∈ splitL 10 (bts s)) => splitL_lens h
  rw [show (bts s).length = s.size from rfl] at hle
  obtain ⟨R, hR⟩ : ∃ R, R = rdGo (splitL 10 (bts s)) 0 [] := ⟨_, rfl⟩
  rw [← hR]
  obtain ⟨N, hN⟩ : ∃ N, (splitL 10 (bts s)).length = N + 1 := ⟨(splitL 10 (bts s)).length - 1, by have := splitL_ne 10 (bts s); have := List.length_pos_iff.2 this; omega⟩
  have hcnt := splitL_count 10 (bts s)
  rw [show (bts s).length = s.size from rfl, hN] at hcnt
  have hNb : N ≤ 20000 := by omega
  clear hcnt
  generalize splitL 10 (bts s) = ws at HCT hle hR hN
  have HR := Lib.hid hR.symm
  have HLE := Lib.hid hle
  have HN := Lib.hid hN
  clear hR hle
  clear hN
  have bz := below_two w (.cells #[.slice none 0 0] 30) (.cells #[.int .i64 0, .int .i64 0] 64)
  have hz0 := ((below_one (w.alloc (.cells #[.slice none 0 0] 30)) (.cells #[.int .i64 0, .int .i64 0] 64)).block w.heap.size (by simp)).trans (heap_alloc_new w (.cells #[.slice none 0 0] 30))
  have hz1 := heap_new2 w (.cells #[.slice none 0 0] 30) (.cells #[.int .i64 0, .int .i64 0] 64)
  go_enter Tryz.func32, Tryz.ntmps32
  go_wp2_with fail
  refine (HCT.out _).mono ?_
  rintro e w1 ⟨A, cap, rfl, hS, -, b1⟩
  have hS0 := at_b b1 hz0 (row_lt hz0)
  have hF0 := at_b b1 hz1 (row_lt hz1)
  have hAb : ∀ b o, A = some ⟨b, o, none⟩ → b < w1.heap.size := fun b o h => by
    obtain ⟨b', o', h1, h2, -⟩ := hS.resolve_left (fun h => by have := HN.out; rw [h] at this; simp at this)
    rw [h] at h1
    cases h1
    exact h2
  have bx := below_one w1 (.cells #[.slice none 0 0] 30)
  have HZ0 := Lib.hid (at_b bx hS0 (row_lt hS0))
  have HZ1 := Lib.hid (at_b bx hF0 (row_lt hF0))
  have HO := Lib.hid (heap_alloc_new w1 (.cells #[.slice none 0 0] 30))
  have HSS := Lib.hid (hS.below bx)
  have HB2 := Lib.hid (bz.trans ((b1.trans (bx.mono b1.size)).mono bz.size))
  have hlw : w.heap.size + 1 < w1.heap.size := row_lt hF0
  rw [HN.out]
  clear hS0 hF0 bx hS b1 bz hz0 hz1 HCT
  go_wp2_with fail
  generalize w1.alloc (.cells #[.slice none 0 0] 30) = w2 at *
  generalize w1.heap.size = ob at *
  have hol := row_lt HO.out
  go_loopw [6] (fun i wr => ∃ (k : Nat) (d : List LineV) (A' : Option Addr) (cap' : Nat), i = .int .i64 k ∧ k ≤ N ∧ Hid (rdGo (ws.drop k) k d = R) ∧ Hid (d.length = k ∧ RdI d) ∧ RowAt encLine 5 wr A' d ∧ wr.heap[ob]? = some (.cells #[.slice A' d.length cap'] 30 (0, 0)) ∧ wr.heap[w.heap.size]? = some (.cells #[.slice none 0 0] 30 (0, 0)) ∧ wr.heap[w.heap.size + 1]? = some (.cells #[.int .i64 0, .int .i64 0] 64 (0, 0)) ∧ StrsAt wr A ws ∧ Below w.heap.size w wr ∧ ob < wr.heap.size) (fun i _ => N - (intOf i).toNat)
  case atStart => exact ⟨0, [], none, 0, rfl, by omega, HR.out, ⟨rfl, RdI.nil⟩, .inl rfl, HO.out, HZ0.out, HZ1.out, HSS.out, HB2.out, hol⟩
  case round =>
    obtain ⟨k, d, A', cap', rfl, hk, HRR, HD, hrow, ho, hz0, hz1, hss, hb, hol⟩ := hrel
    have HROW := Lib.hid hrow
    have HO2 := Lib.hid ho
    have HY0 := Lib.hid hz0
    have HY1 := Lib.hid hz1
    have HSS2 := Lib.hid hss
    have HB := Lib.hid hb
    clear hrow ho hz0 hz1 hss hb HO HZ0 HZ1 HSS HB2
    by_cases hkN : k < N
    · have hkw : k < ws.length := by rw [HN.out]; omega
      obtain ⟨bl, o, rfl, hl, hcs⟩ := HSS2.out.resolve_left (fun h => by rw [h] at hkw; simp at hkw)
      have hc := hcs k hkw
      have htl := HLE.out ws[k] (List.getElem_mem hkw)
      have HDR := Lib.hid (show ws.drop k = ws[k] :: ws.drop (k + 1) from List.drop_eq_getElem_cons hkw)
      have HNE := Lib.hid (show ws.drop (k + 1) ≠ [] from fun h => by have := congrArg List.length h; rw [List.length_drop, HN.out] at this; simp at this; omega)
      generalize ws[k] = tx at hc htl HDR
      have HC2 := Lib.hid (fun W => refCutB ⟨tx.toArray⟩ 32 W (by show tx.toArray.size ≤ _; simp; omega))
      rw [show bts ⟨tx.toArray⟩ = tx from rfl] at HC2
      have HRL := Lib.hid (fun A cap W h => refReadLine_any A cap (splitL 32 tx) W h (fun x hx => by have := splitL_lens hx; omega))
      clear hcs
      go_wp2_with fail
      refine (HC2.out _).mono ?_
      rintro e w3 ⟨A3, cap3, rfl, hS3, -, b3⟩
      have B3 := Lib.hid (HB.out.trans (b3.mono HB.out.size))
      have b3s := b3.size
      go_wp2_with fail
      refine (HRL.out _ _ _ hS3).mono ?_
      rintro e w4 ⟨rfl, b4⟩
      have HWL := Lib.hid (fun h => lineWords_ok (ws := splitL 32 tx) h)
      have HBAD := Lib.hid (fun h : rdE d tx ≠ 0 => show R = .inl (rdE d tx, k) by rw [← HRR.out, HDR.out, rdGo_bad HNE.out h])
      have HOK := Lib.hid (fun h : rdE d tx = 0 => show rdGo (ws.drop (k + 1)) (k + 1) (d ++ [(lineWords (splitL 32 tx)).1]) = R by rw [← HRR.out, HDR.out, rdGo_ok HNE.out h])
      have HRE := Lib.hid (show rdE d tx = if (lineWords (splitL 32 tx)).2 ≠ 0 then (lineWords (splitL 32 tx)).2
          else if (match d.getLast? with | some z => !ltOf cfLine z (lineWords (splitL 32 tx)).1 | none => false) = true then 10
          else putE (toM d) (lineWords (splitL 32 tx)).1.1 (lineWords (splitL 32 tx)).1.2.1 (lineWords (splitL 32 tx)).1.2.2 from rfl)
      generalize lineWords (splitL 32 tx) = r at HRE HOK HWL ⊢
      obtain ⟨⟨⟨q1, q2, q3⟩, q4, q5⟩, rc⟩ := r
      simp only [encLine]
      have bx := below_one w4 (.cells #[.string ⟨q1.toArray⟩, .int .i64 q2, .int .i64 q3, .string ⟨q4.toArray⟩, .int .i64 q5] 84)
      have b35 := b3.trans ((b4.trans (bx.mono b4.size)).mono b3.size)
      have B5 := Lib.hid (HB.out.trans (b35.mono HB.out.size))
      have HR5 := Lib.hid (HROW.out.below b35)
      have HO5 := Lib.hid (at_b b35 HO2.out (row_lt HO2.out))
      have HP5 := Lib.hid (at_b b35 HY0.out (row_lt HY0.out))
      have HQ5 := Lib.hid (at_b b35 HY1.out (row_lt HY1.out))
      have HSS5 := Lib.hid (HSS2.out.below b35)
      have HX5 := Lib.hid (heap_alloc_new w4 (.cells #[.string ⟨q1.toArray⟩, .int .i64 q2, .int .i64 q3, .string ⟨q4.toArray⟩, .int .i64 q5] 84))
      have hlx : ob < w4.heap.size := Nat.lt_of_lt_of_le hol (Nat.le_trans b3.size b4.size)
      clear b3 b4 bx b35 B3 HROW HO2 HY0 HY1 HSS2 HB HC2 HRL hS3 hc HDR HNE HRR
      by_cases hr : rc = 0
      · subst hr
        have hW := HWL.out rfl
        have HPUT : Hid (∀ W, RowAt encLine 5 W A' d → Calls Tryz.prog 9 #[.agg #[.slice A' d.length cap'], .agg #[.string ⟨q1.toArray⟩, .int .i64 q2, .int .i64 q3], .string ⟨q4.toArray⟩, .int .i64 q5] W (StkEnds (linesM (putM (toM d) (q1, q2, q3) q4 q5)) (putE (toM d) (q1, q2, q3) q4 q5) W)) := fun W hrw => by
          have h := refPut_m HD.out.2.inv A' cap' W (by rw [HD.out.2.lines]; exact hrw) (q1, q2, q3) q4 q5 (by show q1.length ≤ _; have : q1.length ≤ 8 := (nameB_len (placeE_zero.1 hW.1).1).2; omega) (by have : q4.length ≤ 8 := (nameB_len hW.2.1).2; omega)
          rw [show (toM d).length = d.length by simp [toM]] at h
          exact h
        have hwo : w.heap.size ≠ ob := by omega
        have hwo1 : w.heap.size + 1 ≠ ob := by omega
        by_cases hkz : k = 0
        · have hd : d = [] := List.eq_nil_of_length_eq_zero (by rw [HD.out.1]; exact hkz)
          have hki : ¬ (0 : Int) < (k : Int) := by omega
          have HRE2 := Lib.hid (HRE.out.trans (by rw [if_neg (by simp), if_neg (by rw [hd]; simp)]))
          have HKN := Lib.hid hd
          clear hkz hd HRE
          have by7 := below_one (w4.alloc (.cells #[.string ⟨q1.toArray⟩, .int .i64 q2, .int .i64 q3, .string ⟨q4.toArray⟩, .int .i64 q5] 84)) (.cells #[.slice none 0 0] 30)
          have HY7 := Lib.hid (heap_new2 w4 (.cells #[.string ⟨q1.toArray⟩, .int .i64 q2, .int .i64 q3, .string ⟨q4.toArray⟩, .int .i64 q5] 84) (.cells #[.slice none 0 0] 30))
          have hoy : ob < w4.heap.size + 1 := by omega
          have hwy : w.heap.size ≠ w4.heap.size + 1 := by omega
          have hwy1 : w.heap.size + 1 ≠ w4.heap.size + 1 := by omega
          have B7 := Lib.hid (B5.out.trans (by7.mono B5.out.size))
          have HO7 := Lib.hid (at_b by7 HO5.out (row_lt HO5.out))
          have HP7 := Lib.hid (at_b by7 HP5.out (row_lt HP5.out))
          have HQ7 := Lib.hid (at_b by7 HQ5.out (row_lt HQ5.out))
          have HX7 := Lib.hid (at_b by7 HX5.out (row_lt HX5.out))
          have HSS7 := Lib.hid (HSS5.out.below by7)
          have HPT := Lib.hid (HPUT.out _ (HR5.out.below by7))
          have HNX := Lib.hid (fun hp => HD.out.2.next (x := ((q1, q2, q3), q4, q5)) (fun y hy => by rw [HKN.out] at hy; cases hy) hp)
          have hyl := row_lt HX5.out
          obtain ⟨o0, -⟩ := row1 HO7.out
          obtain ⟨⟨x0, x1, x2, x3, x4⟩, -⟩ := row5f HX7.out
          clear by7 B5 HO5 HP5 HQ5 HX5 HSS5 HR5
          go_wp2_with fail
          generalize (w4.alloc (.cells #[.string ⟨q1.toArray⟩, .int .i64 q2, .int .i64 q3, .string ⟨q4.toArray⟩, .int .i64 q5] 84)).alloc (.cells #[.slice none 0 0] 30) = w7 at *
          generalize w4.heap.size + 1 = yb at *
          refine HPT.out.mono ?_
          rintro e w8 ⟨A8, cap8, rfl, hr8, b8⟩
          have B8 := Lib.hid (B7.out.trans (b8.mono B7.out.size))
          have HY8 := Lib.hid (at_b b8 HY7.out (row_lt HY7.out))
          have HO8 := Lib.hid (at_b b8 HO7.out (row_lt HO7.out))
          have HP8 := Lib.hid (at_b b8 HP7.out (row_lt HP7.out))
          have HQ8 := Lib.hid (at_b b8 HQ7.out (row_lt HQ7.out))
          have HSS8 := Lib.hid (HSS7.out.below b8)
          have HR8 := Lib.hid hr8
          clear b8 B7 HY7 HO7 HP7 HQ7 HX7 HSS7 HPT hr8 o0 x0 x1 x2 x3 x4
          generalize putE (toM d) (q1, q2, q3) q4 q5 = pe at *
          obtain ⟨ll, hll⟩ : ∃ ll, ll = linesM (putM (toM d) (q1, q2, q3) q4 q5) := ⟨_, rfl⟩
          rw [← hll] at HR8 ⊢
          have HLLD := Lib.hid hll
          clear hll
          by_cases hp0 : pe = 0
          · subst hp0
            obtain ⟨hI8, hM8⟩ := HNX.out rfl
            have hlld : ll = d ++ [((q1, q2, q3), q4, q5)] := by rw [HLLD.out, ← hM8, hI8.lines]
            have hk8 := HOK.out HRE2.out
            have hlk : ll.length = k + 1 := by rw [hlld, List.length_append, HD.out.1]; rfl
            rw [← hlld] at hI8 hk8
            have HI8 := Lib.hid (And.intro hlk hI8)
            have HK8 := Lib.hid hk8
            clear hI8 hM8 hlld hk8 hlk
            go_wp2_with (first | (refine wpList_store_box rfl 30 _ _ rfl yb [.slice A8 ll.length cap8] rfl rfl 30 [.slice none 0 0] HY8.out (by kernel_rfl) rfl (oneSl _ _ _) ?_; intro wa ha ta; have ho9 := (ta.block ob (Nat.ne_of_lt hoy)).trans HO8.out; have y0 := rowC ha 0) | (refine wpList_store_box rfl 30 _ _ rfl ob [.slice A8 ll.length cap8] rfl rfl 30 [.slice A' d.length cap'] ho9 (by kernel_rfl) rfl (oneSl _ _ _) ?_; intro wb hb tb))
            have e1 := fun q h1 h2 => (tb.block q h1).trans (ta.block q h2)
            go_roundw
            case rel =>
              exact ⟨k + 1, ll, A8, cap8, by go_num, by omega, HK8.out, HI8.out, row_turn_sl (row_turn_sl HR8.out HY8.out ta) ho9 tb, hb, (e1 _ (by omega) (by omega)).trans HP8.out, (e1 _ (by omega) (by omega)).trans HQ8.out, strs_turn (strs_turn HSS8.out ta fun b o h => by have := hAb b o h; omega) tb fun b o h => by have := hAb b o h; omega, B8.out.trans ((ta.below (by omega)).trans (tb.below (by omega))), row_lt hb⟩
            case measure => simp [intOf]; omega
          · have HBD := Lib.hid (show R = .inl (pe, k) by have h : rdE d tx = pe := HRE2.out; rw [← h]; exact HBAD.out (by rw [h]; exact hp0))
            have hti : (pe : Int) ≠ 0 := by omega
            have htp : 0 < (pe : Int) := by omega
            go_wp2_with (first | (refine wpList_store_box rfl 30 _ _ rfl yb [.slice A8 ll.length cap8] rfl rfl 30 [.slice none 0 0] HY8.out (by kernel_rfl) rfl (oneSl _ _ _) ?_; intro wa ha ta; have ho9 := (ta.block ob (Nat.ne_of_lt hoy)).trans HO8.out; have y0 := rowC ha 0) | (refine wpList_store_box rfl 30 _ _ rfl ob [.slice A8 ll.length cap8] rfl rfl 30 [.slice A' d.length cap'] ho9 (by kernel_rfl) rfl (oneSl _ _ _) ?_; intro wb hb tb; have hp9 := (tb.block w.heap.size hwo).trans ((ta.block w.heap.size hwy).trans HP8.out); have hq8 := (tb.block (w.heap.size + 1) hwo1).trans ((ta.block (w.heap.size + 1) hwy1).trans HQ8.out)) | (refine wpList_store_box rfl 30 _ _ rfl w.heap.size [.slice none 0 0] rfl rfl 30 [.slice none 0 0] hp9 (by kernel_rfl) rfl (oneSl _ _ _) ?_; intro wf hf tf; have hq9 := (tf.block (w.heap.size + 1) (Nat.succ_ne_self _)).trans hq8) | (refine wpList_store_box rfl 64 _ _ rfl (w.heap.size + 1) [.int .i64 (pe : Nat), .int .i64 ((k : Nat) : Int)] rfl rfl 64 [.int .i64 0, .int .i64 0] hq9 (by kernel_rfl) rfl (oneII _ _) ?_; intro wg hg tg))
            (try simp only [Exit.inBlock, Exit.then])
            refine bodyPost_ret (results_cell_cell rfl _ _ w.heap.size (w.heap.size + 1) 30 64 #[.slice none 0 0] #[.int .i64 (pe : Nat), .int .i64 ((k : Nat) : Int)] (0, 0) (0, 0) _ _ rfl ((tg.block _ (Nat.succ_ne_self _).symm).trans hf) Tryz.underlying30 rfl (by kernel_rfl) rfl hg Tryz.underlying64 rfl (by kernel_rfl)) rfl ?_
            exact RRdEnds.fault HBD.out (B8.out.trans ((ta.below (by omega)).trans ((tb.below (by omega)).trans ((tf.below (Nat.le_refl _)).trans (tg.below (Nat.le_succ _))))))
        · obtain ⟨K, rfl⟩ : ∃ K, k = K + 1 := ⟨k - 1, by omega⟩
          have hKd : K < d.length := by rw [HD.out.1]; omega
          have hki : (0 : Int) < (K : Int) + 1 := by omega
          have hw1 : IntKind.i64.wrap ((K : Int) + 1 - 1) = (K : Int) := by rw [IntKind.wrap_i64]; omega
          have hw2 : IntKind.i64.wrap (((K + 1 : Nat) : Int) - 1) = (K : Int) := by rw [IntKind.wrap_i64]; omega
          have hw3 : IntKind.i64.wrap (K : Int) = (K : Int) := by rw [IntKind.wrap_i64]; omega
          have hK0 : (0 : Int) ≤ (K : Int) := by omega
          have hKi : (K : Int) < (d.length : Int) := by omega
          obtain ⟨g, og, rfl⟩ := HR5.out.some_of hKd
          have hzl : d.getLast? = some d[K] := by rw [List.getLast?_eq_getElem?, HD.out.1]; simp [hKd]
          have hzp : InP d[K].1 := by
            have h1 := HD.out.2.inv.well.well ((d[K].1, d[K].2.1), d[K].2.2.toNat) (List.mem_map.2 ⟨d[K], List.getElem_mem hKd, rfl⟩)
            exact InP.of h1.1
          obtain ⟨e0, e1, e2, e3, e4⟩ := HR5.out.line K hKd
          have HAH := Lib.hid (fun W => refLineAhead_any d[K] ((q1, q2, q3), q4, q5) hzp W)
          have HRE1 : Hid (rdE d tx = if ltOf cfLine d[K] ((q1, q2, q3), q4, q5) = false then 10 else putE (toM d) (q1, q2, q3) q4 q5) := by
            refine HRE.out.trans ?_
            rw [if_neg (by simp), hzl]
            show (if (!ltOf cfLine d[K] ((q1, q2, q3), q4, q5)) = true then 10 else putE (toM d) (q1, q2, q3) q4 q5) = _
            cases ltOf cfLine d[K] ((q1, q2, q3), q4, q5) <;> rfl
          have HZL := Lib.hid hzl
          generalize d[K] = z at hzp e0 e1 e2 e3 e4 HAH HRE1 HZL
          obtain ⟨⟨z1, z2, z3⟩, z4, z5⟩ := z
          simp only [encLine] at HAH
          simp only at e0 e1 e2 e3 e4
          obtain ⟨⟨x0, x1, x2, x3, x4⟩, -⟩ := row5f HX5.out
          obtain ⟨o0, -⟩ := row1 HO5.out
          generalize hah : ltOf cfLine ((z1, z2, z3), z4, z5) ((q1, q2, q3), q4, q5) = ah at HAH HRE1
          have HAHV := Lib.hid hah
          clear hah hzl hzp hkz HRE
          go_wp2_with fail
          generalize w4.alloc (.cells #[.string ⟨q1.toArray⟩, .int .i64 q2, .int .i64 q3, .string ⟨q4.toArray⟩, .int .i64 q5] 84) = w5 at *
          generalize w4.heap.size = lx at *
          have qd : Below w5.heap.size w5 w5.drew := (Below.refl _ _).drew
          have up := Lib.hid (fun (W : World) (hW : Below w5.heap.size w5 W) (q : Addr) (v : Value) (h : w5.cell? q = some v) => (hW.cell (lt_of_cell h)).trans h)
          go_region_held3 (fun w' => w'.cell? ⟨ob, 0, none⟩ = some (.slice (some ⟨g, og, none⟩) d.length cap') ∧ w'.cell? ⟨g, og + K * 5, none⟩ = some (.string ⟨z1.toArray⟩) ∧ w'.cell? ⟨g, og + K * 5 + 1, none⟩ = some (.int .i64 z2) ∧ w'.cell? ⟨g, og + K * 5 + 2, none⟩ = some (.int .i64 z3) ∧ w'.cell? ⟨g, og + K * 5 + 3, none⟩ = some (.string ⟨z4.toArray⟩) ∧ w'.cell? ⟨g, og + K * 5 + 4, none⟩ = some (.int .i64 z5) ∧ w'.cell? ⟨lx, 0, none⟩ = some (.string ⟨q1.toArray⟩) ∧ w'.cell? ⟨lx, 1, none⟩ = some (.int .i64 q2) ∧ w'.cell? ⟨lx, 2, none⟩ = some (.int .i64 q3) ∧ w'.cell? ⟨lx, 3, none⟩ = some (.string ⟨q4.toArray⟩) ∧ w'.cell? ⟨lx, 4, none⟩ = some (.int .i64 q5))
            (first | exact ⟨o0, e0, e1, e2, e3, e4, x0, x1, x2, x3, x4⟩ | exact ⟨up.out _ j6 _ _ o0, up.out _ j6 _ _ e0, up.out _ j6 _ _ e1, up.out _ j6 _ _ e2, up.out _ j6 _ _ e3, up.out _ j6 _ _ e4, up.out _ j6 _ _ x0, up.out _ j6 _ _ x1, up.out _ j6 _ _ x2, up.out _ j6 _ _ x3, up.out _ j6 _ _ x4⟩ | go_keep)
            (first | (go_at_call 77; refine (HAH.out _).mono ?_; rintro e w6 ⟨rfl, b6⟩; have j6 : Below w5.heap.size w5 w6 := qd.trans b6))
          have B6 := Lib.hid (B5.out.trans (j6.mono B5.out.size))
          have HR6 := Lib.hid (HR5.out.below j6)
          have HO6 := Lib.hid (at_b j6 HO5.out (row_lt HO5.out))
          have HP6 := Lib.hid (at_b j6 HP5.out (row_lt HP5.out))
          have HQ6 := Lib.hid (at_b j6 HQ5.out (row_lt HQ5.out))
          have HX6 := Lib.hid (at_b j6 HX5.out (row_lt HX5.out))
          have HSS6 := Lib.hid (HSS5.out.below j6)
          have hox := row_lt HO6.out
          clear j6 b6 qd up B5 HR5 HO5 HP5 HQ5 HX5 HSS5 o0 e0 e1 e2 e3 e4 x0 x1 x2 x3 x4 HAH hKd hKi hw1 hw2 hw3
          cases ah with
          | false =>
            have HBD := Lib.hid (show R = .inl (10, K + 1) by have h : rdE d tx = 10 := HRE1.out.trans (if_pos rfl); rw [← h]; exact HBAD.out (by rw [h]; decide))
            go_wp2_with (first | (refine wpList_store_box rfl 30 _ _ rfl w.heap.size [.slice none 0 0] rfl rfl 30 [.slice none 0 0] HP6.out (by kernel_rfl) rfl (oneSl _ _ _) ?_; intro wf hf tf; have hq9 := (tf.block (w.heap.size + 1) (Nat.succ_ne_self _)).trans HQ6.out) | (refine wpList_store_box rfl 64 _ _ rfl (w.heap.size + 1) [.int .i64 10, .int .i64 ((K + 1 : Nat) : Int)] rfl rfl 64 [.int .i64 0, .int .i64 0] hq9 (by kernel_rfl) rfl (oneII _ _) ?_; intro wg hg tg))
            (try simp only [Exit.inBlock, Exit.then])
            refine bodyPost_ret (results_cell_cell rfl _ _ w.heap.size (w.heap.size + 1) 30 64 #[.slice none 0 0] #[.int .i64 10, .int .i64 ((K + 1 : Nat) : Int)] (0, 0) (0, 0) _ _ rfl ((tg.block _ (Nat.succ_ne_self _).symm).trans hf) Tryz.underlying30 rfl (by kernel_rfl) rfl hg Tryz.underlying64 rfl (by kernel_rfl)) rfl ?_
            exact RRdEnds.fault HBD.out (B6.out.trans ((tf.below (Nat.le_refl _)).trans (tg.below (Nat.le_succ _))))
          | true =>
            have HRE2 := Lib.hid (HRE1.out.trans (if_neg (by simp)))
            clear HRE1
            have by7 := below_one w6 (.cells #[.slice none 0 0] 30)
            have HY7 := Lib.hid (heap_alloc_new w6 (.cells #[.slice none 0 0] 30))
            have hoy : ob < w6.heap.size := by omega
            have hwy : w.heap.size ≠ w6.heap.size := by omega
            have hwy1 : w.heap.size + 1 ≠ w6.heap.size := by omega
            have B7 := Lib.hid (B6.out.trans (by7.mono B6.out.size))
            have HO7 := Lib.hid (at_b by7 HO6.out (row_lt HO6.out))
            have HP7 := Lib.hid (at_b by7 HP6.out (row_lt HP6.out))
            have HQ7 := Lib.hid (at_b by7 HQ6.out (row_lt HQ6.out))
            have HX7 := Lib.hid (at_b by7 HX6.out (row_lt HX6.out))
            have HSS7 := Lib.hid (HSS6.out.below by7)
            have HPT := Lib.hid (HPUT.out _ (HR6.out.below by7))
            have HNX := Lib.hid (fun hp => HD.out.2.next (x := ((q1, q2, q3), q4, q5)) (fun y hy => by have h := HZL.out; rw [hy] at h; injection h with h; rw [h]; exact HAHV.out) hp)
            have hyl := row_lt HX6.out
            obtain ⟨o0, -⟩ := row1 HO7.out
            obtain ⟨⟨x0, x1, x2, x3, x4⟩, -⟩ := row5f HX7.out
            clear by7 B6 HO6 HP6 HQ6 HX6 HSS6 HR6
            go_wp2_with fail
            generalize w6.alloc (.cells #[.slice none 0 0] 30) = w7 at *
            generalize w6.heap.size = yb at *
            refine HPT.out.mono ?_
            rintro e w8 ⟨A8, cap8, rfl, hr8, b8⟩
            have B8 := Lib.hid (B7.out.trans (b8.mono B7.out.size))
            have HY8 := Lib.hid (at_b b8 HY7.out (row_lt HY7.out))
            have HO8 := Lib.hid (at_b b8 HO7.out (row_lt HO7.out))
            have HP8 := Lib.hid (at_b b8 HP7.out (row_lt HP7.out))
            have HQ8 := Lib.hid (at_b b8 HQ7.out (row_lt HQ7.out))
            have HSS8 := Lib.hid (HSS7.out.below b8)
            have HR8 := Lib.hid hr8
            clear b8 B7 HY7 HO7 HP7 HQ7 HX7 HSS7 HPT hr8 o0 x0 x1 x2 x3 x4
            generalize putE (toM d) (q1, q2, q3) q4 q5 = pe at *
            obtain ⟨ll, hll⟩ : ∃ ll, ll = linesM (putM (toM d) (q1, q2, q3) q4 q5) := ⟨_, rfl⟩
            rw [← hll] at HR8 ⊢
            have HLLD := Lib.hid hll
            clear hll
            by_cases hp0 : pe = 0
            · subst hp0
              obtain ⟨hI8, hM8⟩ := HNX.out rfl
              have hlld : ll = d ++ [((q1, q2, q3), q4, q5)] := by rw [HLLD.out, ← hM8, hI8.lines]
              have hk8 := HOK.out HRE2.out
              have hlk : ll.length = (K + 1) + 1 := by rw [hlld, List.length_append, HD.out.1]; rfl
              rw [← hlld] at hI8 hk8
              have HI8 := Lib.hid (And.intro hlk hI8)
              have HK8 := Lib.hid hk8
              clear hI8 hM8 hlld hk8 hlk
              go_wp2_with (first | (refine wpList_store_box rfl 30 _ _ rfl yb [.slice A8 ll.length cap8] rfl rfl 30 [.slice none 0 0] HY8.out (by kernel_rfl) rfl (oneSl _ _ _) ?_; intro wa ha ta; have ho9 := (ta.block ob (Nat.ne_of_lt hoy)).trans HO8.out; have y0 := rowC ha 0) | (refine wpList_store_box rfl 30 _ _ rfl ob [.slice A8 ll.length cap8] rfl rfl 30 [.slice (some ⟨g, og, none⟩) d.length cap'] ho9 (by kernel_rfl) rfl (oneSl _ _ _) ?_; intro wb hb tb))
              have e1 := fun q h1 h2 => (tb.block q h1).trans (ta.block q h2)
              go_roundw
              case rel =>
                exact ⟨(K + 1) + 1, ll, A8, cap8, by go_num, by omega, HK8.out, HI8.out, row_turn_sl (row_turn_sl HR8.out HY8.out ta) ho9 tb, hb, (e1 _ (by omega) (by omega)).trans HP8.out, (e1 _ (by omega) (by omega)).trans HQ8.out, strs_turn (strs_turn HSS8.out ta fun b o h => by have := hAb b o h; omega) tb fun b o h => by have := hAb b o h; omega, B8.out.trans ((ta.below (by omega)).trans (tb.below (by omega))), row_lt hb⟩
              case measure => simp [intOf]; omega
            · have HBD := Lib.hid (show R = .inl (pe, (K + 1)) by have h : rdE d tx = pe := HRE2.out; rw [← h]; exact HBAD.out (by rw [h]; exact hp0))
              have hti : (pe : Int) ≠ 0 := by omega
              have htp : 0 < (pe : Int) := by omega
              go_wp2_with (first | (refine wpList_store_box rfl 30 _ _ rfl yb [.slice A8 ll.length cap8] rfl rfl 30 [.slice none 0 0] HY8.out (by kernel_rfl) rfl (oneSl _ _ _) ?_; intro wa ha ta; have ho9 := (ta.block ob (Nat.ne_of_lt hoy)).trans HO8.out; have y0 := rowC ha 0) | (refine wpList_store_box rfl 30 _ _ rfl ob [.slice A8 ll.length cap8] rfl rfl 30 [.slice (some ⟨g, og, none⟩) d.length cap'] ho9 (by kernel_rfl) rfl (oneSl _ _ _) ?_; intro wb hb tb; have hp9 := (tb.block w.heap.size hwo).trans ((ta.block w.heap.size hwy).trans HP8.out); have hq8 := (tb.block (w.heap.size + 1) hwo1).trans ((ta.block (w.heap.size + 1) hwy1).trans HQ8.out)) | (refine wpList_store_box rfl 30 _ _ rfl w.heap.size [.slice none 0 0] rfl rfl 30 [.slice none 0 0] hp9 (by kernel_rfl) rfl (oneSl _ _ _) ?_; intro wf hf tf; have hq9 := (tf.block (w.heap.size + 1) (Nat.succ_ne_self _)).trans hq8) | (refine wpList_store_box rfl 64 _ _ rfl (w.heap.size + 1) [.int .i64 (pe : Nat), .int .i64 (((K + 1) : Nat) : Int)] rfl rfl 64 [.int .i64 0, .int .i64 0] hq9 (by kernel_rfl) rfl (oneII _ _) ?_; intro wg hg tg))
              (try simp only [Exit.inBlock, Exit.then])
              refine bodyPost_ret (results_cell_cell rfl _ _ w.heap.size (w.heap.size + 1) 30 64 #[.slice none 0 0] #[.int .i64 (pe : Nat), .int .i64 (((K + 1) : Nat) : Int)] (0, 0) (0, 0) _ _ rfl ((tg.block _ (Nat.succ_ne_self _).symm).trans hf) Tryz.underlying30 rfl (by kernel_rfl) rfl hg Tryz.underlying64 rfl (by kernel_rfl)) rfl ?_
              exact RRdEnds.fault HBD.out (B8.out.trans ((ta.below (by omega)).trans ((tb.below (by omega)).trans ((tf.below (Nat.le_refl _)).trans (tg.below (Nat.le_succ _))))))
      · have HBD := Lib.hid (show R = .inl (rc, k) by have h : rdE d tx = rc := HRE.out.trans (if_pos hr); rw [← h]; exact HBAD.out (by rw [h]; exact hr))
        have hti : (rc : Int) ≠ 0 := by omega
        have htp : 0 < (rc : Int) := by omega
        go_wp2_with (first | (refine wpList_store_box rfl 30 _ _ rfl w.heap.size [.slice none 0 0] rfl rfl 30 [.slice none 0 0] HP5.out (by kernel_rfl) rfl (oneSl _ _ _) ?_; intro wf hf tf; have hq9 := (tf.block (w.heap.size + 1) (Nat.succ_ne_self _)).trans HQ5.out) | (refine wpList_store_box rfl 64 _ _ rfl (w.heap.size + 1) [.int .i64 (rc : Nat), .int .i64 (k : Nat)] rfl rfl 64 [.int .i64 0, .int .i64 0] hq9 (by kernel_rfl) rfl (oneII _ _) ?_; intro wg hg tg))
        (try simp only [Exit.inBlock, Exit.then])
        refine bodyPost_ret (results_cell_cell rfl _ _ w.heap.size (w.heap.size + 1) 30 64 #[.slice none 0 0] #[.int .i64 (rc : Nat), .int .i64 (k : Nat)] (0, 0) (0, 0) _ _ rfl ((tg.block _ (Nat.succ_ne_self _).symm).trans hf) Tryz.underlying30 rfl (by kernel_rfl) rfl hg Tryz.underlying64 rfl (by kernel_rfl)) rfl ?_
        exact RRdEnds.fault HBD.out (B5.out.trans ((tf.below (Nat.le_refl _)).trans (tg.below (Nat.le_succ _))))
    · obtain rfl : k = N := by omega
      have hkw : k < ws.length := by rw [HN.out]; omega
      obtain ⟨bl, o, rfl, hl, hcs⟩ := HSS2.out.resolve_left (fun h => by rw [h] at hkw; simp at hkw)
      have hc := hcs k hkw
      have HDR := Lib.hid (show ws.drop k = [ws[k]] by rw [List.drop_eq_getElem_cons hkw, List.drop_of_length_le (by rw [HN.out]; exact Nat.le_refl _)])
      generalize ws[k] = tx at hc HDR
      have HRX := Lib.hid (show R = if tx = [] then .inr d else .inl (1, k) by rw [← HRR.out, HDR.out, rdGo])
      clear hcs HRR HDR
      by_cases ht : tx = []
      · subst ht
        have HRI := Lib.hid (HRX.out.trans (if_pos rfl))
        obtain ⟨o0, -⟩ := row1 HO2.out
        have hwo : w.heap.size ≠ ob := by omega
        have hwo1 : w.heap.size + 1 ≠ ob := by omega
        go_wp2_with fail
        have qd : Below wr.heap.size wr wr.drew := (Below.refl _ _).drew
        go_region_held3 (fun w' => w'.cell? ⟨ob, 0, none⟩ = some (.slice A' d.length cap'))
          (first | exact o0 | exact o6 | exact cell_set_other o6 (Ne.symm hwo) | exact cell_set_other (cell_set_other o6 (Ne.symm hwo)) (Ne.symm hwo1) | exact cell_set_other (cell_set_other (cell_set_other o6 (Ne.symm hwo)) (Ne.symm hwo1)) (Ne.symm hwo1) | go_keep)
          (first | (go_at_call 78; refine (fine_any _).mono ?_; rintro e w6 ⟨rfl, b6⟩; have j6 : Below wr.heap.size wr w6 := qd.trans b6; have o6 := (j6.cell (lt_of_cell o0)).trans o0; have P6 := at_b j6 HY0.out (row_lt HY0.out); have Q6 := at_b j6 HY1.out (row_lt HY1.out); have p0 := rowC P6 0; have pf := rowF P6 0; have q0 := rowC Q6 0; have q1 := rowC Q6 1; have qf := rowF Q6 0; have qg := rowF Q6 1; simp at p0 q0 q1))
        all_goals
          have S6 := set_row P6 (.slice A' d.length cap')
          have Q7 := (Below.heap_setCell w6 ⟨w.heap.size, 0, none⟩ (.slice A' d.length cap') (w.heap.size + 1) (Nat.succ_ne_self _)).trans Q6
          have Q8 := puts_row [.int .i64 0, .int .i64 (-1)] Q7 rfl
          have S8 : (puts (w6.setCell ⟨w.heap.size, 0, none⟩ (.slice A' d.length cap')) (w.heap.size + 1) 0 [.int .i64 0, .int .i64 (-1)]).heap[w.heap.size]? = some (.cells #[.slice A' d.length cap'] 30 (0, 0)) := (Below.heap_setCell _ ⟨w.heap.size + 1, 1, none⟩ _ w.heap.size (Nat.succ_ne_self _).symm).trans ((Below.heap_setCell _ ⟨w.heap.size + 1, 0, none⟩ _ w.heap.size (Nat.succ_ne_self _).symm).trans S6)
          have B8 := puts_below (g := w.heap.size + 1) (Nat.le_succ _) [.int .i64 0, .int .i64 (-1)] _ 0 ((HB.out.trans (j6.mono HB.out.size)).setCell (p := ⟨w.heap.size, 0, none⟩) (Nat.le_refl _) (.slice A' d.length cap'))
          have Q75 := heap_setCell_same _ (w.heap.size + 1) 0 _ _ (.int .i64 0) Q7
          have R8 := row_set_int (j := 1) (v := .int .i64 (-1)) (row_set_int (j := 0) (v := .int .i64 0) (row_set_sl (v := .slice A' d.length cap') (HROW.out.below j6) P6) Q7 (notStr2 _ _)) Q75 (notStr2 _ _)
          go_wp2_with fail
          (try simp only [Exit.inBlock, Exit.then])
          refine bodyPost_ret (results_cell_cell rfl _ _ w.heap.size (w.heap.size + 1) 30 64 #[.slice A' d.length cap'] #[.int .i64 0, .int .i64 (-1)] (0, 0) (0, 0) _ _ rfl S8 Tryz.underlying30 rfl (by kernel_rfl) rfl Q8 Tryz.underlying64 rfl (by kernel_rfl)) rfl ?_
          unfold RRdEnds
          rw [HRI.out]
          exact ⟨B8, A', cap', rfl, R8⟩
      · have HBD := Lib.hid (HRX.out.trans (if_neg ht))
        have he : tx.isEmpty = false := by simpa using ht
        go_wp2_with (first | (refine wpList_store_box rfl 30 _ _ rfl w.heap.size [.slice none 0 0] rfl rfl 30 [.slice none 0 0] HY0.out (by kernel_rfl) rfl (oneSl _ _ _) ?_; intro wf hf tf; have hq9 := (tf.block (w.heap.size + 1) (Nat.succ_ne_self _)).trans HY1.out) | (refine wpList_store_box rfl 64 _ _ rfl (w.heap.size + 1) [.int .i64 1, .int .i64 (k : Nat)] rfl rfl 64 [.int .i64 0, .int .i64 0] hq9 (by kernel_rfl) rfl (oneII _ _) ?_; intro wg hg tg))
        (try simp only [Exit.inBlock, Exit.then])
        refine bodyPost_ret (results_cell_cell rfl _ _ w.heap.size (w.heap.size + 1) 30 64 #[.slice none 0 0] #[.int .i64 1, .int .i64 (k : Nat)] (0, 0) (0, 0) _ _ rfl ((tg.block _ (Nat.succ_ne_self _).symm).trans hf) Tryz.underlying30 rfl (by kernel_rfl) rfl hg Tryz.underlying64 rfl (by kernel_rfl)) rfl ?_
        exact RRdEnds.fault HBD.out (HB.out.trans ((tf.below (Nat.le_refl _)).trans (tg.below (Nat.le_succ _))))
end Go.Proofs.YtmhkcmoepopnoaaGreatDoor
