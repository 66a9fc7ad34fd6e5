/- Snaps: a reader of lines; right: do sums tell what there is? -/
import Derived.Test.YteaalifehokgoaaGreatDoorM35
import Derived.Test.YteaalifehokgoaaGreatDoorM39
import Derived.Test.YteaalifehokgoaaGreatDoorLSnapBack01
namespace Go.Proofs.YteaalifehokgoaaGreatDoor
open Go.RowKit Go.Sort Go.Proofs
def gone (f : List UInt8 → Option SumsV) (left : List (List UInt8 × SumsV)) : List UInt8 → Option SumsV := fun c => if (mget left c).isSome = true then none else f c
theorem mget_drop {ll lr : List (List UInt8 × SumsV)} {k c : List UInt8} {s : SumsV} (hc : c ≠ k) : mget (ll ++ lr) c = mget (ll ++ (k, s) :: lr) c := by
 induction ll with
 |nil => simp [mget, Ne.symm hc]
 |cons p r ih => simp only [List.cons_append, mget, ih]
theorem setAll_none (B : BkV) {f : List UInt8 → Option SumsV} (h : ∀ c, f c = none) : setAllB B f = B := by
 obtain ⟨G, L, m⟩ := B
 show (setAllG f G, L, m) = (G, L, m)
 have : setAllG f G = G := by
  unfold setAllG
  refine (List.map_congr_left fun x _ => ?_).trans (List.map_id _)
  rw [h]
  rfl
 rw [this]
theorem setAll_step (B : BkV) {f f' : List UInt8 → Option SumsV} {k : List UInt8} {s : SumsV} (h1 : f' k = some s) (h2 : ∀ c, c ≠ k → f' c = f c) : setS (setAllB B f) k s = setAllB B f' := by
 obtain ⟨G, L, m⟩ := B
 show (setG k s (setAllG f G), L, m) = (setAllG f' G, L, m)
 have : setG k s (setAllG f G) = setAllG f' G := by
  unfold setAllG setG
  rw [List.map_map]
  refine List.map_congr_left fun x _ => ?_
  show (if x.1.1 = k then (x.1, s) else (x.1, (f x.1.1).getD x.2)) = _
  split
  ·rename_i h
   rw [h, h1]
   rfl
  ·rename_i h
   rw [h2 _ h]
 rw [this]
theorem has_most (B : BkV) (hI : BkI B) (c : List UInt8) : hasOf B c ≤ 65970697666560 := by
 have h1 : ∀ l : List LoH, (l.map fun x => ofM B.2.2 x.1.1).sum ≤ 1099511627776 * l.length := fun l => by
  induction l with
  |nil => simp
  |cons x r ih =>
   have h2 := hI.stk.few x.1.1
   rw [List.map_cons, List.sum_cons, List.length_cons, Nat.mul_succ]
   omega
 have h2 := h1 (B.2.1.filter fun z => decide (z.1.2.1 = c))
 have h3 : (B.2.1.filter fun z => decide (z.1.2.1 = c)).length ≤ 60 := Nat.le_trans (List.length_filter_le _ _) hI.lfew
 have h4 : 1099511627776 * (B.2.1.filter fun z => decide (z.1.2.1 = c)).length ≤ 1099511627776 * 60 := Nat.mul_le_mul_left _ h3
 show ((B.2.1.filter fun x => decide (x.1.2.1 = c)).map fun x => ofM B.2.2 x.1.1).sum ≤ _
 omega
theorem fG_setAll (B : BkV) (f : List UInt8 → Option SumsV) (c : List UInt8) : fG (setAllB B f) c = (fG B c).map fun z => (z.1, (f z.1.1).getD z.2) :=
 find_map (f := fun z : GoS => (z.1, (f z.1.1).getD z.2)) (fun z : GoS => z.1.1) (fun _ => rfl) c
set_option maxHeartbeats 1600000 in
set_option maxRecDepth 100000 in
theorem right_any {r m p : Nat} {X : List Nat} {S : RdV} {w : World} (H : RdIs w r m p X S) (hI : RdI2 S) :
  Calls Tryz.prog 39 #[.pointer (some ⟨r, 0, none⟩)] w fun e w' => ButF X w w' ∧ ((RightB S.1 S.2.1 ∧ e = .returned (.bool true) ∧ RdIs w' r m p X (setAllB S.1 S.2.1, S.2)) ∨ (¬ RightB S.1 S.2.1 ∧ e = .returned (.bool false))) := by
 obtain ⟨F, v, rfl, hin⟩ := H
 obtain ⟨mm, M1, hf⟩ := hin.here.sums
 have hn1 := M1.nodup
 have e1 : w.cell? ⟨r, 1, none⟩ = some (.map (some m)) := (cell_of_row _ _ _ _ _ _ hin.here.box).trans rfl
 have HIN := Lib.hid hin
 have HI := Lib.hid hI
 have HFF := Lib.hid hf
 have HN1 := Lib.hid hn1
 clear hin hI hf hn1
 go_enter Tryz.func39, Tryz.ntmps39
 go_wp2_with (first | (at_range; refine wpList_range_map _ rfl _ 93 rfl _ _ Tryz.underlying93 m mm rfl M1 ?_; intro w0 hrg0 hb0 hs0) | go_in)
 (try go_frame)
 have hrw := row_lt HIN.out.here.box
 have BX0 := Lib.hid ((hb0.block r hrw).trans HIN.out.here.box)
 have HST : Hid (gone S.2.1 mm = fun _ => none) := by
  show _ = _
  funext c
  unfold gone
  rw [← HFF.out]
  cases mget mm c <;> rfl
 go_loopw [3, 4] (fun _ _ wr => ∃ left : List (List UInt8 × SumsV), Ranging eStr eSums wr m w.heap.size mm left ∧ Hid (wr.heap[r]? = some (.cells #[.pointer (some ⟨p, 0, none⟩), .map (some m), v] 95 (0, 0))) ∧ Hid (BookIs wr p F (setAllB S.1 (gone S.2.1 left))) ∧ Hid (RightB S.1 (gone S.2.1 left)) ∧ Hid (∀ q ∈ left, q ∈ mm) ∧ Hid ((left.map (·.1)).Nodup) ∧ Hid (ButF F w wr)) (fun _ _ wr => wr.rangeLeft m w.heap.size)
 case atStart =>
  refine ⟨mm, hrg0, BX0.out, ?_, ?_, fun _ h => h, HN1.out, ButF.of_below hb0⟩
  ·show BookIs _ _ _ _
   rw [HST.out, setAll_none S.1 fun _ => rfl]
   exact HIN.out.here.book.below hb0
  ·show RightB _ _
   rw [HST.out]
   exact fun c s h => by cases h
 case round =>
  obtain ⟨left, hrg, HBX, HBK, HRB, HSB, HND, HBF⟩ := hrel
  have HRG := Lib.hid hrg
  go_wp2_with (first | (at_next; refine wpList_next_map _ rfl _ rfl m w.heap.size mm left rfl hrg ?_ ?_) | go_in)
  ·intro hl0
   have HL0 := Lib.hid hl0
   clear hl0 hrg
   go_wp2_with fail
   go_ret
   have hg : gone S.2.1 left = S.2.1 := by
    funext c
    unfold gone
    rw [HL0.out]
    rfl
   have hR := HRB.out
   have hB := HBK.out
   rw [hg] at hR hB
   refine ⟨HBF.out.mono fun i hi => .inl (by simp [hi]), .inl ⟨hR, rfl, F, v, rfl, ⟨HBX.out, hB, HIN.out.here.sums.keep (HBF.out.block m HIN.out.here.sums.lt HIN.out.here.mF), HIN.out.here.rF, HIN.out.here.mF, HIN.out.here.rm⟩, own_keptL HIN.out.held fun a ha => HBF.out.block a (HIN.out.held.lt a (mem_ownL.1 ha)).2 (HIN.out.apart a ha).2.2, HIN.out.apart⟩⟩
  ·intro ll k s1 s2 s3 s4 lr w1 hl hrg1 ht1 hen
   have hm1 : (k, (s1, s2, s3, s4)) ∈ mm := HSB.out _ (by rw [hl]; simp)
   have hfk : S.2.1 k = some (s1, s2, s3, s4) := by rw [← HFF.out]; exact (mem_mget HN1.out).1 hm1
   obtain ⟨p1, p2, p3, p4⟩ := HI.out.pos k _ hfk
   obtain ⟨q1, q2, q3, q4⟩ := HI.out.most k _ hfk
   simp only at p1 p2 p3 p4 q1 q2 q3 q4
   have hks := HI.out.keys k _ hfk
   obtain ⟨gk, hgk⟩ := Option.isSome_iff_exists.1 hks
   have hnl : mget (ll ++ lr) k = none := mget_none fun q hq e => by
    have hnd := HND.out
    rw [hl, List.map_append, List.map_cons, List.nodup_append] at hnd
    have h3 := (List.nodup_cons.1 hnd.2.1).1
    rcases List.mem_append.1 hq with hq | hq
    ·exact hnd.2.2 q.1 (List.mem_map.2 ⟨q, hq, rfl⟩) k List.mem_cons_self e
    ·exact h3 (List.mem_map.2 ⟨q, hq, e⟩)
   have hgn1 : gone S.2.1 (ll ++ lr) k = some (s1, s2, s3, s4) := by
    unfold gone
    rw [hnl, if_neg (by simp)]
    exact hfk
   have hgn2 : ∀ c, c ≠ k → gone S.2.1 (ll ++ lr) c = gone S.2.1 left c := fun c hc => by
    unfold gone
    rw [hl, mget_drop hc]
   have HGN1 := Lib.hid hgn1
   have HGN2 := Lib.hid hgn2
   have HGK := Lib.hid hgk
   have HFK := Lib.hid hfk
   have HSB1 : Hid (∀ q ∈ ll ++ lr, q ∈ mm) := fun q hq => HSB.out q (by rw [hl]; rcases List.mem_append.1 hq with h | h; exact List.mem_append_left _ h; exact List.mem_append_right _ (List.mem_cons_of_mem _ h))
   have HND1 : Hid (((ll ++ lr).map (·.1)).Nodup) := by
    have hnd := HND.out
    rw [hl] at hnd
    exact (((List.Sublist.refl ll).append (List.sublist_cons_self (k, (s1, s2, s3, s4)) lr)).map (·.1)).nodup hnd
   have HLEN2 := Lib.hid (show (ll ++ lr).length < left.length by rw [hl]; simp)
   have hFl := HBK.out.lt
   have hFw : ∀ j ∈ F, j < w.heap.size := HIN.out.here.book.lt
   have hbx := below_one w1 (.cells #[.int .i64 s1, .int .i64 s2, .int .i64 s3, .int .i64 s4] 77)
   have HRG2 := Lib.hid (hrg1.below hbx)
   have u1 : ∀ j, j < w.heap.size → w1.heap[j]? = wr.heap[j]? := fun j hj => ht1.block j (by omega)
   have hwr := HBF.out.size
   have hw1s : w1.heap.size = wr.heap.size := ht1.size
   have u2 : ∀ j, j < w.heap.size → (w1.alloc (.cells #[.int .i64 s1, .int .i64 s2, .int .i64 s3, .int .i64 s4] 77)).heap[j]? = wr.heap[j]? := fun j hj => (Below.heap_alloc _ _ _ (by omega)).trans (u1 j hj)
   have BX2 : Hid ((w1.alloc (.cells #[.int .i64 s1, .int .i64 s2, .int .i64 s3, .int .i64 s4] 77)).heap[r]? = some (.cells #[.pointer (some ⟨p, 0, none⟩), .map (some m), v] 95 (0, 0))) := (u2 r hrw).trans HBX.out
   have BQ2 : Hid ((w1.alloc (.cells #[.int .i64 s1, .int .i64 s2, .int .i64 s3, .int .i64 s4] 77)).heap[w1.heap.size]? = some (.cells #[.int .i64 s1, .int .i64 s2, .int .i64 s3, .int .i64 s4] 77 (0, 0))) := heap_alloc_new w1 _
   have BK2 : Hid (BookIs (w1.alloc (.cells #[.int .i64 s1, .int .i64 s2, .int .i64 s3, .int .i64 s4] 77)) p F (setAllB S.1 (gone S.2.1 left))) := HBK.out.keep fun j hj => u2 j (hFw j hj)
   have BF2 : Hid (ButF F w (w1.alloc (.cells #[.int .i64 s1, .int .i64 s2, .int .i64 s3, .int .i64 s4] 77))) := ⟨ht1.os.trans HBF.out.os, ht1.tape.trans HBF.out.tape, ht1.output.trans HBF.out.output, by simp; omega, fun j hj hf => (u2 j hj).trans (HBF.out.block j hj hf)⟩
   have HBI : Hid (BkI (setAllB S.1 (gone S.2.1 left))) := HI.out.book.setAll (fun c s hc => by
    unfold gone at hc
    split at hc
    ·cases hc
    ·exact HI.out.pos c s hc) HRB.out
   have hT := has_most S.1 HI.out.book k
   have hw1 : IntKind.i64.wrap (s1 - s2) = s1 - s2 := IntWalk.i64_in _ (by omega)
   have hw2 : IntKind.i64.wrap (s1 - s2 + s3) = s1 - s2 + s3 := IntWalk.i64_in _ (by omega)
   have hw3 : IntKind.i64.wrap (s1 - s2 + s3 - s4) = s1 - s2 + s3 - s4 := IntWalk.i64_in _ (by omega)
   have hqs : w1.heap.size ∉ F := fun h => by have := hFw _ h; omega
   have HQS := Lib.hid hqs
   have HRW := Lib.hid hrw
   have HWS := Lib.hid (show w.heap.size ≤ w1.heap.size by omega)
   simp only [eStr, eSums, encSums] at hen
   clear hl hm1 hfk hks hgk hnl hgn1 hgn2 hrg hrg1 ht1 u1 u2 hFl hFw hbx hqs e1 hw1s hwr
   go_upto_region 4 with fail
   generalize hW2 : w1.alloc (.cells #[.int .i64 s1, .int .i64 s2, .int .i64 s3, .int .i64 s4] 77) = w2 at HRG2 BX2 BQ2 BK2 BF2 ⊢
   have hs2 : w1.heap.size < w2.heap.size := row_lt BQ2.out
   have hr2 := row_lt BX2.out
   obtain ⟨T, hTT⟩ : ∃ T, T = hasOf S.1 k := ⟨_, rfl⟩
   rw [← hTT] at hT
   have HHA : Hid (∀ W : World, Below w2.heap.size w2 W → Calls Tryz.prog 65 #[.pointer (some ⟨p, 0, none⟩), .string ⟨k.toArray⟩] W fun e w' => e = .returned (.int .i64 (T : Nat)) ∧ Below W.heap.size W w') := fun W hb => by
    rw [hTT]
    exact hasBk_any (BK2.out.below hb) HBI.out k (Nat.le_trans (has_most S.1 HI.out.book k) (by omega))
   have HTT := Lib.hid hTT
   have HC : Hid (∀ W : World, W.heap[r]? = w2.heap[r]? → W.heap[w1.heap.size]? = w2.heap[w1.heap.size]? → W.cell? ⟨r, 0, none⟩ = some (.pointer (some ⟨p, 0, none⟩)) ∧ W.cell? ⟨w1.heap.size, 0, none⟩ = some (.int .i64 s1) ∧ W.cell? ⟨w1.heap.size, 1, none⟩ = some (.int .i64 s2) ∧ W.cell? ⟨w1.heap.size, 2, none⟩ = some (.int .i64 s3) ∧ W.cell? ⟨w1.heap.size, 3, none⟩ = some (.int .i64 s4)) := fun W q1 q2 => by
    have t1 := q1.trans BX2.out
    have t2 := q2.trans BQ2.out
    exact ⟨(cell_of_row _ _ _ _ _ _ t1).trans rfl, (cell_of_row _ _ _ _ _ _ t2).trans rfl, (cell_of_row _ _ _ _ _ _ t2).trans rfl, (cell_of_row _ _ _ _ _ _ t2).trans rfl, (cell_of_row _ _ _ _ _ _ t2).trans rfl⟩
   have hc0 := HC.out w2.drew rfl rfl
   have hd0 : Below w2.heap.size w2 w2.drew := (Below.refl _ _).drew
   have HSU : Hid (∀ W : World, Below w2.drew.heap.size w2.drew W → W.cell? ⟨r, 0, none⟩ = some (.pointer (some ⟨p, 0, none⟩)) ∧ W.cell? ⟨w1.heap.size, 0, none⟩ = some (.int .i64 s1) ∧ W.cell? ⟨w1.heap.size, 1, none⟩ = some (.int .i64 s2) ∧ W.cell? ⟨w1.heap.size, 2, none⟩ = some (.int .i64 s3) ∧ W.cell? ⟨w1.heap.size, 3, none⟩ = some (.int .i64 s4)) := fun W hb => HC.out W (hb.block r hr2) (hb.block _ hs2)
   clear hW2 hTT
   have hmax := fun ty W => run_max4 (P := Tryz.prog) #[3, 3, 3, 3] ty s1 s2 s3 s4 W
   have HOV := Lib.hid (over_more s1 s2 s3 s4)
   generalize more2 (more2 (more2 s1 s2) s3) s4 = mx at hmax HOV
   have HBAD : Hid (¬ FitS S.1 k (s1, s2, s3, s4) → ¬ RightB S.1 S.2.1) := fun h hR => h (hR k _ HFK.out)
   by_cases hne : s1 - s2 + s3 - s4 = (T : Int)
   ·rw [← hne] at HHA
    have HNE := Lib.hid hne
    clear hne
    by_cases hmx : 65970697666560 < mx
    ·have HNF : Hid (¬ FitS S.1 k (s1, s2, s3, s4)) := fun h => by
      obtain ⟨-, t1, t2, t3, t4⟩ := h
      have hov := HOV.out
      have hb : decide (mostS < mx) = true := decide_eq_true hmx
      rw [hb] at hov
      simp only [Bool.or_eq_true, decide_eq_true_eq] at hov
      simp only at t1 t2 t3 t4
      omega
     go_region_held3 (fun W => W.cell? ⟨r, 0, none⟩ = some (.pointer (some ⟨p, 0, none⟩)) ∧ W.cell? ⟨w1.heap.size, 0, none⟩ = some (.int .i64 s1) ∧ W.cell? ⟨w1.heap.size, 1, none⟩ = some (.int .i64 s2) ∧ W.cell? ⟨w1.heap.size, 2, none⟩ = some (.int .i64 s3) ∧ W.cell? ⟨w1.heap.size, 3, none⟩ = some (.int .i64 s4))
      (first | exact hc0 | exact HSU.out _ b3 | go_keep)
      (first | (go_at_call 65; refine (HHA.out _ hd0).mono ?_; rintro e v1 ⟨rfl, b3⟩))
     all_goals
      have B3 := Lib.hid b3
      clear b3 hc0 hd0
      go_wp2_with fail
      go_ret
      exact ⟨(BF2.out.drew.then_below B3.out).mono fun i hi => .inl (by simp [hi]), .inr ⟨HBAD.out HNF.out, rfl⟩⟩
    ·have HFIT : Hid (FitS S.1 k (s1, s2, s3, s4)) := by
      have hov := HOV.out
      have hb : decide (mostS < mx) = false := decide_eq_false hmx
      rw [hb] at hov
      simp only [Bool.or_eq_false_iff, decide_eq_false_iff_not] at hov
      have h1 := HNE.out
      rw [HTT.out] at h1
      exact ⟨h1, by show s1 ≤ mostS; omega, by show s2 ≤ mostS; omega, by show s3 ≤ mostS; omega, by show s4 ≤ mostS; omega⟩
     go_region_held3 (fun W => W.cell? ⟨r, 0, none⟩ = some (.pointer (some ⟨p, 0, none⟩)) ∧ W.cell? ⟨w1.heap.size, 0, none⟩ = some (.int .i64 s1) ∧ W.cell? ⟨w1.heap.size, 1, none⟩ = some (.int .i64 s2) ∧ W.cell? ⟨w1.heap.size, 2, none⟩ = some (.int .i64 s3) ∧ W.cell? ⟨w1.heap.size, 3, none⟩ = some (.int .i64 s4))
      (first | exact hc0 | exact HSU.out _ b3 | go_keep)
      (first | (go_at_call 65; refine (HHA.out _ hd0).mono ?_; rintro e v1 ⟨rfl, b3⟩))
     all_goals
      have hz3 := b3.size
      have BX3 := Lib.hid ((b3.block r hr2).trans BX2.out)
      have BQ3 := Lib.hid ((b3.block _ hs2).trans BQ2.out)
      have BK3 : Hid (BookIs v1 p F (setAllB S.1 (gone S.2.1 left))) := (BK2.out.below hd0).below b3
      have BF3 : Hid (ButF F w v1) := BF2.out.drew.then_below b3
      have HRG3 := Lib.hid ((HRG2.out.below hd0).below b3)
      have hr3 := row_lt BX3.out
      have hs3 := row_lt BQ3.out
      have HC3 : Hid (∀ W : World, W.heap[r]? = v1.heap[r]? → W.heap[w1.heap.size]? = v1.heap[w1.heap.size]? → W.cell? ⟨r, 0, none⟩ = some (.pointer (some ⟨p, 0, none⟩)) ∧ W.cell? ⟨w1.heap.size, 0, none⟩ = some (.int .i64 s1) ∧ W.cell? ⟨w1.heap.size, 1, none⟩ = some (.int .i64 s2) ∧ W.cell? ⟨w1.heap.size, 2, none⟩ = some (.int .i64 s3) ∧ W.cell? ⟨w1.heap.size, 3, none⟩ = some (.int .i64 s4)) := fun W q1 q2 => by
       have t1 := q1.trans BX3.out
       have t2 := q2.trans BQ3.out
       exact ⟨(cell_of_row _ _ _ _ _ _ t1).trans rfl, (cell_of_row _ _ _ _ _ _ t2).trans rfl, (cell_of_row _ _ _ _ _ _ t2).trans rfl, (cell_of_row _ _ _ _ _ _ t2).trans rfl, (cell_of_row _ _ _ _ _ _ t2).trans rfl⟩
      have hcc := HC3.out v1.drew rfl rfl
      have HSV : Hid (∀ W : World, ButF F v1.drew W → W.cell? ⟨r, 0, none⟩ = some (.pointer (some ⟨p, 0, none⟩)) ∧ W.cell? ⟨w1.heap.size, 0, none⟩ = some (.int .i64 s1) ∧ W.cell? ⟨w1.heap.size, 1, none⟩ = some (.int .i64 s2) ∧ W.cell? ⟨w1.heap.size, 2, none⟩ = some (.int .i64 s3) ∧ W.cell? ⟨w1.heap.size, 3, none⟩ = some (.int .i64 s4)) := fun W hu => HC3.out W (hu.block r hr3 HIN.out.here.rF) (hu.block _ hs3 HQS.out)
      have hfg : fG (setAllB S.1 (gone S.2.1 left)) k = some (gk.1, ((gone S.2.1 left) gk.1.1).getD gk.2) := by
       rw [fG_setAll, HGK.out]
       rfl
      have HSE := Lib.hid (setBk_any (w := v1.drew) (BK3.out.below (Below.refl _ _).drew) hfg (s1, s2, s3, s4))
      simp only [encSums] at HSE
      clear b3 hc0 hd0 hfg
      go_wp2_with fail
      go_region_held3 (fun W => W.cell? ⟨r, 0, none⟩ = some (.pointer (some ⟨p, 0, none⟩)) ∧ W.cell? ⟨w1.heap.size, 0, none⟩ = some (.int .i64 s1) ∧ W.cell? ⟨w1.heap.size, 1, none⟩ = some (.int .i64 s2) ∧ W.cell? ⟨w1.heap.size, 2, none⟩ = some (.int .i64 s3) ∧ W.cell? ⟨w1.heap.size, 3, none⟩ = some (.int .i64 s4))
       (first | exact hcc | exact HSV.out _ hU | go_keep)
       (first | (go_at_call 91; refine HSE.out.mono ?_; rintro e v2 ⟨rfl, hB, hU⟩))
      all_goals
       have HB := Lib.hid hB
       have HU := Lib.hid hU
       clear hB hU hcc
       go_wp2_with fail
       go_roundw
       case rel =>
        refine ⟨ll ++ lr, ?_, (HU.out.block r hr3 HIN.out.here.rF).trans BX3.out, ?_, ?_, HSB1.out, HND1.out, BF3.out.drew.step HU.out⟩
        ·exact HRG3.out.keep (HU.out.block m HRG3.out.map.lt HIN.out.here.mF) (HU.out.block _ HRG3.out.lt fun h => by have := HIN.out.here.book.lt _ h; omega)
        ·show BookIs _ _ _ _
         rw [← setAll_step S.1 HGN1.out HGN2.out]
         exact HB.out
        ·show RightB _ _
         intro c s hc
         by_cases hck : c = k
         ·rw [hck, HGN1.out] at hc
          cases hc
          rw [hck]
          exact HFIT.out
         ·rw [HGN2.out c hck] at hc
          exact HRB.out c s hc
       case measure => rw [(HRG3.out.keep (HU.out.block m HRG3.out.map.lt HIN.out.here.mF) (HU.out.block _ HRG3.out.lt fun h => by have := HIN.out.here.book.lt _ h; omega)).left_eq, HRG.out.left_eq]; exact HLEN2.out
   ·have HNF : Hid (¬ FitS S.1 k (s1, s2, s3, s4)) := fun h => hne (by rw [HTT.out]; exact h.1)
    refine wp_region_held_drew (S := fun W => W.cell? ⟨r, 0, none⟩ = some (.pointer (some ⟨p, 0, none⟩)) ∧ W.cell? ⟨w1.heap.size, 0, none⟩ = some (.int .i64 s1) ∧ W.cell? ⟨w1.heap.size, 1, none⟩ = some (.int .i64 s2) ∧ W.cell? ⟨w1.heap.size, 2, none⟩ = some (.int .i64 s3) ∧ W.cell? ⟨w1.heap.size, 3, none⟩ = some (.int .i64 s4)) (by kernel_rfl) (hc0) (fun hHeld => ?_)
    refine wpAnyH_take (i := 0) (oi := _) (v := .pointer (some ⟨w1.heap.size, 0, none⟩)) rfl (by kernel_rfl) (by kernel_rfl) (by kernel_rfl) (fun _ _ _ h => h) (Or.inl ⟨by kernel_rfl, fun W hSw => ?_⟩) hHeld ?_
    ·dsimp only at hSw
     go_simp
     all_goals (first | omega | simpa using hne)
    change wpAnyH _ _ _ _ _ _ _ (Act.put _ (some 15) _) _
    (try simp only [Act.put, List.setIfInBounds_toArray, List.set_cons_zero, List.set_cons_succ])
    refine wpAnyH_take (i := 1) (oi := _) (v := .int .i64 s1) rfl (by kernel_rfl) (by kernel_rfl) (by kernel_rfl) (fun _ _ _ h => h) (Or.inl ⟨by kernel_rfl, fun W hSw => ?_⟩) hHeld ?_
    ·dsimp only at hSw
     go_simp
     all_goals (first | omega | simpa using hne)
    change wpAnyH _ _ _ _ _ _ _ (Act.put _ (some 16) _) _
    (try simp only [Act.put, List.setIfInBounds_toArray, List.set_cons_zero, List.set_cons_succ])
    refine wpAnyH_take (i := 2) (oi := _) (v := .pointer (some ⟨w1.heap.size, 1, none⟩)) rfl (by kernel_rfl) (by kernel_rfl) (by kernel_rfl) (fun _ _ _ h => h) (Or.inl ⟨by kernel_rfl, fun W hSw => ?_⟩) hHeld ?_
    ·dsimp only at hSw
     go_simp
     all_goals (first | omega | simpa using hne)
    change wpAnyH _ _ _ _ _ _ _ (Act.put _ (some 17) _) _
    (try simp only [Act.put, List.setIfInBounds_toArray, List.set_cons_zero, List.set_cons_succ])
    refine wpAnyH_take (i := 3) (oi := _) (v := .int .i64 s2) rfl (by kernel_rfl) (by kernel_rfl) (by kernel_rfl) (fun _ _ _ h => h) (Or.inl ⟨by kernel_rfl, fun W hSw => ?_⟩) hHeld ?_
    ·dsimp only at hSw
     go_simp
     all_goals (first | omega | simpa using hne)
    change wpAnyH _ _ _ _ _ _ _ (Act.put _ (some 18) _) _
    (try simp only [Act.put, List.setIfInBounds_toArray, List.set_cons_zero, List.set_cons_succ])
    refine wpAnyH_take (i := 4) (oi := _) (v := .int .i64 (s1 - s2)) rfl (by kernel_rfl) (by kernel_rfl) (by kernel_rfl) (fun _ _ _ h => h) (Or.inl ⟨by kernel_rfl, fun W hSw => ?_⟩) hHeld ?_
    ·dsimp only at hSw
     go_simp
     all_goals (first | omega | simpa using hne)
    change wpAnyH _ _ _ _ _ _ _ (Act.put _ (some 19) _) _
    (try simp only [Act.put, List.setIfInBounds_toArray, List.set_cons_zero, List.set_cons_succ])
    refine wpAnyH_take (i := 5) (oi := _) (v := .pointer (some ⟨w1.heap.size, 2, none⟩)) rfl (by kernel_rfl) (by kernel_rfl) (by kernel_rfl) (fun _ _ _ h => h) (Or.inl ⟨by kernel_rfl, fun W hSw => ?_⟩) hHeld ?_
    ·dsimp only at hSw
     go_simp
     all_goals (first | omega | simpa using hne)
    change wpAnyH _ _ _ _ _ _ _ (Act.put _ (some 20) _) _
    (try simp only [Act.put, List.setIfInBounds_toArray, List.set_cons_zero, List.set_cons_succ])
    refine wpAnyH_take (i := 6) (oi := _) (v := .int .i64 s3) rfl (by kernel_rfl) (by kernel_rfl) (by kernel_rfl) (fun _ _ _ h => h) (Or.inl ⟨by kernel_rfl, fun W hSw => ?_⟩) hHeld ?_
    ·dsimp only at hSw
     go_simp
     all_goals (first | omega | simpa using hne)
    change wpAnyH _ _ _ _ _ _ _ (Act.put _ (some 21) _) _
    (try simp only [Act.put, List.setIfInBounds_toArray, List.set_cons_zero, List.set_cons_succ])
    refine wpAnyH_take (i := 7) (oi := _) (v := .int .i64 (s1 - s2 + s3)) rfl (by kernel_rfl) (by kernel_rfl) (by kernel_rfl) (fun _ _ _ h => h) (Or.inl ⟨by kernel_rfl, fun W hSw => ?_⟩) hHeld ?_
    ·dsimp only at hSw
     go_simp
     all_goals (first | omega | simpa using hne)
    change wpAnyH _ _ _ _ _ _ _ (Act.put _ (some 22) _) _
    (try simp only [Act.put, List.setIfInBounds_toArray, List.set_cons_zero, List.set_cons_succ])
    refine wpAnyH_take (i := 8) (oi := _) (v := .pointer (some ⟨w1.heap.size, 3, none⟩)) rfl (by kernel_rfl) (by kernel_rfl) (by kernel_rfl) (fun _ _ _ h => h) (Or.inl ⟨by kernel_rfl, fun W hSw => ?_⟩) hHeld ?_
    ·dsimp only at hSw
     go_simp
     all_goals (first | omega | simpa using hne)
    change wpAnyH _ _ _ _ _ _ _ (Act.put _ (some 23) _) _
    (try simp only [Act.put, List.setIfInBounds_toArray, List.set_cons_zero, List.set_cons_succ])
    refine wpAnyH_take (i := 9) (oi := _) (v := .int .i64 s4) rfl (by kernel_rfl) (by kernel_rfl) (by kernel_rfl) (fun _ _ _ h => h) (Or.inl ⟨by kernel_rfl, fun W hSw => ?_⟩) hHeld ?_
    ·dsimp only at hSw
     go_simp
     all_goals (first | omega | simpa using hne)
    change wpAnyH _ _ _ _ _ _ _ (Act.put _ (some 24) _) _
    (try simp only [Act.put, List.setIfInBounds_toArray, List.set_cons_zero, List.set_cons_succ])
    refine wpAnyH_take (i := 10) (oi := _) (v := .int .i64 (s1 - s2 + s3 - s4)) rfl (by kernel_rfl) (by kernel_rfl) (by kernel_rfl) (fun _ _ _ h => h) (Or.inl ⟨by kernel_rfl, fun W hSw => ?_⟩) hHeld ?_
    ·dsimp only at hSw
     go_simp
     all_goals (first | omega | simpa using hne)
    change wpAnyH _ _ _ _ _ _ _ (Act.put _ (some 25) _) _
    (try simp only [Act.put, List.setIfInBounds_toArray, List.set_cons_zero, List.set_cons_succ])
    refine wpAnyH_take (i := 11) (oi := _) (v := .pointer (some ⟨r, 0, none⟩)) rfl (by kernel_rfl) (by kernel_rfl) (by kernel_rfl) (fun _ _ _ h => h) (Or.inl ⟨by kernel_rfl, fun W hSw => ?_⟩) hHeld ?_
    ·dsimp only at hSw
     go_simp
     all_goals (first | omega | simpa using hne)
    change wpAnyH _ _ _ _ _ _ _ (Act.put _ (some 26) _) _
    (try simp only [Act.put, List.setIfInBounds_toArray, List.set_cons_zero, List.set_cons_succ])
    refine wpAnyH_take (i := 12) (oi := _) (v := .pointer (some ⟨r, 0, none⟩)) rfl (by kernel_rfl) (by kernel_rfl) (by kernel_rfl) (fun _ _ _ h => h) (Or.inl ⟨by kernel_rfl, fun W hSw => ?_⟩) hHeld ?_
    ·dsimp only at hSw
     go_simp
     all_goals (first | omega | simpa using hne)
    change wpAnyH _ _ _ _ _ _ _ (Act.put _ (some 27) _) _
    (try simp only [Act.put, List.setIfInBounds_toArray, List.set_cons_zero, List.set_cons_succ])
    refine wpAnyH_take (i := 13) (oi := _) (v := .pointer (some ⟨r, 0, none⟩)) rfl (by kernel_rfl) (by kernel_rfl) (by kernel_rfl) (fun _ _ _ h => h) (Or.inl ⟨by kernel_rfl, fun W hSw => ?_⟩) hHeld ?_
    ·dsimp only at hSw
     go_simp
     all_goals (first | omega | simpa using hne)
    change wpAnyH _ _ _ _ _ _ _ (Act.put _ (some 28) _) _
    (try simp only [Act.put, List.setIfInBounds_toArray, List.set_cons_zero, List.set_cons_succ])
    refine wpAnyH_take (i := 14) (oi := _) (v := .pointer (some ⟨p, 0, none⟩)) rfl (by kernel_rfl) (by kernel_rfl) (by kernel_rfl) (fun _ _ _ h => h) (Or.inl ⟨by kernel_rfl, fun W hSw => ?_⟩) hHeld ?_
    ·dsimp only at hSw
     go_simp
     all_goals (first | omega | simpa using hne)
    change wpAnyH _ _ _ _ _ _ _ (Act.put _ (some 29) _) _
    (try simp only [Act.put, List.setIfInBounds_toArray, List.set_cons_zero, List.set_cons_succ])
    refine wpAnyH_take (i := 15) (oi := _) (v := .string ⟨k.toArray⟩) rfl (by kernel_rfl) (by kernel_rfl) (by kernel_rfl) (fun _ _ _ h => h) (Or.inl ⟨by kernel_rfl, fun W hSw => ?_⟩) hHeld ?_
    ·dsimp only at hSw
     go_simp
     all_goals (first | omega | simpa using hne)
    change wpAnyH _ _ _ _ _ _ _ (Act.put _ (some 30) _) _
    (try simp only [Act.put, List.setIfInBounds_toArray, List.set_cons_zero, List.set_cons_succ])
    refine wpAnyH_ready (rs := [16]) (by kernel_rfl) (by simp) (AllReadyH.cons (o := _) rfl (fun K hK => ?_) AllReadyH.nil)
    go_simp
    refine (HHA.out _ hd0).mono ?_
    rintro e v1 ⟨rfl, b3⟩
    clear hHeld
    go_wp2_with fail
    refine hK.out _ _ (HSU.out _ b3) (fun hHeld => ?_)
    clear hK K
    (try simp only [Act.put, List.setIfInBounds_toArray, List.set_cons_zero, List.set_cons_succ])
    refine wpAnyH_take (i := 17) (oi := _) (v := .bool true) rfl (by kernel_rfl) (by kernel_rfl) (by kernel_rfl) (fun _ _ _ h => h) (Or.inl ⟨by kernel_rfl, fun W hSw => ?_⟩) hHeld ?_
    ·dsimp only at hSw
     go_simp
     all_goals (first | omega | simpa using hne)
    change wpAnyH _ _ _ _ _ _ _ (Act.put _ (some 32) _) _
    (try simp only [Act.put, List.setIfInBounds_toArray, List.set_cons_zero, List.set_cons_succ])
    refine wpAnyH_take (i := 18) (oi := _) (v := .bool true) rfl (by kernel_rfl) (by kernel_rfl) (by kernel_rfl) (fun _ _ _ h => h) (Or.inl ⟨by kernel_rfl, fun W hSw => ?_⟩) hHeld ?_
    ·dsimp only at hSw
     go_simp
     all_goals (first | omega | simpa using hne)
    change wpAnyH _ _ _ _ _ _ _ (Act.put _ (some 33) _) _
    (try simp only [Act.put, List.setIfInBounds_toArray, List.set_cons_zero, List.set_cons_succ])
    refine wpAnyH_take (i := 19) (oi := _) (v := undef) rfl (by kernel_rfl) (by kernel_rfl) (by kernel_rfl) (fun _ _ _ h => h) (Or.inr ⟨by kernel_rfl, rfl⟩) hHeld ?_
    change wpAnyH _ _ _ _ _ _ _ (Act.put _ (some 34) _) _
    (try simp only [Act.put, List.setIfInBounds_toArray, List.set_cons_zero, List.set_cons_succ])
    refine wpAnyH_take (i := 20) (oi := _) (v := undef) rfl (by kernel_rfl) (by kernel_rfl) (by kernel_rfl) (fun _ _ _ h => h) (Or.inr ⟨by kernel_rfl, rfl⟩) hHeld ?_
    change wpAnyH _ _ _ _ _ _ _ (Act.put _ (some 35) _) _
    (try simp only [Act.put, List.setIfInBounds_toArray, List.set_cons_zero, List.set_cons_succ])
    refine wpAnyH_take (i := 21) (oi := _) (v := undef) rfl (by kernel_rfl) (by kernel_rfl) (by kernel_rfl) (fun _ _ _ h => h) (Or.inr ⟨by kernel_rfl, rfl⟩) hHeld ?_
    change wpAnyH _ _ _ _ _ _ _ (Act.put _ (some 36) _) _
    (try simp only [Act.put, List.setIfInBounds_toArray, List.set_cons_zero, List.set_cons_succ])
    refine wpAnyH_take (i := 22) (oi := _) (v := undef) rfl (by kernel_rfl) (by kernel_rfl) (by kernel_rfl) (fun _ _ _ h => h) (Or.inr ⟨by kernel_rfl, rfl⟩) hHeld ?_
    change wpAnyH _ _ _ _ _ _ _ (Act.put _ (some 37) _) _
    (try simp only [Act.put, List.setIfInBounds_toArray, List.set_cons_zero, List.set_cons_succ])
    refine wpAnyH_take (i := 23) (oi := _) (v := undef) rfl (by kernel_rfl) (by kernel_rfl) (by kernel_rfl) (fun _ _ _ h => h) (Or.inr ⟨by kernel_rfl, rfl⟩) hHeld ?_
    change wpAnyH _ _ _ _ _ _ _ (Act.put _ (some 38) _) _
    (try simp only [Act.put, List.setIfInBounds_toArray, List.set_cons_zero, List.set_cons_succ])
    refine wpAnyH_take (i := 24) (oi := _) (v := undef) rfl (by kernel_rfl) (by kernel_rfl) (by kernel_rfl) (fun _ _ _ h => h) (Or.inr ⟨by kernel_rfl, rfl⟩) hHeld ?_
    change wpAnyH _ _ _ _ _ _ _ (Act.put _ (some 39) _) _
    (try simp only [Act.put, List.setIfInBounds_toArray, List.set_cons_zero, List.set_cons_succ])
    refine wpAnyH_take (i := 25) (oi := _) (v := undef) rfl (by kernel_rfl) (by kernel_rfl) (by kernel_rfl) (fun _ _ _ h => h) (Or.inr ⟨by kernel_rfl, rfl⟩) hHeld ?_
    change wpAnyH _ _ _ _ _ _ _ (Act.put _ (some 40) _) _
    (try simp only [Act.put, List.setIfInBounds_toArray, List.set_cons_zero, List.set_cons_succ])
    refine wpAnyH_take (i := 26) (oi := _) (v := undef) rfl (by kernel_rfl) (by kernel_rfl) (by kernel_rfl) (fun _ _ _ h => h) (Or.inr ⟨by kernel_rfl, rfl⟩) hHeld ?_
    change wpAnyH _ _ _ _ _ _ _ (Act.put _ (some 41) _) _
    (try simp only [Act.put, List.setIfInBounds_toArray, List.set_cons_zero, List.set_cons_succ])
    refine wpAnyH_take (i := 27) (oi := _) (v := undef) rfl (by kernel_rfl) (by kernel_rfl) (by kernel_rfl) (fun _ _ _ h => h) (Or.inr ⟨by kernel_rfl, rfl⟩) hHeld ?_
    change wpAnyH _ _ _ _ _ _ _ (Act.put _ (some 42) _) _
    (try simp only [Act.put, List.setIfInBounds_toArray, List.set_cons_zero, List.set_cons_succ])
    refine wpAnyH_take (i := 28) (oi := _) (v := undef) rfl (by kernel_rfl) (by kernel_rfl) (by kernel_rfl) (fun _ _ _ h => h) (Or.inr ⟨by kernel_rfl, rfl⟩) hHeld ?_
    change wpAnyH _ _ _ _ _ _ _ (Act.put _ (some 43) _) _
    (try simp only [Act.put, List.setIfInBounds_toArray, List.set_cons_zero, List.set_cons_succ])
    refine wpAnyH_take (i := 29) (oi := _) (v := .bool true) rfl (by kernel_rfl) (by kernel_rfl) (by kernel_rfl) (fun _ _ _ h => h) (Or.inl ⟨by kernel_rfl, fun W hSw => ?_⟩) hHeld ?_
    ·dsimp only at hSw
     go_simp
     all_goals (first | omega | simpa using hne)
    change wpAnyH _ _ _ _ _ _ _ (Act.put _ (some 44) _) _
    (try simp only [Act.put, List.setIfInBounds_toArray, List.set_cons_zero, List.set_cons_succ])
    refine wpAnyH_done (by kernel_rfl) ?_ _
    have B3 := Lib.hid b3
    clear b3 hc0 hd0
    go_wp2_with fail
    go_ret
    exact ⟨(BF2.out.drew.then_below B3.out).mono fun i hi => .inl (by simp [hi]), .inr ⟨HBAD.out HNF.out, rfl⟩⟩
end Go.Proofs.YteaalifehokgoaaGreatDoor
