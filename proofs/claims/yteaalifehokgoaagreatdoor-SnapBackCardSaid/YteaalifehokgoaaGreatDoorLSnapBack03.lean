/- Snaps: Restore. A book read from its text, plainly: what is written is read. -/
import Derived.BigRegion
import Derived.Deep.CutBlock
import Derived.Deep.DeepCutAuto
import Derived.Shelf.RegionOpen
import Derived.BigQuiet
import Derived.Test.YteaalifehokgoaaGreatDoorM21
import Derived.Test.YteaalifehokgoaaGreatDoorM41
import Derived.Test.YteaalifehokgoaaGreatDoorLSnapBack01
import Derived.Test.YteaalifehokgoaaGreatDoorLSnapBack02
namespace Go.Proofs.YteaalifehokgoaaGreatDoor
open Go.RowKit Go.Sort Go.Proofs
attribute [local go_sem] Oper.semAt_some
def linesQ (s : List UInt8) : List (List UInt8) := if s = [] then [] else splitL 10 (cutNl s)
theorem trimNl (s : List UInt8) (w : World) (hs : s.length ≤ 1000000) : Calls Tryz.prog 37 #[.string ⟨s.toArray⟩, .string ⟨#[10]⟩] w fun e w' => e = .returned (.string ⟨(cutNl s).toArray⟩) ∧ w' = w := by
 refine (Tryz.strings_TrimSuffix ⟨s.toArray⟩ ⟨#[10]⟩ w (by simp [ByteArray.size]; omega)).mono ?_
 rintro e w' ⟨rfl, rfl⟩
 refine ⟨?_, rfl⟩
 have : Lib.trimSuffix s [10] = cutNl s := by
  unfold Lib.trimSuffix cutNl
  have h : Lib.hasSuffix s [10] = decide (s.getLast? = some 10) := by
   rw [Bool.eq_iff_iff, decide_eq_true_eq]
   unfold Lib.hasSuffix
   cases hs : s.getLast? with
   |none =>
    rw [List.getLast?_eq_none_iff.1 hs]
    decide
   |some c =>
    obtain ⟨q, rfl⟩ := List.getLast?_eq_some_iff.1 hs
    rw [List.isSuffixOf_iff_suffix]
    constructor
    ·rintro ⟨t, ht⟩
     have h2 := congrArg List.getLast? ht
     rw [List.getLast?_concat, List.getLast?_concat] at h2
     exact h2.symm
    ·intro h2
     rw [Option.some.inj h2]
     exact ⟨q, rfl⟩
  rw [h]
  by_cases hl : s.getLast? = some 10
  ·rw [if_pos (decide_eq_true hl), if_pos hl, List.dropLast_eq_take]
   rfl
  ·rw [if_neg (by simpa using hl), if_neg hl]
 rw [show (⟨s.toArray⟩ : ByteArray).data.toList = s from rfl, show (⟨#[10]⟩ : ByteArray).data.toList = [10] from rfl, this]
theorem cutNl_le (s : List UInt8) : (cutNl s).length ≤ s.length := by
 unfold cutNl
 split <;> simp
theorem rest_iff {s : List UInt8} {C : BkV} : Rest s C ↔ ∃ (S : RdV) (B : BkV), rdAll rd0 (linesQ s) = some S ∧ rdH S.1 S.2.2 = some B ∧ RightB B S.2.1 ∧ C = setAllB B S.2.1 ∧ snapT C = s := by
 unfold Rest linesQ
 by_cases h : s = []
 ·simp only [if_pos h, rdAll]
 ·simp only [if_neg h]
theorem rdAll_snoc {S S1 : RdV} {l : List (List UInt8)} {i : Nat} (hi : i < l.length) (h : rdAll S (l.take i) = some S1) : rdAll S (l.take (i + 1)) = rdLn S1 (splitL 32 l[i]) := by
 rw [List.take_succ_eq_append_getElem hi, rdAll_app, h]
 simp only [rdAll]
 cases rdLn S1 (splitL 32 l[i]) <;> rfl
theorem rdAll_stop {S : RdV} {l : List (List UInt8)} {i : Nat} (h : rdAll S (l.take i) = none) : rdAll S l = none := by
 rw [← List.take_append_drop i l, rdAll_app, h]
def okPost (Q : Exit → Act → World → Prop) : Exit → Act → World → Prop
 |.normal, a, w => Q .normal a w
 |.ret, a, w => Q .ret a w
 |_, _, _ => False
theorem wpIn_ok {F : Fence} {n : Nat} {P : Program} {c : Code} {Q : Exit → Act → World → Prop} {a : Act} {w : World} (h : c.wpIn F n P (okPost Q) a w) : c.wpIn F n P Q a w :=
 wpIn_mono h fun e a w hq => by
  cases e with
  |normal => exact hq
  |ret => exact hq
  |exit id => exact hq.elim
  |goto t => exact hq.elim
  |panic ch => exact hq.elim
  |outgrown => exact hq.elim
theorem len14x {L : List Value} (h : L.length = 14) : ∃ a0 a1 a2 a3 a4 a5 a6 a7 a8 a9 b0 b1 b2 b3, L = [a0, a1, a2, a3, a4, a5, a6, a7, a8, a9, b0, b1, b2, b3] := by
 match L, h with
 |[a0, a1, a2, a3, a4, a5, a6, a7, a8, a9, b0, b1, b2, b3], _ => exact ⟨a0, a1, a2, a3, a4, a5, a6, a7, a8, a9, b0, b1, b2, b3, rfl⟩
theorem rdH_snoc : ∀ {H : List EntV} {B C : BkV} {k : Nat} (hk : k < H.length), rdH B (H.take k) = some C → rdH B (H.take (k + 1)) = if doE C H[k] = 0 then some (doB C H[k]) else none
 |[], _, _, _, hk, _ => absurd hk (by simp)
 |x :: r, B, C, 0, _, h => by
  cases h
  simp only [List.take_succ_cons, List.take_zero, rdH, List.getElem_cons_zero]
 |x :: r, B, C, k + 1, hk, h => by
  rw [List.take_succ_cons, rdH] at h
  rw [List.take_succ_cons, rdH]
  split at h
  ·rename_i h0
   rw [if_pos h0]
   exact rdH_snoc (by simpa using hk) h
  ·cases h
theorem rdH_stop : ∀ {H : List EntV} {B : BkV} {k : Nat}, rdH B (H.take k) = none → rdH B H = none
 |[], _, _, h => by simpa using h
 |x :: r, B, 0, h => by cases h
 |x :: r, B, k + 1, h => by
  rw [List.take_succ_cons, rdH] at h
  rw [rdH]
  split at h
  ·rename_i h0
   rw [if_pos h0]
   exact rdH_stop h
  ·rename_i h0
   exact if_neg h0
set_option maxHeartbeats 600000 in
set_option maxRecDepth 100000 in
theorem restore_any (E : Nat → Addr) (s : List UInt8) (w : World) (hs : s.length ≤ 20000) (hG : SnG E w) :
  Calls Tryz.prog 10 #[.string ⟨s.toArray⟩] w fun e w' => Below w.heap.size w w' ∧ ((∃ C p F, Rest s C ∧ e = .returned (.tuple #[.pointer (some ⟨p, 0, none⟩), .nilIface]) ∧ BookIs w' p F C ∧ ∀ k ∈ F, w.heap.size ≤ k) ∨ ((∀ C, ¬ Rest s C) ∧ e = .returned (.tuple #[.pointer none, errOf E 1]))) := by
 have hsz : (⟨s.toArray⟩ : ByteArray).size = s.length := by simp [ByteArray.size]
 refine callsIn_wide.1 (callsIn_of_wp_marks (n := 4) Tryz.func10 rfl trivial ?_ rfl)
 simp only [Tryz.ntmps10, List.size_toArray, List.length_cons, List.length_nil, Nat.reduceAdd, Nat.reduceSub, Array.replicate_succ, Array.replicate_zero, List.push_toArray, List.append_toArray, List.nil_append, List.cons_append]
 refine wpIn_ok (wpIn_wide.2 ?_)
 go_wp2_with fail
 have b1 : Below w.heap.size w (((w.alloc (.cells #[.string ⟨s.toArray⟩] 9)).alloc (.cells #[.pointer none] 25)).alloc (.cells #[.nilIface] 31)) := (((Below.refl _ w).alloc (Nat.le_refl _) _).alloc (by simp) _).alloc (by simp; omega) _
 have r0 : (((w.alloc (.cells #[.string ⟨s.toArray⟩] 9)).alloc (.cells #[.pointer none] 25)).alloc (.cells #[.nilIface] 31)).heap[w.heap.size]? = some (.cells #[.string ⟨s.toArray⟩] 9 (0, 0)) :=
  (Below.heap_alloc _ _ _ (by simp; omega)).trans ((Below.heap_alloc _ _ _ (by simp)).trans (World.alloc_heap_new w _))
 have r1 : (((w.alloc (.cells #[.string ⟨s.toArray⟩] 9)).alloc (.cells #[.pointer none] 25)).alloc (.cells #[.nilIface] 31)).heap[w.heap.size + 1]? = some (.cells #[.pointer none] 25 (0, 0)) := by
  refine (Below.heap_alloc _ _ _ (by simp)).trans ?_
  have := World.alloc_heap_new (w.alloc (.cells #[.string ⟨s.toArray⟩] 9)) (.cells #[.pointer none] 25)
  rwa [World.size_alloc] at this
 have r2 : (((w.alloc (.cells #[.string ⟨s.toArray⟩] 9)).alloc (.cells #[.pointer none] 25)).alloc (.cells #[.nilIface] 31)).heap[w.heap.size + 2]? = some (.cells #[.nilIface] 31 (0, 0)) := by
  have := World.alloc_heap_new ((w.alloc (.cells #[.string ⟨s.toArray⟩] 9)).alloc (.cells #[.pointer none] 25)) (.cells #[.nilIface] 31)
  rwa [World.size_alloc, World.size_alloc] at this
 generalize (((w.alloc (.cells #[.string ⟨s.toArray⟩] 9)).alloc (.cells #[.pointer none] 25)).alloc (.cells #[.nilIface] 31)) = W1 at b1 r0 r1 r2 ⊢
 refine (newBook_any W1).mono ?_
 rintro e w2 ⟨p, F, rfl, hbk, hF, b2⟩
 have q0 := (b2.block _ (row_lt r0)).trans r0
 have q1 := (b2.block _ (row_lt r1)).trans r1
 have q2 := (b2.block _ (row_lt r2)).trans r2
 have hmm := @run_makeMap Tryz.prog
 have hl2 := row_lt r2
 have B2 := Lib.hid (b1.trans (b2.mono b1.size))
 have HBK := Lib.hid hbk
 have HF : Hid (∀ k ∈ F, w.heap.size + 3 ≤ k) := fun k hk => by have := hF k hk; omega
 clear b1 b2 r0 r1 r2 hbk hF
 go_upto_region 4 with fail
 have b3 : Below w2.heap.size w2 (((w2.alloc (.map #[] 0)).alloc (.cells #[.pointer (some ⟨p, 0, none⟩), .map (some w2.heap.size), .slice none 0 0] 95)).alloc (.cells #[.pointer (some ⟨w2.heap.size + 1, 0, none⟩)] 92)) := (((Below.refl _ w2).alloc (Nat.le_refl _) _).alloc (by simp) _).alloc (by simp; omega) _
 have r3 : (((w2.alloc (.map #[] 0)).alloc (.cells #[.pointer (some ⟨p, 0, none⟩), .map (some w2.heap.size), .slice none 0 0] 95)).alloc (.cells #[.pointer (some ⟨w2.heap.size + 1, 0, none⟩)] 92)).heap[w2.heap.size + 1]? = some (.cells #[.pointer (some ⟨p, 0, none⟩), .map (some w2.heap.size), .slice none 0 0] 95 (0, 0)) := by
  refine (Below.heap_alloc _ _ _ (by simp)).trans ?_
  have := World.alloc_heap_new (w2.alloc (.map #[] 0)) (.cells #[.pointer (some ⟨p, 0, none⟩), .map (some w2.heap.size), .slice none 0 0] 95)
  rwa [World.size_alloc] at this
 have r4 : (((w2.alloc (.map #[] 0)).alloc (.cells #[.pointer (some ⟨p, 0, none⟩), .map (some w2.heap.size), .slice none 0 0] 95)).alloc (.cells #[.pointer (some ⟨w2.heap.size + 1, 0, none⟩)] 92)).heap[w2.heap.size + 2]? = some (.cells #[.pointer (some ⟨w2.heap.size + 1, 0, none⟩)] 92 (0, 0)) := by
  have := World.alloc_heap_new ((w2.alloc (.map #[] 0)).alloc (.cells #[.pointer (some ⟨p, 0, none⟩), .map (some w2.heap.size), .slice none 0 0] 95)) (.cells #[.pointer (some ⟨w2.heap.size + 1, 0, none⟩)] 92)
  rwa [World.size_alloc, World.size_alloc] at this
 have hmp : MapF eSums (((w2.alloc (.map #[] 0)).alloc (.cells #[.pointer (some ⟨p, 0, none⟩), .map (some w2.heap.size), .slice none 0 0] 95)).alloc (.cells #[.pointer (some ⟨w2.heap.size + 1, 0, none⟩)] 92)) w2.heap.size (fun _ => none) :=
  (MapF.made eSums w2).below (((Below.refl _ (w2.alloc (.map #[] 0))).alloc (Nat.le_refl _) _).alloc (by simp) _)
 generalize (((w2.alloc (.map #[] 0)).alloc (.cells #[.pointer (some ⟨p, 0, none⟩), .map (some w2.heap.size), .slice none 0 0] 95)).alloc (.cells #[.pointer (some ⟨w2.heap.size + 1, 0, none⟩)] 92)) = W3 at b3 r3 r4 hmp ⊢
 have B3 := Lib.hid (B2.out.trans (b3.mono B2.out.size))
 have hlt0 : ∀ k ∈ F, k < w2.heap.size := HBK.out.lt
 have RD : Hid (RdIs W3 (w2.heap.size + 1) w2.heap.size p ((w2.heap.size + 1) :: w2.heap.size :: (ownL (.slice none 0 0) ++ F)) rd0) :=
  ⟨F, _, rfl, ⟨⟨r3, HBK.out.below b3, hmp, fun h => by have := hlt0 _ h; omega, fun h => by have := hlt0 _ h; omega, by omega⟩, World.ownsRow_nil _ _ _ _, fun g hg => by cases mem_ownL.1 hg⟩⟩
 have p0 := (b3.block _ (row_lt q0)).trans q0
 have p1 := (b3.block _ (row_lt q1)).trans q1
 have p2 := (b3.block _ (row_lt q2)).trans q2
 have hz2 := row_lt q2
 have HX : Hid (∀ k ∈ (w2.heap.size + 1) :: w2.heap.size :: (ownL (.slice none 0 0) ++ F), w.heap.size + 3 ≤ k ∧ k < w2.heap.size + 2) := fun k hk => by
  simp only [List.mem_cons, List.mem_append] at hk
  rcases hk with rfl | rfl | hk | hk
  ·omega
  ·omega
  ·cases mem_ownL.1 hk
  ·have := hlt0 k hk
   have := HF.out k hk
   omega
 generalize (w2.heap.size + 1) :: w2.heap.size :: (ownL (.slice none 0 0) ++ F) = X at RD HX
 have P1 := Lib.hid p1
 have P2 := Lib.hid p2
 have R4 := Lib.hid r4
 obtain ⟨c0, -⟩ := box_cell p0
 have P0 := Lib.hid p0
 obtain ⟨rr, hrr⟩ : ∃ rr, rr = w2.heap.size + 1 := ⟨_, rfl⟩
 obtain ⟨rv, hrv⟩ : ∃ rv, rv = w2.heap.size + 2 := ⟨_, rfl⟩
 clear b3 r3 r4 hmp q0 q1 q2 p0 p1 p2 HBK HF hlt0 B2 hmm
 go_wp2_with fail
 refine (trimNl s W3 (by omega)).mono ?_
 rintro e W4 ⟨rfl, rfl⟩
 go_wp2_with fail
 refine (splitSeq_any 10 (cutNl s) W4).mono ?_
 rintro e W5 ⟨rfl, r5, r6, r7, b5⟩
 go_wp2_with fail
 have HQ : Hid (∀ x ∈ splitL 10 (cutNl s), x.length ≤ 20000) := fun x hx => by
  have h1 := splitL_lens hx
  have h2 := cutNl_le s
  omega
 have HN : Hid ((splitL 10 (cutNl s)).length ≤ 20001) := by
  have h1 := splitL_cnt (c := 10) (l := cutNl s)
  have h2 := cutNl_le s
  show _ ≤ _
  omega
 have hz3 := row_lt R4.out
 have B5 := Lib.hid (B3.out.trans (b5.mono B3.out.size))
 have hz5 : W4.heap.size + 2 < W5.heap.size := row_lt r7
 obtain ⟨n, hn⟩ : ∃ n, n = w.heap.size := ⟨_, rfl⟩
 obtain ⟨Zs, hZs⟩ : ∃ Zs, Zs = [n, n + 1, n + 2, rv, W4.heap.size + 1, W4.heap.size, W4.heap.size + 2, W5.heap.size, W5.heap.size + 1] := ⟨_, rfl⟩
 refine wp_rangeFunc_x (gf := 138) (lb := #[.pointer (some ⟨W4.heap.size + 1, 0, none⟩), .pointer (some ⟨W4.heap.size, 0, none⟩), .pointer (some ⟨W4.heap.size + 2, 0, none⟩)]) rfl (enters_of Tryz.func138 (by kernel_rfl) rfl)
  (splitSeq1_x 10 (cutNl s) (W4.heap.size + 1) W4.heap.size (W4.heap.size + 2) (by have := cutNl_le s; omega) (by omega) (by omega)) (fun W hb => ⟨(hb.block _ (row_lt r5)).trans r5, (hb.block _ (row_lt r6)).trans r6, (hb.block _ (row_lt r7)).trans r7⟩)
  (fun k hk => by simp only [List.mem_cons, List.not_mem_nil, or_false] at hk; omega) (fun _ => rfl)
  (fun i W => ∃ Y S, rdAll rd0 ((linesQ s).take i) = some S ∧ RdIs W rr w2.heap.size p Y S ∧ (∀ k ∈ Y, n ≤ k ∧ k ∉ Zs) ∧ S.2.2.length ≤ i ∧ (∀ k ∈ [n, n + 1, n + 2, rv], W.heap[k]? = W5.heap[k]?) ∧ W5.heap.size ≤ W.heap.size ∧ Below n w W)
  (fun W => (∀ C, ¬ Rest s C) ∧ W.heap[n + 1]? = some (.cells #[.pointer none] 25 (0, 0)) ∧ W.heap[n + 2]? = some (.cells #[errOf E 1] 31 (0, 0)) ∧ W5.heap.size ≤ W.heap.size ∧ Below n w W)
  ?hI ?hIx ?h0 (fun x t => t.setIfInBounds 19 (.string ⟨x.toArray⟩)) (fun x t => t.setIfInBounds 5 (.string ⟨x.toArray⟩)) (fun x t => by simp) ?hassign ?hbody ?hdone ?hstop
 case hassign =>
  intro l x W K hK
  gi_wp2
  exact hK
 case hI =>
  rintro i W W' ⟨Y, S, h1, h2, h3, h4, h5, h6, h7⟩ hb
  refine ⟨Y, S, h1, h2.butF hb fun k hk => ?_, h3, h4, fun k hk => (hb.block k ?_ ?_).trans (h5 k hk), Nat.le_trans h6 hb.size, h7.trans (hb.below (by omega) fun k hk => ?_)⟩
  ·have := (h3 k hk).2
   rw [hZs] at this
   simp only [List.mem_cons, List.not_mem_nil, or_false, not_or] at this ⊢
   omega
  ·simp only [List.mem_cons, List.not_mem_nil, or_false] at hk
   omega
  ·simp only [List.mem_cons, List.not_mem_nil, or_false, not_or] at hk ⊢
   omega
  ·simp only [List.mem_cons, List.not_mem_nil, or_false] at hk
   omega
 case hIx =>
  rintro W W' ⟨h1, h2, h3, h6, h7⟩ hb
  refine ⟨h1, (hb.block _ (row_lt h2) ?_).trans h2, (hb.block _ (row_lt h3) ?_).trans h3, Nat.le_trans h6 hb.size, h7.trans (hb.below (by omega) fun k hk => ?_)⟩
  ·simp only [List.mem_cons, List.not_mem_nil, or_false, not_or]
   omega
  ·simp only [List.mem_cons, List.not_mem_nil, or_false, not_or]
   omega
  ·simp only [List.mem_cons, List.not_mem_nil, or_false] at hk
   omega
 case h0 =>
  refine ⟨X, rd0, rfl, ?_, fun k hk => ?_, Nat.le_refl _, fun k _ => rfl, Nat.le_refl _, by rw [hn]; exact B5.out⟩
  ·rw [hrr]
   exact RD.out.below b5
  ·have := HX.out k hk
   rw [hZs]
   simp only [List.mem_cons, List.not_mem_nil, or_false, not_or]
   omega
 case hbody =>
  intro l i hi W hzW hIi
  obtain ⟨Y, S, h1, h2, h3, h4, h5, h6, h7⟩ := hIi
  have g0 : W.heap[n]? = some (.cells #[.string ⟨s.toArray⟩] 9 (0, 0)) := (h5 n (by simp)).trans (by rw [hn]; exact (b5.block _ (row_lt P0.out)).trans P0.out)
  have g4 : W.heap[rv]? = some (.cells #[.pointer (some ⟨w2.heap.size + 1, 0, none⟩)] 92 (0, 0)) := (h5 rv (by simp)).trans (by rw [hrv]; exact (b5.block _ (row_lt R4.out)).trans R4.out)
  have g1 : W.heap[n + 1]? = some (.cells #[.pointer none] 25 (0, 0)) := (h5 (n + 1) (by simp)).trans (by rw [hn]; exact (b5.block _ (row_lt P1.out)).trans P1.out)
  have g2 : W.heap[n + 2]? = some (.cells #[.nilIface] 31 (0, 0)) := (h5 (n + 2) (by simp)).trans (by rw [hn]; exact (b5.block _ (row_lt P2.out)).trans P2.out)
  obtain ⟨e0, -⟩ := box_cell g0
  obtain ⟨e4, -⟩ := box_cell g4
  rw [hn] at e0
  rw [hrv] at e4
  by_cases hs0 : s = []
  ·subst hs0
   gi_wp2
   refine ⟨trivial, ?_⟩
   gi_wp2
   refine ⟨⟨Y, S, ?_, h2, h3, by omega, h5, h6, h7⟩, fun _ _ => rfl, Nat.le_refl _⟩
   have : linesQ [] = [] := rfl
   rw [this] at h1 ⊢
   simpa using h1
  ·have hne : (s == []) = false := by simpa using hs0
   have hq : linesQ s = splitL 10 (cutNl s) := by unfold linesQ; rw [if_neg hs0]
   rw [hq] at h1
   have hstep := rdAll_snoc hi h1
   have hYn : ∀ k ∈ Y, w.heap.size ≤ k := fun k hk => by rw [← hn]; exact (h3 k hk).1
   have HLN := Lib.hid (rdLine_is E (splitL 10 (cutNl s))[i] h2 (RdI2.nil.all h1).book (HQ.out _ (List.getElem_mem hi)) (by have := HN.out; omega) (fun W' hb => hG.below (by rw [← hn]; exact h7.trans (hb.below (by have := h7.size; omega) fun k hk => (h3 k hk).1))))
   have hET := (hG.below (by rw [← hn]; exact h7)).rd.text
   rw [hrr] at HLN h2
   have HS := Lib.hid hstep
   clear hstep
   gi_wp2
   refine ⟨trivial, (CallsIn.inRound l (callsIn_wide.2 HLN.out)).mono ?_⟩
   rintro e W' ⟨rfl, hb, hS⟩
   cases ho : rdLn S (splitL 32 (splitL 10 (cutNl s))[i]) with
   |some S' =>
    rw [ho] at HS hS
    obtain ⟨Y', k1, k2⟩ := hS S' rfl
    have K1 := Lib.hid k1
    have HB := Lib.hid hb
    have H2 := Lib.hid h2
    clear hS k1 hb h2
    gi_wp2
    refine ⟨⟨Y', S', by rw [hq]; exact HS.out, by rw [hrr]; exact K1.out, fun k hk => ?_, ?_, fun k hk => ?_, Nat.le_trans h6 HB.out.size, h7.trans (HB.out.below (by have := h7.size; omega) fun k hk => (h3 k hk).1)⟩, fun k hk => HB.out.block k ?_ fun hkY => ?_, HB.out.size⟩
    ·rcases k2 k hk with hk | hk
     ·exact h3 k hk
     ·rw [hZs]
      simp only [List.mem_cons, List.not_mem_nil, or_false, not_or]
      have := h7.size
      omega
    ·have := rdLn_len ho
     omega
    ·refine (HB.out.block k ?_ fun hkY => ?_).trans (h5 k hk)
     ·simp only [List.mem_cons, List.not_mem_nil, or_false] at hk
      omega
     ·have := (h3 k hkY).2
      rw [hZs] at this
      simp only [List.mem_cons, List.not_mem_nil, or_false, not_or] at this hk
      omega
    ·simp only [List.mem_cons, List.not_mem_nil, or_false] at hk
     omega
    ·have := (h3 k hkY).2
     rw [hZs] at this
     simp only [List.mem_cons, List.not_mem_nil, or_false, not_or] at this hk
     omega
   |none =>
    rw [ho] at HS hS
    have hEW := (hG.below (by rw [← hn]; exact h7.trans (hb.below (by have := h7.size; omega) fun k hk => (h3 k hk).1))).rd.text
    have hno : ∀ C, ¬ Rest s C := fun C hC => by
     obtain ⟨S, B, q1, -⟩ := rest_iff.1 hC
     have := rdAll_stop HS.out
     rw [hq, this] at q1
     cases q1
    have hYZ : ∀ k, k ∈ Zs → k ∉ Y := fun k hk hkY => (h3 k hkY).2 hk
    have m1 := (hb.block (n + 1) (row_lt g1) (hYZ _ (by rw [hZs]; simp))).trans g1
    have m2 := (hb.block (n + 2) (row_lt g2) (hYZ _ (by rw [hZs]; simp))).trans g2
    rw [hn] at m1 m2
    obtain ⟨e1, f1⟩ := box_cell m1
    obtain ⟨e2, f2⟩ := box_cell m2
    have HB := Lib.hid hb
    have M1 := Lib.hid m1
    have M2 := Lib.hid m2
    have HNO := Lib.hid hno
    have HYZ := Lib.hid hYZ
    have hgl : 1 < w.heap.size := lt_of_cell hG.rd.text
    unfold ErrAt at hEW
    have hEX : (W'.drew.setCell ⟨w.heap.size + 1, 0, none⟩ (.pointer none)).cell? ⟨1, 0, none⟩ = some (.iface 318 (.pointer (some (E 1)))) := (World.cell?_of_block (Below.heap_setCell _ _ _ _ (by show (1 : Nat) ≠ w.heap.size + 1; omega))).trans hEW
    clear hS hb m1 m2 hno hYZ
    gi_wp2
    have hmix : Tryz.prog.follows .mixedOrders = true := by kernel_rfl
    gi_region_elder_o
    all_goals gi_wp2
    all_goals
     have u1 : ((W'.drew.setCell ⟨w.heap.size + 1, 0, none⟩ (.pointer none)).setCell ⟨w.heap.size + 1 + 1, 0, none⟩ (errOf E 1)).heap[w.heap.size + 1]? = some (.cells #[.pointer none] 25 (0, 0)) := (Below.heap_setCell _ _ _ _ (by show w.heap.size + 1 ≠ w.heap.size + 1 + 1; omega)).trans (box_set M1.out _)
     have u2 : ((W'.drew.setCell ⟨w.heap.size + 1, 0, none⟩ (.pointer none)).setCell ⟨w.heap.size + 1 + 1, 0, none⟩ (errOf E 1)).heap[w.heap.size + 2]? = some (.cells #[errOf E 1] 31 (0, 0)) := box_set (t := 31) ((Below.heap_setCell _ _ _ _ (by show w.heap.size + 2 ≠ w.heap.size + 1; omega)).trans M2.out) _
     have ub : ButF [n + 1, n + 2] W' ((W'.drew.setCell ⟨w.heap.size + 1, 0, none⟩ (.pointer none)).setCell ⟨w.heap.size + 1 + 1, 0, none⟩ (errOf E 1)) := by
      rw [hn]
      exact (((ButF.refl _ W').drew).step ((butF_set W'.drew (w.heap.size + 1) _).mono fun k hk => .inl (by simp only [List.mem_singleton] at hk; simp [hk]))).step ((butF_set _ (w.heap.size + 1 + 1) _).mono fun k hk => .inl (by simp only [List.mem_singleton] at hk; simp [hk]))
     refine ⟨⟨HNO.out, by rw [hn]; exact u1, by rw [hn]; exact u2, Nat.le_trans h6 (Nat.le_trans HB.out.size ub.size), (h7.trans (HB.out.below (by have := h7.size; omega) fun k hk => (h3 k hk).1)).trans (ub.below (by have := HB.out.size; omega) fun k hk => by simp only [List.mem_cons, List.not_mem_nil, or_false] at hk; omega)⟩, fun k hk => ?_, Nat.le_trans HB.out.size ub.size⟩
     have hkZ : k ∈ Zs := by
      rw [hZs]
      simp only [List.mem_cons, List.not_mem_nil, or_false] at hk ⊢
      omega
     have hlk : k < W.heap.size := by
      simp only [List.mem_cons, List.not_mem_nil, or_false] at hk
      omega
     refine (ub.block k (Nat.lt_of_lt_of_le hlk HB.out.size) ?_).trans (HB.out.block k hlk (HYZ.out k hkZ))
     simp only [List.mem_cons, List.not_mem_nil, or_false, not_or] at hk ⊢
     omega
 case hdone =>
  rintro W ⟨Y, S, h1, h2, h3, h4, h5, h6, h7⟩ hD
  have hall : rdAll rd0 (linesQ s) = some S := by
   rw [← h1]
   by_cases hs0 : s = []
   ·rw [show linesQ s = [] by unfold linesQ; rw [if_pos hs0], List.take_nil]
   ·rw [show linesQ s = splitL 10 (cutNl s) by unfold linesQ; rw [if_neg hs0], List.take_length]
  have HI2 := Lib.hid (RdI2.nil.all hall)
  have HALL := Lib.hid hall
  subst hrr
  subst hrv
  subst hn
  have g0 : W.heap[w.heap.size]? = some (.cells #[.string ⟨s.toArray⟩] 9 (0, 0)) := (h5 _ (by simp)).trans ((b5.block _ (row_lt P0.out)).trans P0.out)
  have g4 : W.heap[w2.heap.size + 2]? = some (.cells #[.pointer (some ⟨w2.heap.size + 1, 0, none⟩)] 92 (0, 0)) := (h5 _ (by simp)).trans ((b5.block _ (row_lt R4.out)).trans R4.out)
  have g1 : W.heap[w.heap.size + 1]? = some (.cells #[.pointer none] 25 (0, 0)) := (h5 _ (by simp)).trans ((b5.block _ (row_lt P1.out)).trans P1.out)
  have g2 : W.heap[w.heap.size + 2]? = some (.cells #[.nilIface] 31 (0, 0)) := (h5 _ (by simp)).trans ((b5.block _ (row_lt P2.out)).trans P2.out)
  obtain ⟨Fa, v, rfl, hin⟩ := h2
  obtain ⟨A, cap, rfl, -, -⟩ := RowAt.of_own encEnt_len hin.held
  have e2 : W.cell? ⟨w2.heap.size + 1, 2, none⟩ = some (.slice A S.2.2.length cap) := (cell_of_row _ _ _ _ _ _ hin.here.box).trans rfl
  obtain ⟨e4, -⟩ := box_cell g4
  obtain ⟨N, hN⟩ : ∃ N, N = S.2.2.length := ⟨_, rfl⟩
  have HN2 := Lib.hid hN
  have HIN := Lib.hid hin
  have H3 := Lib.hid h3
  have H7 := Lib.hid h7
  have G0 := Lib.hid g0
  have G1 := Lib.hid g1
  have G2 := Lib.hid g2
  have G4 := Lib.hid g4
  have HD := Lib.hid hD
  have HZS := Lib.hid hZs
  have hN2 : N ≤ 20001 := by
   have := HN.out
   show N ≤ _
   omega
  rw [← hN] at e2
  clear hall h1 hin h3 h5 h7 g0 g1 g2 g4 hD hN h4
  go_wp2_with fail
  go_loopw [34] (fun i wr => ∃ (k : Nat) (B : BkV) (Fb : List Nat), k ≤ N ∧ i = .int .i64 k ∧ Hid (rdH S.1 (S.2.2.take k) = some B) ∧ Hid (RdIn wr (w2.heap.size + 1) w2.heap.size p Fb (.slice A N cap) (B, S.2)) ∧ Hid (∀ j ∈ Fb, w.heap.size ≤ j ∧ j ∉ Zs) ∧ Hid (∀ j ∈ [w.heap.size, w.heap.size + 1, w.heap.size + 2, w2.heap.size + 2, W5.heap.size], wr.heap[j]? = W.heap[j]?) ∧ Hid (W.heap.size ≤ wr.heap.size) ∧ Hid (Below w.heap.size w wr))
   (fun i _ => N - (intOf i).toNat)
  case atStart =>
   refine ⟨0, S.1, Fa, by omega, rfl, rfl, ?_, fun j hj => ?_, fun _ _ => rfl, Nat.le_refl _, H7.out⟩
   ·rw [HN2.out]
    exact HIN.out
   ·exact H3.out j (by simp [hj])
  case round =>
   obtain ⟨k, B, Fb, hk, rfl, HRK, HRI, HFB, HKP, HSZ, HBW⟩ := hrel
   have m4 : wr.heap[w2.heap.size + 2]? = some (.cells #[.pointer (some ⟨w2.heap.size + 1, 0, none⟩)] 92 (0, 0)) := (HKP.out _ (by simp)).trans G4.out
   have M4 := Lib.hid m4
   have HBX := Lib.hid HRI.out.here.box
   by_cases hkN : k < N
   ·have hkx : k < S.2.2.length := by rw [← HN2.out]; exact hkN
    obtain ⟨A', c', he, hrow, -⟩ := RowAt.of_own encEnt_len HRI.out.held
    cases he
    obtain ⟨g, o, rfl, lg, cg⟩ := hrow.resolve_left (fun h => by rw [h] at hkx; simp at hkx)
    obtain ⟨x, hx⟩ : ∃ x, x = S.2.2[k] := ⟨_, rfl⟩
    have hlies : Lies wr g (o + k * 14) (encEnt x) := fun j v hv => cg k hkx j v (by rw [← hx]; exact hv)
    obtain ⟨s1, s2⟩ := HI2.out.short x (by rw [hx]; exact List.getElem_mem hkx)
    have hstep := rdH_snoc hkx HRK.out
    rw [← hx] at hstep
    have HRK1 := Lib.hid hstep
    have hBI : BkI B := (rdH_keep HI2.out.book HRK.out).1
    have hba := below_one wr (.cells #[.string ⟨#[]⟩, .string ⟨#[]⟩, .int .i64 0, .string ⟨#[]⟩, .string ⟨#[]⟩, .int .i64 0, .int .i64 0, .string ⟨#[]⟩, .int .i64 0, .int .i64 0, .string ⟨#[]⟩, .int .i64 0, .int .i64 0, .int .i64 0] 43)
    have HD0 := Lib.hid (fun W' (hb : Below wr.heap.size wr W') => do_any E x (HRI.out.here.book.below hb) hBI s1 s2 (hG.below (HBW.out.trans (hb.mono HBW.out.size))).bk)
    have HL := Lib.hid hlies
    have h14 : (encEnt x).length = 14 := rfl
    have HE1 := Lib.hid (encEnt_one x)
    have hz4 := row_lt m4
    have hzr := row_lt HBX.out
    clear hx cg hlies hrow hstep m4 s1 s2
    generalize doE B x = de at HRK1 HD0
    generalize doB B x = Bn at HRK1 HD0
    generalize encEnt x = LX at HL HD0 h14 HE1
    go_upto_region 11 with (first | (refine wpList_load_at rfl 43 _ rfl g (o + k * 14) rfl LX HL.out _ Tryz.underlying43 rfl (by rw [h14]; kernel_rfl) ?_) | (refine wpList_store_box rfl 43 _ _ rfl wr.heap.size LX rfl rfl _ [.string ⟨#[]⟩, .string ⟨#[]⟩, .int .i64 0, .string ⟨#[]⟩, .string ⟨#[]⟩, .int .i64 0, .int .i64 0, .string ⟨#[]⟩, .int .i64 0, .int .i64 0, .string ⟨#[]⟩, .int .i64 0, .int .i64 0, .int .i64 0] (heap_alloc_new wr _) (by rw [h14]; kernel_rfl) (by rw [h14]; rfl) HE1.out ?_; intro w5 h5 tu5))
    have b5' := hba.trans (tu5.below (Nat.le_refl _))
    have H5 := Lib.hid h5
    have B5' := Lib.hid b5'
    clear b5' tu5 hba HL h5
    obtain ⟨a0, a1, a2, a3, a4, a5, a6, a7, a8, a9, b0, b1, b2, b3, rfl⟩ := len14x h14
    have HC : Hid (∀ W' : World, W'.heap[w2.heap.size + 2]? = w5.heap[w2.heap.size + 2]? → W'.heap[w2.heap.size + 1]? = w5.heap[w2.heap.size + 1]? → W'.heap[wr.heap.size]? = w5.heap[wr.heap.size]? → W'.cell? ⟨w2.heap.size + 2, 0, none⟩ = some (.pointer (some ⟨w2.heap.size + 1, 0, none⟩)) ∧ W'.cell? ⟨w2.heap.size + 1, 0, none⟩ = some (.pointer (some ⟨p, 0, none⟩)) ∧ W'.cell? ⟨wr.heap.size, 0, none⟩ = some a0 ∧ W'.cell? ⟨wr.heap.size, 1, none⟩ = some a1 ∧ W'.cell? ⟨wr.heap.size, 2, none⟩ = some a2 ∧ W'.cell? ⟨wr.heap.size, 3, none⟩ = some a3 ∧ W'.cell? ⟨wr.heap.size, 4, none⟩ = some a4 ∧ W'.cell? ⟨wr.heap.size, 5, none⟩ = some a5 ∧ W'.cell? ⟨wr.heap.size, 6, none⟩ = some a6 ∧ W'.cell? ⟨wr.heap.size, 7, none⟩ = some a7 ∧ W'.cell? ⟨wr.heap.size, 8, none⟩ = some a8 ∧ W'.cell? ⟨wr.heap.size, 9, none⟩ = some a9 ∧ W'.cell? ⟨wr.heap.size, 10, none⟩ = some b0 ∧ W'.cell? ⟨wr.heap.size, 11, none⟩ = some b1 ∧ W'.cell? ⟨wr.heap.size, 12, none⟩ = some b2 ∧ W'.cell? ⟨wr.heap.size, 13, none⟩ = some b3) := fun W' q1 q2 q3 => by
     have t1 := q1.trans ((B5'.out.block _ hz4).trans M4.out)
     have t2 := q2.trans ((B5'.out.block _ hzr).trans HBX.out)
     have t3 := q3.trans H5.out
     exact ⟨(box_cell t1).1, (cell_of_row _ _ _ _ _ _ t2).trans rfl, (cell_of_row _ _ _ _ _ _ t3).trans rfl, (cell_of_row _ _ _ _ _ _ t3).trans rfl, (cell_of_row _ _ _ _ _ _ t3).trans rfl, (cell_of_row _ _ _ _ _ _ t3).trans rfl, (cell_of_row _ _ _ _ _ _ t3).trans rfl, (cell_of_row _ _ _ _ _ _ t3).trans rfl, (cell_of_row _ _ _ _ _ _ t3).trans rfl, (cell_of_row _ _ _ _ _ _ t3).trans rfl, (cell_of_row _ _ _ _ _ _ t3).trans rfl, (cell_of_row _ _ _ _ _ _ t3).trans rfl, (cell_of_row _ _ _ _ _ _ t3).trans rfl, (cell_of_row _ _ _ _ _ _ t3).trans rfl, (cell_of_row _ _ _ _ _ _ t3).trans rfl, (cell_of_row _ _ _ _ _ _ t3).trans rfl⟩
    have hs5 : wr.heap.size < w5.heap.size := row_lt H5.out
    have hd0 : Below wr.heap.size wr w5.drew := B5'.out.drew
    have hc0 := HC.out w5.drew rfl rfl rfl
    have HS1 : Hid (∀ W' : World, ButF Fb w5.drew W' → W'.cell? ⟨w2.heap.size + 2, 0, none⟩ = some (.pointer (some ⟨w2.heap.size + 1, 0, none⟩)) ∧ W'.cell? ⟨w2.heap.size + 1, 0, none⟩ = some (.pointer (some ⟨p, 0, none⟩)) ∧ W'.cell? ⟨wr.heap.size, 0, none⟩ = some a0 ∧ W'.cell? ⟨wr.heap.size, 1, none⟩ = some a1 ∧ W'.cell? ⟨wr.heap.size, 2, none⟩ = some a2 ∧ W'.cell? ⟨wr.heap.size, 3, none⟩ = some a3 ∧ W'.cell? ⟨wr.heap.size, 4, none⟩ = some a4 ∧ W'.cell? ⟨wr.heap.size, 5, none⟩ = some a5 ∧ W'.cell? ⟨wr.heap.size, 6, none⟩ = some a6 ∧ W'.cell? ⟨wr.heap.size, 7, none⟩ = some a7 ∧ W'.cell? ⟨wr.heap.size, 8, none⟩ = some a8 ∧ W'.cell? ⟨wr.heap.size, 9, none⟩ = some a9 ∧ W'.cell? ⟨wr.heap.size, 10, none⟩ = some b0 ∧ W'.cell? ⟨wr.heap.size, 11, none⟩ = some b1 ∧ W'.cell? ⟨wr.heap.size, 12, none⟩ = some b2 ∧ W'.cell? ⟨wr.heap.size, 13, none⟩ = some b3) := fun W' hu => HC.out W' (hu.block _ (by show _ < w5.heap.size; omega) fun h => (HFB.out _ h).2 (by rw [HZS.out]; simp)) (hu.block _ (by show _ < w5.heap.size; omega) HRI.out.here.rF) (hu.block _ hs5 fun h => by have := HRI.out.here.book.lt _ h; omega)
    by_cases hd : de = 0
    ·subst hd
     rw [errOf_zero] at HD0
     go_region_held3 (fun W => W.cell? ⟨w2.heap.size + 2, 0, none⟩ = some (.pointer (some ⟨w2.heap.size + 1, 0, none⟩)) ∧ W.cell? ⟨w2.heap.size + 1, 0, none⟩ = some (.pointer (some ⟨p, 0, none⟩)) ∧ W.cell? ⟨wr.heap.size, 0, none⟩ = some a0 ∧ W.cell? ⟨wr.heap.size, 1, none⟩ = some a1 ∧ W.cell? ⟨wr.heap.size, 2, none⟩ = some a2 ∧ W.cell? ⟨wr.heap.size, 3, none⟩ = some a3 ∧ W.cell? ⟨wr.heap.size, 4, none⟩ = some a4 ∧ W.cell? ⟨wr.heap.size, 5, none⟩ = some a5 ∧ W.cell? ⟨wr.heap.size, 6, none⟩ = some a6 ∧ W.cell? ⟨wr.heap.size, 7, none⟩ = some a7 ∧ W.cell? ⟨wr.heap.size, 8, none⟩ = some a8 ∧ W.cell? ⟨wr.heap.size, 9, none⟩ = some a9 ∧ W.cell? ⟨wr.heap.size, 10, none⟩ = some b0 ∧ W.cell? ⟨wr.heap.size, 11, none⟩ = some b1 ∧ W.cell? ⟨wr.heap.size, 12, none⟩ = some b2 ∧ W.cell? ⟨wr.heap.size, 13, none⟩ = some b3)
      (first | exact hc0 | exact HS1.out _ hU | go_keep)
      (first | (go_at_call 12; refine (HD0.out _ hd0).mono ?_; rintro e v1 ⟨rfl, hX, hU⟩))
     all_goals
      have u0 : ∀ j, j < wr.heap.size → j ∉ Fb → v1.heap[j]? = wr.heap[j]? := fun j hj hf => (hU.block j (Nat.lt_of_lt_of_le hj B5'.out.size) hf).trans (B5'.out.block j hj)
      have uz : wr.heap.size ≤ v1.heap.size := Nat.le_trans B5'.out.size hU.size
      have ub : Below w.heap.size w v1 := (HBW.out.trans (hd0.mono HBW.out.size)).trans (hU.below (by have := HBW.out.size; have := hd0.size; omega) fun j hj => (HFB.out j hj).1)
      have uk : ∀ j ∈ [w.heap.size, w.heap.size + 1, w.heap.size + 2, w2.heap.size + 2, W5.heap.size], v1.heap[j]? = W.heap[j]? := fun j hj => by
       refine (u0 j ?_ fun hf => (HFB.out j hf).2 ?_).trans (HKP.out j hj)
       ·have := HSZ.out
        have := row_lt HD.out
        simp only [List.mem_cons, List.not_mem_nil, or_false] at hj
        omega
       ·rw [HZS.out]
        simp only [List.mem_cons, List.not_mem_nil, or_false] at hj ⊢
        omega
      have U0 := Lib.hid u0
      have UZ := Lib.hid uz
      have UB := Lib.hid ub
      have UK := Lib.hid uk
      have HX1 := Lib.hid hX
      clear u0 uz ub uk hX hU hc0 hd0
      go_wp2_with fail
      go_roundw
      case rel =>
       obtain ⟨F', hB', hF'⟩ := HX1.out
       have hR := HRI.out
       have hs5' : wr.heap.size < w5.heap.size := hs5
       have hFF : ∀ j ∈ F', j ∈ Fb ∨ wr.heap.size + 1 ≤ j := fun j hj => (hF' j hj).imp_right fun h => by have h : w5.heap.size ≤ j := h; omega
       refine ⟨k + 1, Bn, F', by omega, by go_num, HRK1.out.trans (if_pos trivial), ⟨⟨(U0.out _ hzr hR.here.rF).trans HBX.out, hB', hR.here.sums.keep (U0.out _ hR.here.sums.lt hR.here.mF), fun h => ?_, fun h => ?_, hR.here.rm⟩, own_keptL hR.held fun a ha => U0.out a (hR.held.lt a (mem_ownL.1 ha)).2 (hR.apart a ha).2.2, fun a ha => ⟨(hR.apart a ha).1, (hR.apart a ha).2.1, fun h => ?_⟩⟩, fun j hj => ?_, UK.out, Nat.le_trans HSZ.out UZ.out, UB.out⟩
       ·rcases hFF _ h with h | h
        ·exact hR.here.rF h
        ·omega
       ·rcases hFF _ h with h | h
        ·exact hR.here.mF h
        ·have := hR.here.sums.lt
         omega
       ·rcases hFF _ h with h | h
        ·exact (hR.apart a ha).2.2 h
        ·have := (hR.held.lt a (mem_ownL.1 ha)).2
         omega
       ·rcases hFF j hj with h | h
        ·exact HFB.out j h
        ·have t1 := HSZ.out
         have t2 := row_lt HD.out
         have t3 := B3.out.size
         rw [HZS.out]
         simp only [List.mem_cons, List.not_mem_nil, or_false, not_or]
         omega
      case measure => simp [intOf]; omega
    ·rw [errOf_pos _ _ hd] at HD0
     go_region_held3 (fun W => W.cell? ⟨w2.heap.size + 2, 0, none⟩ = some (.pointer (some ⟨w2.heap.size + 1, 0, none⟩)) ∧ W.cell? ⟨w2.heap.size + 1, 0, none⟩ = some (.pointer (some ⟨p, 0, none⟩)) ∧ W.cell? ⟨wr.heap.size, 0, none⟩ = some a0 ∧ W.cell? ⟨wr.heap.size, 1, none⟩ = some a1 ∧ W.cell? ⟨wr.heap.size, 2, none⟩ = some a2 ∧ W.cell? ⟨wr.heap.size, 3, none⟩ = some a3 ∧ W.cell? ⟨wr.heap.size, 4, none⟩ = some a4 ∧ W.cell? ⟨wr.heap.size, 5, none⟩ = some a5 ∧ W.cell? ⟨wr.heap.size, 6, none⟩ = some a6 ∧ W.cell? ⟨wr.heap.size, 7, none⟩ = some a7 ∧ W.cell? ⟨wr.heap.size, 8, none⟩ = some a8 ∧ W.cell? ⟨wr.heap.size, 9, none⟩ = some a9 ∧ W.cell? ⟨wr.heap.size, 10, none⟩ = some b0 ∧ W.cell? ⟨wr.heap.size, 11, none⟩ = some b1 ∧ W.cell? ⟨wr.heap.size, 12, none⟩ = some b2 ∧ W.cell? ⟨wr.heap.size, 13, none⟩ = some b3)
      (first | exact hc0 | exact HS1.out _ hU | go_keep)
      (first | (go_at_call 12; refine (HD0.out _ hd0).mono ?_; rintro e v1 ⟨rfl, hX, hU⟩))
     all_goals
      have u0 : ∀ j, j < wr.heap.size → j ∉ Fb → v1.heap[j]? = wr.heap[j]? := fun j hj hf => (hU.block j (Nat.lt_of_lt_of_le hj B5'.out.size) hf).trans (B5'.out.block j hj)
      have uz : wr.heap.size ≤ v1.heap.size := Nat.le_trans B5'.out.size hU.size
      have ub : Below w.heap.size w v1 := (HBW.out.trans (hd0.mono HBW.out.size)).trans (hU.below (by have := HBW.out.size; have := hd0.size; omega) fun j hj => (HFB.out j hj).1)
      have uk : ∀ j ∈ [w.heap.size, w.heap.size + 1, w.heap.size + 2, w2.heap.size + 2, W5.heap.size], v1.heap[j]? = W.heap[j]? := fun j hj => by
       refine (u0 j ?_ fun hf => (HFB.out j hf).2 ?_).trans (HKP.out j hj)
       ·have := HSZ.out
        have := row_lt HD.out
        simp only [List.mem_cons, List.not_mem_nil, or_false] at hj
        omega
       ·rw [HZS.out]
        simp only [List.mem_cons, List.not_mem_nil, or_false] at hj ⊢
        omega
      have U0 := Lib.hid u0
      have UZ := Lib.hid uz
      have UB := Lib.hid ub
      have UK := Lib.hid uk
      have HX1 := Lib.hid hX
      clear u0 uz ub uk hX hU hc0 hd0
      have HNO : Hid (∀ C, ¬ Rest s C) := fun C hC => by
       obtain ⟨S', B', q1, q2, -⟩ := rest_iff.1 hC
       rw [HALL.out] at q1
       cases q1
       have := rdH_stop (HRK1.out.trans (if_neg hd))
       rw [this] at q2
       cases q2
      have hEW := (hG.below UB.out).rd.text
      have hgl : 1 < w.heap.size := lt_of_cell hG.rd.text
      have m1 := (UK.out (w.heap.size + 1) (by simp)).trans G1.out
      have m2 := (UK.out (w.heap.size + 2) (by simp)).trans G2.out
      obtain ⟨t1, f1⟩ := box_cell m1
      obtain ⟨t2, f2⟩ := box_cell m2
      have M1 := Lib.hid m1
      have M2 := Lib.hid m2
      unfold ErrAt at hEW
      have hEX : (v1.drew.setCell ⟨w.heap.size + 1, 0, none⟩ (.pointer none)).cell? ⟨1, 0, none⟩ = some (.iface 318 (.pointer (some (E 1)))) := (World.cell?_of_block (Below.heap_setCell _ _ _ _ (by show (1 : Nat) ≠ w.heap.size + 1; omega))).trans hEW
      clear m1 m2
      go_wp2_with fail
      go_region
      all_goals go_wp2_with fail
      all_goals
       have hDD := row_lt HD.out
       have v0 : ButF [w.heap.size + 1, w.heap.size + 2] v1 ((v1.drew.setCell ⟨w.heap.size + 1, 0, none⟩ (.pointer none)).setCell ⟨w.heap.size + 1 + 1, 0, none⟩ (errOf E 1)) := (((ButF.refl _ v1).drew).step ((butF_set v1.drew (w.heap.size + 1) _).mono fun k hk => .inl (by simp only [List.mem_singleton] at hk; simp [hk]))).step ((butF_set _ (w.heap.size + 1 + 1) _).mono fun k hk => .inl (by simp only [List.mem_singleton] at hk; simp [hk]))
       have v2 : ((v1.drew.setCell ⟨w.heap.size + 1, 0, none⟩ (.pointer none)).setCell ⟨w.heap.size + 1 + 1, 0, none⟩ (errOf E 1)).heap[w.heap.size + 1]? = some (.cells #[.pointer none] 25 (0, 0)) := (Below.heap_setCell _ _ _ _ (by show w.heap.size + 1 ≠ w.heap.size + 1 + 1; omega)).trans (box_set M1.out _)
       have v3 : ((v1.drew.setCell ⟨w.heap.size + 1, 0, none⟩ (.pointer none)).setCell ⟨w.heap.size + 1 + 1, 0, none⟩ (errOf E 1)).heap[w.heap.size + 2]? = some (.cells #[errOf E 1] 31 (0, 0)) := box_set (t := 31) ((Below.heap_setCell _ _ _ _ (by show w.heap.size + 2 ≠ w.heap.size + 1; omega)).trans M2.out) _
       have hD2 : ((v1.drew.setCell ⟨w.heap.size + 1, 0, none⟩ (.pointer none)).setCell ⟨w.heap.size + 1 + 1, 0, none⟩ (errOf E 1)).heap[W5.heap.size]? = some (.deferred (some [])) := (v0.block _ (by have := HSZ.out; have := UZ.out; omega) (by simp only [List.mem_cons, List.not_mem_nil, or_false, not_or]; omega)).trans ((UK.out _ (by simp)).trans HD.out)
       have hU := butF_put (W := ((v1.drew.setCell ⟨w.heap.size + 1, 0, none⟩ (.pointer none)).setCell ⟨w.heap.size + 1 + 1, 0, none⟩ (errOf E 1))) (k := W5.heap.size) (o := .deferred none) (X := [W5.heap.size]) (by simp)
       have e1 := (box_cell ((hU.block _ (row_lt v2) (by simp only [List.mem_singleton]; omega)).trans v2)).1
       have e2 := (box_cell ((hU.block _ (row_lt v3) (by simp only [List.mem_singleton]; omega)).trans v3)).1
       refine ⟨by simp, .inl ⟨_, _, rfl, run_takeDeferred hD2, ?_⟩⟩
       refine ⟨.tuple #[.pointer none, errOf E 1], ?_, ?_⟩
       ·simp [results, Tryz.f10, go_sem, errOf] at e1 e2 ⊢
        simp [e1, e2]
       ·exact ⟨(UB.out.trans (v0.below UB.out.size fun k hk => by simp only [List.mem_cons, List.not_mem_nil, or_false] at hk; omega)).trans (hU.below (Nat.le_trans UB.out.size v0.size) fun k hk => by simp only [List.mem_singleton] at hk; omega), .inr ⟨HNO.out, rfl⟩⟩
   ·obtain rfl : k = N := by omega
    have hrk := HRK.out
    rw [HN2.out, List.take_length] at hrk
    have HRB := Lib.hid hrk
    have HI3 := Lib.hid (rdH_good HI2.out hrk)
    obtain ⟨Xb, hXb⟩ : ∃ Xb, Xb = (w2.heap.size + 1) :: w2.heap.size :: (ownL (.slice A k cap) ++ Fb) := ⟨_, rfl⟩
    have HIS : Hid (RdIs wr (w2.heap.size + 1) w2.heap.size p Xb (B, S.2)) := ⟨Fb, _, hXb, HRI.out⟩
    have HXZ : Hid (∀ j ∈ Xb, w.heap.size ≤ j ∧ j ∉ Zs) := fun j hj => by
     rw [hXb] at hj
     simp only [List.mem_cons, List.mem_append] at hj
     rcases hj with rfl | rfl | hj | hj
     ·exact H3.out _ (by simp)
     ·exact H3.out _ (by simp)
     ·exact H3.out _ (by simp only [List.mem_cons, List.mem_append]; rw [← HN2.out]; exact .inr (.inr (.inl hj)))
     ·exact HFB.out _ hj
    have HZL : Hid (∀ j ∈ [w.heap.size, w.heap.size + 1, w.heap.size + 2, w2.heap.size + 2, W5.heap.size], j < wr.heap.size ∧ j ∉ Xb) := fun j hj => by
     refine ⟨?_, fun hf => (HXZ.out j hf).2 ?_⟩
     ·have := HSZ.out
      have := row_lt HD.out
      simp only [List.mem_cons, List.not_mem_nil, or_false] at hj
      omega
     ·rw [HZS.out]
      simp only [List.mem_cons, List.not_mem_nil, or_false] at hj ⊢
      omega
    have m0 : wr.heap[w.heap.size]? = some (.cells #[.string ⟨s.toArray⟩] 9 (0, 0)) := (HKP.out _ (by simp)).trans G0.out
    have M0 := Lib.hid m0
    have hd0 : Below wr.heap.size wr wr.drew := (Below.refl _ _).drew
    have hc0 : wr.drew.cell? ⟨w2.heap.size + 2, 0, none⟩ = some (.pointer (some ⟨w2.heap.size + 1, 0, none⟩)) := (box_cell m4).1
    have HSV : Hid (∀ W' : World, ButF Xb wr.drew W' → W'.cell? ⟨w2.heap.size + 2, 0, none⟩ = some (.pointer (some ⟨w2.heap.size + 1, 0, none⟩))) := fun W' hu => (World.cell?_of_block (hu.block _ (HZL.out _ (by simp)).1 (HZL.out _ (by simp)).2)).trans (box_cell M4.out).1
    by_cases hR : RightB B S.2.1
    ·have HRT := Lib.hid (fun W' (hb : Below wr.heap.size wr W') => (right_any (HIS.out.below hb) HI3.out).mono (R' := fun e w' => e = .returned (.bool true) ∧ ButF Xb W' w' ∧ RdIs w' (w2.heap.size + 1) w2.heap.size p Xb (setAllB B S.2.1, S.2)) fun e w' h => by
      rcases h.2 with h2 | h2
      ·exact ⟨h2.2.1, h.1, h2.2.2⟩
      ·exact absurd hR h2.1)
     obtain ⟨C, hC⟩ : ∃ C, C = setAllB B S.2.1 := ⟨_, rfl⟩
     have HBC : Hid (BkI C) := by
      show BkI C
      rw [hC]
      exact setAll_good HI3.out hR
     have HREST : Hid (snapT C = s → Rest s C) := fun h => rest_iff.2 ⟨S, B, HALL.out, HRB.out, hR, hC, h⟩
     have HNREST : Hid (snapT C ≠ s → ∀ C', ¬ Rest s C') := fun h C' hC' => by
      obtain ⟨S', B', q1, q2, -, q4, q5⟩ := rest_iff.1 hC'
      rw [HALL.out] at q1
      cases q1
      rw [HRB.out] at q2
      cases q2
      exact h (by rw [hC, ← q4]; exact q5)
     rw [← hC] at HRT
     clear hC
     have HSU : Hid (∀ W' : World, ButF Xb wr.drew W' → RdIs W' (w2.heap.size + 1) w2.heap.size p Xb (C, S.2) → W'.cell? ⟨w2.heap.size + 2, 0, none⟩ = some (.pointer (some ⟨w2.heap.size + 1, 0, none⟩)) ∧ W'.cell? ⟨w2.heap.size + 1, 0, none⟩ = some (.pointer (some ⟨p, 0, none⟩)) ∧ W'.cell? ⟨w.heap.size, 0, none⟩ = some (.string ⟨s.toArray⟩)) := fun W' hu hr => by
      obtain ⟨F1, v1, -, h1⟩ := hr
      exact ⟨HSV.out W' hu, (cell_of_row _ _ _ _ _ _ h1.here.box).trans rfl, (World.cell?_of_block (hu.block _ (HZL.out _ (by simp)).1 (HZL.out _ (by simp)).2)).trans (box_cell M0.out).1⟩
     have hc1 : wr.drew.cell? ⟨w2.heap.size + 2, 0, none⟩ = some (.pointer (some ⟨w2.heap.size + 1, 0, none⟩)) ∧ wr.drew.cell? ⟨w2.heap.size + 1, 0, none⟩ = some (.pointer (some ⟨p, 0, none⟩)) ∧ wr.drew.cell? ⟨w.heap.size, 0, none⟩ = some (.string ⟨s.toArray⟩) := ⟨hc0, (cell_of_row _ _ _ _ _ _ HRI.out.here.box).trans rfl, (box_cell m0).1⟩
     have HSNP : Hid (∀ W' : World, ButF Xb wr.drew W' → RdIs W' (w2.heap.size + 1) w2.heap.size p Xb (C, S.2) → Calls Tryz.prog 9 #[.pointer (some ⟨p, 0, none⟩)] W' fun e w' => e = .returned (.string ⟨(snapT C).toArray⟩) ∧ Below W'.heap.size W' w') := fun W' hu hr => by
      obtain ⟨F1, v1, -, h1⟩ := hr
      have hg := hG.below (HBW.out.trans ((hu.below (B := w.heap.size) HBW.out.size fun j hj => (HXZ.out j hj).1) |> fun h => ⟨h.os, h.tape, h.output, h.size, h.block⟩))
      exact snap_any E h1.here.book HBC.out ⟨hg.bk.stk.place.name, hg.bk.stk.place.bound, hg.rd.tab⟩
     by_cases hsn : snapT C = s
     ·have HSNP2 := HSNP
      rw [hsn] at HSNP
      clear HSNP2
      go_wp2_with fail
      go_region_held3 (fun W => W.cell? ⟨w2.heap.size + 2, 0, none⟩ = some (.pointer (some ⟨w2.heap.size + 1, 0, none⟩)) ∧ W.cell? ⟨w2.heap.size + 1, 0, none⟩ = some (.pointer (some ⟨p, 0, none⟩)) ∧ W.cell? ⟨w.heap.size, 0, none⟩ = some (.string ⟨s.toArray⟩))
       (first | exact hc1 | exact HSU.out _ (hU.then_below b2) (hr.below b2) | exact HSU.out _ hU hr | go_keep)
       (first
        |(go_at_call 39; refine (HRT.out _ hd0).mono ?_; rintro e v1 ⟨rfl, hU, hr⟩)
        |(go_at_call 9; refine (HSNP.out _ hU hr).mono ?_; rintro e v2 ⟨rfl, b2⟩))
      all_goals
       have hr2 := hr.below b2
       have hU2 := hU.then_below b2
       have UZ : Hid (wr.heap.size ≤ v2.heap.size) := hU2.size
       have UB : Hid (Below w.heap.size w v2) := HBW.out.trans ((hU2.below (B := w.heap.size) HBW.out.size fun j hj => (HXZ.out j hj).1) |> fun h => ⟨h.os, h.tape, h.output, h.size, h.block⟩)
       have UK : Hid (∀ j ∈ [w.heap.size, w.heap.size + 1, w.heap.size + 2, w2.heap.size + 2, W5.heap.size], v2.heap[j]? = W.heap[j]?) := fun j hj => (hU2.block j (HZL.out j hj).1 (HZL.out j hj).2).trans (HKP.out j hj)
       obtain ⟨n1, n2, -⟩ := HSU.out _ hU2 hr2
       have HR2 := Lib.hid hr2
       clear hU hr b2 hr2 hU2 hc0 hd0 m0 m4 hc1
       have hgood := HREST.out hsn
       have m1 := (UK.out (w.heap.size + 1) (by simp)).trans G1.out
       have m2 := (UK.out (w.heap.size + 2) (by simp)).trans G2.out
       obtain ⟨t1, f1⟩ := box_cell m1
       obtain ⟨t2, f2⟩ := box_cell m2
       have M1 := Lib.hid m1
       have M2 := Lib.hid m2
       have HGD := Lib.hid hgood
       clear m1 m2 hgood
       go_wp2_with fail
       have hDD := row_lt HD.out
       have v0 : ButF [w.heap.size + 1, w.heap.size + 2] v2 ((v2.setCell ⟨w.heap.size + 1, 0, none⟩ (.pointer (some ⟨p, 0, none⟩))).setCell ⟨w.heap.size + 1 + 1, 0, none⟩ .nilIface) := ((butF_set v2 (w.heap.size + 1) _).mono fun k hk => .inl (by simp only [List.mem_singleton] at hk; simp [hk])).step ((butF_set _ (w.heap.size + 1 + 1) _).mono fun k hk => .inl (by simp only [List.mem_singleton] at hk; simp [hk]))
       have q2 : ((v2.setCell ⟨w.heap.size + 1, 0, none⟩ (.pointer (some ⟨p, 0, none⟩))).setCell ⟨w.heap.size + 1 + 1, 0, none⟩ .nilIface).heap[w.heap.size + 1]? = some (.cells #[.pointer (some ⟨p, 0, none⟩)] 25 (0, 0)) := (Below.heap_setCell _ _ _ _ (by show w.heap.size + 1 ≠ w.heap.size + 1 + 1; omega)).trans (box_set M1.out _)
       have q3 : ((v2.setCell ⟨w.heap.size + 1, 0, none⟩ (.pointer (some ⟨p, 0, none⟩))).setCell ⟨w.heap.size + 1 + 1, 0, none⟩ .nilIface).heap[w.heap.size + 2]? = some (.cells #[.nilIface] 31 (0, 0)) := box_set (t := 31) ((Below.heap_setCell _ _ _ _ (by show w.heap.size + 2 ≠ w.heap.size + 1; omega)).trans M2.out) _
       have hD2 : ((v2.setCell ⟨w.heap.size + 1, 0, none⟩ (.pointer (some ⟨p, 0, none⟩))).setCell ⟨w.heap.size + 1 + 1, 0, none⟩ .nilIface).heap[W5.heap.size]? = some (.deferred (some [])) := (v0.block _ (by have := HSZ.out; have := UZ.out; omega) (by simp only [List.mem_cons, List.not_mem_nil, or_false, not_or]; omega)).trans ((UK.out _ (by simp)).trans HD.out)
       have hU := butF_put (W := ((v2.setCell ⟨w.heap.size + 1, 0, none⟩ (.pointer (some ⟨p, 0, none⟩))).setCell ⟨w.heap.size + 1 + 1, 0, none⟩ .nilIface)) (k := W5.heap.size) (o := .deferred none) (X := [W5.heap.size]) (by simp)
       have e1 := (box_cell ((hU.block _ (row_lt q2) (by simp only [List.mem_singleton]; omega)).trans q2)).1
       have e2 := (box_cell ((hU.block _ (row_lt q3) (by simp only [List.mem_singleton]; omega)).trans q3)).1
       obtain ⟨F1, v1', hx1, hin1⟩ := HR2.out
       have hF1 : ∀ j ∈ F1, w.heap.size ≤ j ∧ j ∉ Zs := fun j hj => HXZ.out j (by rw [hx1]; simp [hj])
       refine ⟨by simp, .inl ⟨_, _, rfl, run_takeDeferred hD2, ?_⟩⟩
       refine ⟨.tuple #[.pointer (some ⟨p, 0, none⟩), .nilIface], ?_, ?_⟩
       ·simp [results, Tryz.f10, go_sem] at e1 e2 ⊢
        simp [e1, e2]
       ·refine ⟨(UB.out.trans (v0.below UB.out.size fun k hk => by simp only [List.mem_cons, List.not_mem_nil, or_false] at hk; omega)).trans (hU.below (Nat.le_trans UB.out.size v0.size) fun k hk => by simp only [List.mem_singleton] at hk; omega), .inl ⟨C, p, F1, HGD.out, rfl, (hin1.here.book.butF v0 fun j hj hz => (hF1 j hj).2 ?_).butF hU fun j hj hz => (hF1 j hj).2 ?_, fun j hj => (hF1 j hj).1⟩⟩
        ·rw [HZS.out]
         simp only [List.mem_cons, List.not_mem_nil, or_false] at hz ⊢
         omega
        ·rw [HZS.out]
         simp only [List.mem_singleton] at hz
         simp only [List.mem_cons, List.not_mem_nil, or_false]
         omega
     ·have hne : (snapT C == s) = false := by simpa using hsn
      have HNO := Lib.hid (HNREST.out hsn)
      go_wp2_with fail
      go_region_held3 (fun W => W.cell? ⟨w2.heap.size + 2, 0, none⟩ = some (.pointer (some ⟨w2.heap.size + 1, 0, none⟩)) ∧ W.cell? ⟨w2.heap.size + 1, 0, none⟩ = some (.pointer (some ⟨p, 0, none⟩)) ∧ W.cell? ⟨w.heap.size, 0, none⟩ = some (.string ⟨s.toArray⟩))
       (first | exact hc1 | exact HSU.out _ (hU.then_below b2) (hr.below b2) | exact HSU.out _ hU hr | go_keep)
       (first
        |(go_at_call 39; refine (HRT.out _ hd0).mono ?_; rintro e v1 ⟨rfl, hU, hr⟩)
        |(go_at_call 9; refine (HSNP.out _ hU hr).mono ?_; rintro e v2 ⟨rfl, b2⟩))
      all_goals
       have hr2 := hr.below b2
       have hU2 := hU.then_below b2
       have UZ : Hid (wr.heap.size ≤ v2.heap.size) := hU2.size
       have UB : Hid (Below w.heap.size w v2) := HBW.out.trans ((hU2.below (B := w.heap.size) HBW.out.size fun j hj => (HXZ.out j hj).1) |> fun h => ⟨h.os, h.tape, h.output, h.size, h.block⟩)
       have UK : Hid (∀ j ∈ [w.heap.size, w.heap.size + 1, w.heap.size + 2, w2.heap.size + 2, W5.heap.size], v2.heap[j]? = W.heap[j]?) := fun j hj => (hU2.block j (HZL.out j hj).1 (HZL.out j hj).2).trans (HKP.out j hj)
       obtain ⟨n1, n2, -⟩ := HSU.out _ hU2 hr2
       have HR2 := Lib.hid hr2
       clear hU hr b2 hr2 hU2 hc0 hd0 m0 m4 hc1
       have hEW := (hG.below UB.out).rd.text
       have hgl : 1 < w.heap.size := lt_of_cell hG.rd.text
       have m1 := (UK.out (w.heap.size + 1) (by simp)).trans G1.out
       have m2 := (UK.out (w.heap.size + 2) (by simp)).trans G2.out
       obtain ⟨t1, f1⟩ := box_cell m1
       obtain ⟨t2, f2⟩ := box_cell m2
       have M1 := Lib.hid m1
       have M2 := Lib.hid m2
       unfold ErrAt at hEW
       have hEX : (v2.drew.setCell ⟨w.heap.size + 1, 0, none⟩ (.pointer none)).cell? ⟨1, 0, none⟩ = some (.iface 318 (.pointer (some (E 1)))) := (World.cell?_of_block (Below.heap_setCell _ _ _ _ (by show (1 : Nat) ≠ w.heap.size + 1; omega))).trans hEW
       clear m1 m2
       go_wp2_with fail
       go_region
       all_goals go_wp2_with fail
       all_goals
        have hDD := row_lt HD.out
        have v0 : ButF [w.heap.size + 1, w.heap.size + 2] v2 ((v2.drew.setCell ⟨w.heap.size + 1, 0, none⟩ (.pointer none)).setCell ⟨w.heap.size + 1 + 1, 0, none⟩ (errOf E 1)) := (((ButF.refl _ v2).drew).step ((butF_set v2.drew (w.heap.size + 1) _).mono fun k hk => .inl (by simp only [List.mem_singleton] at hk; simp [hk]))).step ((butF_set _ (w.heap.size + 1 + 1) _).mono fun k hk => .inl (by simp only [List.mem_singleton] at hk; simp [hk]))
        have q2 : ((v2.drew.setCell ⟨w.heap.size + 1, 0, none⟩ (.pointer none)).setCell ⟨w.heap.size + 1 + 1, 0, none⟩ (errOf E 1)).heap[w.heap.size + 1]? = some (.cells #[.pointer none] 25 (0, 0)) := (Below.heap_setCell _ _ _ _ (by show w.heap.size + 1 ≠ w.heap.size + 1 + 1; omega)).trans (box_set M1.out _)
        have q3 : ((v2.drew.setCell ⟨w.heap.size + 1, 0, none⟩ (.pointer none)).setCell ⟨w.heap.size + 1 + 1, 0, none⟩ (errOf E 1)).heap[w.heap.size + 2]? = some (.cells #[errOf E 1] 31 (0, 0)) := box_set (t := 31) ((Below.heap_setCell _ _ _ _ (by show w.heap.size + 2 ≠ w.heap.size + 1; omega)).trans M2.out) _
        have hD2 : ((v2.drew.setCell ⟨w.heap.size + 1, 0, none⟩ (.pointer none)).setCell ⟨w.heap.size + 1 + 1, 0, none⟩ (errOf E 1)).heap[W5.heap.size]? = some (.deferred (some [])) := (v0.block _ (by have := HSZ.out; have := UZ.out; omega) (by simp only [List.mem_cons, List.not_mem_nil, or_false, not_or]; omega)).trans ((UK.out _ (by simp)).trans HD.out)
        have hU := butF_put (W := ((v2.drew.setCell ⟨w.heap.size + 1, 0, none⟩ (.pointer none)).setCell ⟨w.heap.size + 1 + 1, 0, none⟩ (errOf E 1))) (k := W5.heap.size) (o := .deferred none) (X := [W5.heap.size]) (by simp)
        have e1 := (box_cell ((hU.block _ (row_lt q2) (by simp only [List.mem_singleton]; omega)).trans q2)).1
        have e2 := (box_cell ((hU.block _ (row_lt q3) (by simp only [List.mem_singleton]; omega)).trans q3)).1
        refine ⟨by simp, .inl ⟨_, _, rfl, run_takeDeferred hD2, ?_⟩⟩
        refine ⟨.tuple #[.pointer none, errOf E 1], ?_, ?_⟩
        ·simp [results, Tryz.f10, go_sem, errOf] at e1 e2 ⊢
         simp [e1, e2]
        ·exact ⟨(UB.out.trans (v0.below UB.out.size fun k hk => by simp only [List.mem_cons, List.not_mem_nil, or_false] at hk; omega)).trans (hU.below (Nat.le_trans UB.out.size v0.size) fun k hk => by simp only [List.mem_singleton] at hk; omega), .inr ⟨HNO.out, rfl⟩⟩
    ·have HRT := Lib.hid (fun W' (hb : Below wr.heap.size wr W') => (right_any (HIS.out.below hb) HI3.out).mono (R' := fun e w' => e = .returned (.bool false) ∧ ButF Xb W' w') fun e w' h => by
      rcases h.2 with h2 | h2
      ·exact absurd h2.1 hR
      ·exact ⟨h2.2, h.1⟩)
     have HNO : Hid (∀ C, ¬ Rest s C) := fun C hC => by
      obtain ⟨S', B', q1, q2, q3, -⟩ := rest_iff.1 hC
      rw [HALL.out] at q1
      cases q1
      rw [HRB.out] at q2
      cases q2
      exact hR q3
     go_wp2_with fail
     refine wp_region_held_drew (S := fun W => W.cell? ⟨w2.heap.size + 2, 0, none⟩ = some (.pointer (some ⟨w2.heap.size + 1, 0, none⟩))) (by kernel_rfl) (hc0) (fun hHeld => ?_)
     refine wpAnyH_take (i := 0) (oi := _) (v := .pointer (some ⟨w2.heap.size + 1, 0, none⟩)) rfl (by kernel_rfl) (by kernel_rfl) (by kernel_rfl) (fun _ _ _ h => h) (Or.inl ⟨by kernel_rfl, fun W hSw => ?_⟩) hHeld ?_
     ·dsimp only at hSw
      go_simp
      all_goals omega
     change wpAnyH _ _ _ _ _ _ _ (Act.put _ (some 47) _) _
     (try simp only [Act.put, List.setIfInBounds_toArray, List.set_cons_zero, List.set_cons_succ])
     refine wpAnyH_ready (rs := [1]) (by kernel_rfl) (by simp) (AllReadyH.cons (o := _) rfl (fun K hK => ?_) AllReadyH.nil)
     go_simp
     refine (HRT.out _ hd0).mono ?_
     rintro e v1 ⟨rfl, hU⟩
     clear hHeld
     go_wp2_with fail
     refine hK.out _ _ (HSV.out _ hU) (fun hHeld => ?_)
     clear hK K
     (try simp only [Act.put, List.setIfInBounds_toArray, List.set_cons_zero, List.set_cons_succ])
     refine wpAnyH_take (i := 2) (oi := _) (v := .bool true) rfl (by kernel_rfl) (by kernel_rfl) (by kernel_rfl) (fun _ _ _ h => h) (Or.inl ⟨by kernel_rfl, fun W hSw => ?_⟩) hHeld ?_
     ·dsimp only at hSw
      go_simp
      all_goals omega
     change wpAnyH _ _ _ _ _ _ _ (Act.put _ (some 49) _) _
     (try simp only [Act.put, List.setIfInBounds_toArray, List.set_cons_zero, List.set_cons_succ])
     refine wpAnyH_take (i := 3) (oi := _) (v := .bool true) rfl (by kernel_rfl) (by kernel_rfl) (by kernel_rfl) (fun _ _ _ h => h) (Or.inl ⟨by kernel_rfl, fun W hSw => ?_⟩) hHeld ?_
     ·dsimp only at hSw
      go_simp
      all_goals omega
     change wpAnyH _ _ _ _ _ _ _ (Act.put _ (some 50) _) _
     (try simp only [Act.put, List.setIfInBounds_toArray, List.set_cons_zero, List.set_cons_succ])
     refine wpAnyH_take (i := 4) (oi := _) (v := undef) rfl (by kernel_rfl) (by kernel_rfl) (by kernel_rfl) (fun _ _ _ h => h) (Or.inr ⟨by kernel_rfl, rfl⟩) hHeld ?_
     change wpAnyH _ _ _ _ _ _ _ (Act.put _ (some 51) _) _
     (try simp only [Act.put, List.setIfInBounds_toArray, List.set_cons_zero, List.set_cons_succ])
     refine wpAnyH_take (i := 5) (oi := _) (v := undef) rfl (by kernel_rfl) (by kernel_rfl) (by kernel_rfl) (fun _ _ _ h => h) (Or.inr ⟨by kernel_rfl, rfl⟩) hHeld ?_
     change wpAnyH _ _ _ _ _ _ _ (Act.put _ (some 52) _) _
     (try simp only [Act.put, List.setIfInBounds_toArray, List.set_cons_zero, List.set_cons_succ])
     refine wpAnyH_take (i := 6) (oi := _) (v := undef) rfl (by kernel_rfl) (by kernel_rfl) (by kernel_rfl) (fun _ _ _ h => h) (Or.inr ⟨by kernel_rfl, rfl⟩) hHeld ?_
     change wpAnyH _ _ _ _ _ _ _ (Act.put _ (some 53) _) _
     (try simp only [Act.put, List.setIfInBounds_toArray, List.set_cons_zero, List.set_cons_succ])
     refine wpAnyH_take (i := 7) (oi := _) (v := undef) rfl (by kernel_rfl) (by kernel_rfl) (by kernel_rfl) (fun _ _ _ h => h) (Or.inr ⟨by kernel_rfl, rfl⟩) hHeld ?_
     change wpAnyH _ _ _ _ _ _ _ (Act.put _ (some 54) _) _
     (try simp only [Act.put, List.setIfInBounds_toArray, List.set_cons_zero, List.set_cons_succ])
     refine wpAnyH_take (i := 8) (oi := _) (v := undef) rfl (by kernel_rfl) (by kernel_rfl) (by kernel_rfl) (fun _ _ _ h => h) (Or.inr ⟨by kernel_rfl, rfl⟩) hHeld ?_
     change wpAnyH _ _ _ _ _ _ _ (Act.put _ (some 55) _) _
     (try simp only [Act.put, List.setIfInBounds_toArray, List.set_cons_zero, List.set_cons_succ])
     refine wpAnyH_take (i := 9) (oi := _) (v := undef) rfl (by kernel_rfl) (by kernel_rfl) (by kernel_rfl) (fun _ _ _ h => h) (Or.inr ⟨by kernel_rfl, rfl⟩) hHeld ?_
     change wpAnyH _ _ _ _ _ _ _ (Act.put _ (some 56) _) _
     (try simp only [Act.put, List.setIfInBounds_toArray, List.set_cons_zero, List.set_cons_succ])
     refine wpAnyH_take (i := 10) (oi := _) (v := undef) rfl (by kernel_rfl) (by kernel_rfl) (by kernel_rfl) (fun _ _ _ h => h) (Or.inr ⟨by kernel_rfl, rfl⟩) hHeld ?_
     change wpAnyH _ _ _ _ _ _ _ (Act.put _ (some 57) _) _
     (try simp only [Act.put, List.setIfInBounds_toArray, List.set_cons_zero, List.set_cons_succ])
     refine wpAnyH_take (i := 11) (oi := _) (v := .bool true) rfl (by kernel_rfl) (by kernel_rfl) (by kernel_rfl) (fun _ _ _ h => h) (Or.inl ⟨by kernel_rfl, fun W hSw => ?_⟩) hHeld ?_
     ·dsimp only at hSw
      go_simp
      all_goals omega
     change wpAnyH _ _ _ _ _ _ _ (Act.put _ (some 58) _) _
     (try simp only [Act.put, List.setIfInBounds_toArray, List.set_cons_zero, List.set_cons_succ])
     refine wpAnyH_done (by kernel_rfl) ?_ _
     all_goals
      have UZ : Hid (wr.heap.size ≤ v1.heap.size) := hU.size
      have UB : Hid (Below w.heap.size w v1) := HBW.out.trans ((hU.below (B := w.heap.size) HBW.out.size fun j hj => (HXZ.out j hj).1) |> fun h => ⟨h.os, h.tape, h.output, h.size, h.block⟩)
      have UK : Hid (∀ j ∈ [w.heap.size, w.heap.size + 1, w.heap.size + 2, w2.heap.size + 2, W5.heap.size], v1.heap[j]? = W.heap[j]?) := fun j hj => (hU.block j (HZL.out j hj).1 (HZL.out j hj).2).trans (HKP.out j hj)
      clear hU hc0 hd0 m0 m4
      have hEW := (hG.below UB.out).rd.text
      have hgl : 1 < w.heap.size := lt_of_cell hG.rd.text
      have m1 := (UK.out (w.heap.size + 1) (by simp)).trans G1.out
      have m2 := (UK.out (w.heap.size + 2) (by simp)).trans G2.out
      obtain ⟨t1, f1⟩ := box_cell m1
      obtain ⟨t2, f2⟩ := box_cell m2
      have M1 := Lib.hid m1
      have M2 := Lib.hid m2
      unfold ErrAt at hEW
      have hEX : (v1.drew.setCell ⟨w.heap.size + 1, 0, none⟩ (.pointer none)).cell? ⟨1, 0, none⟩ = some (.iface 318 (.pointer (some (E 1)))) := (World.cell?_of_block (Below.heap_setCell _ _ _ _ (by show (1 : Nat) ≠ w.heap.size + 1; omega))).trans hEW
      clear m1 m2
      go_wp2_with fail
      go_region
      all_goals go_wp2_with fail
      all_goals
       have hDD := row_lt HD.out
       have v0 : ButF [w.heap.size + 1, w.heap.size + 2] v1 ((v1.drew.setCell ⟨w.heap.size + 1, 0, none⟩ (.pointer none)).setCell ⟨w.heap.size + 1 + 1, 0, none⟩ (errOf E 1)) := (((ButF.refl _ v1).drew).step ((butF_set v1.drew (w.heap.size + 1) _).mono fun k hk => .inl (by simp only [List.mem_singleton] at hk; simp [hk]))).step ((butF_set _ (w.heap.size + 1 + 1) _).mono fun k hk => .inl (by simp only [List.mem_singleton] at hk; simp [hk]))
       have v2 : ((v1.drew.setCell ⟨w.heap.size + 1, 0, none⟩ (.pointer none)).setCell ⟨w.heap.size + 1 + 1, 0, none⟩ (errOf E 1)).heap[w.heap.size + 1]? = some (.cells #[.pointer none] 25 (0, 0)) := (Below.heap_setCell _ _ _ _ (by show w.heap.size + 1 ≠ w.heap.size + 1 + 1; omega)).trans (box_set M1.out _)
       have v3 : ((v1.drew.setCell ⟨w.heap.size + 1, 0, none⟩ (.pointer none)).setCell ⟨w.heap.size + 1 + 1, 0, none⟩ (errOf E 1)).heap[w.heap.size + 2]? = some (.cells #[errOf E 1] 31 (0, 0)) := box_set (t := 31) ((Below.heap_setCell _ _ _ _ (by show w.heap.size + 2 ≠ w.heap.size + 1; omega)).trans M2.out) _
       have hD2 : ((v1.drew.setCell ⟨w.heap.size + 1, 0, none⟩ (.pointer none)).setCell ⟨w.heap.size + 1 + 1, 0, none⟩ (errOf E 1)).heap[W5.heap.size]? = some (.deferred (some [])) := (v0.block _ (by have := HSZ.out; have := UZ.out; omega) (by simp only [List.mem_cons, List.not_mem_nil, or_false, not_or]; omega)).trans ((UK.out _ (by simp)).trans HD.out)
       have hU := butF_put (W := ((v1.drew.setCell ⟨w.heap.size + 1, 0, none⟩ (.pointer none)).setCell ⟨w.heap.size + 1 + 1, 0, none⟩ (errOf E 1))) (k := W5.heap.size) (o := .deferred none) (X := [W5.heap.size]) (by simp)
       have e1 := (box_cell ((hU.block _ (row_lt v2) (by simp only [List.mem_singleton]; omega)).trans v2)).1
       have e2 := (box_cell ((hU.block _ (row_lt v3) (by simp only [List.mem_singleton]; omega)).trans v3)).1
       refine ⟨by simp, .inl ⟨_, _, rfl, run_takeDeferred hD2, ?_⟩⟩
       refine ⟨.tuple #[.pointer none, errOf E 1], ?_, ?_⟩
       ·simp [results, Tryz.f10, go_sem, errOf] at e1 e2 ⊢
        simp [e1, e2]
       ·exact ⟨(UB.out.trans (v0.below UB.out.size fun k hk => by simp only [List.mem_cons, List.not_mem_nil, or_false] at hk; omega)).trans (hU.below (Nat.le_trans UB.out.size v0.size) fun k hk => by simp only [List.mem_singleton] at hk; omega), .inr ⟨HNO.out, rfl⟩⟩
 case hstop =>
  rintro W ⟨h1, h2, h3, h6, h7⟩ hD
  rw [hn] at h2 h3 h7
  have HU := Lib.hid (butF_put (W := W) (k := W5.heap.size) (o := .deferred none) (X := [W5.heap.size]) (by simp))
  have k1 := (HU.out.block _ (row_lt h2) (by simp only [List.mem_singleton]; omega)).trans h2
  have k2 := (HU.out.block _ (row_lt h3) (by simp only [List.mem_singleton]; omega)).trans h3
  obtain ⟨e1, -⟩ := box_cell k1
  obtain ⟨e2, -⟩ := box_cell k2
  have HB7 := Lib.hid h7
  clear k1 k2 h2 h3
  go_wp2_with fail
  refine ⟨by simp, .inl ⟨_, _, rfl, run_takeDeferred hD, ?_⟩⟩
  refine ⟨.tuple #[.pointer none, errOf E 1], ?_, ?_⟩
  ·simp [results, Tryz.f10, go_sem, e1, e2]
  ·exact ⟨HB7.out.trans (HU.out.below (by have := HB7.out.size; omega) fun k hk => by simp only [List.mem_singleton] at hk; omega), .inr ⟨h1, rfl⟩⟩
end Go.Proofs.YteaalifehokgoaaGreatDoor
namespace Go.Proofs.YteaalifehokgoaaGreatDoor
open Go.RowKit Go.Sort Go.Proofs
theorem insK_last {α : Type} (key : α → List UInt8) (x : α) : ∀ {l : List α}, (∀ y ∈ l, ltB (key y) (key x) = true) → insK key x l = l ++ [x]
 |[], _ => rfl
 |y :: r, h => by
  have ih := insK_last key x (l := r) fun z hz => h z (List.mem_cons_of_mem _ hz)
  have hy := h y List.mem_cons_self
  unfold insK at *
  rw [List.takeWhile_cons_of_pos (p := fun y => ltB (key y) (key x)) hy, List.dropWhile_cons_of_pos (p := fun y => ltB (key y) (key x)) hy, List.cons_append, ih]
  rfl
theorem numQ_15 {n : Int} (h0 : 0 ≤ n) (h : n ≤ mostS) : numQ (Lib.itoa n) 15 = some n.toNat := by
 unfold mostS at h
 exact numQ_itoa h0 15 (by omega) (by omega) (by omega)
theorem numsQ_five {a b c d e : Int} (h : ∀ n ∈ [a, b, c, d, e], 0 ≤ n ∧ n ≤ mostS) : numsQ [Lib.itoa a, Lib.itoa b, Lib.itoa c, Lib.itoa d, Lib.itoa e] = some [a, b, c, d, e] := by
 have k : ∀ n ∈ [a, b, c, d, e], numQ (Lib.itoa n) 15 = some n.toNat ∧ ((n.toNat : Nat) : Int) = n := fun n hn => ⟨numQ_15 (h n hn).1 (h n hn).2, Int.toNat_of_nonneg (h n hn).1⟩
 have ka := k a (by simp)
 have kb := k b (by simp)
 have kc := k c (by simp)
 have kd := k d (by simp)
 have ke := k e (by simp)
 simp only [numsQ, ka.1, kb.1, kc.1, kd.1, ke.1, ka.2, kb.2, kc.2, kd.2, ke.2]
theorem lotX_goods (l : LotV) : ¬ (lotX l).1 = kGoods := by show ¬ kLot = kGoods; decide
theorem inX_goods (x : LineV) : ¬ (inX x).1 = kGoods := by show ¬ kIn = kGoods; decide
theorem inX_lot (x : LineV) : ¬ (inX x).1 = kLot := by show ¬ kIn = kLot; decide
theorem actE_in (m : StkV) (x : LineV) : actE m (inX x) = putE m x.1 x.2.1 x.2.2 := by unfold actE; exact if_pos (.inl rfl)
theorem actM_in (m : StkV) (x : LineV) : actM m (inX x) = putM m x.1 x.2.1 x.2.2 := by unfold actM; exact if_pos (.inl rfl)
theorem more_in (x : LineV) : moreN (inX x) = x.2.2 := by unfold moreN; exact if_pos (.inl rfl)
theorem summ_in (s : SumsV) (x : LineV) : summ s (inX x) = (s.1 + x.2.2, s.2.1, s.2.2.1, s.2.2.2) := by unfold summ; exact if_pos rfl
theorem held_in (h : Nat) (x : LineV) : heldN h (inX x) = h := by
 unfold heldN
 rw [if_neg (show ¬ (inX x).1 = kHold by show ¬ kIn = kHold; decide), if_neg (show ¬ (inX x).1 = kFree by show ¬ kIn = kFree; decide)]
/-! Goods. -/
def z0 (x : GoS) : GoS := (x.1, zeroSums)
def fS (l : List GoS) : List UInt8 → Option SumsV := fun i => (l.find? fun y => decide (y.1.1 = i)).map (·.2)
theorem fS_snoc {l : List GoS} {x : GoS} (h : ∀ y ∈ l, y.1.1 ≠ x.1.1) : fS (l ++ [x]) = setF (fS l) x.1.1 x.2 := by
 funext i
 unfold fS setF
 rw [List.find?_append]
 by_cases hi : i = x.1.1
 ·rw [if_pos hi]
  have : l.find? (fun y => decide (y.1.1 = i)) = none := List.find?_eq_none.2 fun y hy => by
   simpa [hi] using h y hy
  rw [this]
  simp [hi]
 ·rw [if_neg hi]
  cases hf : l.find? (fun y => decide (y.1.1 = i)) with
  |some z => simp only [Option.some_or]; rw [hf]
  |none => rw [Option.none_or]; simp [Ne.symm hi, hf]
theorem gLine_words {x : GoS} (h : nameB x.1.1 = true) (h2 : ∀ n ∈ [x.1.2, x.2.1, x.2.2.1, x.2.2.2.1, x.2.2.2.2], (0 : Int) ≤ n) :
  splitL 32 (gLine x) = [kGoods, x.1.1, Lib.itoa x.1.2, Lib.itoa x.2.1, Lib.itoa x.2.2.1, Lib.itoa x.2.2.2.1, Lib.itoa x.2.2.2.2] ∧ (10 : UInt8) ∉ gLine x := by
 have k : ∀ c : UInt8, c.toNat < 48 → alnum c = false → c ∉ kGoods → ∀ w ∈ [kGoods, x.1.1, Lib.itoa x.1.2, Lib.itoa x.2.1, Lib.itoa x.2.2.1, Lib.itoa x.2.2.2.1, Lib.itoa x.2.2.2.2], c ∉ w := fun c hc ha hg w hw => by
  simp only [List.mem_cons, List.not_mem_nil, or_false] at hw
  rcases hw with rfl | rfl | rfl | rfl | rfl | rfl | rfl
  ·exact hg
  ·exact name_not h c ha
  all_goals exact itoa_not (h2 _ (by simp)) c (.inl hc)
 exact ⟨splitL_join 32 _ (by simp) (k 32 (by decide) (by decide) (by decide)), joinL_not (by decide) (k 10 (by decide) (by decide) (by decide))⟩
theorem rd_goods {G0 : List GoS} (hs : G0.Pairwise fun x y => ltB x.1.1 y.1.1 = true) (hok : ∀ x ∈ G0, goodsE x.1 = 0 ∧ OkS x.2) (hfew : G0.length ≤ 30) :
  ∀ post pre : List GoS, G0 = pre ++ post → rdAll ((pre.map z0, [], []), fS pre, []) (post.map gLine) = some ((G0.map z0, [], []), fS G0, [])
 |[], pre, h => by
  rw [List.append_nil] at h
  rw [h]
  rfl
 |x :: post, pre, h => by
  have hx : x ∈ G0 := by rw [h]; simp
  obtain ⟨hgo, o1, o2, o3, o4, o5, o6, o7, o8⟩ := hok x hx
  obtain ⟨hn, hp1, hp2⟩ := goods_zero hgo
  have hm : mostS = 65970697666560 := rfl
  have hnum : ∀ n ∈ [x.1.2, x.2.1, x.2.2.1, x.2.2.2.1, x.2.2.2.2], (0 : Int) ≤ n ∧ n ≤ mostS := fun n hn => by
   simp only [List.mem_cons, List.not_mem_nil, or_false] at hn
   rcases hn with rfl | rfl | rfl | rfl | rfl <;> omega
  have hlt : ∀ y ∈ pre, ltB y.1.1 x.1.1 = true := fun y hy => by
   rw [h, List.pairwise_append] at hs
   exact hs.2.2 y hy x List.mem_cons_self
  have hno : fG (pre.map z0, [], []) x.1.1 = none := List.find?_eq_none.2 fun y hy => by
   obtain ⟨z, hz, rfl⟩ := List.mem_map.1 hy
   exact fun e => ltB_ne (hlt z hz) (of_decide_eq_true e)
  have hdo : doE (pre.map z0, [], []) (goodsX x.1.1 x.1.2) = 0 := by
   unfold doE
   have he : entE (goodsX x.1.1 x.1.2) = 0 := by
    unfold entE
    rw [if_pos (show (goodsX x.1.1 x.1.2).1 = kGoods from rfl), if_neg (fun e => e hgo), if_neg (fun e => e rfl)]
   rw [if_neg (by rw [he]; simp), if_pos (show (goodsX x.1.1 x.1.2).1 = kGoods from rfl), show (goodsX x.1.1 x.1.2).2.1.1 = x.1.1 from rfl, hno, if_neg (by simp), if_neg]
   have := congrArg List.length h
   rw [List.length_append, List.length_cons] at this
   simp only [List.length_map]
   omega
  have hB : doB (pre.map z0, [], []) (goodsX x.1.1 x.1.2) = ((pre ++ [x]).map z0, [], []) := by
   unfold doB
   rw [if_neg (by simpa using hdo), if_pos (show (goodsX x.1.1 x.1.2).1 = kGoods from rfl)]
   show (insK (fun y : GoS => y.1.1) (z0 x) (pre.map z0), _, _) = _
   rw [insK_last (fun y : GoS => y.1.1) (z0 x) fun y hy => by
    obtain ⟨z, hz, rfl⟩ := List.mem_map.1 hy
    exact hlt z hz]
   simp
  rw [List.map_cons, rdAll, (gLine_words hn fun n hn => (hnum n hn).1).1]
  have hq := numsQ_five hnum
  rw [show rdLn ((pre.map z0, [], []), fS pre, []) [kGoods, x.1.1, Lib.itoa x.1.2, Lib.itoa x.2.1, Lib.itoa x.2.2.1, Lib.itoa x.2.2.2.1, Lib.itoa x.2.2.2.2] = some (((pre ++ [x]).map z0, [], []), fS (pre ++ [x]), []) by
   unfold rdLn
   rw [if_pos (show List.head? (kGoods :: _) = some kGoods from rfl)]
   simp only [List.tail_cons, rdG, hq, hdo, if_pos, hB]
   rw [fS_snoc fun y hy => ltB_ne (hlt y hy)]]
  exact rd_goods hs hok hfew post (pre ++ [x]) (by rw [h]; simp)
/-! Lots. -/
def l0 (x : LoH) : LoH := (x.1, 0)
def hS (l : List LoH) : List EntV := l.filterMap fun y => if y.2 = 0 then none else some (holdX y.1.1 y.2)
theorem hS_snoc (l : List LoH) (x : LoH) : hS (l ++ [x]) = if x.2 = 0 then hS l else hS l ++ [holdX x.1.1 x.2] := by
 unfold hS
 rw [List.filterMap_append]
 by_cases h : x.2 = 0
 ·simp [h]
 ·simp [h]
theorem lLine_words {x : LoH} (h : lotE x.1 = 0) : splitL 32 (lLine x) = [kLot, x.1.1, x.1.2.1, Lib.itoa x.1.2.2.1, Lib.itoa x.1.2.2.2, Lib.itoa (x.2 : Int)] ∧ (10 : UInt8) ∉ lLine x := by
 obtain ⟨h1, h2, h3, -, h4, -⟩ := lot_zero h
 have k : ∀ c : UInt8, c.toNat < 48 → alnum c = false → c ∉ kLot → ∀ w ∈ [kLot, x.1.1, x.1.2.1, Lib.itoa x.1.2.2.1, Lib.itoa x.1.2.2.2, Lib.itoa (x.2 : Int)], c ∉ w := fun c hc ha hg w hw => by
  simp only [List.mem_cons, List.not_mem_nil, or_false] at hw
  rcases hw with rfl | rfl | rfl | rfl | rfl | rfl
  ·exact hg
  ·exact name_not h1 c ha
  ·exact name_not h2 c ha
  ·exact itoa_not h3 c (.inl hc)
  ·exact itoa_not h4 c (.inl hc)
  ·exact itoa_not (by omega) c (.inl hc)
 exact ⟨splitL_join 32 _ (by simp) (k 32 (by decide) (by decide) (by decide)), joinL_not (by decide) (k 10 (by decide) (by decide) (by decide))⟩
theorem lotWords_back {l : LotV} (h : lotE l = 0) : lotWords [l.1, l.2.1, Lib.itoa l.2.2.1, Lib.itoa l.2.2.2] = (l, 0) := by
 obtain ⟨-, -, h3, h4, h5, h6⟩ := lot_zero h
 have e1 : numQ (Lib.itoa l.2.2.1) 9 = some l.2.2.1.toNat := numQ_itoa h3 9 (by omega) (by omega) (by omega)
 have e2 : numQ (Lib.itoa l.2.2.2) 9 = some l.2.2.2.toNat := numQ_itoa h5 9 (by omega) (by omega) (by omega)
 have e3 : ((l.1, l.2.1, ((l.2.2.1.toNat : Nat) : Int), ((l.2.2.2.toNat : Nat) : Int)) : LotV) = l := by
  rw [Int.toNat_of_nonneg h3, Int.toNat_of_nonneg h5]
 unfold lotWords
 simp only [e1, e2]
 rw [e3, if_pos h]
theorem rd_lots {G : List GoS} {f : List UInt8 → Option SumsV} {L0 : List LoH} (hs : L0.Pairwise fun x y => ltB x.1.1 y.1.1 = true) (hok : ∀ x ∈ L0, lotE x.1 = 0 ∧ x.2 ≤ 1099511627776 ∧ (fG (G, [], []) x.1.2.1).isSome = true) (hfew : L0.length ≤ 60) :
  ∀ post pre : List LoH, L0 = pre ++ post → rdAll ((G, pre.map l0, []), f, hS pre) (post.map lLine) = some ((G, L0.map l0, []), f, hS L0)
 |[], pre, h => by
  rw [List.append_nil] at h
  rw [h]
  rfl
 |x :: post, pre, h => by
  have hx : x ∈ L0 := by rw [h]; simp
  obtain ⟨hlo, hle, hgs⟩ := hok x hx
  have hlt : ∀ y ∈ pre, ltB y.1.1 x.1.1 = true := fun y hy => by
   rw [h, List.pairwise_append] at hs
   exact hs.2.2 y hy x List.mem_cons_self
  have hno : fL (G, pre.map l0, []) x.1.1 = none := List.find?_eq_none.2 fun y hy => by
   obtain ⟨z, hz, rfl⟩ := List.mem_map.1 hy
   exact fun e => ltB_ne (hlt z hz) (of_decide_eq_true e)
  have hdo : doE (G, pre.map l0, []) (lotX x.1) = 0 := by
   unfold doE
   have he : entE (lotX x.1) = 0 := by
    unfold entE
    rw [if_neg (lotX_goods x.1), if_pos (show (lotX x.1).1 = kLot from rfl), if_neg (fun e => e hlo), if_neg (fun e => e rfl)]
   rw [if_neg (by rw [he]; simp), if_neg (lotX_goods x.1), if_pos (show (lotX x.1).1 = kLot from rfl), show (lotX x.1).2.2.1 = x.1 from rfl, hno, if_neg (by simp), if_neg, if_neg]
   ·have := congrArg List.length h
    rw [List.length_append, List.length_cons] at this
    simp only [List.length_map]
    omega
   ·have : (fG (G, pre.map l0, []) x.1.2.1).isSome = true := hgs
    rw [this]
    simp
  have hB : doB (G, pre.map l0, []) (lotX x.1) = (G, (pre ++ [x]).map l0, []) := by
   unfold doB
   rw [if_neg (by simpa using hdo), if_neg (lotX_goods x.1), if_pos (show (lotX x.1).1 = kLot from rfl)]
   show (_, insK (fun y : LoH => y.1.1) (l0 x) (pre.map l0), _) = _
   rw [insK_last (fun y : LoH => y.1.1) (l0 x) fun y hy => by
    obtain ⟨z, hz, rfl⟩ := List.mem_map.1 hy
    exact hlt z hz]
   simp
  rw [List.map_cons, rdAll, (lLine_words hlo).1]
  have hq : numQ (Lib.itoa (x.2 : Int)) 15 = some x.2 := by
   have := numQ_15 (n := (x.2 : Int)) (by omega) (by unfold mostS; omega)
   simpa using this
  rw [show rdLn ((G, pre.map l0, []), f, hS pre) [kLot, x.1.1, x.1.2.1, Lib.itoa x.1.2.2.1, Lib.itoa x.1.2.2.2, Lib.itoa (x.2 : Int)] = some ((G, (pre ++ [x]).map l0, []), f, hS (pre ++ [x])) by
   unfold rdLn
   rw [if_neg (show ¬ List.head? (kLot :: _) = some kGoods by rw [List.head?_cons]; decide), if_pos (show List.head? (kLot :: _) = some kLot from rfl)]
   simp only [List.tail_cons, rdL, lotWords_back hlo, hq, hdo, if_pos, hB]
   rw [hS_snoc]]
  exact rd_lots hs hok hfew post (pre ++ [x]) (by rw [h]; simp)
/-! Lines of the stock. -/
theorem aLine_words {x : LineV} (h : WellL x) : splitL 32 (aLine x) = [kAt, placeText x.1, x.2.1, Lib.itoa x.2.2] ∧ (10 : UInt8) ∉ aLine x ∧ lineWords [placeText x.1, x.2.1, Lib.itoa x.2.2] = (x, 0) := by
 obtain ⟨hp, hno⟩ := place_back h.1
 have e : lineText x = joinL 32 [placeText x.1, x.2.1, Lib.itoa x.2.2] := by
  unfold lineText
  simp [joinL]
 have ea : aLine x = kAt ++ 32 :: lineText x := by rw [e]; rfl
 have k : ∀ w ∈ [placeText x.1, x.2.1, Lib.itoa x.2.2], (32 : UInt8) ∉ w := fun w hw => by
  simp only [List.mem_cons, List.not_mem_nil, or_false] at hw
  rcases hw with rfl | rfl | rfl
  ·exact hno
  ·exact name_not h.2.1 32 (by decide)
  ·exact itoa_not (by have := h.2.2.1; omega) 32 (by decide)
 have hsp := splitL_join 32 _ (by simp) k
 rw [← e] at hsp
 obtain ⟨q1, q2⟩ := lineText_words h
 rw [hsp] at q1
 refine ⟨?_, ?_, q1⟩
 ·rw [ea, splitL_at _ _ (by decide), hsp]
 ·rw [ea, List.mem_append, List.mem_cons, not_or, not_or]
  exact ⟨by decide, by decide, q2⟩
structure AtI (G : List GoodsV) (L : List LoH) (C : BkV) (pre : List LineV) : Prop where
 book : BkI C
 goods : C.1.map (·.1) = G
 lots : C.2.1 = L.map l0
 stk : C.2.2 = toM pre
 rd : RdI pre
 zero : ∀ x ∈ C.1, x.2.2.1 = 0 ∧ x.2.2.2.1 = 0 ∧ x.2.2.2.2 = 0
theorem sum_most (g : List UInt8 → Nat) (M : Nat) (hg : ∀ i, g i ≤ M) : ∀ l : List LoH, (l.map fun x => g x.1.1).sum ≤ M * l.length
 |[] => by simp
 |x :: r => by
  have := sum_most g M hg r
  have h2 := hg x.1.1
  rw [List.map_cons, List.sum_cons, List.length_cons, Nat.mul_succ]
  omega
theorem in_ent {x : LineV} (h : WellL x) : entE (inX x) = 0 := by
 obtain ⟨h1, h2, h3, h4⟩ := h
 unfold entE
 rw [if_neg (inX_goods x), if_neg (inX_lot x), if_pos (show isP (inX x).1 = true by show isP kIn = true; decide)]
 unfold piecesE
 have hpl : placesE (inX x) = 0 := by
  unfold placesE
  rw [if_neg (show ¬ (hasF (inX x).1 = true ∧ placeE (inX x).2.2.2.1 ≠ 0) from fun e => absurd e.1 (by show ¬ hasF kIn = true; decide)), if_pos (show hasT (inX x).1 = true by show hasT kIn = true; decide)]
  exact h1
 rw [if_neg (show ¬ nameB (inX x).2.2.1.1 = false by show ¬ nameB x.2.1 = false; rw [h2]; simp), if_neg (by rw [hpl]; simp), if_neg, if_neg]
 ·rintro (⟨e, -⟩ | e)
  ·exact absurd (show kIn = kMove from e) (by decide)
  ·exact e rfl
 ·show ¬ wiB x.2.2 1 1099511627776 = false
  unfold wiB
  simp only [decide_eq_false_iff_not, Classical.not_not]
  exact ⟨h3, h4⟩
theorem AtI.step {G : List GoodsV} {L : List LoH} {C : BkV} {pre : List LineV} (h : AtI G L C pre) {x : LineV} (hw : WellL x) (hk : (fL (G.map fun g => (g, zeroSums), L, []) x.2.1).isSome = true) (hlast : ∀ z, pre.getLast? = some z → ltOf cfLine z x = true) (hput : putE (toM pre) x.1 x.2.1 x.2.2 = 0) :
  doE C (inX x) = 0 ∧ AtI G L (doB C (inX x)) (pre ++ [x]) := by
 obtain ⟨hrd, hto⟩ := h.rd.next hlast hput
 have hact : actE C.2.2 (inX x) = 0 := by
  rw [actE_in, h.stk]
  exact hput
 have hactM : actM C.2.2 (inX x) = toM (pre ++ [x]) := by
  rw [actM_in, h.stk, hto]
 obtain ⟨y, hf, hy0⟩ : ∃ y, fL C x.2.1 = some y ∧ y.2 = 0 := by
  obtain ⟨v, hv⟩ := Option.isSome_iff_exists.1 hk
  have e : fL C x.2.1 = (fL ((G.map fun g => (g, zeroSums), L, []) : BkV) x.2.1).map l0 := by
   unfold fL
   rw [h.lots]
   exact find_map (f := l0) (fun z : LoH => z.1.1) (fun _ => rfl) x.2.1
  rw [hv] at e
  exact ⟨l0 v, e, rfl⟩
 obtain ⟨hym, hyi⟩ := fL_mem hf
 obtain ⟨-, -, hgs⟩ := h.book.lok y hym
 obtain ⟨g, hg⟩ := Option.isSome_iff_exists.1 hgs
 obtain ⟨hgm, hgc⟩ := fG_mem hg
 have hsum : sumsOf C y.1.2.1 = g.2 := by unfold sumsOf; rw [hg]
 have hz0 := h.zero g hgm
 have hown := act_own h.book.stk hact (by show (0 : Int) ≤ x.2.2; have := hw.2.2.1; omega)
 have hmore : moreN (inX x) = x.2.2 := more_in x
 have hheld : heldN y.2 (inX x) = 0 := by
  rw [held_in, hy0]
  rfl
 have hsumm : summ g.2 (inX x) = (g.2.1 + x.2.2, g.2.2.1, g.2.2.2.1, g.2.2.2.2) := by
  rw [summ_in]
 have hover : ¬ overS (summ (sumsOf C y.1.2.1) (inX x)) = true := by
  rw [hsum, hsumm]
  have hpac := h.book.pac g hgm
  have h1 : (((((C.2.1.filter fun z => decide (z.1.2.1 = g.1.1)).map fun z => ofM (actM C.2.2 (inX x)) z.1.1).sum) : Nat) : Int) = (hasOf C g.1.1 : Int) + x.2.2 := by
   rw [← hmore]
   exact hasL_own (fun i => ofM C.2.2 i) (fun i => ofM (actM C.2.2 (inX x)) i) (moreN (inX x)) g.1.1 x.2.1 C.2.1 h.book.ls (fun i hi => act_other hi) hown hym hyi hgc.symm
  have h2 := sum_most (fun i => ofM (actM C.2.2 (inX x)) i) 1099511627776 (fun i => (h.book.stk.act (inX x)).few i) (C.2.1.filter fun z => decide (z.1.2.1 = g.1.1))
  have h3 : (C.2.1.filter fun z => decide (z.1.2.1 = g.1.1)).length ≤ 60 := Nat.le_trans (List.length_filter_le _ _) h.book.lfew
  have h4 : 1099511627776 * (C.2.1.filter fun z => decide (z.1.2.1 = g.1.1)).length ≤ 1099511627776 * 60 := Nat.mul_le_mul_left _ h3
  have hm : mostS = 65970697666560 := rfl
  unfold overS
  simp only [Bool.or_eq_true, decide_eq_true_eq, not_or]
  refine ⟨⟨⟨?_, ?_⟩, ?_⟩, ?_⟩ <;> omega
 have hpc : pcE C (inX x) = 0 := by
  unfold pcE
  rw [show (inX x).2.2.1.1 = x.2.1 from rfl, hf]
  simp only
  rw [if_neg (by rw [hact]; simp), hheld, if_neg (by omega), if_neg hover]
 have hdo : doE C (inX x) = 0 := by
  unfold doE
  rw [if_neg (by rw [in_ent hw]; simp), if_neg (inX_goods x), if_neg (inX_lot x)]
  exact hpc
 have hB : doB C (inX x) = doP C (inX x) := by
  unfold doB
  rw [if_neg (by simpa using hdo), if_neg (inX_goods x), if_neg (inX_lot x)]
 have hcode : codeLo C x.2.1 = y.1.2.1 := by unfold codeLo; rw [hf]
 have hho : heldOf C x.2.1 = y.2 := by unfold heldOf; rw [hf]
 refine ⟨hdo, h.book.do_ _, ?_, ?_, ?_, hrd, ?_⟩
 ·rw [hB, ← h.goods]
  show (setG _ _ C.1).map _ = _
  unfold setG
  rw [List.map_map]
  exact List.map_congr_left fun z _ => setG_fst _ _ z
 ·rw [hB, ← h.lots]
  show setLo x.2.1 (heldN (heldOf C x.2.1) (inX x)).toNat C.2.1 = _
  rw [hho, hheld]
  unfold setLo
  refine (List.map_congr_left fun z hz => ?_).trans (List.map_id _)
  rw [h.lots] at hz
  obtain ⟨u, -, rfl⟩ := List.mem_map.1 hz
  split <;> rfl
 ·rw [hB]
  exact hactM
 ·rw [hB]
  intro z hz
  have hz : z ∈ setG (codeLo C x.2.1) (summ (sumsOf C (codeLo C x.2.1)) (inX x)) C.1 := hz
  rw [hcode, hsum, hsumm] at hz
  obtain ⟨u, hu, rfl⟩ := List.mem_map.1 hz
  split
  ·exact hz0
  ·exact h.zero u hu
theorem rd_at {G : List GoodsV} {L : List LoH} {m : StkV} (hm : StkI m) (hk : ∀ z ∈ m, (fL (G.map fun g => (g, zeroSums), L, []) z.1.2).isSome = true) {f : List UInt8 → Option SumsV} {H : List EntV} :
  ∀ (post pre : List LineV) (C : BkV), linesM m = pre ++ post → AtI G L C pre → ∃ C', rdAll (C, f, H) (post.map aLine) = some (C', f, H) ∧ AtI G L C' (linesM m)
 |[], pre, C, h, hC => by
  rw [List.append_nil] at h
  rw [h]
  exact ⟨C, rfl, hC⟩
 |x :: post, pre, C, h, hC => by
  have hx : x ∈ linesM m := by rw [h]; simp
  have hw := hm.well.lines x hx
  obtain ⟨w1, w2, w3⟩ := aLine_words hw
  have hup : (linesM m).Pairwise fun x y => ltOf cfLine x y = true := by
   have hnd : (linesM m).Nodup := by
    have hn2 : (m.map lineOf).Nodup := by
     have := hm.nodup
     rw [List.Nodup, List.pairwise_map] at this ⊢
     refine this.imp fun {a b} hne e => hne ?_
     have h1 : a.1.1 = b.1.1 := congrArg (fun x : LineV => x.1) e
     have h2 : a.1.2 = b.1.2 := congrArg (fun x : LineV => x.2.1) e
     exact Prod.ext h1 h2
    exact (lines_perm m).nodup_iff.2 hn2
   refine List.Pairwise.imp_of_mem ?_ ((lines_sorted m).and hnd)
   rintro a b ha hb ⟨h1, h2⟩
   cases hab : ltOf cfLine a b with
   |true => rfl
   |false => exact absurd (apart_m hm.nodup ((lines_perm m).mem_iff.1 ha) ((lines_perm m).mem_iff.1 hb) (ltOf_both likeLine hab h1)) h2
  have hp : (toM (linesM m)).Perm m := by
   have := (lines_perm m).map fun x : LineV => (((x.1, x.2.1), x.2.2.toNat) : KeyV × Nat)
   rw [List.map_map] at this
   refine List.Perm.trans this ?_
   rw [show ((fun x : LineV => (((x.1, x.2.1), x.2.2.toNat) : KeyV × Nat)) ∘ lineOf) = id from funext fun x => by obtain ⟨⟨p, l⟩, n⟩ := x; simp [lineOf], List.map_id]
  have hlot : (fL (G.map fun g => (g, zeroSums), L, []) x.2.1).isSome = true := by
   obtain ⟨z, hz, hzx⟩ := List.mem_map.1 ((lines_perm m).mem_iff.1 hx)
   rw [← hzx]
   exact hk z hz
  have hput : putE (toM pre) x.1 x.2.1 x.2.2 = 0 := by
   obtain ⟨v1, v2, v3, v4⟩ := hw
   have hof := hm.few x.2.1
   rw [← ofM_perm hp, h, toM_app, ofM_app, show toM (x :: post) = ((x.1, x.2.1), x.2.2.toNat) :: toM post from rfl, ofM_cons, if_pos rfl] at hof
   have hlen : (toM pre).length < 200 := by
    have h1 := congrArg List.length h
    have h2 := hm.well.few
    rw [linesM_len, List.length_append, List.length_cons] at h1
    simp only [toM, List.length_map]
    omega
   unfold putE
   rw [if_neg (by rw [v1]; simp), if_neg (by rw [v2]; simp), if_neg (by unfold wiB; simp; omega), if_neg (by simp only at hof; omega), if_neg (fun q => by omega)]
  have hlast : ∀ z, pre.getLast? = some z → ltOf cfLine z x = true := fun z hz => by
   rw [h, List.pairwise_append] at hup
   exact hup.2.2 z (List.mem_of_getLast? hz) x List.mem_cons_self
  obtain ⟨d1, d2⟩ := hC.step hw hlot hlast hput
  rw [List.map_cons, rdAll, w1]
  rw [show rdLn (C, f, H) [kAt, placeText x.1, x.2.1, Lib.itoa x.2.2] = some (doB C (inX x), f, H) by
   unfold rdLn
   rw [if_neg (show ¬ List.head? (kAt :: _) = some kGoods by rw [List.head?_cons]; decide), if_neg (show ¬ List.head? (kAt :: _) = some kLot by rw [List.head?_cons]; decide), if_pos (show List.head? (kAt :: _) = some kAt from rfl)]
   unfold rdA
   rw [List.tail_cons, w3, if_pos rfl, if_pos d1]]
  exact rd_at hm hk post (pre ++ [x]) (doB C (inX x)) (by rw [h]; simp) d2
end Go.Proofs.YteaalifehokgoaaGreatDoor
