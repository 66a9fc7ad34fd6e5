/- Lots read: lot.Read, the document's ReadLot. Places read: place.Read. The document's Cut, walked. Rows of cells, as walks read them. Places read by the document: ReadPlace. -/
import Derived.Deep.AppendLies
import Derived.Test.YteaalifehokgoaaGreatDoorM01
import Derived.Test.YteaalifehokgoaaGreatDoorM05
import Derived.Test.YteaalifehokgoaaGreatDoorM08
import Derived.Test.YteaalifehokgoaaGreatDoorM09
import Derived.Test.YteaalifehokgoaaGreatDoorM14
namespace Go.Proofs.YteaalifehokgoaaGreatDoor
open Go.RowKit Go.Sort Go.Proofs
theorem numb_any (l : List UInt8) (d : Nat) (hs : l.length ≤ 1000000000) (hd : d ≤ 18) (w : World) (hT : TabG w) (hA : AtoiG w) :
  Calls Tryz.prog 145 #[.string ⟨l.toArray⟩, .int .i64 d] w fun e w' => ∃ n : Int, e = .returned (.tuple #[.int .i64 n, .bool (numQ l d).isSome]) ∧ (∀ v, numQ l d = some v → n = v) ∧ Below w.heap.size w w' := by
 refine (number_any ⟨l.toArray⟩ d (by show l.toArray.size ≤ _; simp; omega) (by omega) w hT hA).mono ?_
 rintro e w' (⟨n, hq, -, rfl, hb⟩ | ⟨hq, m, -, -, rfl, hb⟩)
 ·have hq : numQ l d = some n := hq
  refine ⟨n, by rw [hq]; rfl, fun v hv => ?_, hb⟩
  rw [hq] at hv; injection hv with hv; rw [hv]
 ·have hq : numQ l d = none := hq
  refine ⟨m, by rw [hq]; rfl, fun v hv => ?_, hb⟩
  rw [hq] at hv; cases hv
structure ReadG (E : Nat → Addr) (w : World) : Prop where
 text : ErrAt 1 (E 1) w
 name : ErrAt 4 (E 5) w
 bound : ErrAt 0 (E 2) w
 tab : TabG w
 atoi : AtoiG w
 maxl : MaxG w
theorem ReadG.below {E : Nat → Addr} {w w' : World} (h : ReadG E w) (hb : Below w.heap.size w w') : ReadG E w' := ⟨h.text.below hb, h.name.below hb, h.bound.below hb, h.tab.below hb, h.atoi.below hb, h.maxl.below hb⟩
theorem ReadG.lot {E : Nat → Addr} {w : World} (h : ReadG E w) : LotG E w := ⟨h.name, h.bound, h.tab⟩
def zeroLot : LotV := ([], [], 0, 0)
def lotWords (ws : List (List UInt8)) : LotV × Nat :=
 match ws with
 |[a, b, c, d] => match numQ c 9, numQ d 9 with
  |some u, some v => if lotE (a, b, (u : Int), (v : Int)) = 0 then ((a, b, (u : Int), (v : Int)), 0) else (zeroLot, lotE (a, b, (u : Int), (v : Int)))
  |_, _ => (zeroLot, 1)
 |_ => (zeroLot, 1)
theorem lotWords_len {ws : List (List UInt8)} (h : ws.length ≠ 4) : lotWords ws = (zeroLot, 1) := by
 unfold lotWords
 split
 ·simp at h
 ·rfl
theorem four {ws : List (List UInt8)} (h : ws.length = 4) : ∃ a b c d, ws = [a, b, c, d] := by
 match ws, h with
 |[a, b, c, d], _ => exact ⟨a, b, c, d, rfl⟩
theorem splitL_lens {c : UInt8} {l w : List UInt8} (h : w ∈ splitL c l) : w.length ≤ l.length := by
 induction l generalizing w with
 |nil => simp [splitL] at h; subst h; simp
 |cons x r ih =>
  rw [splitL] at h
  by_cases hx : x = c
  ·rw [if_pos hx] at h
   rcases List.mem_cons.1 h with rfl | h
   ·simp
   ·have := ih h; simp; omega
  ·rw [if_neg hx] at h
   cases hs : splitL c r with
   |nil => exact absurd hs (splitL_ne c r)
   |cons p q =>
    rw [hs] at h ih
    rcases List.mem_cons.1 h with rfl | h
    ·have := ih (w := p) (by simp); simp; omega
    ·have := ih (w := w) (by simp [h]); simp; omega
theorem strs4 {w : World} {A : Option Addr} {a b c d : List UInt8} (h : StrsAt w A [a, b, c, d]) : ∃ bl o, A = some ⟨bl, o, none⟩ ∧ bl < w.heap.size ∧ w.cell? ⟨bl, o, none⟩ = some (.string ⟨a.toArray⟩) ∧ w.cell? ⟨bl, o + 1, none⟩ = some (.string ⟨b.toArray⟩) ∧ w.cell? ⟨bl, o + 2, none⟩ = some (.string ⟨c.toArray⟩) ∧ w.cell? ⟨bl, o + 3, none⟩ = some (.string ⟨d.toArray⟩) := by
 obtain ⟨bl, o, h1, h2, h3⟩ := h.resolve_left (by simp)
 exact ⟨bl, o, h1, h2, h3 0 (by simp), h3 1 (by simp), h3 2 (by simp), h3 3 (by simp)⟩
set_option maxHeartbeats 1600000 in
theorem lotRead_any (E : Nat → Addr) (s : ByteArray) (hs : s.size ≤ 1000000) (w : World) (hG : ReadG E w) :
  Calls Tryz.prog 144 #[.string s] w fun e w' => e = .returned (.tuple #[.agg (encLot (lotWords (splitL 32 (bts s))).1).toArray, errOf E (lotWords (splitL 32 (bts s))).2]) ∧ Below w.heap.size w w' := by
 have HSP := Lib.hid (fun W (h : MaxG W) => split_any s 32 W (by omega) h)
 have hle := fun x (h : x ∈ splitL 32 (bts s)) => splitL_lens h
 generalize splitL 32 (bts s) = ws at HSP hle ⊢
 have hbl : (bts s).length = s.size := rfl
 rw [hbl] at hle
 have HG := Lib.hid hG
 clear hG hbl
 go_enter Tryz.func144, Tryz.ntmps144
 go_wp2_with fail
 have b0 := below_one w (.cells #[.string ⟨#[]⟩, .string ⟨#[]⟩, .int .i64 0, .int .i64 0] 39)
 have hz0 : (w.alloc (.cells #[.string ⟨#[]⟩, .string ⟨#[]⟩, .int .i64 0, .int .i64 0] 39)).heap[w.heap.size]? = some (.cells #[.string ⟨#[]⟩, .string ⟨#[]⟩, .int .i64 0, .int .i64 0] 39 (0, 0)) := heap_alloc_new _ _
 have hG0 := HG.out.below b0
 obtain ⟨rb, hrb⟩ : ∃ rb, rb = w.heap.size := ⟨_, rfl⟩
 have HRB : Hid (w.heap.size ≤ rb) := by show _ ≤ _; omega
 rw [← hrb] at hz0 ⊢
 generalize w.alloc (.cells #[.string ⟨#[]⟩, .string ⟨#[]⟩, .int .i64 0, .int .i64 0] 39) = W0 at b0 hz0 hG0 ⊢
 refine (HSP.out W0 hG0.maxl).mono ?_
 rintro e w1 ⟨A, cap, rfl, hS, -, bb1⟩
 have hz1 := (bb1.block rb (row_lt hz0)).trans hz0
 have HG1 := Lib.hid (hG0.below bb1)
 have B1 := Lib.hid (b0.trans (bb1.mono b0.size))
 have hg1 := HG1.out.text
 have lg := lt_of_cell hg1
 simp only at lg
 unfold ErrAt at hg1
 have hgrb : 1 ≠ rb := by have := lt_of_cell HG.out.text; simp only at this; omega
 clear bb1 hz0 b0 hG0 HSP HG hrb
 by_cases h4 : ws.length = 4
 ·obtain ⟨a, b, c, d, rfl⟩ := four h4
  have ha := hle a (by simp)
  have hb := hle b (by simp)
  have hcl := hle c (by simp)
  have hdl := hle d (by simp)
  have HW := Lib.hid (show lotWords [a, b, c, d] = match numQ c 9, numQ d 9 with
   |some u, some v => if lotE (a, b, (u : Int), (v : Int)) = 0 then ((a, b, (u : Int), (v : Int)), 0) else (zeroLot, lotE (a, b, (u : Int), (v : Int)))
   |_, _ => (zeroLot, 1) from rfl)
  obtain ⟨bl, o, rfl, hl, p0, p1, p2, p3⟩ := strs4 hS
  have l4 : [a, b, c, d].length = 4 := rfl
  rw [l4]
  have hblr : bl < w1.heap.size := hl
  clear hS l4 hle h4
  go_wp2_with fail
  refine (numb_any c 9 (by omega) (by omega) _ HG1.out.tab HG1.out.atoi).mono ?_
  rintro e w2 ⟨u, rfl, hu, b2⟩
  have q0 := (b2.cell (p := ⟨_, _, none⟩) (lt_of_cell p0)).trans p0
  have q1 := (b2.cell (p := ⟨_, _, none⟩) (lt_of_cell p1)).trans p1
  have q2 := (b2.cell (p := ⟨_, _, none⟩) (lt_of_cell p2)).trans p2
  have q3 := (b2.cell (p := ⟨_, _, none⟩) (lt_of_cell p3)).trans p3
  have hz2 := (b2.block rb (row_lt hz1)).trans hz1
  have hg2 := (b2.cell (p := ⟨_, 0, none⟩) lg).trans hg1
  have lg2 : 1 < w2.heap.size := Nat.lt_of_lt_of_le lg b2.size
  have B2 := Lib.hid (B1.out.trans (b2.mono B1.out.size))
  have HG2 := Lib.hid (HG1.out.below b2)
  have HU := Lib.hid hu
  clear b2 hu p0 p1 p2 p3 hz1 hg1 lg B1 HG1 hl hblr
  go_wp2_with fail
  refine (numb_any d 9 (by omega) (by omega) _ HG2.out.tab HG2.out.atoi).mono ?_
  rintro e w3 ⟨v, rfl, hv, b3⟩
  have r0 := (b3.cell (p := ⟨_, _, none⟩) (lt_of_cell q0)).trans q0
  have r1 := (b3.cell (p := ⟨_, _, none⟩) (lt_of_cell q1)).trans q1
  have r2 := (b3.cell (p := ⟨_, _, none⟩) (lt_of_cell q2)).trans q2
  have r3 := (b3.cell (p := ⟨_, _, none⟩) (lt_of_cell q3)).trans q3
  have hz3 := (b3.block rb (row_lt hz2)).trans hz2
  have hg3 := (b3.cell (p := ⟨_, 0, none⟩) lg2).trans hg2
  have B3 := Lib.hid (B2.out.trans (b3.mono B2.out.size))
  have HG3 := Lib.hid (HG2.out.below b3)
  have HV := Lib.hid hv
  clear b3 hv q0 q1 q2 q3 hz2 hg2 lg2 B2 HG2
  cases hq : numQ c 9 with
  |none =>
   rw [hq] at HW
   have z0 : w3.cell? ⟨rb, 0, none⟩ = some (.string ⟨#[]⟩) := cell_of_row _ _ _ _ _ _ hz3
   have f0 := frozen_of_row w3 rb 0 _ _ hz3
   have z1 : w3.cell? ⟨rb, 1, none⟩ = some (.string ⟨#[]⟩) := cell_of_row _ _ _ _ _ _ hz3
   have f1 := frozen_of_row w3 rb 1 _ _ hz3
   have z2 : w3.cell? ⟨rb, 2, none⟩ = some (.int .i64 0) := cell_of_row _ _ _ _ _ _ hz3
   have f2 := frozen_of_row w3 rb 2 _ _ hz3
   have z3 : w3.cell? ⟨rb, 3, none⟩ = some (.int .i64 0) := cell_of_row _ _ _ _ _ _ hz3
   have f3 := frozen_of_row w3 rb 3 _ _ hz3
   go_wp2_with fail
   go_region
   all_goals
    have hrow := puts_row [.string ⟨#[]⟩, .string ⟨#[]⟩, .int .i64 0, .int .i64 0] hz3 rfl
    go_wp2_with fail
    (try simp only [Exit.inBlock, Exit.then])
    refine bodyPost_ret (results_cell_row2 rfl _ _ rb 39 #[.string ⟨#[]⟩, .string ⟨#[]⟩, .int .i64 0, .int .i64 0] (0, 0) _ rfl hrow Tryz.underlying39 rfl (by kernel_rfl)) rfl ?_
    rw [HW.out]
    exact ⟨rfl, (puts_below HRB.out [.string ⟨#[]⟩, .string ⟨#[]⟩, .int .i64 0, .int .i64 0] w3 0 B3.out).drew⟩
  |some uu =>
   have hu := HU.out uu hq
   subst hu
   rw [hq] at HW
   cases hq2 : numQ d 9 with
   |none =>
    rw [hq2] at HW
    have z0 : w3.cell? ⟨rb, 0, none⟩ = some (.string ⟨#[]⟩) := cell_of_row _ _ _ _ _ _ hz3
    have f0 := frozen_of_row w3 rb 0 _ _ hz3
    have z1 : w3.cell? ⟨rb, 1, none⟩ = some (.string ⟨#[]⟩) := cell_of_row _ _ _ _ _ _ hz3
    have f1 := frozen_of_row w3 rb 1 _ _ hz3
    have z2 : w3.cell? ⟨rb, 2, none⟩ = some (.int .i64 0) := cell_of_row _ _ _ _ _ _ hz3
    have f2 := frozen_of_row w3 rb 2 _ _ hz3
    have z3 : w3.cell? ⟨rb, 3, none⟩ = some (.int .i64 0) := cell_of_row _ _ _ _ _ _ hz3
    have f3 := frozen_of_row w3 rb 3 _ _ hz3
    go_wp2_with fail
    go_region
    all_goals
     have hrow := puts_row [.string ⟨#[]⟩, .string ⟨#[]⟩, .int .i64 0, .int .i64 0] hz3 rfl
     go_wp2_with fail
     (try simp only [Exit.inBlock, Exit.then])
     refine bodyPost_ret (results_cell_row2 rfl _ _ rb 39 #[.string ⟨#[]⟩, .string ⟨#[]⟩, .int .i64 0, .int .i64 0] (0, 0) _ rfl hrow Tryz.underlying39 rfl (by kernel_rfl)) rfl ?_
     rw [HW.out]
     exact ⟨rfl, (puts_below HRB.out [.string ⟨#[]⟩, .string ⟨#[]⟩, .int .i64 0, .int .i64 0] w3 0 B3.out).drew⟩
   |some vv =>
    have hv := HV.out vv hq2
    subst hv
    rw [hq2] at HW
    have HCK := Lib.hid (fun W h => checkLot_any E (a, b, (uu : Int), (vv : Int)) (by show a.length ≤ _; omega) (by show b.length ≤ _; omega) W h)
    have hW := HW.out
    simp only at hW
    have HWW := Lib.hid hW
    clear HW hW hq hq2 HU HV
    generalize lotE (a, b, (uu : Int), (vv : Int)) = k at HCK HWW
    simp only [encLot] at HCK
    have HZ3 := Lib.hid hz3
    have t0 := ((below_one w3 (.cells #[.string ⟨#[]⟩, .string ⟨#[]⟩, .int .i64 0, .int .i64 0] 39)).cell (p := ⟨_, _, none⟩) (lt_of_cell r0)).trans r0
    have t1 := ((below_one w3 (.cells #[.string ⟨#[]⟩, .string ⟨#[]⟩, .int .i64 0, .int .i64 0] 39)).cell (p := ⟨_, _, none⟩) (lt_of_cell r1)).trans r1
    have t2 := ((below_one w3 (.cells #[.string ⟨#[]⟩, .string ⟨#[]⟩, .int .i64 0, .int .i64 0] 39)).cell (p := ⟨_, _, none⟩) (lt_of_cell r2)).trans r2
    have t3 := ((below_one w3 (.cells #[.string ⟨#[]⟩, .string ⟨#[]⟩, .int .i64 0, .int .i64 0] 39)).cell (p := ⟨_, _, none⟩) (lt_of_cell r3)).trans r3
    go_wp2_with fail
    go_region
    all_goals
     have b30 : Below w3.heap.size w3 (w3.alloc (.cells #[.string ⟨a.toArray⟩, .string ⟨b.toArray⟩, .int .i64 (uu : Nat), .int .i64 (vv : Nat)] 39)).drew := (below_one _ _).drew
     have hx4 : (w3.alloc (.cells #[.string ⟨a.toArray⟩, .string ⟨b.toArray⟩, .int .i64 (uu : Nat), .int .i64 (vv : Nat)] 39)).drew.heap[w3.heap.size]? = some (.cells #[.string ⟨a.toArray⟩, .string ⟨b.toArray⟩, .int .i64 (uu : Nat), .int .i64 (vv : Nat)] 39 (0, 0)) := heap_alloc_new w3 _
     go_wp2_with fail
     refine (HCK.out _ (HG3.out.below b30).lot).mono ?_
     rintro e w4 ⟨rfl, b4⟩
     have hz4 := (b4.block rb (by have := row_lt HZ3.out; simp; omega)).trans ((heap_alloc_old w3 _ (row_lt HZ3.out)).trans HZ3.out)
     have hx5 := (b4.block w3.heap.size (by simp)).trans hx4
     have v0 : w4.cell? ⟨w3.heap.size, 0, none⟩ = some (.string ⟨a.toArray⟩) := cell_of_row _ _ _ _ _ _ hx5
     have v1 : w4.cell? ⟨w3.heap.size, 1, none⟩ = some (.string ⟨b.toArray⟩) := cell_of_row _ _ _ _ _ _ hx5
     have v2 : w4.cell? ⟨w3.heap.size, 2, none⟩ = some (.int .i64 (uu : Nat)) := cell_of_row _ _ _ _ _ _ hx5
     have v3 : w4.cell? ⟨w3.heap.size, 3, none⟩ = some (.int .i64 (vv : Nat)) := cell_of_row _ _ _ _ _ _ hx5
     have B4 := Lib.hid (B3.out.trans ((b30.trans (b4.mono b30.size)).mono B3.out.size))
     clear b4 b30 hx4 hx5 r0 t0 r1 t1 r2 t2 r3 t3 HCK
     by_cases h0 : k = 0
     ·subst h0
      rw [errOf_zero]
      have z0 : w4.cell? ⟨rb, 0, none⟩ = some (.string ⟨#[]⟩) := cell_of_row _ _ _ _ _ _ hz4
      have f0 := frozen_of_row w4 rb 0 _ _ hz4
      have z1 : w4.cell? ⟨rb, 1, none⟩ = some (.string ⟨#[]⟩) := cell_of_row _ _ _ _ _ _ hz4
      have f1 := frozen_of_row w4 rb 1 _ _ hz4
      have z2 : w4.cell? ⟨rb, 2, none⟩ = some (.int .i64 0) := cell_of_row _ _ _ _ _ _ hz4
      have f2 := frozen_of_row w4 rb 2 _ _ hz4
      have z3 : w4.cell? ⟨rb, 3, none⟩ = some (.int .i64 0) := cell_of_row _ _ _ _ _ _ hz4
      have f3 := frozen_of_row w4 rb 3 _ _ hz4
      go_wp2_with fail
      have hrow := puts_row [.string ⟨a.toArray⟩, .string ⟨b.toArray⟩, .int .i64 (uu : Nat), .int .i64 (vv : Nat)] hz4 rfl
      (try simp only [Exit.inBlock, Exit.then])
      refine bodyPost_ret (results_cell_row2 rfl _ _ rb 39 #[.string ⟨a.toArray⟩, .string ⟨b.toArray⟩, .int .i64 (uu : Nat), .int .i64 (vv : Nat)] (0, 0) _ rfl hrow Tryz.underlying39 rfl (by kernel_rfl)) rfl ?_
      rw [HWW.out]
      exact ⟨rfl, (puts_below HRB.out [.string ⟨a.toArray⟩, .string ⟨b.toArray⟩, .int .i64 (uu : Nat), .int .i64 (vv : Nat)] w4 0 B4.out)⟩
     ·rw [errOf_pos _ _ h0]
      have z0 : w4.cell? ⟨rb, 0, none⟩ = some (.string ⟨#[]⟩) := cell_of_row _ _ _ _ _ _ hz4
      have f0 := frozen_of_row w4 rb 0 _ _ hz4
      have z1 : w4.cell? ⟨rb, 1, none⟩ = some (.string ⟨#[]⟩) := cell_of_row _ _ _ _ _ _ hz4
      have f1 := frozen_of_row w4 rb 1 _ _ hz4
      have z2 : w4.cell? ⟨rb, 2, none⟩ = some (.int .i64 0) := cell_of_row _ _ _ _ _ _ hz4
      have f2 := frozen_of_row w4 rb 2 _ _ hz4
      have z3 : w4.cell? ⟨rb, 3, none⟩ = some (.int .i64 0) := cell_of_row _ _ _ _ _ _ hz4
      have f3 := frozen_of_row w4 rb 3 _ _ hz4
      go_wp2_with fail
      have hrow := puts_row [.string ⟨#[]⟩, .string ⟨#[]⟩, .int .i64 0, .int .i64 0] hz4 rfl
      (try simp only [Exit.inBlock, Exit.then])
      refine bodyPost_ret (results_cell_row2 rfl _ _ rb 39 #[.string ⟨#[]⟩, .string ⟨#[]⟩, .int .i64 0, .int .i64 0] (0, 0) _ rfl hrow Tryz.underlying39 rfl (by kernel_rfl)) rfl ?_
      rw [HWW.out, if_neg h0, errOf_pos _ _ h0]
      exact ⟨rfl, (puts_below HRB.out [.string ⟨#[]⟩, .string ⟨#[]⟩, .int .i64 0, .int .i64 0] w4 0 B4.out)⟩
 ·have HW0 := Lib.hid (lotWords_len h4)
  obtain ⟨n, hn⟩ : ∃ n, n = ws.length := ⟨_, rfl⟩
  rw [← hn] at h4 ⊢
  have h4' : ¬ (n : Int) = 4 := by omega
  clear hn
  have z0 : w1.cell? ⟨rb, 0, none⟩ = some (.string ⟨#[]⟩) := cell_of_row _ _ _ _ _ _ hz1
  have f0 := frozen_of_row w1 rb 0 _ _ hz1
  have z1 : w1.cell? ⟨rb, 1, none⟩ = some (.string ⟨#[]⟩) := cell_of_row _ _ _ _ _ _ hz1
  have f1 := frozen_of_row w1 rb 1 _ _ hz1
  have z2 : w1.cell? ⟨rb, 2, none⟩ = some (.int .i64 0) := cell_of_row _ _ _ _ _ _ hz1
  have f2 := frozen_of_row w1 rb 2 _ _ hz1
  have z3 : w1.cell? ⟨rb, 3, none⟩ = some (.int .i64 0) := cell_of_row _ _ _ _ _ _ hz1
  have f3 := frozen_of_row w1 rb 3 _ _ hz1
  go_wp2_with fail
  go_region
  all_goals
   have hrow := puts_row [.string ⟨#[]⟩, .string ⟨#[]⟩, .int .i64 0, .int .i64 0] hz1 rfl
   go_wp2_with fail
   (try simp only [Exit.inBlock, Exit.then])
   refine bodyPost_ret (results_cell_row2 rfl _ _ rb 39 #[.string ⟨#[]⟩, .string ⟨#[]⟩, .int .i64 0, .int .i64 0] (0, 0) _ rfl hrow Tryz.underlying39 rfl (by kernel_rfl)) rfl ?_
   rw [HW0.out]
   exact ⟨rfl, (puts_below HRB.out [.string ⟨#[]⟩, .string ⟨#[]⟩, .int .i64 0, .int .i64 0] w1 0 B1.out).drew⟩
end Go.Proofs.YteaalifehokgoaaGreatDoor
namespace Go.Proofs.YteaalifehokgoaaGreatDoor
open Go.RowKit Go.Sort Go.Proofs
theorem ReadG.place {E : Nat → Addr} {w : World} (h : ReadG E w) : PlaceG E w := ⟨h.name, h.bound, h.tab⟩
def zeroPlace : PlaceV := ([], 0, 0)
def placeWords (ws : List (List UInt8)) : PlaceV × Nat :=
 match ws with
 |[a, c, d] => match numQ c 4, numQ d 4 with
  |some u, some v => if placeE (a, (u : Int), (v : Int)) = 0 then ((a, (u : Int), (v : Int)), 0) else (zeroPlace, placeE (a, (u : Int), (v : Int)))
  |_, _ => (zeroPlace, 1)
 |_ => (zeroPlace, 1)
theorem placeWords_len {ws : List (List UInt8)} (h : ws.length ≠ 3) : placeWords ws = (zeroPlace, 1) := by
 unfold placeWords
 split
 ·simp at h
 ·rfl
theorem three {ws : List (List UInt8)} (h : ws.length = 3) : ∃ a b c, ws = [a, b, c] := by
 match ws, h with
 |[a, b, c], _ => exact ⟨a, b, c, rfl⟩
theorem strs3 {w : World} {A : Option Addr} {a b c : List UInt8} (h : StrsAt w A [a, b, c]) : ∃ bl o, A = some ⟨bl, o, none⟩ ∧ bl < w.heap.size ∧ w.cell? ⟨bl, o, none⟩ = some (.string ⟨a.toArray⟩) ∧ w.cell? ⟨bl, o + 1, none⟩ = some (.string ⟨b.toArray⟩) ∧ w.cell? ⟨bl, o + 2, none⟩ = some (.string ⟨c.toArray⟩) := by
 obtain ⟨bl, o, h1, h2, h3⟩ := h.resolve_left (by simp)
 exact ⟨bl, o, h1, h2, h3 0 (by simp), h3 1 (by simp), h3 2 (by simp)⟩
set_option maxHeartbeats 1600000 in
theorem placeRead_any (E : Nat → Addr) (s : ByteArray) (hs : s.size ≤ 1000000) (w : World) (hG : ReadG E w) :
  Calls Tryz.prog 146 #[.string s] w fun e w' => e = .returned (.tuple #[.agg (encPlace (placeWords (splitL 45 (bts s))).1).toArray, errOf E (placeWords (splitL 45 (bts s))).2]) ∧ Below w.heap.size w w' := by
 have HSP := Lib.hid (fun W (h : MaxG W) => split_any s 45 W (by omega) h)
 have hle := fun x (h : x ∈ splitL 45 (bts s)) => splitL_lens h
 generalize splitL 45 (bts s) = ws at HSP hle ⊢
 have hbl : (bts s).length = s.size := rfl
 rw [hbl] at hle
 have HG := Lib.hid hG
 clear hG hbl
 go_enter Tryz.func146, Tryz.ntmps146
 go_wp2_with fail
 have b0 := below_one w (.cells #[.string ⟨#[]⟩, .int .i64 0, .int .i64 0] 41)
 have hz0 : (w.alloc (.cells #[.string ⟨#[]⟩, .int .i64 0, .int .i64 0] 41)).heap[w.heap.size]? = some (.cells #[.string ⟨#[]⟩, .int .i64 0, .int .i64 0] 41 (0, 0)) := heap_alloc_new _ _
 have hG0 := HG.out.below b0
 obtain ⟨rb, hrb⟩ : ∃ rb, rb = w.heap.size := ⟨_, rfl⟩
 have HRB : Hid (w.heap.size ≤ rb) := by show _ ≤ _; omega
 rw [← hrb] at hz0 ⊢
 generalize w.alloc (.cells #[.string ⟨#[]⟩, .int .i64 0, .int .i64 0] 41) = W0 at b0 hz0 hG0 ⊢
 refine (HSP.out W0 hG0.maxl).mono ?_
 rintro e w1 ⟨A, cap, rfl, hS, -, bb1⟩
 have hz1 := (bb1.block rb (row_lt hz0)).trans hz0
 have HG1 := Lib.hid (hG0.below bb1)
 have B1 := Lib.hid (b0.trans (bb1.mono b0.size))
 have hg1 := HG1.out.text
 have lg := lt_of_cell hg1
 simp only at lg
 unfold ErrAt at hg1
 have hgrb : 1 ≠ rb := by have := lt_of_cell HG.out.text; simp only at this; omega
 clear bb1 hz0 b0 hG0 HSP HG hrb
 by_cases h4 : ws.length = 3
 ·obtain ⟨a, c, d, rfl⟩ := three h4
  have ha := hle a (by simp)
  have hcl := hle c (by simp)
  have hdl := hle d (by simp)
  have HW := Lib.hid (show placeWords [a, c, d] = match numQ c 4, numQ d 4 with
   |some u, some v => if placeE (a, (u : Int), (v : Int)) = 0 then ((a, (u : Int), (v : Int)), 0) else (zeroPlace, placeE (a, (u : Int), (v : Int)))
   |_, _ => (zeroPlace, 1) from rfl)
  obtain ⟨bl, o, rfl, hl, p0, p1, p2⟩ := strs3 hS
  have l4 : [a, c, d].length = 3 := rfl
  rw [l4]
  have hblr : bl < w1.heap.size := hl
  clear hS l4 hle h4
  go_wp2_with fail
  refine (numb_any c 4 (by omega) (by omega) _ HG1.out.tab HG1.out.atoi).mono ?_
  rintro e w2 ⟨u, rfl, hu, b2⟩
  have q0 := (b2.cell (p := ⟨_, _, none⟩) (lt_of_cell p0)).trans p0
  have q1 := (b2.cell (p := ⟨_, _, none⟩) (lt_of_cell p1)).trans p1
  have q2 := (b2.cell (p := ⟨_, _, none⟩) (lt_of_cell p2)).trans p2
  have hz2 := (b2.block rb (row_lt hz1)).trans hz1
  have hg2 := (b2.cell (p := ⟨_, 0, none⟩) lg).trans hg1
  have lg2 : 1 < w2.heap.size := Nat.lt_of_lt_of_le lg b2.size
  have B2 := Lib.hid (B1.out.trans (b2.mono B1.out.size))
  have HG2 := Lib.hid (HG1.out.below b2)
  have HU := Lib.hid hu
  clear b2 hu p0 p1 p2 hz1 hg1 lg B1 HG1 hl hblr
  go_wp2_with fail
  refine (numb_any d 4 (by omega) (by omega) _ HG2.out.tab HG2.out.atoi).mono ?_
  rintro e w3 ⟨v, rfl, hv, b3⟩
  have r0 := (b3.cell (p := ⟨_, _, none⟩) (lt_of_cell q0)).trans q0
  have r1 := (b3.cell (p := ⟨_, _, none⟩) (lt_of_cell q1)).trans q1
  have r2 := (b3.cell (p := ⟨_, _, none⟩) (lt_of_cell q2)).trans q2
  have hz3 := (b3.block rb (row_lt hz2)).trans hz2
  have hg3 := (b3.cell (p := ⟨_, 0, none⟩) lg2).trans hg2
  have B3 := Lib.hid (B2.out.trans (b3.mono B2.out.size))
  have HG3 := Lib.hid (HG2.out.below b3)
  have HV := Lib.hid hv
  clear b3 hv q0 q1 q2 hz2 hg2 lg2 B2 HG2
  cases hq : numQ c 4 with
  |none =>
   rw [hq] at HW
   have z0 : w3.cell? ⟨rb, 0, none⟩ = some (.string ⟨#[]⟩) := cell_of_row _ _ _ _ _ _ hz3
   have f0 := frozen_of_row w3 rb 0 _ _ hz3
   have z1 : w3.cell? ⟨rb, 1, none⟩ = some (.int .i64 0) := cell_of_row _ _ _ _ _ _ hz3
   have f1 := frozen_of_row w3 rb 1 _ _ hz3
   have z2 : w3.cell? ⟨rb, 2, none⟩ = some (.int .i64 0) := cell_of_row _ _ _ _ _ _ hz3
   have f2 := frozen_of_row w3 rb 2 _ _ hz3
   go_wp2_with fail
   go_region
   all_goals
    have hrow := puts_row [.string ⟨#[]⟩, .int .i64 0, .int .i64 0] hz3 rfl
    go_wp2_with fail
    (try simp only [Exit.inBlock, Exit.then])
    refine bodyPost_ret (results_cell_row2 rfl _ _ rb 41 #[.string ⟨#[]⟩, .int .i64 0, .int .i64 0] (0, 0) _ rfl hrow Tryz.underlying41 rfl (by kernel_rfl)) rfl ?_
    rw [HW.out]
    exact ⟨rfl, (puts_below HRB.out [.string ⟨#[]⟩, .int .i64 0, .int .i64 0] w3 0 B3.out).drew⟩
  |some uu =>
   have hu := HU.out uu hq
   subst hu
   rw [hq] at HW
   cases hq2 : numQ d 4 with
   |none =>
    rw [hq2] at HW
    have z0 : w3.cell? ⟨rb, 0, none⟩ = some (.string ⟨#[]⟩) := cell_of_row _ _ _ _ _ _ hz3
    have f0 := frozen_of_row w3 rb 0 _ _ hz3
    have z1 : w3.cell? ⟨rb, 1, none⟩ = some (.int .i64 0) := cell_of_row _ _ _ _ _ _ hz3
    have f1 := frozen_of_row w3 rb 1 _ _ hz3
    have z2 : w3.cell? ⟨rb, 2, none⟩ = some (.int .i64 0) := cell_of_row _ _ _ _ _ _ hz3
    have f2 := frozen_of_row w3 rb 2 _ _ hz3
    go_wp2_with fail
    go_region
    all_goals
     have hrow := puts_row [.string ⟨#[]⟩, .int .i64 0, .int .i64 0] hz3 rfl
     go_wp2_with fail
     (try simp only [Exit.inBlock, Exit.then])
     refine bodyPost_ret (results_cell_row2 rfl _ _ rb 41 #[.string ⟨#[]⟩, .int .i64 0, .int .i64 0] (0, 0) _ rfl hrow Tryz.underlying41 rfl (by kernel_rfl)) rfl ?_
     rw [HW.out]
     exact ⟨rfl, (puts_below HRB.out [.string ⟨#[]⟩, .int .i64 0, .int .i64 0] w3 0 B3.out).drew⟩
   |some vv =>
    have hv := HV.out vv hq2
    subst hv
    rw [hq2] at HW
    have HCK := Lib.hid (fun W h => checkPlace_any E (a, (uu : Int), (vv : Int)) W h)
    have hW := HW.out
    simp only at hW
    have HWW := Lib.hid hW
    clear HW hW hq hq2 HU HV
    generalize placeE (a, (uu : Int), (vv : Int)) = k at HCK HWW
    simp only [encPlace] at HCK
    have HZ3 := Lib.hid hz3
    have t0 := ((below_one w3 (.cells #[.string ⟨#[]⟩, .int .i64 0, .int .i64 0] 41)).cell (p := ⟨_, _, none⟩) (lt_of_cell r0)).trans r0
    have t1 := ((below_one w3 (.cells #[.string ⟨#[]⟩, .int .i64 0, .int .i64 0] 41)).cell (p := ⟨_, _, none⟩) (lt_of_cell r1)).trans r1
    have t2 := ((below_one w3 (.cells #[.string ⟨#[]⟩, .int .i64 0, .int .i64 0] 41)).cell (p := ⟨_, _, none⟩) (lt_of_cell r2)).trans r2
    go_wp2_with fail
    skip
    all_goals
     have b30 : Below w3.heap.size w3 (w3.alloc (.cells #[.string ⟨a.toArray⟩, .int .i64 (uu : Nat), .int .i64 (vv : Nat)] 41)) := (below_one _ _)
     have hx4 : (w3.alloc (.cells #[.string ⟨a.toArray⟩, .int .i64 (uu : Nat), .int .i64 (vv : Nat)] 41)).heap[w3.heap.size]? = some (.cells #[.string ⟨a.toArray⟩, .int .i64 (uu : Nat), .int .i64 (vv : Nat)] 41 (0, 0)) := heap_alloc_new w3 _
     refine (HCK.out _ (HG3.out.below b30).place).mono ?_
     rintro e w4 ⟨rfl, b4⟩
     have hz4 := (b4.block rb (by have := row_lt HZ3.out; simp; omega)).trans ((heap_alloc_old w3 _ (row_lt HZ3.out)).trans HZ3.out)
     have hx5 := (b4.block w3.heap.size (by simp)).trans hx4
     have v0 : w4.cell? ⟨w3.heap.size, 0, none⟩ = some (.string ⟨a.toArray⟩) := cell_of_row _ _ _ _ _ _ hx5
     have v1 : w4.cell? ⟨w3.heap.size, 1, none⟩ = some (.int .i64 (uu : Nat)) := cell_of_row _ _ _ _ _ _ hx5
     have v2 : w4.cell? ⟨w3.heap.size, 2, none⟩ = some (.int .i64 (vv : Nat)) := cell_of_row _ _ _ _ _ _ hx5
     have B4 := Lib.hid (B3.out.trans ((b30.trans (b4.mono b30.size)).mono B3.out.size))
     clear b4 b30 hx4 hx5 r0 t0 r1 t1 r2 t2 HCK
     by_cases h0 : k = 0
     ·subst h0
      rw [errOf_zero]
      have z0 : w4.cell? ⟨rb, 0, none⟩ = some (.string ⟨#[]⟩) := cell_of_row _ _ _ _ _ _ hz4
      have f0 := frozen_of_row w4 rb 0 _ _ hz4
      have z1 : w4.cell? ⟨rb, 1, none⟩ = some (.int .i64 0) := cell_of_row _ _ _ _ _ _ hz4
      have f1 := frozen_of_row w4 rb 1 _ _ hz4
      have z2 : w4.cell? ⟨rb, 2, none⟩ = some (.int .i64 0) := cell_of_row _ _ _ _ _ _ hz4
      have f2 := frozen_of_row w4 rb 2 _ _ hz4
      go_wp2_with fail
      have hrow := puts_row [.string ⟨a.toArray⟩, .int .i64 (uu : Nat), .int .i64 (vv : Nat)] hz4 rfl
      (try simp only [Exit.inBlock, Exit.then])
      refine bodyPost_ret (results_cell_row2 rfl _ _ rb 41 #[.string ⟨a.toArray⟩, .int .i64 (uu : Nat), .int .i64 (vv : Nat)] (0, 0) _ rfl hrow Tryz.underlying41 rfl (by kernel_rfl)) rfl ?_
      rw [HWW.out]
      exact ⟨rfl, (puts_below HRB.out [.string ⟨a.toArray⟩, .int .i64 (uu : Nat), .int .i64 (vv : Nat)] w4 0 B4.out)⟩
     ·rw [errOf_pos _ _ h0]
      have z0 : w4.cell? ⟨rb, 0, none⟩ = some (.string ⟨#[]⟩) := cell_of_row _ _ _ _ _ _ hz4
      have f0 := frozen_of_row w4 rb 0 _ _ hz4
      have z1 : w4.cell? ⟨rb, 1, none⟩ = some (.int .i64 0) := cell_of_row _ _ _ _ _ _ hz4
      have f1 := frozen_of_row w4 rb 1 _ _ hz4
      have z2 : w4.cell? ⟨rb, 2, none⟩ = some (.int .i64 0) := cell_of_row _ _ _ _ _ _ hz4
      have f2 := frozen_of_row w4 rb 2 _ _ hz4
      go_wp2_with fail
      have hrow := puts_row [.string ⟨#[]⟩, .int .i64 0, .int .i64 0] hz4 rfl
      (try simp only [Exit.inBlock, Exit.then])
      refine bodyPost_ret (results_cell_row2 rfl _ _ rb 41 #[.string ⟨#[]⟩, .int .i64 0, .int .i64 0] (0, 0) _ rfl hrow Tryz.underlying41 rfl (by kernel_rfl)) rfl ?_
      rw [HWW.out, if_neg h0, errOf_pos _ _ h0]
      exact ⟨rfl, (puts_below HRB.out [.string ⟨#[]⟩, .int .i64 0, .int .i64 0] w4 0 B4.out)⟩
 ·have HW0 := Lib.hid (placeWords_len h4)
  obtain ⟨n, hn⟩ : ∃ n, n = ws.length := ⟨_, rfl⟩
  rw [← hn] at h4 ⊢
  have h4' : ¬ (n : Int) = 3 := by omega
  clear hn
  have z0 : w1.cell? ⟨rb, 0, none⟩ = some (.string ⟨#[]⟩) := cell_of_row _ _ _ _ _ _ hz1
  have f0 := frozen_of_row w1 rb 0 _ _ hz1
  have z1 : w1.cell? ⟨rb, 1, none⟩ = some (.int .i64 0) := cell_of_row _ _ _ _ _ _ hz1
  have f1 := frozen_of_row w1 rb 1 _ _ hz1
  have z2 : w1.cell? ⟨rb, 2, none⟩ = some (.int .i64 0) := cell_of_row _ _ _ _ _ _ hz1
  have f2 := frozen_of_row w1 rb 2 _ _ hz1
  go_wp2_with fail
  go_region
  all_goals
   have hrow := puts_row [.string ⟨#[]⟩, .int .i64 0, .int .i64 0] hz1 rfl
   go_wp2_with fail
   (try simp only [Exit.inBlock, Exit.then])
   refine bodyPost_ret (results_cell_row2 rfl _ _ rb 41 #[.string ⟨#[]⟩, .int .i64 0, .int .i64 0] (0, 0) _ rfl hrow Tryz.underlying41 rfl (by kernel_rfl)) rfl ?_
   rw [HW0.out]
   exact ⟨rfl, (puts_below HRB.out [.string ⟨#[]⟩, .int .i64 0, .int .i64 0] w1 0 B1.out).drew⟩
end Go.Proofs.YteaalifehokgoaaGreatDoor
namespace Go.Proofs.YteaalifehokgoaaGreatDoor
open Go.RowKit
theorem own_cap {w : World} {B e size n cap : Nat} {A : Option Addr} {v : Value} {xs : List Value} (h : w.ownsRow B e size v n xs) (hv : v = .slice A n cap) : n ≤ cap := by
 subst hv
 rcases h.2 with ⟨h0, h1⟩ | ⟨g, cap', cur, h1, _, _, h2, _⟩
 ·omega
 ·cases h1
  exact h2
end Go.Proofs.YteaalifehokgoaaGreatDoor
namespace Go.Proofs.YteaalifehokgoaaGreatDoor
open Go.RowKit
theorem rowC {w : World} {b : Nat} {cs : Array Value} {t : TypeId} (h : w.heap[b]? = some (.cells cs t (0, 0))) (j : Nat) : w.cell? ⟨b, j, none⟩ = cs[j]? := cell_of_row _ _ _ _ _ _ h
theorem rowF {w : World} {b : Nat} {cs : Array Value} {t : TypeId} (h : w.heap[b]? = some (.cells cs t (0, 0))) (j : Nat) : w.frozen? ⟨b, j, none⟩ = false := frozen_of_row _ _ _ _ _ h
theorem row3f {w : World} {b : Nat} {u v x : Value} {t : TypeId} (h : w.heap[b]? = some (.cells #[u, v, x] t (0, 0))) :
  (w.cell? ⟨b, 0, none⟩ = some u ∧ w.cell? ⟨b, 1, none⟩ = some v ∧ w.cell? ⟨b, 2, none⟩ = some x) ∧ w.frozen? ⟨b, 0, none⟩ = false ∧ w.frozen? ⟨b, 1, none⟩ = false ∧ w.frozen? ⟨b, 2, none⟩ = false :=
 ⟨⟨rowC h 0, rowC h 1, rowC h 2⟩, rowF h 0, rowF h 1, rowF h 2⟩
theorem row5f {w : World} {b : Nat} {u v x y z : Value} {t : TypeId} (h : w.heap[b]? = some (.cells #[u, v, x, y, z] t (0, 0))) :
  (w.cell? ⟨b, 0, none⟩ = some u ∧ w.cell? ⟨b, 1, none⟩ = some v ∧ w.cell? ⟨b, 2, none⟩ = some x ∧ w.cell? ⟨b, 3, none⟩ = some y ∧ w.cell? ⟨b, 4, none⟩ = some z) ∧ w.frozen? ⟨b, 0, none⟩ = false ∧ w.frozen? ⟨b, 1, none⟩ = false ∧ w.frozen? ⟨b, 2, none⟩ = false ∧ w.frozen? ⟨b, 3, none⟩ = false ∧ w.frozen? ⟨b, 4, none⟩ = false :=
 ⟨⟨rowC h 0, rowC h 1, rowC h 2, rowC h 3, rowC h 4⟩, rowF h 0, rowF h 1, rowF h 2, rowF h 3, rowF h 4⟩
theorem wpList_store_box {P : Program} {ops : Array Oper} {rest : List Oper} {o : Oper} {a : Act} {w : World} {Q : Exit → Act → World → Prop} (hgd : o.guard = none) (ty : TypeId) (x y : Operand) (ho : o.op = .store ty x y) (b : Nat) (vs : List Value) (hx : a.eval x = .pointer (some ⟨b, 0, none⟩)) (hy : a.eval y = .agg vs.toArray)
  (t : TypeId) (L : List Value) (hb : w.heap[b]? = some (.cells L.toArray t (0, 0))) (hi : (P.info? ty).map (·.size) = some vs.length) (hl : L.length = vs.length) (h1 : ∀ v ∈ vs, v.oneCell' = true)
  (h : ∀ w', w'.heap[b]? = some (.cells vs.toArray t (0, 0)) → Turned b w w' → wpList P ops Q rest (a.put o.dst undef) w') : wpList P ops Q (o :: rest) a w :=
 wpList_store_at hgd ty x y ho b 0 vs hx hy t L hb hi (by omega) h1 fun w' hr ht => h w' (by rw [hr, Nat.zero_add, List.drop_of_length_le (Nat.le_of_eq hl)]; simp) ht
end Go.Proofs.YteaalifehokgoaaGreatDoor
namespace Go.Proofs.YteaalifehokgoaaGreatDoor
open Go.RowKit Go.Sort Go.Proofs
end Go.Proofs.YteaalifehokgoaaGreatDoor
