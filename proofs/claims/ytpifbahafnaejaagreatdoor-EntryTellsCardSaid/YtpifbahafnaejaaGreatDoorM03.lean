/- Lots read: lot.Read, the document's ReadLot. Places read: place.Read. Goods: Check. Words joined and split again, plainly; names and numerals hold neither blanks nor dashes. Entries, plainly: what is an error of one, its text, and that it is read as it was written. No program in sight. entry.formOf, walked. Kinds of entries, of the document: hasFrom, hasTo, IsKind. -/
import Derived.Test.YtpifbahafnaejaaGreatDoorM01
import Derived.Test.YtpifbahafnaejaaGreatDoorM02
namespace Go.Proofs.YtpifbahafnaejaaGreatDoor
open Go.RowKit Go.Sort Go.Proofs

/-- goods.Number, told in one. -/
theorem numb_any (l : List UInt8) (d : Nat) (hs : l.length ≤ 1000000000) (hd : d ≤ 18) (w : World) (hT : TabG w) (hA : AtoiG w) :
    Calls Tryz.prog 41 #[.string ⟨l.toArray⟩, .int .i64 d] w fun e w' => ∃ n : Int, e = .returned (.tuple #[.int .i64 n, .bool (numQ l d).isSome]) ∧ (∀ v, numQ l d = some v → n = v) ∧ Below w.heap.size w w' := by
  refine (number_any ⟨l.toArray⟩ d (by show l.toArray.size ≤ _; simp; omega) (by omega) w hT hA).mono ?_
  rintro e w' (⟨n, hq, -, rfl, hb⟩ | ⟨hq, m, -, -, rfl, hb⟩)
  · have hq : numQ l d = some n := hq
    refine ⟨n, by rw [hq]; rfl, fun v hv => ?_, hb⟩
    rw [hq] at hv; injection hv with hv; rw [hv]
  · have hq : numQ l d = none := hq
    refine ⟨m, by rw [hq]; rfl, fun v hv => ?_, hb⟩
    rw [hq] at hv; cases hv

/-- What the readers lean on. -/
structure ReadG (E : Nat → Addr) (w : World) : Prop where
  text : ErrAt 2 (E 1) w
  name : ErrAt 4 (E 5) w
  bound : ErrAt 3 (E 2) w
  tab : TabG w
  atoi : AtoiG w
  maxl : MaxG w
theorem ReadG.below {E : Nat → Addr} {w w' : World} (h : ReadG E w) (hb : Below w.heap.size w w') : ReadG E w' := ⟨h.text.below hb, h.name.below hb, h.bound.below hb, h.tab.below hb, h.atoi.below hb, h.maxl.below hb⟩
theorem ReadG.lot {E : Nat → Addr} {w : World} (h : ReadG E w) : LotG E w := ⟨h.name, h.bound, h.tab⟩

def zeroLot : LotV := ([], [], 0, 0)
/-- What reading a lot's words answers. -/
def lotWords (ws : List (List UInt8)) : LotV × Nat :=
  match ws with
  | [a, b, c, d] => match numQ c 9, numQ d 9 with
    | some u, some v => if lotE (a, b, (u : Int), (v : Int)) = 0 then ((a, b, (u : Int), (v : Int)), 0) else (zeroLot, lotE (a, b, (u : Int), (v : Int)))
    | _, _ => (zeroLot, 1)
  | _ => (zeroLot, 1)
theorem lotWords_len {ws : List (List UInt8)} (h : ws.length ≠ 4) : lotWords ws = (zeroLot, 1) := by
  unfold lotWords
  split
  · simp at h
  · rfl
theorem lotE_le (x : LotV) : lotE x ≤ 5 := by
  unfold lotE
  split
  · omega
  · split <;> omega
theorem lotWords_le (ws : List (List UInt8)) : (lotWords ws).2 ≤ 12 := by
  unfold lotWords
  split
  · split
    · rename_i u v _ _
      split
      · simp
      · exact Nat.le_trans (lotE_le _) (by omega)
    · simp
  · simp

theorem four {ws : List (List UInt8)} (h : ws.length = 4) : ∃ a b c d, ws = [a, b, c, d] := by
  match ws, h with
  | [a, b, c, d], _ => exact ⟨a, b, c, d, rfl⟩
theorem splitL_lens {c : UInt8} {l w : List UInt8} (h : w ∈ splitL c l) : w.length ≤ l.length := by
  induction l generalizing w with
  | nil => simp [splitL] at h; subst h; simp
  | cons x r ih =>
    rw [splitL] at h
    by_cases hx : x = c
    · rw [if_pos hx] at h
      rcases List.mem_cons.1 h with rfl | h
      · simp
      · have := ih h; simp; omega
    · rw [if_neg hx] at h
      cases hs : splitL c r with
      | nil => exact absurd hs (splitL_ne c r)
      | cons p q =>
        rw [hs] at h ih
        rcases List.mem_cons.1 h with rfl | h
        · have := ih (w := p) (by simp); simp; omega
        · have := ih (w := w) (by simp [h]); simp; omega

theorem strs4 {w : World} {A : Option Addr} {a b c d : List UInt8} (h : StrsAt w A [a, b, c, d]) : ∃ bl o, A = some ⟨bl, o, none⟩ ∧ bl < w.heap.size ∧ w.cell? ⟨bl, o, none⟩ = some (.string ⟨a.toArray⟩) ∧ w.cell? ⟨bl, o + 1, none⟩ = some (.string ⟨b.toArray⟩) ∧ w.cell? ⟨bl, o + 2, none⟩ = some (.string ⟨c.toArray⟩) ∧ w.cell? ⟨bl, o + 3, none⟩ = some (.string ⟨d.toArray⟩) := by
  obtain ⟨bl, o, h1, h2, h3⟩ := h.resolve_left (by simp)
  exact ⟨bl, o, h1, h2, h3 0 (by simp), h3 1 (by simp), h3 2 (by simp), h3 3 (by simp)⟩

set_option maxHeartbeats 1600000 in
theorem lotRead_any (E : Nat → Addr) (s : ByteArray) (hs : s.size ≤ 1000000) (w : World) (hG : ReadG E w) :
    Calls Tryz.prog 16 #[.string s] w fun e w' => e = .returned (.tuple #[.agg (encLot (lotWords (splitL 32 (bts s))).1).toArray, errOf E (lotWords (splitL 32 (bts s))).2]) ∧ Below w.heap.size w w' := by
  have HSP := Lib.hid (fun W (h : MaxG W) => split_any s 32 W (by omega) h)
  have hle := fun x (h : x ∈ splitL 32 (bts s)) => splitL_lens h
  generalize splitL 32 (bts s) = ws at HSP hle ⊢
  have hbl : (bts s).length = s.size := rfl
  rw [hbl] at hle
  have HG := Lib.hid hG
  clear hG hbl
  go_enter Tryz.func16, Tryz.ntmps16
  go_wp2_with fail
  have b0 := below_one w (.cells #[.string ⟨#[]⟩, .string ⟨#[]⟩, .int .i64 0, .int .i64 0] 25)
  have hz0 : (w.alloc (.cells #[.string ⟨#[]⟩, .string ⟨#[]⟩, .int .i64 0, .int .i64 0] 25)).heap[w.heap.size]? = some (.cells #[.string ⟨#[]⟩, .string ⟨#[]⟩, .int .i64 0, .int .i64 0] 25 (0, 0)) := heap_alloc_new _ _
  have hG0 := HG.out.below b0
  obtain ⟨rb, hrb⟩ : ∃ rb, rb = w.heap.size := ⟨_, rfl⟩
  have HRB : Hid (w.heap.size ≤ rb) := by show _ ≤ _; omega
  rw [← hrb] at hz0 ⊢
  generalize w.alloc (.cells #[.string ⟨#[]⟩, .string ⟨#[]⟩, .int .i64 0, .int .i64 0] 25) = W0 at b0 hz0 hG0 ⊢
  refine (HSP.out W0 hG0.maxl).mono ?_
  rintro e w1 ⟨A, cap, rfl, hS, -, bb1⟩
  have hz1 := (bb1.block rb (row_lt hz0)).trans hz0
  have HG1 := Lib.hid (hG0.below bb1)
  have B1 := Lib.hid (b0.trans (bb1.mono b0.size))
  have hg1 := HG1.out.text
  have lg := lt_of_cell hg1
  simp only at lg
  unfold ErrAt at hg1
  have hgrb : 2 ≠ rb := by have := lt_of_cell HG.out.text; simp only at this; omega
  clear bb1 hz0 b0 hG0 HSP HG hrb
  by_cases h4 : ws.length = 4
  · obtain ⟨a, b, c, d, rfl⟩ := four h4
    have ha := hle a (by simp)
    have hb := hle b (by simp)
    have hcl := hle c (by simp)
    have hdl := hle d (by simp)
    have HW := Lib.hid (show lotWords [a, b, c, d] = match numQ c 9, numQ d 9 with
      | some u, some v => if lotE (a, b, (u : Int), (v : Int)) = 0 then ((a, b, (u : Int), (v : Int)), 0) else (zeroLot, lotE (a, b, (u : Int), (v : Int)))
      | _, _ => (zeroLot, 1) from rfl)
    obtain ⟨bl, o, rfl, hl, p0, p1, p2, p3⟩ := strs4 hS
    have l4 : [a, b, c, d].length = 4 := rfl
    rw [l4]
    have hblr : bl < w1.heap.size := hl
    clear hS l4 hle h4
    go_wp2_with fail
    refine (numb_any c 9 (by omega) (by omega) _ HG1.out.tab HG1.out.atoi).mono ?_
    rintro e w2 ⟨u, rfl, hu, b2⟩
    have q0 := (b2.cell (p := ⟨_, _, none⟩) (lt_of_cell p0)).trans p0
    have q1 := (b2.cell (p := ⟨_, _, none⟩) (lt_of_cell p1)).trans p1
    have q2 := (b2.cell (p := ⟨_, _, none⟩) (lt_of_cell p2)).trans p2
    have q3 := (b2.cell (p := ⟨_, _, none⟩) (lt_of_cell p3)).trans p3
    have hz2 := (b2.block rb (row_lt hz1)).trans hz1
    have hg2 := (b2.cell (p := ⟨_, 0, none⟩) lg).trans hg1
    have lg2 : 2 < w2.heap.size := Nat.lt_of_lt_of_le lg b2.size
    have B2 := Lib.hid (B1.out.trans (b2.mono B1.out.size))
    have HG2 := Lib.hid (HG1.out.below b2)
    have HU := Lib.hid hu
    clear b2 hu p0 p1 p2 p3 hz1 hg1 lg B1 HG1 hl hblr
    go_wp2_with fail
    refine (numb_any d 9 (by omega) (by omega) _ HG2.out.tab HG2.out.atoi).mono ?_
    rintro e w3 ⟨v, rfl, hv, b3⟩
    have r0 := (b3.cell (p := ⟨_, _, none⟩) (lt_of_cell q0)).trans q0
    have r1 := (b3.cell (p := ⟨_, _, none⟩) (lt_of_cell q1)).trans q1
    have r2 := (b3.cell (p := ⟨_, _, none⟩) (lt_of_cell q2)).trans q2
    have r3 := (b3.cell (p := ⟨_, _, none⟩) (lt_of_cell q3)).trans q3
    have hz3 := (b3.block rb (row_lt hz2)).trans hz2
    have hg3 := (b3.cell (p := ⟨_, 0, none⟩) lg2).trans hg2
    have B3 := Lib.hid (B2.out.trans (b3.mono B2.out.size))
    have HG3 := Lib.hid (HG2.out.below b3)
    have HV := Lib.hid hv
    clear b3 hv q0 q1 q2 q3 hz2 hg2 lg2 B2 HG2
    cases hq : numQ c 9 with
    | none =>
      rw [hq] at HW
      have z0 : w3.cell? ⟨rb, 0, none⟩ = some (.string ⟨#[]⟩) := cell_of_row _ _ _ _ _ _ hz3
      have f0 := frozen_of_row w3 rb 0 _ _ hz3
      have z1 : w3.cell? ⟨rb, 1, none⟩ = some (.string ⟨#[]⟩) := cell_of_row _ _ _ _ _ _ hz3
      have f1 := frozen_of_row w3 rb 1 _ _ hz3
      have z2 : w3.cell? ⟨rb, 2, none⟩ = some (.int .i64 0) := cell_of_row _ _ _ _ _ _ hz3
      have f2 := frozen_of_row w3 rb 2 _ _ hz3
      have z3 : w3.cell? ⟨rb, 3, none⟩ = some (.int .i64 0) := cell_of_row _ _ _ _ _ _ hz3
      have f3 := frozen_of_row w3 rb 3 _ _ hz3
      go_wp2_with fail
      go_region
      all_goals
        have hrow := puts_row [.string ⟨#[]⟩, .string ⟨#[]⟩, .int .i64 0, .int .i64 0] hz3 rfl
        go_wp2_with fail
        (try simp only [Exit.inBlock, Exit.then])
        refine bodyPost_ret (results_cell_row2 rfl _ _ rb 25 #[.string ⟨#[]⟩, .string ⟨#[]⟩, .int .i64 0, .int .i64 0] (0, 0) _ rfl hrow Tryz.underlying25 rfl (by kernel_rfl)) rfl ?_
        rw [HW.out]
        exact ⟨rfl, (puts_below HRB.out [.string ⟨#[]⟩, .string ⟨#[]⟩, .int .i64 0, .int .i64 0] w3 0 B3.out).drew⟩
    | some uu =>
      have hu := HU.out uu hq
      subst hu
      rw [hq] at HW
      cases hq2 : numQ d 9 with
      | none =>
        rw [hq2] at HW
        have z0 : w3.cell? ⟨rb, 0, none⟩ = some (.string ⟨#[]⟩) := cell_of_row _ _ _ _ _ _ hz3
        have f0 := frozen_of_row w3 rb 0 _ _ hz3
        have z1 : w3.cell? ⟨rb, 1, none⟩ = some (.string ⟨#[]⟩) := cell_of_row _ _ _ _ _ _ hz3
        have f1 := frozen_of_row w3 rb 1 _ _ hz3
        have z2 : w3.cell? ⟨rb, 2, none⟩ = some (.int .i64 0) := cell_of_row _ _ _ _ _ _ hz3
        have f2 := frozen_of_row w3 rb 2 _ _ hz3
        have z3 : w3.cell? ⟨rb, 3, none⟩ = some (.int .i64 0) := cell_of_row _ _ _ _ _ _ hz3
        have f3 := frozen_of_row w3 rb 3 _ _ hz3
        go_wp2_with fail
        go_region
        all_goals
          have hrow := puts_row [.string ⟨#[]⟩, .string ⟨#[]⟩, .int .i64 0, .int .i64 0] hz3 rfl
          go_wp2_with fail
          (try simp only [Exit.inBlock, Exit.then])
          refine bodyPost_ret (results_cell_row2 rfl _ _ rb 25 #[.string ⟨#[]⟩, .string ⟨#[]⟩, .int .i64 0, .int .i64 0] (0, 0) _ rfl hrow Tryz.underlying25 rfl (by kernel_rfl)) rfl ?_
          rw [HW.out]
          exact ⟨rfl, (puts_below HRB.out [.string ⟨#[]⟩, .string ⟨#[]⟩, .int .i64 0, .int .i64 0] w3 0 B3.out).drew⟩
      | some vv =>
        have hv := HV.out vv hq2
        subst hv
        rw [hq2] at HW
        have HCK := Lib.hid (fun W h => checkLot_any E (a, b, (uu : Int), (vv : Int)) (by show a.length ≤ _; omega) (by show b.length ≤ _; omega) W h)
        have hW := HW.out
        simp only at hW
        have HWW := Lib.hid hW
        clear HW hW hq hq2 HU HV
        generalize lotE (a, b, (uu : Int), (vv : Int)) = k at HCK HWW
        simp only [encLot] at HCK
        have HZ3 := Lib.hid hz3
        have t0 := ((below_one w3 (.cells #[.string ⟨#[]⟩, .string ⟨#[]⟩, .int .i64 0, .int .i64 0] 25)).cell (p := ⟨_, _, none⟩) (lt_of_cell r0)).trans r0
        have t1 := ((below_one w3 (.cells #[.string ⟨#[]⟩, .string ⟨#[]⟩, .int .i64 0, .int .i64 0] 25)).cell (p := ⟨_, _, none⟩) (lt_of_cell r1)).trans r1
        have t2 := ((below_one w3 (.cells #[.string ⟨#[]⟩, .string ⟨#[]⟩, .int .i64 0, .int .i64 0] 25)).cell (p := ⟨_, _, none⟩) (lt_of_cell r2)).trans r2
        have t3 := ((below_one w3 (.cells #[.string ⟨#[]⟩, .string ⟨#[]⟩, .int .i64 0, .int .i64 0] 25)).cell (p := ⟨_, _, none⟩) (lt_of_cell r3)).trans r3
        go_wp2_with fail
        go_region
        all_goals
          have b30 : Below w3.heap.size w3 (w3.alloc (.cells #[.string ⟨a.toArray⟩, .string ⟨b.toArray⟩, .int .i64 (uu : Nat), .int .i64 (vv : Nat)] 25)).drew := (below_one _ _).drew
          have hx4 : (w3.alloc (.cells #[.string ⟨a.toArray⟩, .string ⟨b.toArray⟩, .int .i64 (uu : Nat), .int .i64 (vv : Nat)] 25)).drew.heap[w3.heap.size]? = some (.cells #[.string ⟨a.toArray⟩, .string ⟨b.toArray⟩, .int .i64 (uu : Nat), .int .i64 (vv : Nat)] 25 (0, 0)) := heap_alloc_new w3 _
          go_wp2_with fail
          refine (HCK.out _ (HG3.out.below b30).lot).mono ?_
          rintro e w4 ⟨rfl, b4⟩
          have hz4 := (b4.block rb (by have := row_lt HZ3.out; simp; omega)).trans ((heap_alloc_old w3 _ (row_lt HZ3.out)).trans HZ3.out)
          have hx5 := (b4.block w3.heap.size (by simp)).trans hx4
          have v0 : w4.cell? ⟨w3.heap.size, 0, none⟩ = some (.string ⟨a.toArray⟩) := cell_of_row _ _ _ _ _ _ hx5
          have v1 : w4.cell? ⟨w3.heap.size, 1, none⟩ = some (.string ⟨b.toArray⟩) := cell_of_row _ _ _ _ _ _ hx5
          have v2 : w4.cell? ⟨w3.heap.size, 2, none⟩ = some (.int .i64 (uu : Nat)) := cell_of_row _ _ _ _ _ _ hx5
          have v3 : w4.cell? ⟨w3.heap.size, 3, none⟩ = some (.int .i64 (vv : Nat)) := cell_of_row _ _ _ _ _ _ hx5
          have B4 := Lib.hid (B3.out.trans ((b30.trans (b4.mono b30.size)).mono B3.out.size))
          clear b4 b30 hx4 hx5 r0 t0 r1 t1 r2 t2 r3 t3 HCK
          by_cases h0 : k = 0
          · subst h0
            rw [errOf_zero]
            have z0 : w4.cell? ⟨rb, 0, none⟩ = some (.string ⟨#[]⟩) := cell_of_row _ _ _ _ _ _ hz4
            have f0 := frozen_of_row w4 rb 0 _ _ hz4
            have z1 : w4.cell? ⟨rb, 1, none⟩ = some (.string ⟨#[]⟩) := cell_of_row _ _ _ _ _ _ hz4
            have f1 := frozen_of_row w4 rb 1 _ _ hz4
            have z2 : w4.cell? ⟨rb, 2, none⟩ = some (.int .i64 0) := cell_of_row _ _ _ _ _ _ hz4
            have f2 := frozen_of_row w4 rb 2 _ _ hz4
            have z3 : w4.cell? ⟨rb, 3, none⟩ = some (.int .i64 0) := cell_of_row _ _ _ _ _ _ hz4
            have f3 := frozen_of_row w4 rb 3 _ _ hz4
            go_wp2_with fail
            have hrow := puts_row [.string ⟨a.toArray⟩, .string ⟨b.toArray⟩, .int .i64 (uu : Nat), .int .i64 (vv : Nat)] hz4 rfl
            (try simp only [Exit.inBlock, Exit.then])
            refine bodyPost_ret (results_cell_row2 rfl _ _ rb 25 #[.string ⟨a.toArray⟩, .string ⟨b.toArray⟩, .int .i64 (uu : Nat), .int .i64 (vv : Nat)] (0, 0) _ rfl hrow Tryz.underlying25 rfl (by kernel_rfl)) rfl ?_
            rw [HWW.out]
            exact ⟨rfl, (puts_below HRB.out [.string ⟨a.toArray⟩, .string ⟨b.toArray⟩, .int .i64 (uu : Nat), .int .i64 (vv : Nat)] w4 0 B4.out)⟩
          · rw [errOf_pos _ _ h0]
            have z0 : w4.cell? ⟨rb, 0, none⟩ = some (.string ⟨#[]⟩) := cell_of_row _ _ _ _ _ _ hz4
            have f0 := frozen_of_row w4 rb 0 _ _ hz4
            have z1 : w4.cell? ⟨rb, 1, none⟩ = some (.string ⟨#[]⟩) := cell_of_row _ _ _ _ _ _ hz4
            have f1 := frozen_of_row w4 rb 1 _ _ hz4
            have z2 : w4.cell? ⟨rb, 2, none⟩ = some (.int .i64 0) := cell_of_row _ _ _ _ _ _ hz4
            have f2 := frozen_of_row w4 rb 2 _ _ hz4
            have z3 : w4.cell? ⟨rb, 3, none⟩ = some (.int .i64 0) := cell_of_row _ _ _ _ _ _ hz4
            have f3 := frozen_of_row w4 rb 3 _ _ hz4
            go_wp2_with fail
            have hrow := puts_row [.string ⟨#[]⟩, .string ⟨#[]⟩, .int .i64 0, .int .i64 0] hz4 rfl
            (try simp only [Exit.inBlock, Exit.then])
            refine bodyPost_ret (results_cell_row2 rfl _ _ rb 25 #[.string ⟨#[]⟩, .string ⟨#[]⟩, .int .i64 0, .int .i64 0] (0, 0) _ rfl hrow Tryz.underlying25 rfl (by kernel_rfl)) rfl ?_
            rw [HWW.out, if_neg h0, errOf_pos _ _ h0]
            exact ⟨rfl, (puts_below HRB.out [.string ⟨#[]⟩, .string ⟨#[]⟩, .int .i64 0, .int .i64 0] w4 0 B4.out)⟩
  · have HW0 := Lib.hid (lotWords_len h4)
    obtain ⟨n, hn⟩ : ∃ n, n = ws.length := ⟨_, rfl⟩
    rw [← hn] at h4 ⊢
    have h4' : ¬ (n : Int) = 4 := by omega
    clear hn
    have z0 : w1.cell? ⟨rb, 0, none⟩ = some (.string ⟨#[]⟩) := cell_of_row _ _ _ _ _ _ hz1
    have f0 := frozen_of_row w1 rb 0 _ _ hz1
    have z1 : w1.cell? ⟨rb, 1, none⟩ = some (.string ⟨#[]⟩) := cell_of_row _ _ _ _ _ _ hz1
    have f1 := frozen_of_row w1 rb 1 _ _ hz1
    have z2 : w1.cell? ⟨rb, 2, none⟩ = some (.int .i64 0) := cell_of_row _ _ _ _ _ _ hz1
    have f2 := frozen_of_row w1 rb 2 _ _ hz1
    have z3 : w1.cell? ⟨rb, 3, none⟩ = some (.int .i64 0) := cell_of_row _ _ _ _ _ _ hz1
    have f3 := frozen_of_row w1 rb 3 _ _ hz1
    go_wp2_with fail
    go_region
    all_goals
      have hrow := puts_row [.string ⟨#[]⟩, .string ⟨#[]⟩, .int .i64 0, .int .i64 0] hz1 rfl
      go_wp2_with fail
      (try simp only [Exit.inBlock, Exit.then])
      refine bodyPost_ret (results_cell_row2 rfl _ _ rb 25 #[.string ⟨#[]⟩, .string ⟨#[]⟩, .int .i64 0, .int .i64 0] (0, 0) _ rfl hrow Tryz.underlying25 rfl (by kernel_rfl)) rfl ?_
      rw [HW0.out]
      exact ⟨rfl, (puts_below HRB.out [.string ⟨#[]⟩, .string ⟨#[]⟩, .int .i64 0, .int .i64 0] w1 0 B1.out).drew⟩
end Go.Proofs.YtpifbahafnaejaaGreatDoor
namespace Go.Proofs.YtpifbahafnaejaaGreatDoor
open Go.RowKit Go.Sort Go.Proofs

theorem ReadG.place {E : Nat → Addr} {w : World} (h : ReadG E w) : PlaceG E w := ⟨h.name, h.bound, h.tab⟩
def zeroPlace : PlaceV := ([], 0, 0)
/-- What reading a place's words answers. -/
def placeWords (ws : List (List UInt8)) : PlaceV × Nat :=
  match ws with
  | [a, c, d] => match numQ c 4, numQ d 4 with
    | some u, some v => if placeE (a, (u : Int), (v : Int)) = 0 then ((a, (u : Int), (v : Int)), 0) else (zeroPlace, placeE (a, (u : Int), (v : Int)))
    | _, _ => (zeroPlace, 1)
  | _ => (zeroPlace, 1)
theorem placeWords_len {ws : List (List UInt8)} (h : ws.length ≠ 3) : placeWords ws = (zeroPlace, 1) := by
  unfold placeWords
  split
  · simp at h
  · rfl
theorem placeE_le (x : PlaceV) : placeE x ≤ 5 := by
  unfold placeE
  split
  · omega
  · split <;> omega
theorem placeWords_le (ws : List (List UInt8)) : (placeWords ws).2 ≤ 12 := by
  unfold placeWords
  split
  · split
    · rename_i u v _ _
      split
      · simp
      · exact Nat.le_trans (placeE_le _) (by omega)
    · simp
  · simp
theorem three {ws : List (List UInt8)} (h : ws.length = 3) : ∃ a b c, ws = [a, b, c] := by
  match ws, h with
  | [a, b, c], _ => exact ⟨a, b, c, rfl⟩
theorem strs3 {w : World} {A : Option Addr} {a b c : List UInt8} (h : StrsAt w A [a, b, c]) : ∃ bl o, A = some ⟨bl, o, none⟩ ∧ bl < w.heap.size ∧ w.cell? ⟨bl, o, none⟩ = some (.string ⟨a.toArray⟩) ∧ w.cell? ⟨bl, o + 1, none⟩ = some (.string ⟨b.toArray⟩) ∧ w.cell? ⟨bl, o + 2, none⟩ = some (.string ⟨c.toArray⟩) := by
  obtain ⟨bl, o, h1, h2, h3⟩ := h.resolve_left (by simp)
  exact ⟨bl, o, h1, h2, h3 0 (by simp), h3 1 (by simp), h3 2 (by simp)⟩

set_option maxHeartbeats 1600000 in
theorem placeRead_any (E : Nat → Addr) (s : ByteArray) (hs : s.size ≤ 1000000) (w : World) (hG : ReadG E w) :
    Calls Tryz.prog 45 #[.string s] w fun e w' => e = .returned (.tuple #[.agg (encPlace (placeWords (splitL 45 (bts s))).1).toArray, errOf E (placeWords (splitL 45 (bts s))).2]) ∧ Below w.heap.size w w' := by
  have HSP := Lib.hid (fun W (h : MaxG W) => split_any s 45 W (by omega) h)
  have hle := fun x (h : x ∈ splitL 45 (bts s)) => splitL_lens h
  generalize splitL 45 (bts s) = ws at HSP hle ⊢
  have hbl : (bts s).length = s.size := rfl
  rw [hbl] at hle
  have HG := Lib.hid hG
  clear hG hbl
  go_enter Tryz.func45, Tryz.ntmps45
  go_wp2_with fail
  have b0 := below_one w (.cells #[.string ⟨#[]⟩, .int .i64 0, .int .i64 0] 27)
  have hz0 : (w.alloc (.cells #[.string ⟨#[]⟩, .int .i64 0, .int .i64 0] 27)).heap[w.heap.size]? = some (.cells #[.string ⟨#[]⟩, .int .i64 0, .int .i64 0] 27 (0, 0)) := heap_alloc_new _ _
  have hG0 := HG.out.below b0
  obtain ⟨rb, hrb⟩ : ∃ rb, rb = w.heap.size := ⟨_, rfl⟩
  have HRB : Hid (w.heap.size ≤ rb) := by show _ ≤ _; omega
  rw [← hrb] at hz0 ⊢
  generalize w.alloc (.cells #[.string ⟨#[]⟩, .int .i64 0, .int .i64 0] 27) = W0 at b0 hz0 hG0 ⊢
  refine (HSP.out W0 hG0.maxl).mono ?_
  rintro e w1 ⟨A, cap, rfl, hS, -, bb1⟩
  have hz1 := (bb1.block rb (row_lt hz0)).trans hz0
  have HG1 := Lib.hid (hG0.below bb1)
  have B1 := Lib.hid (b0.trans (bb1.mono b0.size))
  have hg1 := HG1.out.text
  have lg := lt_of_cell hg1
  simp only at lg
  unfold ErrAt at hg1
  have hgrb : 2 ≠ rb := by have := lt_of_cell HG.out.text; simp only at this; omega
  clear bb1 hz0 b0 hG0 HSP HG hrb
  by_cases h4 : ws.length = 3
  · obtain ⟨a, c, d, rfl⟩ := three h4
    have ha := hle a (by simp)
    have hcl := hle c (by simp)
    have hdl := hle d (by simp)
    have HW := Lib.hid (show placeWords [a, c, d] = match numQ c 4, numQ d 4 with
      | some u, some v => if placeE (a, (u : Int), (v : Int)) = 0 then ((a, (u : Int), (v : Int)), 0) else (zeroPlace, placeE (a, (u : Int), (v : Int)))
      | _, _ => (zeroPlace, 1) from rfl)
    obtain ⟨bl, o, rfl, hl, p0, p1, p2⟩ := strs3 hS
    have l4 : [a, c, d].length = 3 := rfl
    rw [l4]
    have hblr : bl < w1.heap.size := hl
    clear hS l4 hle h4
    go_wp2_with fail
    refine (numb_any c 4 (by omega) (by omega) _ HG1.out.tab HG1.out.atoi).mono ?_
    rintro e w2 ⟨u, rfl, hu, b2⟩
    have q0 := (b2.cell (p := ⟨_, _, none⟩) (lt_of_cell p0)).trans p0
    have q1 := (b2.cell (p := ⟨_, _, none⟩) (lt_of_cell p1)).trans p1
    have q2 := (b2.cell (p := ⟨_, _, none⟩) (lt_of_cell p2)).trans p2
    have hz2 := (b2.block rb (row_lt hz1)).trans hz1
    have hg2 := (b2.cell (p := ⟨_, 0, none⟩) lg).trans hg1
    have lg2 : 2 < w2.heap.size := Nat.lt_of_lt_of_le lg b2.size
    have B2 := Lib.hid (B1.out.trans (b2.mono B1.out.size))
    have HG2 := Lib.hid (HG1.out.below b2)
    have HU := Lib.hid hu
    clear b2 hu p0 p1 p2 hz1 hg1 lg B1 HG1 hl hblr
    go_wp2_with fail
    refine (numb_any d 4 (by omega) (by omega) _ HG2.out.tab HG2.out.atoi).mono ?_
    rintro e w3 ⟨v, rfl, hv, b3⟩
    have r0 := (b3.cell (p := ⟨_, _, none⟩) (lt_of_cell q0)).trans q0
    have r1 := (b3.cell (p := ⟨_, _, none⟩) (lt_of_cell q1)).trans q1
    have r2 := (b3.cell (p := ⟨_, _, none⟩) (lt_of_cell q2)).trans q2
    have hz3 := (b3.block rb (row_lt hz2)).trans hz2
    have hg3 := (b3.cell (p := ⟨_, 0, none⟩) lg2).trans hg2
    have B3 := Lib.hid (B2.out.trans (b3.mono B2.out.size))
    have HG3 := Lib.hid (HG2.out.below b3)
    have HV := Lib.hid hv
    clear b3 hv q0 q1 q2 hz2 hg2 lg2 B2 HG2
    cases hq : numQ c 4 with
    | none =>
      rw [hq] at HW
      have z0 : w3.cell? ⟨rb, 0, none⟩ = some (.string ⟨#[]⟩) := cell_of_row _ _ _ _ _ _ hz3
      have f0 := frozen_of_row w3 rb 0 _ _ hz3
      have z1 : w3.cell? ⟨rb, 1, none⟩ = some (.int .i64 0) := cell_of_row _ _ _ _ _ _ hz3
      have f1 := frozen_of_row w3 rb 1 _ _ hz3
      have z2 : w3.cell? ⟨rb, 2, none⟩ = some (.int .i64 0) := cell_of_row _ _ _ _ _ _ hz3
      have f2 := frozen_of_row w3 rb 2 _ _ hz3
      go_wp2_with fail
      go_region
      all_goals
        have hrow := puts_row [.string ⟨#[]⟩, .int .i64 0, .int .i64 0] hz3 rfl
        go_wp2_with fail
        (try simp only [Exit.inBlock, Exit.then])
        refine bodyPost_ret (results_cell_row2 rfl _ _ rb 27 #[.string ⟨#[]⟩, .int .i64 0, .int .i64 0] (0, 0) _ rfl hrow Tryz.underlying27 rfl (by kernel_rfl)) rfl ?_
        rw [HW.out]
        exact ⟨rfl, (puts_below HRB.out [.string ⟨#[]⟩, .int .i64 0, .int .i64 0] w3 0 B3.out).drew⟩
    | some uu =>
      have hu := HU.out uu hq
      subst hu
      rw [hq] at HW
      cases hq2 : numQ d 4 with
      | none =>
        rw [hq2] at HW
        have z0 : w3.cell? ⟨rb, 0, none⟩ = some (.string ⟨#[]⟩) := cell_of_row _ _ _ _ _ _ hz3
        have f0 := frozen_of_row w3 rb 0 _ _ hz3
        have z1 : w3.cell? ⟨rb, 1, none⟩ = some (.int .i64 0) := cell_of_row _ _ _ _ _ _ hz3
        have f1 := frozen_of_row w3 rb 1 _ _ hz3
        have z2 : w3.cell? ⟨rb, 2, none⟩ = some (.int .i64 0) := cell_of_row _ _ _ _ _ _ hz3
        have f2 := frozen_of_row w3 rb 2 _ _ hz3
        go_wp2_with fail
        go_region
        all_goals
          have hrow := puts_row [.string ⟨#[]⟩, .int .i64 0, .int .i64 0] hz3 rfl
          go_wp2_with fail
          (try simp only [Exit.inBlock, Exit.then])
          refine bodyPost_ret (results_cell_row2 rfl _ _ rb 27 #[.string ⟨#[]⟩, .int .i64 0, .int .i64 0] (0, 0) _ rfl hrow Tryz.underlying27 rfl (by kernel_rfl)) rfl ?_
          rw [HW.out]
          exact ⟨rfl, (puts_below HRB.out [.string ⟨#[]⟩, .int .i64 0, .int .i64 0] w3 0 B3.out).drew⟩
      | some vv =>
        have hv := HV.out vv hq2
        subst hv
        rw [hq2] at HW
        have HCK := Lib.hid (fun W h => checkPlace_any E (a, (uu : Int), (vv : Int)) W h)
        have hW := HW.out
        simp only at hW
        have HWW := Lib.hid hW
        clear HW hW hq hq2 HU HV
        generalize placeE (a, (uu : Int), (vv : Int)) = k at HCK HWW
        simp only [encPlace] at HCK
        have HZ3 := Lib.hid hz3
        have t0 := ((below_one w3 (.cells #[.string ⟨#[]⟩, .int .i64 0, .int .i64 0] 27)).cell (p := ⟨_, _, none⟩) (lt_of_cell r0)).trans r0
        have t1 := ((below_one w3 (.cells #[.string ⟨#[]⟩, .int .i64 0, .int .i64 0] 27)).cell (p := ⟨_, _, none⟩) (lt_of_cell r1)).trans r1
        have t2 := ((below_one w3 (.cells #[.string ⟨#[]⟩, .int .i64 0, .int .i64 0] 27)).cell (p := ⟨_, _, none⟩) (lt_of_cell r2)).trans r2
        go_wp2_with fail
        skip
        all_goals
          have b30 : Below w3.heap.size w3 (w3.alloc (.cells #[.string ⟨a.toArray⟩, .int .i64 (uu : Nat), .int .i64 (vv : Nat)] 27)) := (below_one _ _)
          have hx4 : (w3.alloc (.cells #[.string ⟨a.toArray⟩, .int .i64 (uu : Nat), .int .i64 (vv : Nat)] 27)).heap[w3.heap.size]? = some (.cells #[.string ⟨a.toArray⟩, .int .i64 (uu : Nat), .int .i64 (vv : Nat)] 27 (0, 0)) := heap_alloc_new w3 _
          refine (HCK.out _ (HG3.out.below b30).place).mono ?_
          rintro e w4 ⟨rfl, b4⟩
          have hz4 := (b4.block rb (by have := row_lt HZ3.out; simp; omega)).trans ((heap_alloc_old w3 _ (row_lt HZ3.out)).trans HZ3.out)
          have hx5 := (b4.block w3.heap.size (by simp)).trans hx4
          have v0 : w4.cell? ⟨w3.heap.size, 0, none⟩ = some (.string ⟨a.toArray⟩) := cell_of_row _ _ _ _ _ _ hx5
          have v1 : w4.cell? ⟨w3.heap.size, 1, none⟩ = some (.int .i64 (uu : Nat)) := cell_of_row _ _ _ _ _ _ hx5
          have v2 : w4.cell? ⟨w3.heap.size, 2, none⟩ = some (.int .i64 (vv : Nat)) := cell_of_row _ _ _ _ _ _ hx5
          have B4 := Lib.hid (B3.out.trans ((b30.trans (b4.mono b30.size)).mono B3.out.size))
          clear b4 b30 hx4 hx5 r0 t0 r1 t1 r2 t2 HCK
          by_cases h0 : k = 0
          · subst h0
            rw [errOf_zero]
            have z0 : w4.cell? ⟨rb, 0, none⟩ = some (.string ⟨#[]⟩) := cell_of_row _ _ _ _ _ _ hz4
            have f0 := frozen_of_row w4 rb 0 _ _ hz4
            have z1 : w4.cell? ⟨rb, 1, none⟩ = some (.int .i64 0) := cell_of_row _ _ _ _ _ _ hz4
            have f1 := frozen_of_row w4 rb 1 _ _ hz4
            have z2 : w4.cell? ⟨rb, 2, none⟩ = some (.int .i64 0) := cell_of_row _ _ _ _ _ _ hz4
            have f2 := frozen_of_row w4 rb 2 _ _ hz4
            go_wp2_with fail
            have hrow := puts_row [.string ⟨a.toArray⟩, .int .i64 (uu : Nat), .int .i64 (vv : Nat)] hz4 rfl
            (try simp only [Exit.inBlock, Exit.then])
            refine bodyPost_ret (results_cell_row2 rfl _ _ rb 27 #[.string ⟨a.toArray⟩, .int .i64 (uu : Nat), .int .i64 (vv : Nat)] (0, 0) _ rfl hrow Tryz.underlying27 rfl (by kernel_rfl)) rfl ?_
            rw [HWW.out]
            exact ⟨rfl, (puts_below HRB.out [.string ⟨a.toArray⟩, .int .i64 (uu : Nat), .int .i64 (vv : Nat)] w4 0 B4.out)⟩
          · rw [errOf_pos _ _ h0]
            have z0 : w4.cell? ⟨rb, 0, none⟩ = some (.string ⟨#[]⟩) := cell_of_row _ _ _ _ _ _ hz4
            have f0 := frozen_of_row w4 rb 0 _ _ hz4
            have z1 : w4.cell? ⟨rb, 1, none⟩ = some (.int .i64 0) := cell_of_row _ _ _ _ _ _ hz4
            have f1 := frozen_of_row w4 rb 1 _ _ hz4
            have z2 : w4.cell? ⟨rb, 2, none⟩ = some (.int .i64 0) := cell_of_row _ _ _ _ _ _ hz4
            have f2 := frozen_of_row w4 rb 2 _ _ hz4
            go_wp2_with fail
            have hrow := puts_row [.string ⟨#[]⟩, .int .i64 0, .int .i64 0] hz4 rfl
            (try simp only [Exit.inBlock, Exit.then])
            refine bodyPost_ret (results_cell_row2 rfl _ _ rb 27 #[.string ⟨#[]⟩, .int .i64 0, .int .i64 0] (0, 0) _ rfl hrow Tryz.underlying27 rfl (by kernel_rfl)) rfl ?_
            rw [HWW.out, if_neg h0, errOf_pos _ _ h0]
            exact ⟨rfl, (puts_below HRB.out [.string ⟨#[]⟩, .int .i64 0, .int .i64 0] w4 0 B4.out)⟩
  · have HW0 := Lib.hid (placeWords_len h4)
    obtain ⟨n, hn⟩ : ∃ n, n = ws.length := ⟨_, rfl⟩
    rw [← hn] at h4 ⊢
    have h4' : ¬ (n : Int) = 3 := by omega
    clear hn
    have z0 : w1.cell? ⟨rb, 0, none⟩ = some (.string ⟨#[]⟩) := cell_of_row _ _ _ _ _ _ hz1
    have f0 := frozen_of_row w1 rb 0 _ _ hz1
    have z1 : w1.cell? ⟨rb, 1, none⟩ = some (.int .i64 0) := cell_of_row _ _ _ _ _ _ hz1
    have f1 := frozen_of_row w1 rb 1 _ _ hz1
    have z2 : w1.cell? ⟨rb, 2, none⟩ = some (.int .i64 0) := cell_of_row _ _ _ _ _ _ hz1
    have f2 := frozen_of_row w1 rb 2 _ _ hz1
    go_wp2_with fail
    go_region
    all_goals
      have hrow := puts_row [.string ⟨#[]⟩, .int .i64 0, .int .i64 0] hz1 rfl
      go_wp2_with fail
      (try simp only [Exit.inBlock, Exit.then])
      refine bodyPost_ret (results_cell_row2 rfl _ _ rb 27 #[.string ⟨#[]⟩, .int .i64 0, .int .i64 0] (0, 0) _ rfl hrow Tryz.underlying27 rfl (by kernel_rfl)) rfl ?_
      rw [HW0.out]
      exact ⟨rfl, (puts_below HRB.out [.string ⟨#[]⟩, .int .i64 0, .int .i64 0] w1 0 B1.out).drew⟩
end Go.Proofs.YtpifbahafnaejaaGreatDoor
namespace Go.Proofs.YtpifbahafnaejaaGreatDoor
open Go.RowKit

/-- Goods: the code, the pack. -/
abbrev GoodsV := List UInt8 × Int
def encGoods (x : GoodsV) : List Value := [.string ⟨x.1.toArray⟩, .int .i64 x.2]
def goodsE (x : GoodsV) : Nat := if nameB x.1 = false then 5 else if wiB x.2 1 1000 = false then 2 else 0
theorem goodsE_le (x : GoodsV) : goodsE x ≤ 12 := by unfold goodsE; split <;> (try split) <;> omega

set_option maxHeartbeats 400000 in
theorem checkGoods_any (E : Nat → Addr) (x : GoodsV) (w : World) (g1 : ErrAt 4 (E 5) w) (g2 : ErrAt 3 (E 2) w) :
    Calls Tryz.prog 27 #[.agg (encGoods x).toArray] w fun e w' => e = .returned (errOf E (goodsE x)) ∧ Below w.heap.size w w' := by
  have HE := Lib.hid (show goodsE x = if nameB x.1 = false then 5 else if wiB x.2 1 1000 = false then 2 else 0 from rfl)
  obtain ⟨a1, a2⟩ := x
  have HN := Lib.hid (fun W => name_wide a1 W)
  have H2 := Lib.hid (within_any a2 1 1000)
  have l1 := lt_of_cell g1
  have l2 := lt_of_cell g2
  simp only at l1 l2
  unfold ErrAt at g1 g2
  simp only [encGoods] at HE ⊢
  generalize nameB a1 = nm at HN HE
  generalize wiB a2 1 1000 = p2 at H2 HE
  go_enter Tryz.func27, Tryz.ntmps27
  go_wp2_with fail
  refine (HN.out _).mono ?_
  rintro e w1 ⟨rfl, b1⟩
  obtain ⟨hc, hf⟩ := bcell b1
  have B1 : Hid (Below w.heap.size w w1) := (below_one _ _).trans (b1.mono (by simp))
  clear b1 HN
  cases nm with
  | false =>
    go_wp2_with fail
    go_ret
    rw [HE.out]
    exact ⟨rfl, B1.out⟩
  | true =>
    go_wp2_with fail
    refine (H2.out _).mono ?_
    rintro e w2 ⟨rfl, rfl⟩
    cases p2 with
    | false =>
      go_wp2_with fail
      go_ret
      rw [HE.out]
      exact ⟨rfl, B1.out⟩
    | true =>
      go_wp2_with fail
      go_ret
      rw [HE.out]
      exact ⟨rfl, B1.out⟩

end Go.Proofs.YtpifbahafnaejaaGreatDoor
namespace Go.Proofs.YtpifbahafnaejaaGreatDoor
open Go.RowKit

/-- Words, a byte between them. -/
def joinL (c : UInt8) : List (List UInt8) → List UInt8
  | [] => []
  | [w] => w
  | w :: v :: r => w ++ c :: joinL c (v :: r)
theorem joinL_cons (c : UInt8) (w v : List UInt8) (r : List (List UInt8)) : joinL c (w :: v :: r) = w ++ c :: joinL c (v :: r) := rfl
theorem splitL_join (c : UInt8) (ws : List (List UInt8)) (h0 : ws ≠ []) (h : ∀ w ∈ ws, c ∉ w) : splitL c (joinL c ws) = ws := by
  induction ws with
  | nil => exact absurd rfl h0
  | cons w r ih =>
    cases r with
    | nil => exact splitL_none (h w (by simp))
    | cons v q => rw [joinL_cons, splitL_at _ _ (h w (by simp)), ih (by simp) fun x hx => h x (by simp [hx])]

theorem alnum_not {l : List UInt8} (h : l.all alnum = true) (c : UInt8) (hc : alnum c = false) : c ∉ l := fun hm => by
  have := List.all_eq_true.1 h c hm
  rw [hc] at this; cases this
theorem name_not {l : List UInt8} (h : nameB l = true) (c : UInt8) (hc : alnum c = false) : c ∉ l := by
  unfold nameB at h
  rw [Bool.and_eq_true] at h
  exact alnum_not h.2 c hc
theorem dec_not (n : Nat) (c : UInt8) (hc : c.toNat < 48 ∨ 57 < c.toNat) : c ∉ Lib.decDigits n := fun hm => by
  have := dec_digit n c hm
  omega
theorem itoa_not {n : Int} (h : 0 ≤ n) (c : UInt8) (hc : c.toNat < 48 ∨ 57 < c.toNat) : c ∉ Lib.itoa n := by
  rw [itoa_nat n h]; exact dec_not _ c hc
theorem numQ_dec (n d : Nat) (h : n ≤ 9223372036854775807) (hd : (Lib.decDigits n).length ≤ d) : numQ (Lib.decDigits n) d = some n :=
  (numQ_iff _ _ _).2 ⟨rfl, hd, h⟩
theorem numQ_itoa {n : Int} (h0 : 0 ≤ n) (d : Nat) (hd : 1 ≤ d) (h : n < 10 ^ d) (hb : n ≤ 9223372036854775807) : numQ (Lib.itoa n) d = some n.toNat := by
  rw [itoa_nat n h0]
  refine numQ_dec _ _ (by omega) (dec_len_le _ _ hd ?_)
  have : ((n.toNat : Nat) : Int) < ((10 ^ d : Nat) : Int) := by
    rw [Int.toNat_of_nonneg h0]; simpa using h
  exact Int.ofNat_lt.1 this
end Go.Proofs.YtpifbahafnaejaaGreatDoor
namespace Go.Proofs.YtpifbahafnaejaaGreatDoor
open Go.RowKit Go.Sort Go.Proofs

instance decE1 : DecidableEq (PlaceV × Int) := inferInstance
instance decE2 : DecidableEq (PlaceV × PlaceV × Int) := inferInstance
instance decE3 : DecidableEq (LotV × PlaceV × PlaceV × Int) := inferInstance
instance decE4 : DecidableEq (GoodsV × LotV × PlaceV × PlaceV × Int) := inferInstance
instance decE5 : DecidableEq (List UInt8 × GoodsV × LotV × PlaceV × PlaceV × Int) := inferInstance
/-- An entry: kind, goods, lot, from, to, how many. -/
abbrev EntV := List UInt8 × GoodsV × LotV × PlaceV × PlaceV × Int
def encEnt (x : EntV) : List Value := [.string ⟨x.1.toArray⟩, .string ⟨x.2.1.1.toArray⟩, .int .i64 x.2.1.2, .string ⟨x.2.2.1.1.toArray⟩, .string ⟨x.2.2.1.2.1.toArray⟩, .int .i64 x.2.2.1.2.2.1, .int .i64 x.2.2.1.2.2.2,
  .string ⟨x.2.2.2.1.1.toArray⟩, .int .i64 x.2.2.2.1.2.1, .int .i64 x.2.2.2.1.2.2, .string ⟨x.2.2.2.2.1.1.toArray⟩, .int .i64 x.2.2.2.2.1.2.1, .int .i64 x.2.2.2.2.1.2.2, .int .i64 x.2.2.2.2.2]
theorem encEnt_len (x : EntV) : (encEnt x).length = 14 := rfl
theorem encEnt_one (x : EntV) : ∀ v ∈ encEnt x, v.oneCell' = true := fun v hv => by
  simp [encEnt] at hv
  rcases hv with rfl | rfl | rfl | rfl | rfl | rfl | rfl | rfl | rfl | rfl | rfl | rfl | rfl | rfl <;> rfl

def kGoods : List UInt8 := [103, 111, 111, 100, 115]
def kLot : List UInt8 := [108, 111, 116]
def kIn : List UInt8 := [105, 110]
def kMore : List UInt8 := [109, 111, 114, 101]
def kOut : List UInt8 := [111, 117, 116]
def kLess : List UInt8 := [108, 101, 115, 115]
def kMove : List UInt8 := [109, 111, 118, 101]
def kHold : List UInt8 := [104, 111, 108, 100]
def kFree : List UInt8 := [102, 114, 101, 101]
def zeroGoods : GoodsV := ([], 0)
def zeroEnt : EntV := ([], zeroGoods, zeroLot, zeroPlace, zeroPlace, 0)
/-- Has a kind a place that it is from? a place that it is to? is it one of pieces? -/
def hasF (k : List UInt8) : Bool := decide (k = kOut ∨ k = kLess ∨ k = kMove)
def hasT (k : List UInt8) : Bool := decide (k = kIn ∨ k = kMore ∨ k = kMove)
def isP (k : List UInt8) : Bool := decide (k = kIn ∨ k = kMore ∨ k = kOut ∨ k = kLess ∨ k = kMove ∨ k = kHold ∨ k = kFree)

/-- The entry of pieces that is wanted of this one. -/
def wantP (x : EntV) : EntV := (x.1, zeroGoods, (x.2.2.1.1, [], 0, 0), (if hasF x.1 then x.2.2.2.1 else zeroPlace), (if hasT x.1 then x.2.2.2.2.1 else zeroPlace), x.2.2.2.2.2)
/-- The number of the error of an entry's places. -/
def placesE (x : EntV) : Nat := if hasF x.1 ∧ placeE x.2.2.2.1 ≠ 0 then placeE x.2.2.2.1 else if hasT x.1 then placeE x.2.2.2.2.1 else 0
def piecesE (x : EntV) : Nat :=
  if nameB x.2.2.1.1 = false then 5 else if placesE x ≠ 0 then placesE x else if wiB x.2.2.2.2.2 1 1099511627776 = false then 2
  else if (x.1 = kMove ∧ x.2.2.2.1 = x.2.2.2.2.1) ∨ x ≠ wantP x then 3 else 0
/-- The number of an entry's error. -/
def entE (x : EntV) : Nat :=
  if x.1 = kGoods then (if goodsE x.2.1 ≠ 0 then goodsE x.2.1 else if x ≠ (x.1, x.2.1, zeroLot, zeroPlace, zeroPlace, 0) then 3 else 0)
  else if x.1 = kLot then (if lotE x.2.2.1 ≠ 0 then lotE x.2.2.1 else if x ≠ (x.1, zeroGoods, x.2.2.1, zeroPlace, zeroPlace, 0) then 3 else 0)
  else if isP x.1 then piecesE x else 4

/-- The words of an entry of pieces. -/
def wordsP (x : EntV) : List (List UInt8) := [x.1, x.2.2.1.1] ++ (if hasF x.1 then [placeText x.2.2.2.1] else []) ++ (if hasT x.1 then [placeText x.2.2.2.2.1] else []) ++ [Lib.itoa x.2.2.2.2.2]
/-- An entry's text. -/
def entText (x : EntV) : List UInt8 :=
  if entE x ≠ 0 then [] else if x.1 = kGoods then kGoods ++ [32] ++ x.2.1.1 ++ [32] ++ Lib.itoa x.2.1.2
  else if x.1 = kLot then kLot ++ [32] ++ lotText x.2.2.1 else joinL 32 (wordsP x)

/-- What reading an entry's words answers, ahead of its check. -/
def entGoods (ws : List (List UInt8)) : EntV × Nat :=
  match ws with
  | [_, c, d] => match numQ d 13 with
    | some v => ((kGoods, (c, (v : Int)), zeroLot, zeroPlace, zeroPlace, 0), 0)
    | none => (zeroEnt, 1)
  | _ => (zeroEnt, 1)
def entPieces (k : List UInt8) (ws : List (List UInt8)) : EntV × Nat :=
  if ws.length ≠ 3 + (if hasF k then 1 else 0) + (if hasT k then 1 else 0) then (zeroEnt, 1)
  else match numQ (ws.getLast?.getD []) 13 with
    | none => (zeroEnt, 1)
    | some n =>
      let f : PlaceV × Nat := if hasF k then placeWords (splitL 45 (ws.getD 2 [])) else (zeroPlace, 0)
      let t : PlaceV × Nat := if hasT k ∧ f.2 = 0 then placeWords (splitL 45 (ws.getD (if hasF k then 3 else 2) [])) else (zeroPlace, 0)
      ((k, zeroGoods, (ws.getD 1 [], [], 0, 0), f.1, t.1, (n : Int)), if f.2 ≠ 0 then f.2 else t.2)
def entWords (ws : List (List UInt8)) : EntV × Nat :=
  let k := ws.headD []
  if k = kGoods then entGoods ws
  else if k = kLot then ((kLot, zeroGoods, (lotWords (splitL 32 (joinL 32 ws.tail))).1, zeroPlace, zeroPlace, 0), (lotWords (splitL 32 (joinL 32 ws.tail))).2)
  else if isP k then entPieces k ws else (zeroEnt, 4)
/-- What reading an entry answers. -/
def entRead (s : List UInt8) : EntV × Nat :=
  let r := entWords (splitL 32 s)
  if r.2 ≠ 0 then (zeroEnt, r.2) else if entE r.1 ≠ 0 then (zeroEnt, entE r.1) else (r.1, 0)

/-! It is read as it was written. -/
theorem lot_back {x : LotV} (h : lotE x = 0) : splitL 32 (lotText x) = [x.1, x.2.1, Lib.itoa x.2.2.1, Lib.itoa x.2.2.2] ∧ lotWords [x.1, x.2.1, Lib.itoa x.2.2.1, Lib.itoa x.2.2.2] = (x, 0) := by
  have hx : nameB x.1 = true ∧ nameB x.2.1 = true ∧ 0 ≤ x.2.2.1 ∧ x.2.2.1 ≤ 100000 ∧ 0 ≤ x.2.2.2 ∧ x.2.2.2 ≤ 1048576 := by
    unfold lotE at h
    split at h
    · cases h
    · rename_i h1
      split at h
      · cases h
      · rename_i h2
        simp at h1
        refine ⟨h1.1, h1.2, ?_⟩
        omega
  obtain ⟨h1, h2, h3, h4, h5, h6⟩ := hx
  constructor
  · have e : lotText x = joinL 32 [x.1, x.2.1, Lib.itoa x.2.2.1, Lib.itoa x.2.2.2] := by
      unfold lotText
      rw [if_pos h]
      simp [joinL]
    rw [e]
    refine splitL_join 32 _ (by simp) fun w hw => ?_
    simp only [List.mem_cons, List.not_mem_nil, or_false] at hw
    rcases hw with rfl | rfl | rfl | rfl
    · exact name_not h1 32 (by decide)
    · exact name_not h2 32 (by decide)
    · exact itoa_not h3 32 (by decide)
    · exact itoa_not h5 32 (by decide)
  · have q1 : numQ (Lib.itoa x.2.2.1) 9 = some x.2.2.1.toNat := numQ_itoa h3 9 (by omega) (by omega) (by omega)
    have q2 : numQ (Lib.itoa x.2.2.2) 9 = some x.2.2.2.toNat := numQ_itoa h5 9 (by omega) (by omega) (by omega)
    unfold lotWords
    simp only [q1, q2, Int.toNat_of_nonneg h3, Int.toNat_of_nonneg h5]
    rw [if_pos (show lotE (x.1, x.2.1, x.2.2.1, x.2.2.2) = 0 from h)]
theorem place_back {x : PlaceV} (h : placeE x = 0) : placeWords (splitL 45 (placeText x)) = (x, 0) ∧ (32 : UInt8) ∉ placeText x := by
  obtain ⟨h1, h2, h3, h4, h5⟩ := placeE_zero.1 h
  have e : placeText x = joinL 45 [x.1, Lib.itoa x.2.1, Lib.itoa x.2.2] := by
    unfold placeText
    rw [if_pos h]
    simp [joinL]
  constructor
  · rw [e, splitL_join 45 _ (by simp) fun w hw => by
      simp only [List.mem_cons, List.not_mem_nil, or_false] at hw
      rcases hw with rfl | rfl | rfl
      · exact name_not h1 45 (by decide)
      · exact itoa_not (by omega) 45 (by decide)
      · exact itoa_not (by omega) 45 (by decide)]
    have q1 : numQ (Lib.itoa x.2.1) 4 = some x.2.1.toNat := numQ_itoa (by omega) 4 (by omega) (by omega) (by omega)
    have q2 : numQ (Lib.itoa x.2.2) 4 = some x.2.2.toNat := numQ_itoa (by omega) 4 (by omega) (by omega) (by omega)
    unfold placeWords
    simp only [q1, q2]
    rw [Int.toNat_of_nonneg (by omega), Int.toNat_of_nonneg (by omega), if_pos (show placeE (x.1, x.2.1, x.2.2) = 0 from h)]
  · rw [e]
    simp only [joinL, List.mem_append, List.mem_cons, not_or]
    exact ⟨name_not h1 32 (by decide), by decide, itoa_not (by omega) 32 (by decide), by decide, itoa_not (by omega) 32 (by decide)⟩

theorem kinds_ne : kLot ≠ kGoods ∧ kIn ≠ kGoods ∧ kMore ≠ kGoods ∧ kOut ≠ kGoods ∧ kLess ≠ kGoods ∧ kMove ≠ kGoods ∧ kHold ≠ kGoods ∧ kFree ≠ kGoods := by decide
theorem isP_kind {k : List UInt8} (h : isP k = true) : (32 : UInt8) ∉ k ∧ k ≠ kGoods ∧ k ≠ kLot := by
  unfold isP at h
  simp only [decide_eq_true_eq] at h
  rcases h with rfl | rfl | rfl | rfl | rfl | rfl | rfl <;> decide

theorem pieces_zero {x : EntV} (h : piecesE x = 0) : nameB x.2.2.1.1 = true ∧ (hasF x.1 = true → placeE x.2.2.2.1 = 0) ∧ (hasT x.1 = true → placeE x.2.2.2.2.1 = 0) ∧ 1 ≤ x.2.2.2.2.2 ∧ x.2.2.2.2.2 ≤ 1099511627776 ∧ x = wantP x := by
  unfold piecesE at h
  split at h
  · cases h
  rename_i h1
  split at h
  · rename_i h2; exact absurd h h2
  rename_i h2
  split at h
  · cases h
  rename_i h3
  split at h
  · cases h
  rename_i h4
  simp only [Decidable.not_not] at h2
  have hp : (hasF x.1 = true → placeE x.2.2.2.1 = 0) ∧ (hasT x.1 = true → placeE x.2.2.2.2.1 = 0) := by
    unfold placesE at h2
    split at h2
    · rename_i h5; exact absurd h2 h5.2
    · rename_i h5
      refine ⟨fun hf => Decidable.byContradiction fun h6 => h5 ⟨hf, h6⟩, fun ht => ?_⟩
      rw [if_pos ht] at h2; exact h2
  unfold wiB at h3
  simp only [decide_eq_false_iff_not, Decidable.not_not] at h3
  refine ⟨by simpa using h1, hp.1, hp.2, h3.1, h3.2, ?_⟩
  exact Decidable.byContradiction fun h5 => h4 (.inr h5)

theorem ent_back {x : EntV} (h : entE x = 0) : entRead (entText x) = (x, 0) := by
  have hE := h
  unfold entE at h
  by_cases k1 : x.1 = kGoods
  · rw [if_pos k1] at h
    split at h
    · rename_i h1; exact absurd h h1
    rename_i h1
    split at h
    · cases h
    rename_i h2
    simp only [Decidable.not_not] at h1 h2
    have hg : nameB x.2.1.1 = true ∧ 1 ≤ x.2.1.2 ∧ x.2.1.2 ≤ 1000 := by
      unfold goodsE at h1
      split at h1
      · cases h1
      split at h1
      · cases h1
      rename_i h3 h4
      unfold wiB at h4
      simp only [decide_eq_false_iff_not, Decidable.not_not] at h4
      exact ⟨by simpa using h3, h4⟩
    have et : entText x = joinL 32 [kGoods, x.2.1.1, Lib.itoa x.2.1.2] := by
      unfold entText
      rw [if_neg (by simpa using hE), if_pos k1]
      simp [joinL]
    have es : splitL 32 (entText x) = [kGoods, x.2.1.1, Lib.itoa x.2.1.2] := by
      rw [et]
      refine splitL_join 32 _ (by simp) fun w hw => ?_
      simp only [List.mem_cons, List.not_mem_nil, or_false] at hw
      rcases hw with rfl | rfl | rfl
      · decide
      · exact name_not hg.1 32 (by decide)
      · exact itoa_not (by omega) 32 (by decide)
    have q : numQ (Lib.itoa x.2.1.2) 13 = some x.2.1.2.toNat := numQ_itoa (by omega) 13 (by omega) (by omega) (by omega)
    have ex : x = (kGoods, x.2.1, zeroLot, zeroPlace, zeroPlace, 0) := by rw [← k1]; exact h2
    have ew : entWords (splitL 32 (entText x)) = (x, 0) := by
      rw [es]
      unfold entWords
      simp only [List.headD_cons, if_pos]
      unfold entGoods
      simp only [q]
      rw [Int.toNat_of_nonneg (by omega)]
      exact congrArg (·, 0) ex.symm
    unfold entRead
    rw [ew]
    simp [hE]
  rw [if_neg k1] at h
  by_cases k2 : x.1 = kLot
  · rw [if_pos k2] at h
    split at h
    · rename_i h1; exact absurd h h1
    rename_i h1
    split at h
    · cases h
    rename_i h2
    simp only [Decidable.not_not] at h1 h2
    obtain ⟨b1, b2⟩ := lot_back h1
    have ex : x = (kLot, zeroGoods, x.2.2.1, zeroPlace, zeroPlace, 0) := by rw [← k2]; exact h2
    have et : entText x = kLot ++ 32 :: lotText x.2.2.1 := by
      unfold entText
      rw [if_neg (by simpa using hE), if_neg k1, if_pos k2]
      simp
    have es : splitL 32 (entText x) = kLot :: splitL 32 (lotText x.2.2.1) := by
      rw [et, splitL_at _ _ (by decide)]
    have ej : joinL 32 (splitL 32 (lotText x.2.2.1)) = lotText x.2.2.1 := by
      rw [b1]
      unfold lotText
      rw [if_pos h1]
      simp [joinL]
    have ew : entWords (splitL 32 (entText x)) = (x, 0) := by
      rw [es]
      unfold entWords
      simp only [List.headD_cons, List.tail_cons]
      rw [if_neg kinds_ne.1, if_pos True.intro, ej, b1, b2]
      exact congrArg (·, 0) ex.symm
    unfold entRead
    rw [ew]
    simp [hE]
  rw [if_neg k2] at h
  split at h
  · rename_i hp
    obtain ⟨h1, h2, h3, h4, h5, h6⟩ := pieces_zero h
    obtain ⟨i1, i2, i3⟩ := isP_kind hp
    have et : entText x = joinL 32 (wordsP x) := by
      unfold entText
      rw [if_neg (by simpa using hE), if_neg k1, if_neg k2]
    have es : splitL 32 (entText x) = wordsP x := by
      rw [et]
      refine splitL_join 32 _ (by simp [wordsP]) fun w hw => ?_
      unfold wordsP at hw
      simp only [List.mem_append, List.mem_cons, List.not_mem_nil, or_false] at hw
      rcases hw with (((rfl | rfl) | hw) | hw) | rfl
      · exact i1
      · exact name_not h1 32 (by decide)
      · cases hf : hasF x.1
        · rw [hf] at hw; simp at hw
        · rw [hf] at hw
          simp only [if_true, List.mem_singleton] at hw
          subst hw
          exact (place_back (h2 hf)).2
      · cases ht : hasT x.1
        · rw [ht] at hw; simp at hw
        · rw [ht] at hw
          simp only [if_true, List.mem_singleton] at hw
          subst hw
          exact (place_back (h3 ht)).2
      · exact itoa_not (by omega) 32 (by decide)
    have q : numQ (Lib.itoa x.2.2.2.2.2) 13 = some x.2.2.2.2.2.toNat := numQ_itoa (by omega) 13 (by omega) (by omega) (by omega)
    have ew : entWords (splitL 32 (entText x)) = (x, 0) := by
      rw [es]
      unfold entWords
      have hd : (wordsP x).headD [] = x.1 := rfl
      simp only [hd]
      rw [if_neg i2, if_neg i3, if_pos hp]
      have hlast : (wordsP x).getLast?.getD [] = Lib.itoa x.2.2.2.2.2 := by
        unfold wordsP
        cases hasF x.1 <;> cases hasT x.1 <;> rfl
      have hlen : (wordsP x).length = 3 + (if hasF x.1 then 1 else 0) + (if hasT x.1 then 1 else 0) := by
        unfold wordsP
        cases hasF x.1 <;> cases hasT x.1 <;> rfl
      unfold entPieces
      rw [if_neg (by simpa using hlen), hlast, q]
      have h1' : (wordsP x).getD 1 [] = x.2.2.1.1 := rfl
      simp only [h1', Int.toNat_of_nonneg (show 0 ≤ x.2.2.2.2.2 by omega)]
      cases hf : hasF x.1 <;> cases ht : hasT x.1
      · simp only [Bool.false_eq_true, if_false, false_and]
        conv => rhs; rw [h6]
        simp [wantP, hf, ht]
      · have g2 : (wordsP x).getD 2 [] = placeText x.2.2.2.2.1 := by unfold wordsP; rw [hf, ht]; rfl
        simp only [Bool.false_eq_true, if_false, true_and, if_true, g2, (place_back (h3 ht)).1]
        conv => rhs; rw [h6]
        simp [wantP, hf, ht]
      · have g2 : (wordsP x).getD 2 [] = placeText x.2.2.2.1 := by unfold wordsP; rw [hf, ht]; rfl
        simp only [if_true, g2, (place_back (h2 hf)).1, Bool.false_eq_true, false_and, if_false]
        conv => rhs; rw [h6]
        simp [wantP, hf, ht]
      · have g2 : (wordsP x).getD 2 [] = placeText x.2.2.2.1 := by unfold wordsP; rw [hf, ht]; rfl
        have g3 : (wordsP x).getD 3 [] = placeText x.2.2.2.2.1 := by unfold wordsP; rw [hf, ht]; rfl
        simp only [if_true, g2, (place_back (h2 hf)).1, true_and, g3, (place_back (h3 ht)).1]
        conv => rhs; rw [h6]
        simp [wantP, hf, ht]
    unfold entRead
    rw [ew]
    simp [hE]
  · cases h
theorem ent_text_inj {x y : EntV} (hx : entE x = 0) (hy : entE y = 0) (h : entText x = entText y) : x = y := by
  have e := ent_back hx
  rw [h, ent_back hy] at e
  exact (congrArg Prod.fst e).symm
end Go.Proofs.YtpifbahafnaejaaGreatDoor
namespace Go.Proofs.YtpifbahafnaejaaGreatDoor
open Go.RowKit Go.Sort Go.Proofs

theorem kind_cases (k : List UInt8) : k = kIn ∨ k = kMore ∨ k = kOut ∨ k = kLess ∨ k = kMove ∨ k = kHold ∨ k = kFree ∨
    ((k == [105, 110]) = false ∧ (k == [109, 111, 114, 101]) = false ∧ (k == [111, 117, 116]) = false ∧ (k == [108, 101, 115, 115]) = false ∧ (k == [109, 111, 118, 101]) = false ∧ (k == [104, 111, 108, 100]) = false ∧ (k == [102, 114, 101, 101]) = false ∧ hasF k = false ∧ hasT k = false ∧ isP k = false) := by
  by_cases h1 : k = kIn
  · exact .inl h1
  by_cases h2 : k = kMore
  · exact .inr (.inl h2)
  by_cases h3 : k = kOut
  · exact .inr (.inr (.inl h3))
  by_cases h4 : k = kLess
  · exact .inr (.inr (.inr (.inl h4)))
  by_cases h5 : k = kMove
  · exact .inr (.inr (.inr (.inr (.inl h5))))
  by_cases h6 : k = kHold
  · exact .inr (.inr (.inr (.inr (.inr (.inl h6)))))
  by_cases h7 : k = kFree
  · exact .inr (.inr (.inr (.inr (.inr (.inr (.inl h7))))))
  refine .inr (.inr (.inr (.inr (.inr (.inr (.inr ⟨?_, ?_, ?_, ?_, ?_, ?_, ?_, ?_, ?_, ?_⟩))))))
  · exact beq_eq_false_iff_ne.2 h1
  · exact beq_eq_false_iff_ne.2 h2
  · exact beq_eq_false_iff_ne.2 h3
  · exact beq_eq_false_iff_ne.2 h4
  · exact beq_eq_false_iff_ne.2 h5
  · exact beq_eq_false_iff_ne.2 h6
  · exact beq_eq_false_iff_ne.2 h7
  · unfold hasF; simp [h3, h4, h5]
  · unfold hasT; simp [h1, h2, h5]
  · unfold isP; simp [h1, h2, h3, h4, h5, h6, h7]

set_option maxHeartbeats 1600000 in
theorem formOf_any (k : List UInt8) (w : World) : Calls Tryz.prog 14 #[.string ⟨k.toArray⟩] w fun e w' => e = .returned (.agg #[.bool (hasF k), .bool (hasT k), .bool (isP k)]) ∧ Below w.heap.size w w' := by
  rcases kind_cases k with rfl | rfl | rfl | rfl | rfl | rfl | rfl | ⟨h1, h2, h3, h4, h5, h6, h7, e1, e2, e3⟩
  case' inr.inr.inr.inr.inr.inr.inr =>
    rw [e1, e2, e3]
    clear e1 e2 e3
  all_goals
    go_enter Tryz.func14, Tryz.ntmps14
    go_wp2
    (try simp only [Exit.inBlock, Exit.then])
    refine bodyPost_ret (results_cell_row rfl _ _ w.heap.size 45 _ (0, 0) _ rfl (heap_alloc_new _ _) Tryz.underlying45 rfl (by kernel_rfl)) rfl ?_
    exact ⟨rfl, below_one _ _⟩
end Go.Proofs.YtpifbahafnaejaaGreatDoor
namespace Go.Proofs.YtpifbahafnaejaaGreatDoor
open Go.RowKit Go.Sort Go.Proofs

set_option maxHeartbeats 800000 in
theorem hasFrom_any (k : List UInt8) (w : World) : Calls Tryz.prog 23 #[.string ⟨k.toArray⟩] w fun e w' => e = .returned (.bool (hasF k)) ∧ w = w' := by
  rcases kind_cases k with rfl | rfl | rfl | rfl | rfl | rfl | rfl | ⟨h1, h2, h3, h4, h5, h6, h7, e1, e2, e3⟩
  case' inr.inr.inr.inr.inr.inr.inr =>
    rw [e1]
    clear e1 e2 e3
  all_goals
    go_enter Tryz.func23, Tryz.ntmps23
    go_wp2
    go_ret
    exact ⟨rfl, rfl⟩
set_option maxHeartbeats 800000 in
theorem hasTo_any (k : List UInt8) (w : World) : Calls Tryz.prog 24 #[.string ⟨k.toArray⟩] w fun e w' => e = .returned (.bool (hasT k)) ∧ w = w' := by
  rcases kind_cases k with rfl | rfl | rfl | rfl | rfl | rfl | rfl | ⟨h1, h2, h3, h4, h5, h6, h7, e1, e2, e3⟩
  case' inr.inr.inr.inr.inr.inr.inr =>
    rw [e2]
    clear e1 e2 e3
  all_goals
    go_enter Tryz.func24, Tryz.ntmps24
    go_wp2
    go_ret
    exact ⟨rfl, rfl⟩
/-- Is a word an entry's kind? -/
def isKB (k : List UInt8) : Bool := decide (k = kGoods) || decide (k = kLot) || isP k
set_option maxHeartbeats 1600000 in
theorem isKind_any (k : List UInt8) (w : World) : Calls Tryz.prog 20 #[.string ⟨k.toArray⟩] w fun e w' => e = .returned (.bool (isKB k)) ∧ w = w' := by
  have HF := Lib.hid (fun W => hasFrom_any k W)
  have HT := Lib.hid (fun W => hasTo_any k W)
  have hcase : (k = kGoods ∨ k = kLot) ∨ (k ≠ kGoods ∧ k ≠ kLot) := by
    by_cases h1 : k = kGoods
    · exact .inl (.inl h1)
    · by_cases h2 : k = kLot
      · exact .inl (.inr h2)
      · exact .inr ⟨h1, h2⟩
  rcases hcase with (rfl | rfl) | ⟨g1, g2⟩
  · go_enter Tryz.func20, Tryz.ntmps20
    go_wp2_with fail
    refine (HF.out _).mono ?_
    rintro e w1 ⟨rfl, rfl⟩
    go_wp2_with fail
    refine (HT.out _).mono ?_
    rintro e w1 ⟨rfl, rfl⟩
    go_wp2
    go_ret
    exact ⟨rfl, rfl⟩
  · go_enter Tryz.func20, Tryz.ntmps20
    go_wp2_with fail
    refine (HF.out _).mono ?_
    rintro e w1 ⟨rfl, rfl⟩
    go_wp2_with fail
    refine (HT.out _).mono ?_
    rintro e w1 ⟨rfl, rfl⟩
    go_wp2
    go_ret
    exact ⟨rfl, rfl⟩
  · have hg : (k == [103, 111, 111, 100, 115]) = false := beq_eq_false_iff_ne.2 g1
    have hl : (k == [108, 111, 116]) = false := beq_eq_false_iff_ne.2 g2
    have HK := Lib.hid (show isKB k = isP k by unfold isKB; rw [decide_eq_false g1, decide_eq_false g2]; rfl)
    rcases kind_cases k with rfl | rfl | rfl | rfl | rfl | rfl | rfl | ⟨h1, h2, h3, h4, h5, h6, h7, e1, e2, e3⟩
    case' inr.inr.inr.inr.inr.inr.inr =>
      rw [e3] at HK
      rw [e1] at HF
      rw [e2] at HT
      clear e1 e2 e3
    all_goals
      clear g1 g2
      go_enter Tryz.func20, Tryz.ntmps20
      go_wp2_with fail
      refine (HF.out _).mono ?_
      rintro e w1 ⟨rfl, rfl⟩
      go_wp2_with fail
      refine (HT.out _).mono ?_
      rintro e w1 ⟨rfl, rfl⟩
      go_wp2
      go_ret
      rw [HK.out]
      exact ⟨rfl, rfl⟩
end Go.Proofs.YtpifbahafnaejaaGreatDoor
