/- The law LotSorts, walked. -/
import Derived.Test.YtchamhjckindiaaDoorLotL
import Derived.Deep.RegionHeld3
import Derived.Deep.MidRow
namespace Go.Proofs.YtchamhjckindiaaDoor
open Go.RowKit Go.Sort Go.Proofs

/-- A row that isn't empty: where it lies, and each element as a range. -/
def RngAt (w : World) (b o : Nat) (xs : List LotV) : Prop := b < w.heap.size ∧ ∀ i (h : i < xs.length), w.rangeAt b (o + i * 4) (encLot xs[i])
theorem RowAt.rng {w : World} {A : Option Addr} {xs : List LotV} (h : RowAt encLot 4 w A xs) (h0 : xs ≠ []) : ∃ b o, A = some ⟨b, o, none⟩ ∧ RngAt w b o xs := by
  obtain ⟨b, o, h1, h2, h3⟩ := h.resolve_left h0
  exact ⟨b, o, h1, h2, fun i hi c v hv => h3 i hi c v hv⟩
theorem RngAt.below {w w' : World} {b o : Nat} {xs : List LotV} (h : RngAt w b o xs) (hb : Below w.heap.size w w') : RngAt w' b o xs :=
  ⟨Nat.lt_of_lt_of_le h.1 hb.size, fun i hi c v hv => (hb.cell (p := ⟨b, o + i * 4 + c, none⟩) h.1).trans (h.2 i hi c v hv)⟩
theorem range_below {B : Nat} {w w' : World} {b o : Nat} {cs : List Value} (h : w.rangeAt b o cs) (hb : Below B w w') (hl : b < B) : w'.rangeAt b o cs :=
  fun c v hv => (hb.cell (p := ⟨b, o + c, none⟩) hl).trans (h c v hv)

theorem range4 {w : World} {b o : Nat} {x0 x1 x2 x3 : Value} (h : w.rangeAt b o [x0, x1, x2, x3]) : w.cell? ⟨b, o, none⟩ = some x0 ∧ w.cell? ⟨b, o + 1, none⟩ = some x1 ∧ w.cell? ⟨b, o + 2, none⟩ = some x2 ∧ w.cell? ⟨b, o + 3, none⟩ = some x3 :=
  ⟨h 0 _ rfl, h 1 _ rfl, h 2 _ rfl, h 3 _ rfl⟩

/-- How often x lies among the first of xs. -/
def cntL (x : LotV) (xs : List LotV) (k : Nat) : Nat := (xs.take k).countP fun y => decide (y = x)
theorem cntL_zero (x : LotV) (xs : List LotV) : cntL x xs 0 = 0 := by simp [cntL]
theorem cntL_succ (x : LotV) (xs : List LotV) (k : Nat) (h : k < xs.length) : cntL x xs (k + 1) = cntL x xs k + if xs[k] = x then 1 else 0 := by
  unfold cntL
  rw [List.take_succ_eq_append_getElem h, List.countP_append]
  by_cases e : xs[k] = x <;> simp [e]
theorem cntL_le (x : LotV) (xs : List LotV) (k : Nat) : cntL x xs k ≤ k := by
  unfold cntL
  exact Nat.le_trans List.countP_le_length (by rw [List.length_take]; omega)
theorem cntL_srt (x : LotV) (xs : List LotV) : cntL x (Stab.srt (ltOf cfLot) xs) xs.length = cntL x xs xs.length := by
  unfold cntL
  rw [List.take_of_length_le (by rw [Stab.srt_length]; exact Nat.le_refl _), List.take_of_length_le (Nat.le_refl _)]
  exact (Stab.srt_perm _ xs).countP_eq _

theorem eqInLot (x y : LotV) (W : World) : (Op.equalIn 10000 44 (.agg (encLot x).toArray) (.agg (encLot y).toArray)).run Tryd.prog W = .ok (decide (x = y)) W := by
  have h := eqLot x y W
  rw [run_eql_struct] at h
  cases hr : (Op.equalIn 10000 44 (.agg (encLot x).toArray) (.agg (encLot y).toArray)).run Tryd.prog W with
  | ok b w' =>
    rw [hr] at h
    simp [Result.andThen] at h
    rw [h.1, h.2]
  | _ => rw [hr] at h; simp [Result.andThen] at h
theorem neqLot (x y : LotV) (W : World) : (binOp .neq 44 (.agg (encLot x).toArray) (.agg (encLot y).toArray)).run Tryd.prog W = .ok (.bool (!decide (x = y))) W := by
  rw [run_neq_struct, eqInLot]
  rfl

/-- An empty slice appended to nil. -/
theorem run_append_none (w : World) (t ty e : TypeId) (i : TypeInfo) (ht : Tryd.prog.underlying t = some (.slice e)) (hi : Tryd.prog.info? e = some i) (A : Option Addr) (c : Nat) :
    (Builtin.append_ #[t, t] ty #[.slice none 0 0, .slice A 0 c]).run Tryd.prog w = .ok (.slice none 0 0) w := by
  cases A <;> simp [Builtin.append_, run_underlying ht, sizeOf, typeInfo, hi, Builtin.lenOf, Builtin.firstCells, loadCells, loadCellsFrom, storeCells]
theorem wpList_append_none {ops : Array Oper} {rest : List Oper} {o : Oper} {a : Act} {Q : Exit → Act → World → Prop} (w : World) (hgd : o.guard = none) (s x : Operand) (t : TypeId)
    (ho : o.op = .call { callee := .builtin .append, args := #[s, x], argTypes := #[t, t] }) (e : TypeId) (i : TypeInfo) (ht : Tryd.prog.underlying t = some (.slice e)) (hi : Tryd.prog.info? e = some i)
    (hs : a.eval s = .slice none 0 0) (A : Option Addr) (c : Nat) (hx : a.eval x = .slice A 0 c) (h : wpList Tryd.prog ops Q rest (a.put o.dst (.slice none 0 0)) w) : wpList Tryd.prog ops Q (o :: rest) a w := by
  refine wpList_plain hgd fun K hK => ?_
  have hr := run_append_none w t o.type e i ht hi A c
  unfold Oper.wp execOp
  simp only [ho, resolve, invoke, builtin, Sem.run_bind, Sem.run_pure, Result.andThen_ok, List.map_toArray, List.map_cons, List.map_nil, hs, hx, hr]
  exact hK _ _ h

set_option maxHeartbeats 800000 in
theorem sorts_out (E : Nat → Addr) (A : Option Addr) (len cap : Nat) (w : World) (hG : LotG E w) (h : 40 < len) :
    Calls Tryd.prog 5 #[.slice A len cap] w fun e w' => e = .returned (.bool true) ∧ Below w.heap.size w w' := by
  go_enter Tryd.func5, Tryd.ntmps5
  go_wp2_with fail
  refine (lotted_any E _ hG).mono ?_
  rintro e w1 ⟨rfl, b1⟩
  go_wp2
  go_ret
  exact ⟨rfl, b1⟩

set_option maxHeartbeats 800000 in
theorem sorts_none (E : Nat → Addr) (A : Option Addr) (cap : Nat) (w : World) (hG : LotG E w) :
    Calls Tryd.prog 5 #[.slice A 0 cap] w fun e w' => e = .returned (.bool true) ∧ Below w.heap.size w w' := by
  obtain ⟨i0, hi, hz0, hz1, hz2⟩ := info_parts lotInfo
  go_enter Tryd.func5, Tryd.ntmps5
  go_wp2_with fail
  refine (lotted_any E _ hG).mono ?_
  rintro e w1 ⟨rfl, b1⟩
  go_wp2_with (at_builtin; refine wpList_append_none _ rfl (.tmp 20) (.tmp 21) 41 rfl 44 i0 Tryd.underlying41 hi rfl A cap rfl ?_)
  refine (sorted_none _).mono ?_
  rintro e w2 ⟨rfl, rfl⟩
  go_wp2_with fail
  refine (sorted_none _).mono ?_
  rintro e w2 ⟨rfl, rfl⟩
  go_wp2
  refine wp_loop_rounds 1 ?_
  rw [rounds_succ]
  go_wp2
  go_ret
  exact ⟨rfl, b1⟩

set_option maxHeartbeats 1600000 in
set_option maxRecDepth 100000 in
theorem sorts_in (E : Nat → Addr) (A : Option Addr) (cap : Nat) (xs : List LotV) (w : World) (hG : LotG E w) (hX : RowAt encLot 4 w A xs) (h0 : xs ≠ []) (h1 : xs.length ≤ 40) :
    Calls Tryd.prog 5 #[.slice A xs.length cap] w fun e w' => e = .returned (.bool true) ∧ Below w.heap.size w w' := by
  obtain ⟨i0, hi, hz0, hz1, hz2⟩ := info_parts lotInfo
  obtain ⟨n, hn⟩ : ∃ n, n = xs.length := ⟨_, rfl⟩
  have HN := Lib.hid hn
  have HX := Lib.hid hX
  rw [← hn] at h1 ⊢
  clear hX hn
  go_enter Tryd.func5, Tryd.ntmps5
  go_wp2_with fail
  refine (lotted_any E _ hG).mono ?_
  rintro e w1 ⟨rfl, b1⟩
  have HX1 := Lib.hid (HX.out.below b1)
  have HB1 := Lib.hid b1
  clear b1
  go_wp2_with (at_builtin; refine wpList_append_rows _ rfl (.tmp 20) (.tmp 21) 41 rfl w1.heap.size 44 i0 _ 48 Tryd.underlying41 hi hz0 hz1 hz2 rfl encLot_len (by decide) encLot_one (.slice none 0 0) 0 [] rfl (World.ownsRow_nil _ _ _ _) A cap xs (by rw [← HN.out]; rfl) HX1.out (by rw [← HN.out]; omega) (by decide) (Nat.le_refl _) ?_; intro v1 wa KO ba; have HBA := Lib.hid ba; clear ba)
  have hown := KO.out
  rw [Nat.zero_add, List.nil_append] at hown
  obtain ⟨A1, c1, hv1, hS1, hA1⟩ := RowAt.of_own encLot_len hown
  rw [← HN.out] at hv1
  subst hv1
  have hs := sorted_any A1 c1 xs wa (by rw [← HN.out]; omega) hS1 h0
  rw [← HN.out] at hs
  have HS := Lib.hid hs
  have H1 := Lib.hid hS1
  clear hown hs hS1 KO hA1
  refine HS.out.mono ?_
  rintro e w2 ⟨A2, c2, rfl, -, hS2, -, b2⟩
  rw [← HN.out]
  have HL : Hid (n = (Stab.srt (ltOf cfLot) xs).length) := by rw [Stab.srt_length]; exact HN.out
  have ht := sorted_any A2 c2 (Stab.srt (ltOf cfLot) xs) w2 (by rw [← HL.out]; omega) hS2 (fun h => h0 (List.length_eq_zero_iff.1 (by rw [← HN.out, HL.out, h]; rfl)))
  rw [← HL.out] at ht
  have HT := Lib.hid ht
  have H2 := Lib.hid hS2
  have HB2 := Lib.hid b2
  clear ht hS2 HS b2
  go_wp2_with fail
  refine HT.out.mono ?_
  rintro e w3 ⟨A3, c3, rfl, -, hS3, -, b3⟩
  rw [← HL.out]
  rw [Stab.srt_of_sorted _ (Stab.srt_sorted swoLot xs)] at hS3
  have hne : Stab.srt (ltOf cfLot) xs ≠ [] := fun h => h0 (List.length_eq_zero_iff.1 (by rw [← HN.out, HL.out, h]; rfl))
  have e1 := HB2.out.trans (b3.mono HB2.out.size)
  have e0 := HBA.out.trans (e1.mono HBA.out.size)
  obtain ⟨lb, lo, rfl, R0⟩ := (HX1.out.below e0).rng h0
  obtain ⟨ob, oo, rfl, R1⟩ := (H1.out.below e1).rng h0
  obtain ⟨sb, so, rfl, R2⟩ := (H2.out.below b3).rng hne
  obtain ⟨tb, to_, rfl, R3⟩ := hS3.rng hne
  have b := HB1.out.trans (e0.mono HB1.out.size)
  have HB3 := Lib.hid b
  have R := Lib.hid (And.intro R0 (And.intro R1 (And.intro R2 R3)))
  clear b e0 e1 hS3 b3 HT H1 H2 HX1 HB1 HB2 HBA HX R0 R1 R2 R3 hG hne
  go_wp2
  go_loopw [7] (fun i wr => ∃ k : Nat, k ≤ n ∧ i = .int .i64 k ∧ Below w3.heap.size w3 wr) (fun i _ => n - (intOf i).toNat)
  case atStart => exact ⟨0, by omega, rfl, Below.refl _ _⟩
  case round =>
    obtain ⟨k, hk, rfl, hb⟩ := hrel
    have HB := Lib.hid hb
    clear hb
    by_cases hkl : k < n
    · have hx1 : k < xs.length := by rw [← HN.out]; exact hkl
      have hy1 : k < (Stab.srt (ltOf cfLot) xs).length := by rw [← HL.out]; exact hkl
      have q0 := range_below (R.out.1.2 k hx1) HB.out R.out.1.1
      have q1 := range_below (R.out.2.1.2 k hx1) HB.out R.out.2.1.1
      have q2 := range_below (R.out.2.2.1.2 k hy1) HB.out R.out.2.2.1.1
      have q3 := range_below (R.out.2.2.2.2 k hy1) HB.out R.out.2.2.2.1
      have n0 := neqLot xs[k] xs[k]
      have n1 := neqLot (Stab.srt (ltOf cfLot) xs)[k] (Stab.srt (ltOf cfLot) xs)[k]
      have m0 := eqInLot xs[k] xs[k]
      have m1 := eqInLot (Stab.srt (ltOf cfLot) xs)[k] (Stab.srt (ltOf cfLot) xs)[k]
      simp only [decide_true, Bool.not_true] at n0 n1 m0 m1
      have k0 : (0 : Int) ≤ (k : Int) := Int.natCast_nonneg k
      have k1 : (k : Int) < (n : Int) := Int.ofNat_lt.2 hkl
      have hb0 := R.out.1.1
      have hb1 := R.out.2.1.1
      have hb2 := R.out.2.2.1.1
      have hb3 := R.out.2.2.2.1
      have HSO : Hid (0 < k → ∃ z0 z1 z2 z3 : Value, wr.rangeAt sb (so + (k - 1) * 4) [z0, z1, z2, z3] ∧ ∀ W : World, Calls Tryd.prog 18 #[.agg (encLot (Stab.srt (ltOf cfLot) xs)[k]).toArray, .agg #[z0, z1, z2, z3]] W fun e w' => e = .returned (.bool false) ∧ Below W.heap.size W w') := fun hk0 => by
        have hj1 : k - 1 < (Stab.srt (ltOf cfLot) xs).length := by omega
        refine ⟨_, _, _, _, range_below (R.out.2.2.1.2 (k - 1) hj1) HB.out R.out.2.2.1.1, fun W => ?_⟩
        have h := sooner_any (Stab.srt (ltOf cfLot) xs)[k] (Stab.srt (ltOf cfLot) xs)[k - 1] W
        rw [Stab.srt_le swoLot (Stab.srt_sorted swoLot xs) (by omega) hy1] at h
        exact h
      obtain ⟨cx, hcx⟩ : ∃ cx, cx = encLot xs[k] := ⟨_, rfl⟩
      obtain ⟨cy, hcy⟩ : ∃ cy, cy = encLot (Stab.srt (ltOf cfLot) xs)[k] := ⟨_, rfl⟩
      obtain ⟨x0, x1, x2, x3, rfl⟩ : ∃ x0 x1 x2 x3, cx = [x0, x1, x2, x3] := ⟨_, _, _, _, hcx⟩
      obtain ⟨y0, y1, y2, y3, rfl⟩ : ∃ y0 y1 y2 y3, cy = [y0, y1, y2, y3] := ⟨_, _, _, _, hcy⟩
      rw [← hcx] at q0 q1 n0 m0
      rw [← hcy] at q2 q3 n1 m1 HSO
      have HCX := Lib.hid hcx
      obtain ⟨c00, c01, c02, c03⟩ := range4 q0
      obtain ⟨c10, c11, c12, c13⟩ := range4 q1
      obtain ⟨c20, c21, c22, c23⟩ := range4 q2
      obtain ⟨c30, c31, c32, c33⟩ := range4 q3
      have HQ := Lib.hid (And.intro q0 (And.intro q1 (And.intro q2 q3)))
      have HHI := Lib.hid hi
      clear q0 q1 q2 q3 hcx hcy hi hz0 hz1 hz2
      rcases Nat.eq_zero_or_pos k with h | h
      case' inl =>
        have hg1 : decide ((0 : Int) < (k : Int)) = false := by rw [h]; rfl
        have hg2 : decide (0 < k) = false := by rw [h]; rfl
        have hg3 : ¬ 0 < k := by omega
        clear HSO h
        go_wp2_with fail
        go_quiet (fail)
      case' inr =>
        obtain ⟨z0, z1, z2, z3, rz, hz⟩ := HSO.out h
        obtain ⟨c40, c41, c42, c43⟩ := range4 rz
        have HZ := Lib.hid hz
        have hg1 : decide ((0 : Int) < (k : Int)) = true := by simpa using h
        have hg6 : decide (0 < k) = true := by simpa using h
        have hg7 : (1 : Int) ≤ (k : Int) := by omega
        have hg8 : (k : Int) ≤ (n : Int) := by omega
        have hg9 : 1 ≤ k := h
        have hg2 : IntKind.i64.wrap ((k : Int) - 1) = (k : Int) - 1 := IntWalk.i64_in _ (by omega)
        have hg3 : ((k : Int) - 1).toNat = k - 1 := by omega
        have hg4 : (0 : Int) ≤ (k : Int) - 1 := by omega
        have hg5 : (k : Int) - 1 < (n : Int) := by omega
        have HK : Hid (∀ w5, Below wr.heap.size wr w5 → w5.cell? ⟨lb, lo + k * 4, none⟩ = some x0 ∧ w5.cell? ⟨lb, lo + k * 4 + 1, none⟩ = some x1 ∧ w5.cell? ⟨lb, lo + k * 4 + 2, none⟩ = some x2 ∧ w5.cell? ⟨lb, lo + k * 4 + 3, none⟩ = some x3 ∧ w5.cell? ⟨ob, oo + k * 4, none⟩ = some x0 ∧ w5.cell? ⟨ob, oo + k * 4 + 1, none⟩ = some x1 ∧ w5.cell? ⟨ob, oo + k * 4 + 2, none⟩ = some x2 ∧ w5.cell? ⟨ob, oo + k * 4 + 3, none⟩ = some x3 ∧ w5.cell? ⟨sb, so + k * 4, none⟩ = some y0 ∧ w5.cell? ⟨sb, so + k * 4 + 1, none⟩ = some y1 ∧ w5.cell? ⟨sb, so + k * 4 + 2, none⟩ = some y2 ∧ w5.cell? ⟨sb, so + k * 4 + 3, none⟩ = some y3 ∧ w5.cell? ⟨tb, to_ + k * 4, none⟩ = some y0 ∧ w5.cell? ⟨tb, to_ + k * 4 + 1, none⟩ = some y1 ∧ w5.cell? ⟨tb, to_ + k * 4 + 2, none⟩ = some y2 ∧ w5.cell? ⟨tb, to_ + k * 4 + 3, none⟩ = some y3 ∧ w5.cell? ⟨sb, so + (k - 1) * 4, none⟩ = some z0 ∧ w5.cell? ⟨sb, so + (k - 1) * 4 + 1, none⟩ = some z1 ∧ w5.cell? ⟨sb, so + (k - 1) * 4 + 2, none⟩ = some z2 ∧ w5.cell? ⟨sb, so + (k - 1) * 4 + 3, none⟩ = some z3) := fun w5 h5 => by
          have g := fun (b o : Nat) (v : Value) (hc : wr.cell? ⟨b, o, none⟩ = some v) => (h5.cell (p := ⟨b, o, none⟩) (lt_of_cell hc)).trans hc
          exact ⟨g _ _ _ c00, g _ _ _ c01, g _ _ _ c02, g _ _ _ c03, g _ _ _ c10, g _ _ _ c11, g _ _ _ c12, g _ _ _ c13, g _ _ _ c20, g _ _ _ c21, g _ _ _ c22, g _ _ _ c23, g _ _ _ c30, g _ _ _ c31, g _ _ _ c32, g _ _ _ c33, g _ _ _ c40, g _ _ _ c41, g _ _ _ c42, g _ _ _ c43⟩
        have K0 := HK.out _ ((Below.refl wr.heap.size wr).drew)
        clear HSO rz hz c00 c01 c02 c03 c10 c11 c12 c13 c20 c21 c22 c23 c30 c31 c32 c33 c40 c41 c42 c43
        go_wp2_with fail
        go_region_held3 (fun w5 => w5.cell? ⟨lb, lo + k * 4, none⟩ = some x0 ∧ w5.cell? ⟨lb, lo + k * 4 + 1, none⟩ = some x1 ∧ w5.cell? ⟨lb, lo + k * 4 + 2, none⟩ = some x2 ∧ w5.cell? ⟨lb, lo + k * 4 + 3, none⟩ = some x3 ∧ w5.cell? ⟨ob, oo + k * 4, none⟩ = some x0 ∧ w5.cell? ⟨ob, oo + k * 4 + 1, none⟩ = some x1 ∧ w5.cell? ⟨ob, oo + k * 4 + 2, none⟩ = some x2 ∧ w5.cell? ⟨ob, oo + k * 4 + 3, none⟩ = some x3 ∧ w5.cell? ⟨sb, so + k * 4, none⟩ = some y0 ∧ w5.cell? ⟨sb, so + k * 4 + 1, none⟩ = some y1 ∧ w5.cell? ⟨sb, so + k * 4 + 2, none⟩ = some y2 ∧ w5.cell? ⟨sb, so + k * 4 + 3, none⟩ = some y3 ∧ w5.cell? ⟨tb, to_ + k * 4, none⟩ = some y0 ∧ w5.cell? ⟨tb, to_ + k * 4 + 1, none⟩ = some y1 ∧ w5.cell? ⟨tb, to_ + k * 4 + 2, none⟩ = some y2 ∧ w5.cell? ⟨tb, to_ + k * 4 + 3, none⟩ = some y3 ∧ w5.cell? ⟨sb, so + (k - 1) * 4, none⟩ = some z0 ∧ w5.cell? ⟨sb, so + (k - 1) * 4 + 1, none⟩ = some z1 ∧ w5.cell? ⟨sb, so + (k - 1) * 4 + 2, none⟩ = some z2 ∧ w5.cell? ⟨sb, so + (k - 1) * 4 + 3, none⟩ = some z3)
          (first | exact K0 | exact K5 | go_keep)
          (first | (go_at_call 18; refine (HZ.out _).mono ?_; rintro e w5 ⟨rfl, bb5⟩; have q5 : Below wr.heap.size wr w5 := (Below.refl wr.heap.size wr).drew.trans bb5; have K5 := HK.out _ q5))
      all_goals
        go_wp2_with fail
        obtain ⟨wo, rfl⟩ : ∃ wo : World, wo = wr := ⟨_, rfl⟩
        go_loopw [8, 9, 10] (fun c m j wi => ∃ i : Nat, i ≤ n ∧ j = .int .i64 i ∧ c = .int .i64 (cntL xs[k] (Stab.srt (ltOf cfLot) xs) i) ∧ m = .int .i64 (cntL xs[k] xs i) ∧ Below wo.heap.size wo wi) (fun _ _ j _ => n - (intOf j).toNat)
        case atStart => exact ⟨0, by omega, rfl, by rw [cntL_zero]; rfl, by rw [cntL_zero]; rfl, by first | exact q5 | exact below_drewN (Below.refl _ _) _⟩
        case round =>
          obtain ⟨i, hi, rfl, rfl, rfl, hbi⟩ := hrel
          have HBI := Lib.hid (HB.out.trans (hbi.mono HB.out.size))
          have HBO := Lib.hid hbi
          clear hbi
          by_cases hil : i < n
          · have hix : i < xs.length := by rw [← HN.out]; exact hil
            have hiy : i < (Stab.srt (ltOf cfLot) xs).length := by rw [← HL.out]; exact hil
            obtain ⟨f00, f01, f02, f03⟩ := range4 (range_below HQ.out.1 HBO.out (lt_of_cell (range4 HQ.out.1).1))
            have r1 := range_below (R.out.2.2.1.2 i hiy) HBI.out R.out.2.2.1.1
            have r2 := range_below (R.out.1.2 i hix) HBI.out R.out.1.1
            have e1 := eqInLot (Stab.srt (ltOf cfLot) xs)[i] xs[k]
            have e2 := eqInLot xs[i] xs[k]
            have HC1 := Lib.hid (cntL_succ xs[k] (Stab.srt (ltOf cfLot) xs) i hiy)
            have HC2 := Lib.hid (cntL_succ xs[k] xs i hix)
            have n1 := cntL_le xs[k] (Stab.srt (ltOf cfLot) xs) i
            have n2 := cntL_le xs[k] xs i
            have i0 : (0 : Int) ≤ (i : Int) := Int.natCast_nonneg i
            have i1 : (i : Int) < (n : Int) := Int.ofNat_lt.2 hil
            have N1 := Lib.hid (And.intro n1 n2)
            obtain ⟨ca, hca⟩ : ∃ ca, ca = encLot (Stab.srt (ltOf cfLot) xs)[i] := ⟨_, rfl⟩
            obtain ⟨cb, hcb⟩ : ∃ cb, cb = encLot xs[i] := ⟨_, rfl⟩
            obtain ⟨a0, a1, a2, a3, rfl⟩ : ∃ a0 a1 a2 a3, ca = [a0, a1, a2, a3] := ⟨_, _, _, _, hca⟩
            obtain ⟨b0, b1, b2, b3, rfl⟩ : ∃ b0 b1 b2 b3, cb = [b0, b1, b2, b3] := ⟨_, _, _, _, hcb⟩
            rw [← hca] at r1 e1
            rw [← hcb] at r2 e2
            rw [← HCX.out] at e1 e2
            obtain ⟨f10, f11, f12, f13⟩ := range4 r1
            obtain ⟨f20, f21, f22, f23⟩ := range4 r2
            clear hca hcb r1 r2 n1 n2
            generalize cntL xs[k] (Stab.srt (ltOf cfLot) xs) i = p1 at HC1 N1
            generalize cntL xs[k] xs i = p2 at HC2 N1
            obtain ⟨d1, hd1⟩ : ∃ d1, d1 = decide ((Stab.srt (ltOf cfLot) xs)[i] = xs[k]) := ⟨_, rfl⟩
            obtain ⟨d2, hd2⟩ : ∃ d2, d2 = decide (xs[i] = xs[k]) := ⟨_, rfl⟩
            rw [← hd1] at e1
            rw [← hd2] at e2
            have HD1 := Lib.hid hd1
            have HD2 := Lib.hid hd2
            have hp1 := N1.out.1
            have hp2 := N1.out.2
            clear hd1 hd2
            cases d1 <;> cases d2
            all_goals
              go_wp2_with fail
              go_quiet (fail)
              go_wp2_with fail
              go_quiet (fail)
              go_wp2_with fail
              go_roundw
              case rel =>
                refine ⟨i + 1, by omega, by go_num, ?_, ?_, below_drewN HBO.out _⟩
                · rw [HC1.out]
                  first
                    | rw [if_pos (of_decide_eq_true HD1.out.symm)]; go_num
                    | rw [if_neg (of_decide_eq_false HD1.out.symm)]; go_num
                · rw [HC2.out]
                  first
                    | rw [if_pos (of_decide_eq_true HD2.out.symm)]; go_num
                    | rw [if_neg (of_decide_eq_false HD2.out.symm)]; go_num
              case measure => simp [intOf]; omega
          · obtain rfl : i = n := by omega
            have hcn : cntL xs[k] (Stab.srt (ltOf cfLot) xs) i = cntL xs[k] xs i := by rw [HN.out]; exact cntL_srt _ _
            rw [hcn]
            generalize cntL xs[k] xs i = p at hcn
            clear hcn
            go_wp2_with fail
            go_roundw
            case rel => exact ⟨k + 1, by omega, by go_num, HBI.out⟩
            case measure => simp [intOf]; omega
    · go_wp2
      go_ret
      exact ⟨rfl, HB3.out.trans (HB.out.mono HB3.out.size)⟩

theorem lotSorts_walk (E : Nat → Addr) (A : Option Addr) (cap : Nat) (xs : List LotV) (w : World) (hG : LotG E w) (hX : RowAt encLot 4 w A xs) :
    Calls Tryd.prog 5 #[.slice A xs.length cap] w fun e w' => e = .returned (.bool true) ∧ Below w.heap.size w w' := by
  by_cases h : 40 < xs.length
  · exact sorts_out E A xs.length cap w hG h
  · by_cases h0 : xs = []
    · subst h0
      exact sorts_none E A cap w hG
    · exact sorts_in E A cap xs w hG hX h0 (by omega)
end Go.Proofs.YtchamhjckindiaaDoor
