/- The law LotTells, walked. -/
import Derived.Test.YtllcddlflcpmbaaGreatDoorRLotR
import Derived.Test.YtllcddlflcpmbaaGreatDoorRCut
import Derived.Test.YtllcddlflcpmbaaGreatDoorLotted
import Derived.Test.YtllcddlflcpmbaaGreatDoorCoded
import Derived.Test.YtllcddlflcpmbaaGreatDoorErrG
namespace Go.Proofs.YtllcddlflcpmbaaGreatDoor
open Go.RowKit Go.Sort Go.Proofs

/-- What the law leans on. -/
structure LTellG (E : Nat → Addr) (w : World) : Prop where
  err : ErrG E w
  tab : TabG w
  atoi : AtoiG w
  maxl : MaxG w
theorem LTellG.below {E : Nat → Addr} {w w' : World} (h : LTellG E w) (hb : Below w.heap.size w w') : LTellG E w' := ⟨h.err.below hb, h.tab.below hb, h.atoi.below hb, h.maxl.below hb⟩
theorem LTellG.read {E : Nat → Addr} {w : World} (h : LTellG E w) : ReadG E w := ⟨h.err.at_ 1 (by omega) (by omega), h.err.at_ 5 (by omega) (by omega), h.err.at_ 2 (by omega) (by omega), h.tab, h.atoi, h.maxl⟩
theorem LTellG.lot {E : Nat → Addr} {w : World} (h : LTellG E w) : LotG E w := h.read.lot

/-- Four cells of a lot. -/
def Cells4 (w : World) (b : Nat) (x : LotV) : Prop := w.cell? ⟨b, 0, none⟩ = some (.string ⟨x.1.toArray⟩) ∧ w.cell? ⟨b, 1, none⟩ = some (.string ⟨x.2.1.toArray⟩) ∧ w.cell? ⟨b, 2, none⟩ = some (.int .i64 x.2.2.1) ∧ w.cell? ⟨b, 3, none⟩ = some (.int .i64 x.2.2.2)
theorem Cells4.new (w : World) (x : LotV) : Cells4 (w.alloc (.cells (encLot x).toArray 23)) w.heap.size x :=
  ⟨cell_of_row _ _ _ _ _ _ (heap_alloc_new _ _), cell_of_row _ _ _ _ _ _ (heap_alloc_new _ _), cell_of_row _ _ _ _ _ _ (heap_alloc_new _ _), cell_of_row _ _ _ _ _ _ (heap_alloc_new _ _)⟩
theorem Cells4.below {w w' : World} {b : Nat} {x : LotV} (h : Cells4 w b x) (hb : Below w.heap.size w w') : Cells4 w' b x := by
  obtain ⟨h0, h1, h2, h3⟩ := h
  have g := fun (o : Nat) (v : Value) (hc : w.cell? ⟨b, o, none⟩ = some v) => (hb.cell (p := ⟨b, o, none⟩) (lt_of_cell hc)).trans hc
  exact ⟨g _ _ h0, g _ _ h1, g _ _ h2, g _ _ h3⟩

set_option maxHeartbeats 1600000 in
set_option maxRecDepth 100000 in
theorem ltell_out (E : Nat → Addr) (x y : LotV) (s : List UInt8) (day : Int) (w : World) (hG : LTellG E w) (h : 30 < x.1.length ∨ 30 < x.2.1.length ∨ 30 < y.1.length ∨ 60 < s.length) :
    Calls Tryz.prog 3 #[.agg (encLot x).toArray, .agg (encLot y).toArray, .string ⟨s.toArray⟩, .int .i64 day] w fun e w' => e = .returned (.bool true) ∧ Below w.heap.size w w' := by
  have h' : 30 < x.1.length ∨ (¬ 30 < x.1.length ∧ 30 < x.2.1.length) ∨ (¬ 30 < x.1.length ∧ ¬ 30 < x.2.1.length ∧ 30 < y.1.length) ∨ (¬ 30 < x.1.length ∧ ¬ 30 < x.2.1.length ∧ ¬ 30 < y.1.length ∧ 60 < s.length) := by omega
  have c0 := (Cells4.new w x).below (below_one _ (.cells (encLot y).toArray 23))
  have d0 := Cells4.new (w.alloc (.cells (encLot x).toArray 23)) y
  rw [show (w.alloc (.cells (encLot x).toArray 23)).heap.size = w.heap.size + 1 by simp] at d0
  have b0 := below_two w (.cells (encLot x).toArray 23) (.cells (encLot y).toArray 23)
  obtain ⟨a1, a2, a3, a4⟩ := x
  obtain ⟨y1, y2, y3, y4⟩ := y
  simp only [encLot] at c0 d0 b0 h' ⊢
  have s1 : (⟨a1.toArray⟩ : ByteArray).size = a1.length := by simp [ByteArray.size]
  have s2 : (⟨a2.toArray⟩ : ByteArray).size = a2.length := by simp [ByteArray.size]
  have s3 : (⟨y1.toArray⟩ : ByteArray).size = y1.length := by simp [ByteArray.size]
  have s4 : (⟨s.toArray⟩ : ByteArray).size = s.length := by simp [ByteArray.size]
  have HT := Lib.hid (fun W h => lotted_any E W h)
  have hG0 := (hG.below b0).lot
  clear hG h
  rcases h' with h | ⟨h1, h2⟩ | ⟨h1, h2, h3⟩ | ⟨h1, h2, h3, h4⟩
  all_goals
    go_enter Tryz.func3, Tryz.ntmps3
    go_wp2_with fail
    refine (HT.out _ hG0).mono ?_
    rintro e w1 ⟨rfl, bb⟩
    obtain ⟨x0, x1, -, -⟩ := c0.below bb
    obtain ⟨z0, -, -, -⟩ := d0.below bb
    have B2 := Lib.hid (b0.trans (bb.mono b0.size))
    simp only at x0 x1 z0
    clear bb c0 d0 b0 hG0 HT
    go_wp2
    go_ret
    exact ⟨rfl, B2.out⟩

set_option maxHeartbeats 4000000 in
set_option maxRecDepth 100000 in
theorem ltell_in (E : Nat → Addr) (x y : LotV) (s : List UInt8) (day : Int) (w : World) (hG : LTellG E w) (h1 : x.1.length ≤ 30) (h2 : x.2.1.length ≤ 30) (h3 : y.1.length ≤ 30) (h4 : s.length ≤ 60) :
    Calls Tryz.prog 3 #[.agg (encLot x).toArray, .agg (encLot y).toArray, .string ⟨s.toArray⟩, .int .i64 day] w fun e w' => e = .returned (.bool true) ∧ Below w.heap.size w w' := by
  have c0 := (Cells4.new w x).below (below_one _ (.cells (encLot y).toArray 23))
  have d0 := Cells4.new (w.alloc (.cells (encLot x).toArray 23)) y
  rw [show (w.alloc (.cells (encLot x).toArray 23)).heap.size = w.heap.size + 1 by simp] at d0
  have b0 := below_two w (.cells (encLot x).toArray 23) (.cells (encLot y).toArray 23)
  have s4 : (⟨s.toArray⟩ : ByteArray).size = s.length := by simp [ByteArray.size]
  have hge := lotE_le x
  obtain ⟨ev1, hev1⟩ : ∃ v, v = errOf E (lotE x) := ⟨_, rfl⟩
  obtain ⟨ge, hge'⟩ : ∃ g, g = lotE x := ⟨_, rfl⟩
  have HC := Lib.hid (fun W (h : LotG E W) => show Calls Tryz.prog 10 #[.agg (encLot x).toArray] W fun e w' => e = .returned ev1 ∧ Below W.heap.size W w' from by rw [hev1]; exact checkLot_any E x (by omega) (by omega) W h)
  have HR := Lib.hid (fun W => show Calls Tryz.prog 11 #[.agg (encLot x).toArray] W fun e w' => e = .returned (.int .i64 (ge : Nat)) ∧ Below W.heap.size W w' from by rw [hge']; exact refLotE_any x (by omega) (by omega) W)
  have HK1 := Lib.hid (fun W (h : ErrG E W) => show Calls Tryz.prog 9 #[ev1, .int .i64 (ge : Nat)] W fun e w' => e = .returned (.bool true) ∧ Below W.heap.size W w' from by
    have := coded1 E (lotE x) (by omega) (lotE x : Nat) W h
    rw [hev1, hge']
    rwa [beq_self_eq_true] at this)
  have hj := lotWords_le (splitL 32 s)
  have HRD := Lib.hid (fun W (h : ReadG E W) => lotRead_any E ⟨s.toArray⟩ (by rw [s4]; omega) W h)
  have HCU := Lib.hid (fun W => refCutB ⟨s.toArray⟩ 32 W (by rw [s4]; omega))
  have HLE := Lib.hid (fun v (h : v ∈ splitL 32 s) => splitL_lens h)
  rw [show bts ⟨s.toArray⟩ = s from rfl] at HRD HCU
  obtain ⟨ws, hws⟩ : ∃ ws, ws = splitL 32 s := ⟨_, rfl⟩
  rw [← hws] at hj HRD HCU HLE
  obtain ⟨ev2, hev2⟩ : ∃ v, v = errOf E (lotWords ws).2 := ⟨_, rfl⟩
  have HK2 := Lib.hid (fun W (h : ErrG E W) => show Calls Tryz.prog 9 #[ev2, .int .i64 ((lotWords ws).2 : Nat)] W fun e w' => e = .returned (.bool true) ∧ Below W.heap.size W w' from by
    have := coded1 E (lotWords ws).2 hj ((lotWords ws).2 : Nat) W h
    rw [hev2]
    rwa [beq_self_eq_true] at this)
  rw [← hev2] at HRD
  have HRR := Lib.hid (fun A cap W (h : StrsAt W A ws) => refReadLot_any A cap ws W h (fun v hv => by have := HLE.out v hv; omega))
  have HTX := Lib.hid (fun W (h : LotG E W) => textLot_any E x (by omega) (by omega) W h)
  have HTR := Lib.hid (fun W => refLotText_any x (by omega) (by omega) W)
  have HS1 := Lib.hid (fun W => isSooner_any x y W)
  have HS2 := Lib.hid (fun W => sooner_any x y W)
  have HGD := Lib.hid (fun W => good_any x day W)
  obtain ⟨r, hr⟩ : ∃ r, r = (lotWords ws).1 := ⟨_, rfl⟩
  obtain ⟨r2, hr2⟩ : ∃ r2, r2 = (lotWords ws).2 := ⟨_, rfl⟩
  rw [← hr] at HRD HRR
  rw [← hr2] at HRR HK2
  have n0 := fun W => neqLot0 r W
  have hT := Lib.hid (fun W h => lotted_any E W h)
  clear hge hge' hev1 hj hws hev2 hr hr2 HLE
  generalize lotText x = tx at HTX HTR
  generalize ltOf cfLot x y = so at HS1 HS2
  obtain ⟨a1, a2, a3, a4⟩ := x
  obtain ⟨y1, y2, y3, y4⟩ := y
  obtain ⟨r3, r4, r5, r6⟩ := r
  simp only [encLot] at c0 d0 b0 HC HR HTX HTR HS1 HS2 HGD HRD HRR n0 ⊢
  simp only at h1 h2 h3
  have s1 : (⟨a1.toArray⟩ : ByteArray).size = a1.length := by simp [ByteArray.size]
  have s2 : (⟨a2.toArray⟩ : ByteArray).size = a2.length := by simp [ByteArray.size]
  have s3 : (⟨y1.toArray⟩ : ByteArray).size = y1.length := by simp [ByteArray.size]
  go_enter Tryz.func3, Tryz.ntmps3
  go_wp2_with fail
  generalize (w.alloc (.cells #[.string ⟨a1.toArray⟩, .string ⟨a2.toArray⟩, .int .i64 a3, .int .i64 a4] 23)).alloc (.cells #[.string ⟨y1.toArray⟩, .string ⟨y2.toArray⟩, .int .i64 y3, .int .i64 y4] 23) = W0 at b0 c0 d0 ⊢
  have HG := Lib.hid (fun W (h : Below W0.heap.size W0 W) => hG.below (b0.trans (h.mono b0.size)))
  have HCX := Lib.hid (fun W (h : Below W0.heap.size W0 W) => c0.below h)
  have HCY := Lib.hid (fun W (h : Below W0.heap.size W0 W) => d0.below h)
  have B0 := Lib.hid b0
  clear b0 c0 d0 hG
  refine (hT.out W0 (HG.out W0 (Below.refl _ _)).lot).mono ?_
  rintro e w1 ⟨rfl, b1⟩
  have B1 := Lib.hid b1
  obtain ⟨x0, x1, -, -⟩ := HCX.out w1 b1
  obtain ⟨z0, -, -, -⟩ := HCY.out w1 b1
  simp only at x0 x1 z0
  clear b1 hT
  go_wp2_with fail
  refine (HRD.out w1 (HG.out w1 B1.out).read).mono ?_
  rintro e w2 ⟨rfl, b2⟩
  have B2 := Lib.hid (B1.out.trans (b2.mono B1.out.size))
  clear b2 x0 x1 z0 HRD B1
  go_wp2_with fail
  have bl1 := below_one w2 (.cells #[.string ⟨r3.toArray⟩, .string ⟨r4.toArray⟩, .int .i64 r5, .int .i64 r6] 23)
  have cl1 : Cells4 (w2.alloc (.cells #[.string ⟨r3.toArray⟩, .string ⟨r4.toArray⟩, .int .i64 r5, .int .i64 r6] 23)) w2.heap.size (r3, r4, r5, r6) := Cells4.new w2 (r3, r4, r5, r6)
  obtain ⟨l1, hl1⟩ : ∃ l1, l1 = w2.heap.size := ⟨_, rfl⟩
  rw [← hl1] at cl1 ⊢
  generalize w2.alloc (.cells #[.string ⟨r3.toArray⟩, .string ⟨r4.toArray⟩, .int .i64 r5, .int .i64 r6] 23) = W3 at bl1 cl1 ⊢
  have B3 := Lib.hid (B2.out.trans (bl1.mono B2.out.size))
  clear bl1 hl1 B2
  refine (HCU.out W3).mono ?_
  rintro e w4 ⟨A4, c4, rfl, hS4, -, b4⟩
  have B4 := Lib.hid (B3.out.trans (b4.mono B3.out.size))
  have cl4 := cl1.below b4
  have HS4 := Lib.hid hS4
  clear b4 cl1 hS4 HCU B3
  go_wp2_with fail
  refine (HRR.out A4 c4 w4 HS4.out).mono ?_
  rintro e w5 ⟨rfl, b5⟩
  have B5 := Lib.hid (B4.out.trans (b5.mono B4.out.size))
  have cl5 := cl4.below b5
  clear b5 cl4 HS4 HRR B4
  go_wp2_with fail
  have bl2 := below_one w5 (.cells #[.string ⟨r3.toArray⟩, .string ⟨r4.toArray⟩, .int .i64 r5, .int .i64 r6] 23)
  have cm : Cells4 (w5.alloc (.cells #[.string ⟨r3.toArray⟩, .string ⟨r4.toArray⟩, .int .i64 r5, .int .i64 r6] 23)) w5.heap.size (r3, r4, r5, r6) := Cells4.new w5 (r3, r4, r5, r6)
  obtain ⟨l2, hl2⟩ : ∃ l2, l2 = w5.heap.size := ⟨_, rfl⟩
  rw [← hl2] at cm ⊢
  have cl6 := cl5.below bl2
  generalize w5.alloc (.cells #[.string ⟨r3.toArray⟩, .string ⟨r4.toArray⟩, .int .i64 r5, .int .i64 r6] 23) = W6 at bl2 cl6 cm ⊢
  have b6 := B5.out.trans (bl2.mono B5.out.size)
  have HCL := Lib.hid (fun W (h : Below W6.heap.size W6 W) => And.intro (cl6.below h) (cm.below h))
  have HCX6 := Lib.hid (fun W (h : Below W6.heap.size W6 W) => HCX.out W (b6.trans (h.mono b6.size)))
  have HG6 := Lib.hid (fun W (h : Below W6.heap.size W6 W) => HG.out W (b6.trans (h.mono b6.size)))
  have B6 := Lib.hid b6
  have HK : Hid (∀ W, Below W6.heap.size W6 W → W.cell? ⟨w.heap.size, 0, none⟩ = some (.string ⟨a1.toArray⟩) ∧ W.cell? ⟨w.heap.size, 1, none⟩ = some (.string ⟨a2.toArray⟩) ∧ W.cell? ⟨w.heap.size, 2, none⟩ = some (.int .i64 a3) ∧ W.cell? ⟨w.heap.size, 3, none⟩ = some (.int .i64 a4) ∧
      W.cell? ⟨l1, 0, none⟩ = some (.string ⟨r3.toArray⟩) ∧ W.cell? ⟨l1, 1, none⟩ = some (.string ⟨r4.toArray⟩) ∧ W.cell? ⟨l1, 2, none⟩ = some (.int .i64 r5) ∧ W.cell? ⟨l1, 3, none⟩ = some (.int .i64 r6) ∧
      W.cell? ⟨l2, 0, none⟩ = some (.string ⟨r3.toArray⟩) ∧ W.cell? ⟨l2, 1, none⟩ = some (.string ⟨r4.toArray⟩) ∧ W.cell? ⟨l2, 2, none⟩ = some (.int .i64 r5) ∧ W.cell? ⟨l2, 3, none⟩ = some (.int .i64 r6)) := fun W h => by
    obtain ⟨g0, g1, g2, g3⟩ := HCX6.out W h
    obtain ⟨⟨k0, k1, k2, k3⟩, m0, m1, m2, m3⟩ := HCL.out W h
    exact ⟨g0, g1, g2, g3, k0, k1, k2, k3, m0, m1, m2, m3⟩
  have d0 : Below W6.heap.size W6 W6.drew := (Below.refl _ _).drew
  have K0 := HK.out _ d0
  clear bl2 cl5 cl6 cm hl2 b6 B5 HCL HCX6 HCX
  go_region_held3 (fun W => W.cell? ⟨w.heap.size, 0, none⟩ = some (.string ⟨a1.toArray⟩) ∧ W.cell? ⟨w.heap.size, 1, none⟩ = some (.string ⟨a2.toArray⟩) ∧ W.cell? ⟨w.heap.size, 2, none⟩ = some (.int .i64 a3) ∧ W.cell? ⟨w.heap.size, 3, none⟩ = some (.int .i64 a4) ∧
      W.cell? ⟨l1, 0, none⟩ = some (.string ⟨r3.toArray⟩) ∧ W.cell? ⟨l1, 1, none⟩ = some (.string ⟨r4.toArray⟩) ∧ W.cell? ⟨l1, 2, none⟩ = some (.int .i64 r5) ∧ W.cell? ⟨l1, 3, none⟩ = some (.int .i64 r6) ∧
      W.cell? ⟨l2, 0, none⟩ = some (.string ⟨r3.toArray⟩) ∧ W.cell? ⟨l2, 1, none⟩ = some (.string ⟨r4.toArray⟩) ∧ W.cell? ⟨l2, 2, none⟩ = some (.int .i64 r5) ∧ W.cell? ⟨l2, 3, none⟩ = some (.int .i64 r6))
    (first | exact K0 | exact K3 | exact K4 | exact K5 | exact K6 | exact K7 | exact K8 | go_keep)
    (first
      | (go_at_call 10; refine (HC.out _ (HG6.out _ d0).lot).mono ?_; rintro e w3 ⟨rfl, bb3⟩; have d3 := d0.trans (bb3.mono d0.size); have K3 := HK.out _ d3)
      | (go_at_call 11; refine (HR.out _).mono ?_; rintro e w4 ⟨rfl, bb4⟩; have d4 := d3.trans (bb4.mono d3.size); have K4 := HK.out _ d4)
      | (go_at_call_of 9 ev1; refine (HK1.out _ (HG6.out _ d4).err).mono ?_; rintro e w5 ⟨rfl, bb5⟩; have d5 := d4.trans (bb5.mono d4.size); have K5 := HK.out _ d5)
      | (go_at_call 12; refine (HTX.out _ (HG6.out _ d5).lot).mono ?_; rintro e w6 ⟨rfl, bb6⟩; have d6 := d5.trans (bb6.mono d5.size); have K6 := HK.out _ d6)
      | (go_at_call 13; refine (HTR.out _).mono ?_; rintro e w7 ⟨rfl, bb7⟩; have d7 := d6.trans (bb7.mono d6.size); have K7 := HK.out _ d7)
      | (go_at_call_of 9 ev2; refine (HK2.out _ (HG6.out _ d7).err).mono ?_; rintro e w8 ⟨rfl, bb8⟩; have d8 := d7.trans (bb8.mono d7.size); have K8 := HK.out _ d8))
  all_goals
    have D8 := Lib.hid d8
    have K8' := Lib.hid K8
    have B8 := Lib.hid (B6.out.trans (d8.mono B6.out.size))
    clear K0 K3 K4 K5 K6 K7 K8 d0 d3 d4 d5 d6 d7 d8 bb3 bb4 bb5 bb6 bb7 bb8 HC HR HK1 HK2 HTX HTR
    obtain ⟨x0, x1, x2, x3, -⟩ := K8'.out
    obtain ⟨z0, z1, z2, z3⟩ := HCY.out w8 B8.out
    simp only at z0 z1 z2 z3
    obtain ⟨gd, hgd⟩ : ∃ gd, gd = decide (day ≤ a3) := ⟨_, rfl⟩
    rw [← hgd] at HGD
    have HGD2 := Lib.hid hgd
    clear hgd
    go_wp2_with fail
    refine (HS1.out w8).mono ?_
    rintro e w9 ⟨rfl, b9⟩
    have g := fun (b o : Nat) (v : Value) (hc : w8.cell? ⟨b, o, none⟩ = some v) => (b9.cell (p := ⟨b, o, none⟩) (lt_of_cell hc)).trans hc
    have HC9 : Hid (∀ W, Below w9.heap.size w9 W → W.cell? ⟨w.heap.size, 0, none⟩ = some (.string ⟨a1.toArray⟩) ∧ W.cell? ⟨w.heap.size, 1, none⟩ = some (.string ⟨a2.toArray⟩) ∧ W.cell? ⟨w.heap.size, 2, none⟩ = some (.int .i64 a3) ∧ W.cell? ⟨w.heap.size, 3, none⟩ = some (.int .i64 a4) ∧
        W.cell? ⟨w.heap.size + 1, 0, none⟩ = some (.string ⟨y1.toArray⟩) ∧ W.cell? ⟨w.heap.size + 1, 1, none⟩ = some (.string ⟨y2.toArray⟩) ∧ W.cell? ⟨w.heap.size + 1, 2, none⟩ = some (.int .i64 y3) ∧ W.cell? ⟨w.heap.size + 1, 3, none⟩ = some (.int .i64 y4)) := fun W h => by
      have k := fun (b o : Nat) (v : Value) (hc : w9.cell? ⟨b, o, none⟩ = some v) => (h.cell (p := ⟨b, o, none⟩) (lt_of_cell hc)).trans hc
      exact ⟨k _ _ _ (g _ _ _ x0), k _ _ _ (g _ _ _ x1), k _ _ _ (g _ _ _ x2), k _ _ _ (g _ _ _ x3), k _ _ _ (g _ _ _ z0), k _ _ _ (g _ _ _ z1), k _ _ _ (g _ _ _ z2), k _ _ _ (g _ _ _ z3)⟩
    have B9 := Lib.hid (B0.out.trans ((B8.out.trans (b9.mono B8.out.size)).mono B0.out.size))
    clear x0 x1 x2 x3 z0 z1 z2 z3 g b9 HS1 B8 D8 K8' HCY
    have d0 : Below w9.heap.size w9 w9.drew := (Below.refl _ _).drew
    have K0 := HC9.out _ d0
    have hcd : (gd = true ∧ day ≤ a3) ∨ (gd = false ∧ ¬ day ≤ a3) := by
      by_cases h : day ≤ a3
      · exact .inl ⟨by rw [HGD2.out]; simpa using h, h⟩
      · exact .inr ⟨by rw [HGD2.out]; simpa using h, h⟩
    clear HGD2
    cases so <;> rcases hcd with ⟨rfl, hday⟩ | ⟨rfl, hday⟩
    all_goals
      go_wp2_with fail
      go_region_held3 (fun W => W.cell? ⟨w.heap.size, 0, none⟩ = some (.string ⟨a1.toArray⟩) ∧ W.cell? ⟨w.heap.size, 1, none⟩ = some (.string ⟨a2.toArray⟩) ∧ W.cell? ⟨w.heap.size, 2, none⟩ = some (.int .i64 a3) ∧ W.cell? ⟨w.heap.size, 3, none⟩ = some (.int .i64 a4) ∧
          W.cell? ⟨w.heap.size + 1, 0, none⟩ = some (.string ⟨y1.toArray⟩) ∧ W.cell? ⟨w.heap.size + 1, 1, none⟩ = some (.string ⟨y2.toArray⟩) ∧ W.cell? ⟨w.heap.size + 1, 2, none⟩ = some (.int .i64 y3) ∧ W.cell? ⟨w.heap.size + 1, 3, none⟩ = some (.int .i64 y4))
        (first | exact K0 | exact K3 | exact K4 | go_keep)
        (first
          | (go_at_call 15; refine (HS2.out _).mono ?_; rintro e w3 ⟨rfl, bb3⟩; have d3 := d0.trans (bb3.mono d0.size); have K3 := HC9.out _ d3)
          | (go_at_call 16; refine (HGD.out _).mono ?_; rintro e w4 ⟨rfl, bb4⟩; have d4 := d3.trans (bb4.mono d3.size); have K4 := HC9.out _ d4))
      all_goals
        have B10 := Lib.hid (B9.out.trans (d4.mono B9.out.size))
        clear K0 K3 K4 d0 d3 d4 bb3 bb4
        go_wp2_with fail
        go_ret
        first
          | exact ⟨rfl, B10.out⟩
          | exact ⟨by simp; omega, B10.out⟩

theorem lotTells_walk (E : Nat → Addr) (x y : LotV) (s : ByteArray) (day : Int) (w : World) (hG : LTellG E w) :
    Calls Tryz.prog 3 #[.agg (encLot x).toArray, .agg (encLot y).toArray, .string s, .int .i64 day] w fun e w' => e = .returned (.bool true) ∧ Below w.heap.size w w' := by
  obtain ⟨⟨l⟩⟩ := s
  by_cases h : 30 < x.1.length ∨ 30 < x.2.1.length ∨ 30 < y.1.length ∨ 60 < l.length
  · exact ltell_out E x y l day w hG h
  · exact ltell_in E x y l day w hG (by omega) (by omega) (by omega) (by omega)
end Go.Proofs.YtllcddlflcpmbaaGreatDoor
