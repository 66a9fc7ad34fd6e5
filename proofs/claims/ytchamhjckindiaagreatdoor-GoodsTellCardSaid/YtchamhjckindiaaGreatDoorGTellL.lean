/- The law GoodsTell, walked to its end. -/
import Derived.Test.YtchamhjckindiaaGreatDoorGTell
import Derived.Test.YtchamhjckindiaaGreatDoorErrG
namespace Go.Proofs.YtchamhjckindiaaGreatDoor
open Go.RowKit

/-- What the law leans on. -/
structure GTellG (E : Nat → Addr) (w : World) : Prop where
  err : ErrG E w
  tab : TabG w
  atoi : AtoiG w
  maxl : MaxG w
theorem GTellG.below {E : Nat → Addr} {w w' : World} (h : GTellG E w) (hb : Below w.heap.size w w') : GTellG E w' := ⟨h.err.below hb, h.tab.below hb, h.atoi.below hb, h.maxl.below hb⟩
theorem GTellG.goods {E : Nat → Addr} {w : World} (h : GTellG E w) : GoodsG E w := ⟨h.tab, h.atoi, h.maxl, h.err.at_ 1 (by omega) (by omega), h.err.at_ 2 (by omega) (by omega)⟩
theorem ErrG.name {E : Nat → Addr} {w : World} (h : ErrG E w) : ErrAt 2 (E 5) w := h.at_ 5 (by omega) (by omega)
theorem ErrG.bound {E : Nat → Addr} {w : World} (h : ErrG E w) : ErrAt 0 (E 2) w := h.at_ 2 (by omega) (by omega)

/-- What reading pieces answers, at any pack. -/
def readI (l : List UInt8) (pack : Int) : Nat × Nat := if 1 ≤ pack ∧ pack ≤ 1000 then readS l pack.toNat else (0, 2)
theorem readQ_le (a b : List UInt8) (f : Bool) (pack : Nat) : (readQ a b f pack).2 ≤ 2 := by
  unfold readQ finQ
  repeat' split
  all_goals omega
theorem readI_le (l : List UInt8) (pack : Int) : (readI l pack).2 ≤ 12 := by
  unfold readI readS
  split
  · split
    · have := readQ_le (Lib.cut l [99]).1 (Lib.cut l [99]).2.1 true pack.toNat; omega
    · have := readQ_le (Lib.cut l [99]).1 l false pack.toNat; omega
  · omega
theorem readI_any (E : Nat → Addr) (l : List UInt8) (pack : Int) (w : World) (hl : l.length ≤ 1000) (hG : GTellG E w) :
    Calls Tryz.prog 11 #[.string ⟨l.toArray⟩, .int .i64 pack] w fun e w' => e = .returned (.tuple #[.int .i64 (readI l pack).1, errOf E (readI l pack).2]) ∧ Below w.heap.size w w' := by
  by_cases h : 1 ≤ pack ∧ pack ≤ 1000
  · rw [show readI l pack = readS l pack.toNat from if_pos h]
    have := read_any E ⟨l.toArray⟩ pack.toNat w (by omega) (by omega) (by show l.toArray.size < _; simp; omega) hG.tab hG.atoi hG.maxl hG.goods.e1 hG.goods.e2
    rwa [Int.toNat_of_nonneg (by omega)] at this
  · rw [show readI l pack = (0, 2) from if_neg h]
    exact read_pack E _ pack w (by omega) hG.err.bound
theorem refI_any (l : List UInt8) (pack : Int) (w : World) (hl : l.length ≤ 1000) :
    Calls Tryz.prog 12 #[.string ⟨l.toArray⟩, .int .i64 pack] w fun e w' => e = .returned (.tuple #[.int .i64 (readI l pack).1, .int .i64 (readI l pack).2]) ∧ w = w' := by
  by_cases h : 1 ≤ pack ∧ pack ≤ 1000
  · rw [show readI l pack = readS l pack.toNat from if_pos h]
    have := pieces_any ⟨l.toArray⟩ pack.toNat w (by omega) (by omega) (by show l.toArray.size ≤ _; simp; omega)
    rwa [Int.toNat_of_nonneg (by omega)] at this
  · rw [show readI l pack = (0, 2) from if_neg h]
    exact pieces_pack _ pack w (by omega)

set_option maxHeartbeats 400000 in
theorem tell_out (E : Nat → Addr) (x : GoodsV) (n pack : Int) (s : List UInt8) (w : World) (hG : GTellG E w) (h : 30 < x.1.length ∨ 40 < s.length) :
    Calls Tryz.prog 3 #[.agg (encGoods x).toArray, .int .i64 n, .int .i64 pack, .string ⟨s.toArray⟩] w fun e w' => e = .returned (.bool true) ∧ Below w.heap.size w w' := by
  obtain ⟨a1, a2⟩ := x
  have h : 30 < a1.length ∨ 40 < s.length := h
  have s1 : (⟨a1.toArray⟩ : ByteArray).size = a1.length := by simp [ByteArray.size]
  have s2 : (⟨s.toArray⟩ : ByteArray).size = s.length := by simp [ByteArray.size]
  simp only [encGoods]
  have b1 := below_one w (.cells #[.string ⟨a1.toArray⟩, .int .i64 a2] 23)
  have HT := Lib.hid (told_any E (w.alloc (.cells #[.string ⟨a1.toArray⟩, .int .i64 a2] 23)) (hG.goods.below b1))
  have B1 := Lib.hid b1
  clear b1 hG
  have h' : 30 < a1.length ∨ ¬ 30 < a1.length ∧ 40 < s.length := by omega
  clear h
  rcases h' with h | ⟨h1, h2⟩
  all_goals
    go_enter Tryz.func3, Tryz.ntmps3
    go_wp2_with fail
    refine HT.out.mono ?_
    rintro e w1 ⟨rfl, bb⟩
    obtain ⟨hc, -⟩ := bcell bb
    have B2 := Lib.hid (B1.out.trans (bb.mono (by simp)))
    clear bb
    go_wp2
    go_ret
    exact ⟨rfl, B2.out⟩

set_option maxHeartbeats 1600000 in
theorem tell_in (E : Nat → Addr) (x : GoodsV) (n pack : Int) (s : List UInt8) (w : World) (hG : GTellG E w) (h1 : x.1.length ≤ 30) (h2 : s.length ≤ 40) :
    Calls Tryz.prog 3 #[.agg (encGoods x).toArray, .int .i64 n, .int .i64 pack, .string ⟨s.toArray⟩] w fun e w' => e = .returned (.bool true) ∧ Below w.heap.size w w' := by
  have HC := Lib.hid (fun W (h : GTellG E W) => checkGoods_any E x W h.err.name h.err.bound)
  have HR := Lib.hid (fun W => refGoods_any x (by omega) W)
  have hk := goodsE_le x
  have HK := Lib.hid (fun W (h : ErrG E W) => show Calls Tryz.prog 13 #[errOf E (goodsE x), .int .i64 (goodsE x : Nat)] W fun e w' => e = .returned (.bool true) ∧ Below W.heap.size W w' from by
    have := coded1 E (goodsE x) hk (goodsE x : Nat) W h
    rwa [beq_self_eq_true] at this)
  have hj := readI_le s pack
  have HJ := Lib.hid (fun W (h : ErrG E W) => show Calls Tryz.prog 13 #[errOf E (readI s pack).2, .int .i64 ((readI s pack).2 : Nat)] W fun e w' => e = .returned (.bool true) ∧ Below W.heap.size W w' from by
    have := coded1 E (readI s pack).2 hj ((readI s pack).2 : Nat) W h
    rwa [beq_self_eq_true] at this)
  have HRD := Lib.hid (fun W (h : GTellG E W) => readI_any E s pack W (by omega) h)
  have HRR := Lib.hid (fun W => refI_any s pack W (by omega))
  have HTX := Lib.hid (fun W (h : TabG W) => text_any n pack W h)
  have HTR := Lib.hid (fun W => pText_any n pack W)
  have HNM := Lib.hid (fun W => name_wide s W)
  have HNR := Lib.hid (fun W => isName_any s (by omega) W)
  clear hk hj
  generalize textI n pack = tx at HTX HTR
  generalize nameB s = nb at HNM HNR
  generalize readI s pack = rd at HJ HRD HRR
  generalize goodsE x = ge at HC HR HK
  obtain ⟨r1, r2⟩ := rd
  obtain ⟨a1, a2⟩ := x
  have h1 : a1.length ≤ 30 := h1
  have s1 : (⟨a1.toArray⟩ : ByteArray).size = a1.length := by simp [ByteArray.size]
  have s2 : (⟨s.toArray⟩ : ByteArray).size = s.length := by simp [ByteArray.size]
  simp only [encGoods] at HC HR ⊢
  simp only at HJ HRD HRR
  go_enter Tryz.func3, Tryz.ntmps3
  go_wp2_with fail
  obtain ⟨W0, hW0⟩ : ∃ W0, W0 = w.alloc (.cells #[.string ⟨a1.toArray⟩, .int .i64 a2] 23) := ⟨_, rfl⟩
  have b0 : Below w.heap.size w W0 := by rw [hW0]; exact below_one _ _
  have c0 : W0.cell? ⟨w.heap.size, 0, none⟩ = some (.string ⟨a1.toArray⟩) := by rw [hW0]; go_simp
  have c1 : W0.cell? ⟨w.heap.size, 1, none⟩ = some (.int .i64 a2) := by rw [hW0]; go_simp
  have l1 : w.heap.size < W0.heap.size := by rw [hW0]; simp
  rw [← hW0]
  clear hW0
  have HG := Lib.hid (fun W (h : Below W0.heap.size W0 W) => hG.below (b0.trans (h.mono b0.size)))
  have B0 := Lib.hid b0
  clear hG b0
  refine (told_any E W0 (HG.out W0 (Below.refl _ _)).goods).mono ?_
  rintro e w1 ⟨rfl, b1⟩
  obtain ⟨hc, -⟩ := bcell b1
  have B1 := Lib.hid b1
  clear b1
  go_wp2_with fail
  refine (HRD.out w1 (HG.out w1 B1.out)).mono ?_
  rintro e w2 ⟨rfl, b2⟩
  have B2 := Lib.hid (B1.out.trans (b2.mono B1.out.size))
  clear hc b2 HRD
  go_wp2_with fail
  refine (HRR.out w2).mono ?_
  rintro e w3 ⟨rfl, rfl⟩
  have HCL : Hid (∀ W, Below W0.heap.size W0 W → W.cell? ⟨w.heap.size, 0, none⟩ = some (.string ⟨a1.toArray⟩) ∧ W.cell? ⟨w.heap.size, 1, none⟩ = some (.int .i64 a2)) := fun W h =>
    ⟨(h.cell (p := ⟨w.heap.size, 0, none⟩) l1).trans c0, (h.cell (p := ⟨w.heap.size, 1, none⟩) l1).trans c1⟩
  clear c0 c1 HRR
  go_wp2_with fail
  have d2 : Below W0.heap.size W0 w2.drew := B2.out.drew
  have K2 := HCL.out _ d2
  go_region_held3 (fun W => W.cell? ⟨w.heap.size, 0, none⟩ = some (.string ⟨a1.toArray⟩) ∧ W.cell? ⟨w.heap.size, 1, none⟩ = some (.int .i64 a2))
    (first | exact K2 | exact K3 | exact K4 | exact K5 | exact K6 | exact K7 | go_keep)
    (first
      | (go_at_call 14; refine (HC.out _ (HG.out _ d2)).mono ?_; rintro e w3 ⟨rfl, bb3⟩; have d3 := d2.trans (bb3.mono d2.size); have K3 := HCL.out _ d3)
      | (go_at_call 15; refine (HR.out _).mono ?_; rintro e w4 ⟨rfl, bb4⟩; have d4 := d3.trans (bb4.mono d3.size); have K4 := HCL.out _ d4)
      | (go_at_call 13; refine (HK.out _ (HG.out _ d4).err).mono ?_; rintro e w5 ⟨rfl, bb5⟩; have d5 := d4.trans (bb5.mono d4.size); have K5 := HCL.out _ d5)
      | (go_at_call 16; refine (HTX.out _ (HG.out _ d5).tab).mono ?_; rintro e w6 ⟨rfl, bb6⟩; have d6 := d5.trans (bb6.mono d5.size); have K6 := HCL.out _ d6)
      | (go_at_call 17; refine (HTR.out _).mono ?_; rintro e w7 ⟨rfl, bb7⟩; have d7 := d6.trans (bb7.mono d6.size); have K7 := HCL.out _ d7))
  all_goals
    have D7 := Lib.hid d7
    clear K2 K3 K4 K5 K6 K7 d2 d3 d4 d5 d6 d7 bb3 bb4 bb5 bb6 bb7 HC HR HK HTX HTR
    go_wp2_with fail
    refine (HNR.out w7).mono ?_
    rintro e w8 ⟨rfl, rfl⟩
    go_wp2_with fail
    refine (HJ.out w7 (HG.out _ D7.out).err).mono ?_
    rintro e w8 ⟨rfl, b8⟩
    have B8 := Lib.hid (D7.out.trans (b8.mono D7.out.size))
    clear b8
    go_wp2_with fail
    refine (HNM.out w8).mono ?_
    rintro e w9 ⟨rfl, b9⟩
    have B9 := Lib.hid (B0.out.trans ((B8.out.trans (b9.mono B8.out.size)).mono B0.out.size))
    clear b9
    go_wp2_with fail
    go_ret
    exact ⟨rfl, B9.out⟩

theorem goodsTell_walk (E : Nat → Addr) (x : GoodsV) (n pack : Int) (s : ByteArray) (w : World) (hG : GTellG E w) :
    Calls Tryz.prog 3 #[.agg (encGoods x).toArray, .int .i64 n, .int .i64 pack, .string s] w fun e w' => e = .returned (.bool true) ∧ Below w.heap.size w w' := by
  obtain ⟨⟨l⟩⟩ := s
  by_cases h : 30 < x.1.length ∨ 40 < l.length
  · exact tell_out E x n pack l w hG h
  · exact tell_in E x n pack l w hG (by omega) (by omega)
end Go.Proofs.YtchamhjckindiaaGreatDoor
