/- A stock has what its model has: AsStock answers 1. A closed fact on a stock: stocked. What a row's list of package-level variables gives the walks: sentinels, strconv's table; what the world's shape gives. errors.Is and errors.As at the errors of this program: sentinels, faults with a place, nil. -/
import Derived.LaidLaws
import Derived.Stop.LaidErr
import Derived.Shelf.Vars
import Derived.LaidEql
import Derived.Stop.Asserts
import Derived.RowKitTokens
import Derived.Test.YtmhkcmoepopnoaaGreatDoorM01
import Derived.Test.YtmhkcmoepopnoaaGreatDoorM25
import Derived.Test.YtmhkcmoepopnoaaGreatDoorM26
namespace Go.Proofs.YtmhkcmoepopnoaaGreatDoor
open Go.RowKit Go.Sort Go.Proofs

/-- The five cells of a line that lies in a row. -/
theorem RowAt.line {w : World} {g o : Nat} {l : List LineV} (h : RowAt encLine 5 w (some ⟨g, o, none⟩) l) (k : Nat) (hk : k < l.length) :
    w.cell? ⟨g, o + k * 5, none⟩ = some (.string ⟨l[k].1.1.toArray⟩) ∧ w.cell? ⟨g, o + k * 5 + 1, none⟩ = some (.int .i64 l[k].1.2.1) ∧ w.cell? ⟨g, o + k * 5 + 2, none⟩ = some (.int .i64 l[k].1.2.2) ∧ w.cell? ⟨g, o + k * 5 + 3, none⟩ = some (.string ⟨l[k].2.1.toArray⟩) ∧ w.cell? ⟨g, o + k * 5 + 4, none⟩ = some (.int .i64 l[k].2.2) := by
  rcases h with rfl | ⟨b, o', h1, _, h3⟩
  · simp at hk
  · cases h1
    exact range5L fun c v hv => h3 k hk c v hv
theorem RowAt.some_of {w : World} {A : Option Addr} {l : List LineV} (h : RowAt encLine 5 w A l) {k : Nat} (hk : k < l.length) : ∃ g o, A = some ⟨g, o, none⟩ := by
  rcases h with rfl | ⟨b, o, h1, _⟩
  · simp at hk
  · exact ⟨b, o, h1⟩

set_option maxHeartbeats 1600000 in
set_option maxRecDepth 100000 in
theorem asStock_any (E : Nat → Addr) (p b : Nat) {m : StkV} (hI : StkI m) (A : Option Addr) (cap : Nat) (w : World) (h : StkAt w p b m) (hrow : RowAt encLine 5 w A (linesM m)) (hG : PlaceG E w) :
    Calls Tryz.prog 17 #[.pointer (some ⟨p, 0, none⟩), .agg #[.slice A m.length cap]] w fun e w' => e = .returned (.int .i64 1) ∧ Below w.heap.size w w' := by
  have HLI := Lib.hid (fun W (hb : Below w.heap.size w W) => linesStock_any p b m W (h.below hb) hI.well.inPs (by have := hI.well.few; omega))
  have HTX := Lib.hid (fun W (hb : Below w.heap.size w W) => textStock_any E p b m W (h.below hb) hI.well (hG.below hb))
  have HRT := Lib.hid (fun W (hb : Below w.heap.size w W) => refText_m hI A cap W (hrow.below hb))
  have HOF := Lib.hid (fun lot W (hb : Below w.heap.size w W) => ofStock_any p b m lot W (h.below hb) (by have := hI.few lot; omega))
  have HRO := Lib.hid (fun lot W (hb : Below w.heap.size w W) => refOf_m hI A cap W (hrow.below hb) lot)
  have HROW := Lib.hid (fun W (hb : Below w.heap.size w W) => hrow.below hb)
  have hf := hI.well.few
  have HN := Lib.hid (linesM_len m)
  have HQ := Lib.hid (fun x W => neqLine x x W)
  unfold LinesEnds at HLI
  generalize linesM m = l at HLI HROW HN
  obtain ⟨N, hN⟩ : ∃ N, N = m.length := ⟨_, rfl⟩
  rw [← hN] at HLI HRT HRO hf HN ⊢
  have HB0 := Lib.hid (below_one w (.cells #[.slice A N cap] 30))
  have HC0 := Lib.hid (cell_of_row _ _ 0 _ _ _ (heap_alloc_new w (.cells #[.slice A N cap] 30)))
  clear h hI hrow hG hN
  go_enter Tryz.func17, Tryz.ntmps17
  go_wp2_with fail
  refine (HLI.out _ HB0.out).mono ?_
  rintro e w1 ⟨A1, cap1, rfl, hr1, -, b1⟩
  have B1 := Lib.hid (HB0.out.trans (b1.mono HB0.out.size))
  have HR1 := Lib.hid hr1
  have c0 : w1.cell? ⟨w.heap.size, 0, none⟩ = some (.slice A N cap) := (b1.cell (p := ⟨_, 0, none⟩) (by simp)).trans HC0.out
  have lw : w.heap.size < w1.heap.size := heap_two b1
  clear hr1 b1 HLI HC0
  go_wp2_with fail
  have hd : Below w.heap.size w w1.drew := B1.out.drew
  have qd : Below w1.heap.size w1 w1.drew := (Below.refl _ _).drew
  go_region_held3 (fun w' => w'.cell? ⟨w.heap.size, 0, none⟩ = some (.slice A N cap))
    (first | exact c0 | exact (q34.cell (p := ⟨_, 0, none⟩) lw).trans c0 | exact (q4.cell (p := ⟨_, 0, none⟩) lw).trans c0 | exact (q3.cell (p := ⟨_, 0, none⟩) lw).trans c0 | go_keep)
    (first
      | (go_at_call 30; refine (HTX.out _ hd).mono ?_; rintro e w3 ⟨rfl, bb3⟩; have q3 : Below w1.heap.size w1 w3 := qd.trans bb3; have b3 := B1.out.trans (q3.mono B1.out.size))
      | (go_at_call 44; refine (HRT.out _ hd).mono ?_; rintro e w4 ⟨rfl, bb4⟩; have q4 : Below w1.heap.size w1 w4 := qd.trans bb4; have b4 := B1.out.trans (q4.mono B1.out.size))
      | (go_at_call 30; refine (HTX.out _ b4).mono ?_; rintro e w3 ⟨rfl, bb3⟩; have q34 : Below w1.heap.size w1 w3 := q4.trans (bb3.mono q4.size); have b34 := B1.out.trans (q34.mono B1.out.size))
      | (go_at_call 44; refine (HRT.out _ b3).mono ?_; rintro e w4 ⟨rfl, bb4⟩; have q34 : Below w1.heap.size w1 w4 := q3.trans (bb4.mono q3.size); have b34 := B1.out.trans (q34.mono B1.out.size)))
  have B4 := Lib.hid b34
  have HR4 := Lib.hid (HR1.out.below q34)
  have HC4 := Lib.hid ((q34.cell (p := ⟨w.heap.size, 0, none⟩) lw).trans c0)
  have lw4 := Nat.lt_of_lt_of_le lw q34.size
  clear b34 q34 b3 q3 bb3 bb4 hd qd c0 HR1 HTX HRT B1 lw
  go_wp2_with fail
  go_loopw [6] (fun i wr => ∃ k : Nat, k ≤ N ∧ i = .int .i64 k ∧ Below w4.heap.size w4 wr) (fun i _ => N - (intOf i).toNat)
  case atStart => exact ⟨0, by omega, rfl, Below.refl _ _⟩
  case round =>
    obtain ⟨k, hk, rfl, hb⟩ := hrel
    have HB := Lib.hid (B4.out.trans (hb.mono B4.out.size))
    have HB4 := Lib.hid hb
    have c0 : wr.cell? ⟨w.heap.size, 0, none⟩ = some (.slice A N cap) := (hb.cell (p := ⟨_, 0, none⟩) lw4).trans HC4.out
    have lwr := Nat.lt_of_lt_of_le lw4 hb.size
    by_cases hkN : k < N
    · have hkl : k < l.length := by rw [HN.out]; exact hkN
      have hr1 := HR4.out.below hb
      have hr2 := HROW.out _ HB.out
      clear hb
      obtain ⟨g, o, rfl⟩ := hr1.some_of hkl
      obtain ⟨g2, o2, rfl⟩ := hr2.some_of hkl
      obtain ⟨e0, e1, e2, e3, e4⟩ := hr1.line k hkl
      obtain ⟨f0, f1, f2, f3, f4⟩ := hr2.line k hkl
      generalize l[k] = x at e0 e1 e2 e3 e4 f0 f1 f2 f3 f4
      have hq := HQ.out x
      have HO1 := Lib.hid (HOF.out x.2.1)
      have HO2 := Lib.hid (HRO.out x.2.1)
      generalize ofM m x.2.1 = ox at HO1 HO2
      obtain ⟨⟨a1, a2, a3⟩, a4, a5⟩ := x
      simp only [encLine] at hq
      simp only at e0 e1 e2 e3 e4 f0 f1 f2 f3 f4 HO1 HO2
      clear hr1 hr2 hkl
      have HC0 := Lib.hid c0
      have hd := HB.out.drew
      have qd : Below wr.heap.size wr wr.drew := (Below.refl _ _).drew
      go_wp2_with fail
      have up := Lib.hid (fun (W : World) (hW : Below wr.heap.size wr W) (q : Addr) (v : Value) (h : wr.cell? q = some v) => (hW.cell (lt_of_cell h)).trans h)
      go_region_held3 (fun w' => w'.cell? ⟨w.heap.size, 0, none⟩ = some (.slice (some ⟨g2, o2, none⟩) N cap) ∧ w'.cell? ⟨g, o + k * 5, none⟩ = some (.string ⟨a1.toArray⟩) ∧ w'.cell? ⟨g, o + k * 5 + 1, none⟩ = some (.int .i64 a2) ∧ w'.cell? ⟨g, o + k * 5 + 2, none⟩ = some (.int .i64 a3) ∧ w'.cell? ⟨g, o + k * 5 + 3, none⟩ = some (.string ⟨a4.toArray⟩) ∧ w'.cell? ⟨g, o + k * 5 + 4, none⟩ = some (.int .i64 a5) ∧ w'.cell? ⟨g2, o2 + k * 5, none⟩ = some (.string ⟨a1.toArray⟩) ∧ w'.cell? ⟨g2, o2 + k * 5 + 1, none⟩ = some (.int .i64 a2) ∧ w'.cell? ⟨g2, o2 + k * 5 + 2, none⟩ = some (.int .i64 a3) ∧ w'.cell? ⟨g2, o2 + k * 5 + 3, none⟩ = some (.string ⟨a4.toArray⟩) ∧ w'.cell? ⟨g2, o2 + k * 5 + 4, none⟩ = some (.int .i64 a5))
        (first
          | exact ⟨c0, e0, e1, e2, e3, e4, f0, f1, f2, f3, f4⟩
          | exact ⟨up.out _ q34 _ _ c0, up.out _ q34 _ _ e0, up.out _ q34 _ _ e1, up.out _ q34 _ _ e2, up.out _ q34 _ _ e3, up.out _ q34 _ _ e4, up.out _ q34 _ _ f0, up.out _ q34 _ _ f1, up.out _ q34 _ _ f2, up.out _ q34 _ _ f3, up.out _ q34 _ _ f4⟩
          | exact ⟨up.out _ q3 _ _ c0, up.out _ q3 _ _ e0, up.out _ q3 _ _ e1, up.out _ q3 _ _ e2, up.out _ q3 _ _ e3, up.out _ q3 _ _ e4, up.out _ q3 _ _ f0, up.out _ q3 _ _ f1, up.out _ q3 _ _ f2, up.out _ q3 _ _ f3, up.out _ q3 _ _ f4⟩
          | go_keep)
        (first
          | (go_at_call 20; refine (HO1.out _ hd).mono ?_; rintro e w5 ⟨rfl, bb3⟩; have q3 : Below wr.heap.size wr w5 := qd.trans bb3; have b3 := HB.out.trans (q3.mono HB.out.size))
          | (go_at_call 21; refine (HO2.out _ b3).mono ?_; rintro e w6 ⟨rfl, bb4⟩; have q34 : Below wr.heap.size wr w6 := q3.trans (bb4.mono q3.size)))
      have B6 := Lib.hid (HB4.out.trans (q34.mono HB4.out.size))
      clear q34 b3 q3 bb3 bb4 hd qd c0 e0 e1 e2 e3 e4 f0 f1 f2 f3 f4 hq up
      go_wp2
      go_roundw
      case rel => exact ⟨k + 1, by omega, by go_num, B6.out⟩
      case measure => simp [intOf]; omega
    · obtain rfl : k = N := by omega
      go_wp2_with fail
      go_ret
      exact ⟨rfl, HB.out⟩
end Go.Proofs.YtmhkcmoepopnoaaGreatDoor
namespace Go.Proofs.YtmhkcmoepopnoaaGreatDoor
open Go.RowKit Go.Sort Go.Proofs

theorem stk1 : putE [] ([97], 1, 2) [108, 49] 5 = 0 := by decide
theorem stk2 : putM [] ([97], 1, 2) [108, 49] 5 = [((([97], 1, 2), [108, 49]), 5)] := by decide
theorem stk3 : takeE [((([97], 1, 2), [108, 49]), 5)] ([97], 1, 2) [108, 49] 2 = 0 := by decide
theorem stk4 : takeM [((([97], 1, 2), [108, 49]), 5)] ([97], 1, 2) [108, 49] 2 = [((([97], 1, 2), [108, 49]), 3)] := by decide
theorem stk5 : textM [((([97], 1, 2), [108, 49]), 3)] = [97, 45, 49, 45, 50, 32, 108, 49, 32, 51, 10] := by
  have h : linesM [((([97], 1, 2), [108, 49]), 3)] = [(([97], 1, 2), [108, 49], 3)] := Stab.srt_one _ _
  unfold textM
  rw [h]
  decide +kernel

set_option maxHeartbeats 1600000 in
set_option maxRecDepth 100000 in
theorem stocked_any (E : Nat → Addr) (w : World) (hG : StkG E w) :
    Calls Tryz.prog 7 #[] w fun e w' => e = .returned (.bool true) ∧ Below w.heap.size w w' := by
  have HNW := Lib.hid (newStock_any w)
  have HG := Lib.hid (fun W (h : Below w.heap.size w W) => hG.below h)
  have i1 := (StkI.nil.put ([97], 1, 2) [108, 49] 5)
  have i2 := i1.take ([97], 1, 2) [108, 49] 2
  rw [stk2] at i1 i2
  rw [stk4] at i2
  have HP := Lib.hid (fun p b W h hg => putStock_any E p b [] ([97], 1, 2) [108, 49] 5 W h (by rw [ofM_nil]; omega) hg)
  have HT := Lib.hid (fun p b W h hg => takeStock_any E p b [((([97], 1, 2), [108, 49]), 5)] ([97], 1, 2) [108, 49] 2 W h (by decide) hg)
  have HA := Lib.hid (fun p b W h => atStock_any p b [((([97], 1, 2), [108, 49]), 3)] ([97], 1, 2) [108, 49] W h)
  have HX := Lib.hid (fun p b W h hg => textStock_any E p b [((([97], 1, 2), [108, 49]), 3)] W h i2.well hg)
  rw [stk1, stk2] at HP
  rw [stk3, stk4] at HT
  rw [show atM [((([97], 1, 2), [108, 49]), 3)] (([97], 1, 2), [108, 49]) = 3 from by decide] at HA
  rw [stk5] at HX
  clear i1 i2 hG
  simp only [encPlace] at HP HT HA
  go_enter Tryz.func7, Tryz.ntmps7
  go_wp2_with fail
  refine HNW.out.mono ?_
  rintro e w1 ⟨rfl, hS1, b1⟩
  have b2 := b1.alloc b1.size (.cells #[.string ⟨#[97]⟩, .int .i64 1, .int .i64 2] 24)
  have hS2 := hS1.below (below_one w1 (.cells #[.string ⟨#[97]⟩, .int .i64 1, .int .i64 2] 24))
  have hx2 := heap_alloc_new w1 (.cells #[.string ⟨#[97]⟩, .int .i64 1, .int .i64 2] 24)
  have hb := hS1.lt.2
  have B2 := Lib.hid b2
  have HS2 := Lib.hid hS2
  obtain ⟨c0, c1, c2⟩ := row3 hx2
  clear b1 hS1 b2 hS2 HNW
  go_wp2_with fail
  generalize w1.alloc (.cells #[.string ⟨#[97]⟩, .int .i64 1, .int .i64 2] 24) = w2 at *
  generalize w1.heap.size = q at *
  refine (HP.out _ _ w2 HS2.out (HG.out _ B2.out)).mono ?_
  rintro e w3 ⟨rfl, hS3, t3⟩
  have B3 := Lib.hid (t3.below B2.out (Nat.le_refl _) B2.out.size)
  have hx3 := (t3.block q (heap_lt hx2) (by omega)).trans hx2
  have HS3 := Lib.hid hS3
  clear c0 c1 c2 hx2 hS3 t3 HS2 B2
  obtain ⟨c0, c1, c2⟩ := row3 hx3
  rw [errOf_zero]
  go_wp2_with fail
  refine (HT.out _ _ w3 HS3.out (HG.out _ B3.out)).mono ?_
  rintro e w4 ⟨rfl, hS4, t4⟩
  have B4 := Lib.hid (t4.below B3.out (Nat.le_refl _) B3.out.size)
  have hx4 := (t4.block q (heap_lt hx3) (by omega)).trans hx3
  have HS4 := Lib.hid hS4
  clear c0 c1 c2 hx3 hS4 t4 HS3 B3
  obtain ⟨c0, c1, c2⟩ := row3 hx4
  rw [errOf_zero]
  go_wp2_with fail
  refine (HA.out _ _ w4 HS4.out).mono ?_
  rintro e w5 ⟨rfl, b5⟩
  have B5 := Lib.hid (B4.out.trans (b5.mono B4.out.size))
  have HS5 := Lib.hid (HS4.out.below b5)
  clear b5 HS4 B4 c0 c1 c2 hx4
  go_wp2_with fail
  refine (HX.out _ _ w5 HS5.out (HG.out _ B5.out).place).mono ?_
  rintro e w6 ⟨rfl, b6⟩
  have B6 := Lib.hid (B5.out.trans (b6.mono B5.out.size))
  clear b6
  go_wp2_with fail
  go_ret
  exact ⟨rfl, B6.out⟩
end Go.Proofs.YtmhkcmoepopnoaaGreatDoor
namespace Go.Proofs.YtmhkcmoepopnoaaGreatDoor
open Go.RowKit Go.ChangeShapes

/-- A sentinel: the variable g holds a pointer a to a text, in a row that is not frozen. -/
structure Sent (g : Nat) (a : Addr) (text : List UInt8) (w : World) : Prop where
  at_ : ErrAt g a w
  text : ∃ s : ByteArray, w.cell? a = some (.string s) ∧ s.data.toList = text
  row : ∃ cs t, w.heap[a.block]? = some (.cells cs t (0, 0))
theorem Sent.below {g : Nat} {a : Addr} {l : List UInt8} {w w' : World} (h : Sent g a l w) (hb : Below w.heap.size w w') : Sent g a l w' := by
  obtain ⟨s, hs, ht⟩ := h.text
  obtain ⟨cs, t, hr⟩ := h.row
  exact ⟨h.at_.below hb, ⟨s, by rw [hb.cell (lt_of_cell hs)]; exact hs, ht⟩, ⟨cs, t, by rw [hb.block _ (lt_of_cell hs)]; exact hr⟩⟩

theorem errRow : ∀ u, Tryz.prog.typeName? 3 u = some "*errors.errorString" → u = 245 := fun u h =>
  typeName_ptr_named (nm := "errors.errorString") (by kernel_rfl) (by kernel_rfl) (by decide) u h

set_option maxRecDepth 100000 in
theorem sent_of {n : String} {l : List UInt8} {r : List (String × DataW Unit)} {W : World} {g : Nat}
    (h : laidMet Tryz.prog ((n, .iface "*errors.errorString" (.ptr (.agg [.lit (.string l)]))) :: r) W)
    (hg : Tryz.prog.globalNamed n = some g) (ht : (Tryz.prog.globals[g]?).map (·.type) = some 34) : ∃ a, Sent g a l W := by
  obtain ⟨ps, ⟨g0, t0, cs0, f0, p0, q0, hg0, ht0, hv0, hd0, _, e0⟩, _, hrows⟩ := h
  obtain rfl := Option.some.inj (hg.symm.trans hg0)
  obtain rfl := Option.some.inj (ht.symm.trans ht0)
  subst e0
  obtain ⟨l0⟩ := cs0
  have ok0 : ∀ u v, l0 = [.iface u v] → Value.okWide Tryz.prog W .any 0 u v := fun u v e => by
    subst e
    exact (hrows g 0 (by simp [MemPlace.row])).2 u v (by simpa using World.var?_cell hg0 hv0 0)
  obtain ⟨a0, s0, rfl, hc0, hs0, hz0, rfl⟩ := errorString_of_trod Tryz.underlying34 errRow Tryz.underlying245 Tryz.underlying247 rfl rfl Tryz.underlying9 (by kernel_rfl) (by kernel_rfl) hd0 ok0
  obtain ⟨c0, t0, hb0⟩ := (hrows a0.block a0.off (by simp [MemPlace.row])).1
  exact ⟨a0, by unfold ErrAt; simpa using World.var?_cell hg0 hv0 0, ⟨s0, hc0, hs0⟩, ⟨c0, t0, hb0⟩⟩

end Go.Proofs.YtmhkcmoepopnoaaGreatDoor
namespace Go.Proofs.YtmhkcmoepopnoaaGreatDoor
open Go.RowKit Go.Extern.Stop Go.Stop Go.Extern

/-! Closed facts: reflectlite's entries at this program's types. -/
theorem isTypeOf (v : Value) (w : World) : (Extern.ReflectliteType.typeOf #[.iface 245 v]).run Tryz.prog w = .ok (.iface 179 (.agg #[.pointer (some ⟨21, 245, none⟩)])) w := by kernel_rfl
theorem isComparable (w : World) : ((Extern.ReflectliteType.method fun t => do Extern.Rtype.noPackHeld "Comparable" t; (fun a => Value.bool a.comparable) <$> typeInfo t) #[.agg #[.pointer (some ⟨21, 245, none⟩)]]).run Tryz.prog w = .ok (.bool true) w := by kernel_rfl
theorem isMethodComparable (v : Value) (w : World) : (Go.method 377 179 v "Comparable").run Tryz.prog w = .ok (207, v) w := by kernel_rfl
theorem isComp : (Tryz.prog.info? 245).map (·.comparable) = some true := by kernel_rfl
theorem isSize : (Tryz.prog.info? 247).map (·.size) = some 1 := by kernel_rfl
theorem noIsE (v : Value) (xT : TypeId) (w : World) : (Instr.typeAssert (.iface 245 v) xT 190 true).run Tryz.prog w = .ok (.tuple #[.nilIface, .bool false]) w := run_typeAssert_lacksB Tryz.underlying190 (by kernel_rfl) (by kernel_rfl) v xT w
theorem noUnwrapE (v : Value) (xT : TypeId) (w : World) : (Instr.typeAssert (.iface 245 v) xT 186 true).run Tryz.prog w = .ok (.tuple #[.nilIface, .bool false]) w := run_typeAssert_lacksB Tryz.underlying186 (by kernel_rfl) (by kernel_rfl) v xT w
theorem noUnwrapsE (v : Value) (xT : TypeId) (w : World) : (Instr.typeAssert (.iface 245 v) xT 188 true).run Tryz.prog w = .ok (.tuple #[.nilIface, .bool false]) w := run_typeAssert_lacksB Tryz.underlying188 (by kernel_rfl) (by kernel_rfl) v xT w
theorem noAsE (v : Value) (xT : TypeId) (w : World) : (Instr.typeAssert (.iface 245 v) xT 183 true).run Tryz.prog w = .ok (.tuple #[.nilIface, .bool false]) w := run_typeAssert_lacksB Tryz.underlying183 (by kernel_rfl) (by kernel_rfl) v xT w
theorem noIsF (v : Value) (xT : TypeId) (w : World) : (Instr.typeAssert (.iface 121 v) xT 190 true).run Tryz.prog w = .ok (.tuple #[.nilIface, .bool false]) w := run_typeAssert_lacksB Tryz.underlying190 (by kernel_rfl) (by kernel_rfl) v xT w
theorem hasUnwrapF (v : Value) (xT : TypeId) (w : World) : (Instr.typeAssert (.iface 121 v) xT 186 true).run Tryz.prog w = .ok (.tuple #[.iface 121 v, .bool true]) w := run_typeAssert_hasB Tryz.underlying186 (by kernel_rfl) v xT w
theorem methodUnwrapF (v : Value) (w : World) : (Go.method 377 121 v "Unwrap").run Tryz.prog w = .ok (201, v) w := by kernel_rfl

theorem ex_TypeOf : ∀ (args : Array Value) (w : World), (callFunc 109 args).run Tryz.prog w = ((Extern.ReflectliteType.typeOf args).run Tryz.prog w).andThen fun v w' => .ok (.value v) w' :=
  @run_callFunc_extern Tryz.prog 109 _ Extern.ReflectliteType.typeOf Tryz.func109 (by kernel_rfl) (by kernel_rfl) (by kernel_rfl) (by kernel_rfl)
theorem ex_Comparable : ∀ (args : Array Value) (w : World), (callFunc 207 args).run Tryz.prog w = (((Extern.ReflectliteType.method fun t => do Extern.Rtype.noPackHeld "Comparable" t; pure (.bool (← typeInfo t).comparable)) args).run Tryz.prog w).andThen fun v w' => .ok (.value v) w' :=
  @run_callFunc_extern Tryz.prog 207 _ (Extern.ReflectliteType.method fun t => do Extern.Rtype.noPackHeld "Comparable" t; pure (.bool (← typeInfo t).comparable)) Tryz.func207 (by kernel_rfl) (by kernel_rfl) (by kernel_rfl) (by kernel_rfl)

/-- errors.Is(x, x), x a sentinel. -/
theorem is_same (a : Addr) (w : World) :
    Calls Tryz.prog 81 #[.iface 245 (.pointer (some a)), .iface 245 (.pointer (some a))] w fun e w' => e = .returned (.bool true) ∧ w = w' := by
  obtain ⟨i, hi, hcmp⟩ := Option.map_eq_some_iff.1 isComp
  obtain ⟨j, hj, hjs⟩ := Option.map_eq_some_iff.1 isSize
  have h8 := ex_TypeOf
  have h32 := ex_Comparable
  have tT := isTypeOf
  have cT := isComparable
  have mR := isMethodComparable
  have heq := run_eql_iface_ptr_same (P := Tryz.prog) w a Tryz.underlying34 Tryz.underlying245 hi hcmp hj
  go_enter Tryz.func81, Tryz.ntmps81
  go_wp2
  refine wp_loop_rounds 1 ?_
  rw [rounds_succ]
  go_wp2
  go_ret
  exact ⟨rfl, rfl⟩

/-- errors.Is of two unlike errors of errors.New's make. -/
theorem is_other (a b : Addr) (ca cb : Array Value) (ta tb : TypeId) (w : World) (hne : a ≠ b) (ha : w.heap[a.block]? = some (.cells ca ta (0, 0))) (hb : w.heap[b.block]? = some (.cells cb tb (0, 0))) :
    Calls Tryz.prog 81 #[.iface 245 (.pointer (some a)), .iface 245 (.pointer (some b))] w fun e w' => e = .returned (.bool false) ∧ w = w' := by
  obtain ⟨i, hi, hcmp⟩ := Option.map_eq_some_iff.1 isComp
  obtain ⟨j, hj, hjs⟩ := Option.map_eq_some_iff.1 isSize
  have h8 := ex_TypeOf
  have h32 := ex_Comparable
  have tT := isTypeOf
  have cT := isComparable
  have mR := isMethodComparable
  have nE := noIsE
  have uE := noUnwrapE
  have vE := noUnwrapsE
  have heq := run_eql_iface_ptr_other (P := Tryz.prog) w Tryz.underlying34 Tryz.underlying245 hi hcmp hj (by rw [hjs]; decide) hne ha hb
  go_enter Tryz.func81, Tryz.ntmps81
  go_wp2
  refine wp_loop_rounds 1 ?_
  rw [rounds_succ]
  go_wp2
  go_ret
  exact ⟨rfl, rfl⟩

/-- errors.Is of a fault that wraps x, and x. -/
theorem is_fault_same (pb po : Nat) (b : Addr) (w : World) (h1 : w.cell? ⟨pb, po + 1, none⟩ = some (.iface 245 (.pointer (some b)))) :
    Calls Tryz.prog 81 #[.iface 121 (.pointer (some ⟨pb, po, none⟩)), .iface 245 (.pointer (some b))] w fun e w' => e = .returned (.bool true) ∧ w = w' := by
  obtain ⟨i, hi, hcmp⟩ := Option.map_eq_some_iff.1 isComp
  obtain ⟨j, hj, hjs⟩ := Option.map_eq_some_iff.1 isSize
  have h8 := ex_TypeOf
  have h32 := ex_Comparable
  have tT := isTypeOf
  have cT := isComparable
  have mR := isMethodComparable
  have nE := noIsE
  have uE := noUnwrapE
  have vE := noUnwrapsE
  have nW := noIsF
  have uW := hasUnwrapF
  have mU := methodUnwrapF
  have heq := run_eql_iface_ptr_same (P := Tryz.prog) w b Tryz.underlying34 Tryz.underlying245 hi hcmp hj
  have hty := run_eql_iface_types (P := Tryz.prog) 121 245 (.pointer (some ⟨pb, po, none⟩)) (.pointer (some b)) Tryz.underlying34 (by decide) w
  go_enter Tryz.func81, Tryz.ntmps81
  go_wp2
  refine wp_loop_rounds 2 ?_
  rw [rounds_succ]
  go_wp2
  rw [rounds_succ]
  go_wp2
  go_ret
  exact ⟨rfl, rfl⟩

/-- errors.Is of a fault that wraps another error of errors.New's make. -/
theorem is_fault_other (pb po : Nat) (b a : Addr) (ca cb : Array Value) (ta tb : TypeId) (w : World) (h1 : w.cell? ⟨pb, po + 1, none⟩ = some (.iface 245 (.pointer (some a)))) (hne : a ≠ b) (ha : w.heap[a.block]? = some (.cells ca ta (0, 0))) (hb : w.heap[b.block]? = some (.cells cb tb (0, 0))) :
    Calls Tryz.prog 81 #[.iface 121 (.pointer (some ⟨pb, po, none⟩)), .iface 245 (.pointer (some b))] w fun e w' => e = .returned (.bool false) ∧ w = w' := by
  obtain ⟨i, hi, hcmp⟩ := Option.map_eq_some_iff.1 isComp
  obtain ⟨j, hj, hjs⟩ := Option.map_eq_some_iff.1 isSize
  have h8 := ex_TypeOf
  have h32 := ex_Comparable
  have tT := isTypeOf
  have cT := isComparable
  have mR := isMethodComparable
  have nE := noIsE
  have uE := noUnwrapE
  have vE := noUnwrapsE
  have nW := noIsF
  have uW := hasUnwrapF
  have mU := methodUnwrapF
  have heq := run_eql_iface_ptr_other (P := Tryz.prog) w Tryz.underlying34 Tryz.underlying245 hi hcmp hj (by rw [hjs]; decide) hne ha hb
  have hty := run_eql_iface_types (P := Tryz.prog) 121 245 (.pointer (some ⟨pb, po, none⟩)) (.pointer (some b)) Tryz.underlying34 (by decide) w
  go_enter Tryz.func81, Tryz.ntmps81
  go_wp2
  refine wp_loop_rounds 2 ?_
  rw [rounds_succ]
  go_wp2
  rw [rounds_succ]
  go_wp2
  go_ret
  exact ⟨rfl, rfl⟩
end Go.Proofs.YtmhkcmoepopnoaaGreatDoor
