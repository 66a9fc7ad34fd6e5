/- Equal entries. Entries: Check. Equal places. Entries of pieces: their check. Plain facts: three-way compares, one behind the other, and the strict orders that they make. Places: their compare; Ahead. The document's IsName, walked. tithebarnref1.Decimal: a number's digits, as the document writes them. Strings: less than. Places: the document's error, text, order. -/
import Derived.Laws.StructEq
import Derived.IntWalk
import Derived.Lib.ItoaLen
import Derived.Lib.ItoaMem
import Derived.Test.YtpifbahafnaejaaGreatDoorM01
import Derived.Test.YtpifbahafnaejaaGreatDoorM02
import Derived.Test.YtpifbahafnaejaaGreatDoorM03
namespace Go.Proofs.YtpifbahafnaejaaGreatDoor
open Go.RowKit Go.Sort Go.Proofs

set_option maxHeartbeats 1600000 in
set_option maxRecDepth 100000 in
theorem eqInEnt (x y : EntV) (W : World) : (Op.equalIn 10000 29 (.agg (encEnt x).toArray) (.agg (encEnt y).toArray)).run Tryz.prog W = .ok (decide (x = y)) W := by
  have u3 := Tryz.underlying3
  have u9 := Tryz.underlying9
  have hS : Tryz.prog.underlying 29 = some (.struct (Tryz.prog.fieldsOf 29)) := by kernel_rfl
  have hp : Tryz.prog.stoodInHeld 29 = false := by kernel_rfl
  have gS : Tryz.prog.underlying 23 = some (.struct (Tryz.prog.fieldsOf 23)) := by kernel_rfl
  have gp : Tryz.prog.stoodInHeld 23 = false := by kernel_rfl
  have lS : Tryz.prog.underlying 25 = some (.struct (Tryz.prog.fieldsOf 25)) := by kernel_rfl
  have lp : Tryz.prog.stoodInHeld 25 = false := by kernel_rfl
  have pS : Tryz.prog.underlying 27 = some (.struct (Tryz.prog.fieldsOf 27)) := by kernel_rfl
  have pp : Tryz.prog.stoodInHeld 27 = false := by kernel_rfl
  have eP : ∀ (a1 b1 : List UInt8) (a2 a3 b2 b3 : Int) (W : World), (Op.equalIn 9999 27 (.agg #[.string ⟨a1.toArray⟩, .int .i64 a2, .int .i64 a3]) (.agg #[.string ⟨b1.toArray⟩, .int .i64 b2, .int .i64 b3])).run Tryz.prog W = .ok (decide (a1 = b1 ∧ a2 = b2 ∧ a3 = b3)) W := fun a1 b1 a2 a3 b2 b3 W => by
    rw [show (9999 : Nat) = 9998 + 1 from rfl, run_equalIn_agg W 9998 27 _ _ pS pp]
    simp only [Program.fieldsOf, Tryz.underlying27]
    go_simp
    by_cases h1 : a1 = b1 <;> by_cases h2 : a2 = b2 <;> by_cases h3 : a3 = b3 <;> simp [h1, h2, h3]
  have eG : ∀ (a1 b1 : List UInt8) (a2 b2 : Int) (W : World), (Op.equalIn 9999 23 (.agg #[.string ⟨a1.toArray⟩, .int .i64 a2]) (.agg #[.string ⟨b1.toArray⟩, .int .i64 b2])).run Tryz.prog W = .ok (decide (a1 = b1 ∧ a2 = b2)) W := fun a1 b1 a2 b2 W => by
    rw [show (9999 : Nat) = 9998 + 1 from rfl, run_equalIn_agg W 9998 23 _ _ gS gp]
    simp only [Program.fieldsOf, Tryz.underlying23]
    go_simp
    by_cases h1 : a1 = b1 <;> by_cases h2 : a2 = b2 <;> simp [h1, h2]
  have eL : ∀ (a1 a2 b1 b2 : List UInt8) (a3 a4 b3 b4 : Int) (W : World), (Op.equalIn 9999 25 (.agg #[.string ⟨a1.toArray⟩, .string ⟨a2.toArray⟩, .int .i64 a3, .int .i64 a4]) (.agg #[.string ⟨b1.toArray⟩, .string ⟨b2.toArray⟩, .int .i64 b3, .int .i64 b4])).run Tryz.prog W = .ok (decide (a1 = b1 ∧ a2 = b2 ∧ a3 = b3 ∧ a4 = b4)) W := fun a1 a2 b1 b2 a3 a4 b3 b4 W => by
    rw [show (9999 : Nat) = 9998 + 1 from rfl, run_equalIn_agg W 9998 25 _ _ lS lp]
    simp only [Program.fieldsOf, Tryz.underlying25]
    go_simp
    by_cases h1 : a1 = b1 <;> by_cases h2 : a2 = b2 <;> by_cases h3 : a3 = b3 <;> by_cases h4 : a4 = b4 <;> simp [h1, h2, h3, h4]
  simp only [encEnt]
  rw [show (10000 : Nat) = 9999 + 1 from rfl, run_equalIn_agg W 9999 29 _ _ hS hp]
  clear gS gp lS lp pS pp hS hp
  simp only [Program.fieldsOf, Tryz.underlying29]
  go_simp
  clear u3 u9 eP eG eL
  obtain ⟨a0, ⟨g1, g2⟩, ⟨l1, l2, l3, l4⟩, ⟨f1, f2, f3⟩, ⟨t1, t2, t3⟩, n⟩ := x
  obtain ⟨b0, ⟨h1, h2⟩, ⟨m1, m2, m3, m4⟩, ⟨i1, i2, i3⟩, ⟨u1, u2, u3⟩, k⟩ := y
  simp only [Prod.mk.injEq]
  by_cases q0 : a0 = b0
  · by_cases q1 : g1 = h1 ∧ g2 = h2
    · by_cases q2 : l1 = m1 ∧ l2 = m2 ∧ l3 = m3 ∧ l4 = m4
      · by_cases q3 : f1 = i1 ∧ f2 = i2 ∧ f3 = i3
        · by_cases q4 : t1 = u1 ∧ t2 = u2 ∧ t3 = u3
          · by_cases q5 : n = k <;> simp [q0, q1, q2, q3, q4, q5]
          · have q4' : t1 = u1 → t2 = u2 → ¬ t3 = u3 := fun a b c => q4 ⟨a, b, c⟩
            rw [if_pos q0, if_neg (fun e => e q1.1 q1.2), if_neg (fun e => e q2.1 q2.2.1 q2.2.2.1 q2.2.2.2), if_neg (fun e => e q3.1 q3.2.1 q3.2.2), if_pos q4', decide_eq_false (fun e => q4 e.2.2.2.2.1)]
        · have q3' : f1 = i1 → f2 = i2 → ¬ f3 = i3 := fun a b c => q3 ⟨a, b, c⟩
          rw [if_pos q0, if_neg (fun e => e q1.1 q1.2), if_neg (fun e => e q2.1 q2.2.1 q2.2.2.1 q2.2.2.2), if_pos q3', decide_eq_false (fun e => q3 e.2.2.2.1)]
      · have q2' : l1 = m1 → l2 = m2 → l3 = m3 → ¬ l4 = m4 := fun a b c d => q2 ⟨a, b, c, d⟩
        rw [if_pos q0, if_neg (fun e => e q1.1 q1.2), if_pos q2', decide_eq_false (fun e => q2 e.2.2.1)]
    · have q1' : g1 = h1 → ¬ g2 = h2 := fun a b => q1 ⟨a, b⟩
      rw [if_pos q0, if_pos q1', decide_eq_false (fun e => q1 e.2.1)]
  · rw [if_neg q0, decide_eq_false (fun e => q0 e.1)]
theorem neqEnt (x y : EntV) (W : World) : (binOp .neq 29 (.agg (encEnt x).toArray) (.agg (encEnt y).toArray)).run Tryz.prog W = .ok (.bool (!decide (x = y))) W := by
  rw [run_neq_struct, eqInEnt]
  rfl
theorem eqEnt (x y : EntV) (W : World) : (binOp .eql 29 (.agg (encEnt x).toArray) (.agg (encEnt y).toArray)).run Tryz.prog W = .ok (.bool (decide (x = y))) W := by
  rw [run_eql_struct, eqInEnt]
  rfl
end Go.Proofs.YtpifbahafnaejaaGreatDoor
namespace Go.Proofs.YtpifbahafnaejaaGreatDoor
open Go.RowKit Go.Sort Go.Proofs

/-- What the walks over entries lean on. -/
structure EntG (E : Nat → Addr) (w : World) : Prop where
  read : ReadG E w
  shape : ErrAt 1 (E 3) w
  kind : ErrAt 0 (E 4) w
theorem EntG.below {E : Nat → Addr} {w w' : World} (h : EntG E w) (hb : Below w.heap.size w w') : EntG E w' := ⟨h.read.below hb, h.shape.below hb, h.kind.below hb⟩

set_option maxHeartbeats 800000 in
theorem places_any (E : Nat → Addr) (x : EntV) (bF bT bP : Bool) (w : World) (hG : EntG E w) :
    Calls Tryz.prog 50 #[.agg (encEnt x).toArray, .agg #[.bool bF, .bool bT, .bool bP]] w fun e w' => e = .returned (errOf E (if bF = true ∧ placeE x.2.2.2.1 ≠ 0 then placeE x.2.2.2.1 else if bT = true then placeE x.2.2.2.2.1 else 0)) ∧ Below w.heap.size w w' := by
  have HF := Lib.hid (fun W h => checkPlace_any E x.2.2.2.1 W h)
  have HT := Lib.hid (fun W h => checkPlace_any E x.2.2.2.2.1 W h)
  have hc := fun i v (h : (encEnt x)[i]? = some v) => show ((w.alloc (.cells (encEnt x).toArray 29)).alloc (.cells #[.bool bF, .bool bT, .bool bP] 45)).cell? ⟨w.heap.size, i, none⟩ = some v from ((below_one (w.alloc (.cells (encEnt x).toArray 29)) _).cell (p := ⟨w.heap.size, i, none⟩) (by simp)).trans ((cell_of_row _ _ _ _ _ _ (heap_alloc_new _ _)).trans (by simpa using h))
  have b0 := below_two w (.cells (encEnt x).toArray 29) (.cells #[.bool bF, .bool bT, .bool bP] 45)
  have c7 := hc 7 _ rfl
  have c8 := hc 8 _ rfl
  have c9 := hc 9 _ rfl
  have c10 := hc 10 _ rfl
  have c11 := hc 11 _ rfl
  have c12 := hc 12 _ rfl
  clear hc
  have hfr : ((w.alloc (.cells (encEnt x).toArray 29)).alloc (.cells #[.bool bF, .bool bT, .bool bP] 45)).heap[w.heap.size + 1]? = some (.cells #[.bool bF, .bool bT, .bool bP] 45 (0, 0)) := by
    have := heap_alloc_new (w.alloc (.cells (encEnt x).toArray 29)) (.cells #[.bool bF, .bool bT, .bool bP] 45)
    simpa using this
  have d0 : ((w.alloc (.cells (encEnt x).toArray 29)).alloc (.cells #[.bool bF, .bool bT, .bool bP] 45)).cell? ⟨w.heap.size + 1, 0, none⟩ = some (.bool bF) := cell_of_row _ _ _ _ _ _ hfr
  have d1 : ((w.alloc (.cells (encEnt x).toArray 29)).alloc (.cells #[.bool bF, .bool bT, .bool bP] 45)).cell? ⟨w.heap.size + 1, 1, none⟩ = some (.bool bT) := cell_of_row _ _ _ _ _ _ hfr
  have HG := Lib.hid (fun W (h : Below w.heap.size w W) => (hG.below h).read.place)
  clear hfr hG
  obtain ⟨k, ⟨g1, g2⟩, ⟨l1, l2, l3, l4⟩, ⟨f1, f2, f3⟩, ⟨t1, t2, t3⟩, n⟩ := x
  simp only [encEnt, encPlace] at HF HT b0 c7 c8 c9 c10 c11 c12 d0 d1 ⊢
  generalize placeE (f1, f2, f3) = pf at HF ⊢
  generalize placeE (t1, t2, t3) = pt at HT ⊢
  obtain ⟨r, hr⟩ : ∃ r, r = (if bF = true ∧ pf ≠ 0 then pf else if bT = true then pt else 0) := ⟨_, rfl⟩
  rw [← hr]
  have HR := Lib.hid hr
  clear hr
  cases bF with
  | false =>
    cases bT with
    | false =>
      have HR0 : Hid (r = 0) := by show _ = _; rw [HR.out]; simp
      go_enter Tryz.func50, Tryz.ntmps50
      go_wp2
      go_ret
      rw [HR0.out]
      exact ⟨rfl, b0⟩
    | true =>
      have HR0 : Hid (r = pt) := by show _ = _; rw [HR.out]; simp
      go_enter Tryz.func50, Tryz.ntmps50
      go_wp2_with fail
      refine (HT.out _ (HG.out _ b0)).mono ?_
      rintro e w1 ⟨rfl, b1⟩
      have B1 := Lib.hid (b0.trans (b1.mono b0.size))
      clear b1 b0
      go_wp2
      go_ret
      rw [HR0.out]
      exact ⟨rfl, B1.out⟩
  | true =>
    go_enter Tryz.func50, Tryz.ntmps50
    go_wp2_with fail
    refine (HF.out _ (HG.out _ b0)).mono ?_
    rintro e w1 ⟨rfl, b1⟩
    have g := fun (b o : Nat) (v : Value) (hc : _ = some v) => (b1.cell (p := ⟨b, o, none⟩) (lt_of_cell hc)).trans hc
    have e10 := g _ _ _ c10
    have e11 := g _ _ _ c11
    have e12 := g _ _ _ c12
    have e1 := g _ _ _ d1
    have B1 := Lib.hid (b0.trans (b1.mono b0.size))
    clear b1 b0 g c7 c8 c9 c10 c11 c12 d0 d1
    by_cases h0 : pf = 0
    · subst h0
      rw [errOf_zero]
      cases bT with
      | false =>
        have HR0 : Hid (r = 0) := by show _ = _; rw [HR.out]; simp
        go_wp2
        go_ret
        rw [HR0.out]
        exact ⟨rfl, B1.out⟩
      | true =>
        have HR0 : Hid (r = pt) := by show _ = _; rw [HR.out]; simp
        go_wp2_with fail
        refine (HT.out _ (HG.out _ B1.out)).mono ?_
        rintro e w2 ⟨rfl, b2⟩
        have B2 := Lib.hid (B1.out.trans (b2.mono B1.out.size))
        clear b2
        go_wp2
        go_ret
        rw [HR0.out]
        exact ⟨rfl, B2.out⟩
    · rw [errOf_pos _ _ h0]
      have HR0 : Hid (r = pf) := by show _ = _; rw [HR.out]; simp [h0]
      go_wp2
      go_ret
      rw [HR0.out, errOf_pos _ _ h0]
      exact ⟨rfl, B1.out⟩
end Go.Proofs.YtpifbahafnaejaaGreatDoor
namespace Go.Proofs.YtpifbahafnaejaaGreatDoor
open Go.RowKit Go.Sort Go.Proofs

theorem eqPlace (x y : PlaceV) (W : World) : (binOp .eql 27 (.agg (encPlace x).toArray) (.agg (encPlace y).toArray)).run Tryz.prog W = .ok (.bool (decide (x = y))) W := by
  have u3 := Tryz.underlying3
  have u9 := Tryz.underlying9
  have hS : Tryz.prog.underlying 27 = some (.struct (Tryz.prog.fieldsOf 27)) := by kernel_rfl
  have hp : Tryz.prog.stoodInHeld 27 = false := by kernel_rfl
  simp only [encPlace]
  rw [run_eql_struct, show (10000 : Nat) = 9999 + 1 from rfl, run_equalIn_agg W 9999 27 _ _ hS hp]
  simp only [Program.fieldsOf, Tryz.underlying27]
  go_simp
  obtain ⟨a1, a2, a3⟩ := x
  obtain ⟨b1, b2, b3⟩ := y
  by_cases h1 : a1 = b1 <;> by_cases h2 : a2 = b2 <;> by_cases h3 : a3 = b3 <;> simp [h1, h2, h3]
theorem eqInPlace (x y : PlaceV) (W : World) : (Op.equalIn 10000 27 (.agg (encPlace x).toArray) (.agg (encPlace y).toArray)).run Tryz.prog W = .ok (decide (x = y)) W := by
  have h := eqPlace x y W
  rw [run_eql_struct] at h
  cases hr : (Op.equalIn 10000 27 (.agg (encPlace x).toArray) (.agg (encPlace y).toArray)).run Tryz.prog W with
  | ok b w' =>
    rw [hr] at h
    simp [Result.andThen] at h
    rw [h.1, h.2]
  | _ => rw [hr] at h; simp [Result.andThen] at h
theorem neqPlace (x y : PlaceV) (W : World) : (binOp .neq 27 (.agg (encPlace x).toArray) (.agg (encPlace y).toArray)).run Tryz.prog W = .ok (.bool (!decide (x = y))) W := by
  rw [run_neq_struct, eqInPlace]
  rfl
end Go.Proofs.YtpifbahafnaejaaGreatDoor
namespace Go.Proofs.YtpifbahafnaejaaGreatDoor
open Go.RowKit Go.Sort Go.Proofs

/-- The cells of an entry. -/
def Cells14 (w : World) (b : Nat) (x : EntV) : Prop := ∀ i v, (encEnt x)[i]? = some v → w.cell? ⟨b, i, none⟩ = some v
theorem Cells14.below {w w' : World} {b : Nat} {x : EntV} (h : Cells14 w b x) (hb : Below w.heap.size w w') : Cells14 w' b x := fun i v hv => (hb.cell (p := ⟨b, i, none⟩) (lt_of_cell (h i v hv))).trans (h i v hv)
theorem Cells14.new (w : World) (x : EntV) : Cells14 (w.alloc (.cells (encEnt x).toArray 29)) w.heap.size x := fun i v hv => (cell_of_row _ _ _ _ _ _ (heap_alloc_new _ _)).trans (by simpa using hv)
theorem Cells14.all {w : World} {b : Nat} {x : EntV} (h : Cells14 w b x) : w.cell? ⟨b, 0, none⟩ = some (.string ⟨x.1.toArray⟩) ∧ w.cell? ⟨b, 1, none⟩ = some (.string ⟨x.2.1.1.toArray⟩) ∧ w.cell? ⟨b, 2, none⟩ = some (.int .i64 x.2.1.2) ∧ w.cell? ⟨b, 3, none⟩ = some (.string ⟨x.2.2.1.1.toArray⟩) ∧ w.cell? ⟨b, 4, none⟩ = some (.string ⟨x.2.2.1.2.1.toArray⟩) ∧ w.cell? ⟨b, 5, none⟩ = some (.int .i64 x.2.2.1.2.2.1) ∧ w.cell? ⟨b, 6, none⟩ = some (.int .i64 x.2.2.1.2.2.2) ∧
    w.cell? ⟨b, 7, none⟩ = some (.string ⟨x.2.2.2.1.1.toArray⟩) ∧ w.cell? ⟨b, 8, none⟩ = some (.int .i64 x.2.2.2.1.2.1) ∧ w.cell? ⟨b, 9, none⟩ = some (.int .i64 x.2.2.2.1.2.2) ∧ w.cell? ⟨b, 10, none⟩ = some (.string ⟨x.2.2.2.2.1.1.toArray⟩) ∧ w.cell? ⟨b, 11, none⟩ = some (.int .i64 x.2.2.2.2.1.2.1) ∧ w.cell? ⟨b, 12, none⟩ = some (.int .i64 x.2.2.2.2.1.2.2) ∧ w.cell? ⟨b, 13, none⟩ = some (.int .i64 x.2.2.2.2.2) :=
  ⟨h 0 _ rfl, h 1 _ rfl, h 2 _ rfl, h 3 _ rfl, h 4 _ rfl, h 5 _ rfl, h 6 _ rfl, h 7 _ rfl, h 8 _ rfl, h 9 _ rfl, h 10 _ rfl, h 11 _ rfl, h 12 _ rfl, h 13 _ rfl⟩

set_option maxHeartbeats 3200000 in
set_option maxRecDepth 100000 in
theorem pieces_any (E : Nat → Addr) (x : EntV) (bP : Bool) (w : World) (hG : EntG E w) :
    Calls Tryz.prog 29 #[.agg (encEnt x).toArray, .agg #[.bool (hasF x.1), .bool (hasT x.1), .bool bP]] w fun e w' => e = .returned (errOf E (piecesE x)) ∧ Below w.heap.size w w' := by
  obtain ⟨r, hr⟩ : ∃ r, r = piecesE x := ⟨_, rfl⟩
  rw [← hr]
  have HPL := Lib.hid (fun W h => places_any E x (hasF x.1) (hasT x.1) bP W h)
  rw [show (if hasF x.1 = true ∧ placeE x.2.2.2.1 ≠ 0 then placeE x.2.2.2.1 else if hasT x.1 = true then placeE x.2.2.2.2.1 else 0) = placesE x from rfl] at HPL
  have HR : Hid (r = if nameB x.2.2.1.1 = false then 5 else if placesE x ≠ 0 then placesE x else if wiB x.2.2.2.2.2 1 1099511627776 = false then 2 else if (x.1 = kMove ∧ x.2.2.2.1 = x.2.2.2.2.1) ∨ x ≠ wantP x then 3 else 0) := hr
  have HN := Lib.hid (fun W => name_wide x.2.2.1.1 W)
  have H2 := Lib.hid (within_any x.2.2.2.2.2 1 1099511627776)
  have hc := (Cells14.new w x).below (below_one _ (.cells #[.bool (hasF x.1), .bool (hasT x.1), .bool bP] 45))
  have b0 := below_two w (.cells (encEnt x).toArray 29) (.cells #[.bool (hasF x.1), .bool (hasT x.1), .bool bP] 45)
  have hfr : ((w.alloc (.cells (encEnt x).toArray 29)).alloc (.cells #[.bool (hasF x.1), .bool (hasT x.1), .bool bP] 45)).heap[w.heap.size + 1]? = some (.cells #[.bool (hasF x.1), .bool (hasT x.1), .bool bP] 45 (0, 0)) := by
    have := heap_alloc_new (w.alloc (.cells (encEnt x).toArray 29)) (.cells #[.bool (hasF x.1), .bool (hasT x.1), .bool bP] 45)
    simpa using this
  have HQ := Lib.hid (fun y W => neqEnt x y W)
  have HQP := Lib.hid (fun W => eqPlace x.2.2.2.1 x.2.2.2.2.1 W)
  have HG := Lib.hid (fun W (h : Below w.heap.size w W) => hG.below h)
  have HWP := Lib.hid (show wantP x = (x.1, zeroGoods, (x.2.2.1.1, [], 0, 0), (if hasF x.1 then x.2.2.2.1 else zeroPlace), (if hasT x.1 then x.2.2.2.2.1 else zeroPlace), x.2.2.2.2.2) from rfl)
  obtain ⟨eb, heb⟩ : ∃ eb, eb = w.heap.size := ⟨_, rfl⟩
  clear hr hG
  obtain ⟨k, ⟨g1, g2⟩, ⟨l1, l2, l3, l4⟩, ⟨f1, f2, f3⟩, ⟨t1, t2, t3⟩, n⟩ := x
  simp only [encEnt, encPlace] at HPL HR HN H2 b0 hc hfr HQ HQP HWP ⊢
  generalize placesE (k, (g1, g2), (l1, l2, l3, l4), (f1, f2, f3), (t1, t2, t3), n) = pl at HPL HR
  generalize nameB l1 = nm at HN HR
  generalize wiB n 1 1099511627776 = wi at H2 HR
  generalize hasF k = bF at HPL b0 hc hfr HWP ⊢
  generalize hasT k = bT at HPL b0 hc hfr HWP ⊢
  go_enter Tryz.func29, Tryz.ntmps29
  go_wp2_with fail
  generalize ((w.alloc (.cells #[.string ⟨k.toArray⟩, .string ⟨g1.toArray⟩, .int .i64 g2, .string ⟨l1.toArray⟩, .string ⟨l2.toArray⟩, .int .i64 l3, .int .i64 l4, .string ⟨f1.toArray⟩, .int .i64 f2, .int .i64 f3, .string ⟨t1.toArray⟩, .int .i64 t2, .int .i64 t3, .int .i64 n] 29)).alloc (.cells #[.bool bF, .bool bT, .bool bP] 45)) = W0 at b0 hc hfr ⊢
  have B0 := Lib.hid b0
  have hbb := b0.size
  refine (HN.out W0).mono ?_
  rintro e w1 ⟨rfl, b1⟩
  have B1 := Lib.hid (b0.trans (b1.mono b0.size))
  have C1 := Lib.hid (hc.below b1)
  have F1 := Lib.hid ((b1.block _ (row_lt hfr)).trans hfr)
  have hn1 := (HG.out w1 B1.out).read.name
  unfold ErrAt at hn1
  clear b1 b0 hc hfr HN B0
  cases nm with
  | false =>
    go_wp2_with fail
    go_ret
    rw [HR.out]
    exact ⟨rfl, B1.out⟩
  | true =>
  obtain ⟨c0, c1, c2, c3, c4, c5, c6, c7, c8, c9, c10, c11, c12, c13⟩ := C1.out.all
  simp only at c0 c1 c2 c3 c4 c5 c6 c7 c8 c9 c10 c11 c12 c13
  have d0 : w1.cell? ⟨w.heap.size + 1, 0, none⟩ = some (.bool bF) := cell_of_row _ _ _ _ _ _ F1.out
  have d1 : w1.cell? ⟨w.heap.size + 1, 1, none⟩ = some (.bool bT) := cell_of_row _ _ _ _ _ _ F1.out
  have d2 : w1.cell? ⟨w.heap.size + 1, 2, none⟩ = some (.bool bP) := cell_of_row _ _ _ _ _ _ F1.out
  go_wp2_with fail
  refine (HPL.out w1 (HG.out w1 B1.out)).mono ?_
  rintro e w2 ⟨rfl, b2⟩
  have B2 := Lib.hid (B1.out.trans (b2.mono B1.out.size))
  have C2 := Lib.hid (C1.out.below b2)
  have F2 := Lib.hid ((b2.block _ (row_lt F1.out)).trans F1.out)
  clear b2 c0 c1 c2 c3 c4 c5 c6 c7 c8 c9 c10 c11 c12 c13 d0 d1 d2 hn1 C1 F1 B1 HPL
  by_cases hpl : pl = 0
  · subst hpl
    rw [errOf_zero]
    obtain ⟨c0, c1, c2, c3, c4, c5, c6, c7, c8, c9, c10, c11, c12, c13⟩ := C2.out.all
    simp only at c0 c1 c2 c3 c4 c5 c6 c7 c8 c9 c10 c11 c12 c13
    have d0 : w2.cell? ⟨w.heap.size + 1, 0, none⟩ = some (.bool bF) := cell_of_row _ _ _ _ _ _ F2.out
    have d1 : w2.cell? ⟨w.heap.size + 1, 1, none⟩ = some (.bool bT) := cell_of_row _ _ _ _ _ _ F2.out
    have hn2 := (HG.out w2 B2.out).read.bound
    have hn3 := (HG.out w2 B2.out).shape
    unfold ErrAt at hn2 hn3
    go_wp2_with fail
    refine (H2.out _).mono ?_
    rintro e w3 ⟨rfl, rfl⟩
    cases wi with
    | false =>
      go_wp2_with fail
      go_ret
      rw [HR.out]
      exact ⟨rfl, B2.out⟩
    | true =>
      have hes : w.heap.size + 1 < w2.heap.size := row_lt F2.out
      have hO : ∀ o, Below w2.heap.size w2 (w2.alloc o) := fun o => below_one w2 o
      have hn3' : ∀ o, (w2.alloc o).cell? ⟨1, 0, none⟩ = some (.iface 177 (.pointer (some (E 3)))) := fun o => ((hO o).cell (p := ⟨_, 0, none⟩) (lt_of_cell hn3)).trans hn3
      have hd0 : ∀ o, (w2.alloc o).cell? ⟨w.heap.size + 1, 0, none⟩ = some (.bool bF) := fun o => ((hO o).cell (p := ⟨_, 0, none⟩) hes).trans d0
      have hd1 : ∀ o, (w2.alloc o).cell? ⟨w.heap.size + 1, 1, none⟩ = some (.bool bT) := fun o => ((hO o).cell (p := ⟨_, 1, none⟩) hes).trans d1
      have hc0 : ∀ o, (w2.alloc o).cell? ⟨w.heap.size, 0, none⟩ = some (.string ⟨k.toArray⟩) := fun o => ((hO o).cell (p := ⟨_, 0, none⟩) (lt_of_cell c0)).trans c0
      have hc1 : ∀ o, (w2.alloc o).cell? ⟨w.heap.size, 1, none⟩ = some (.string ⟨g1.toArray⟩) := fun o => ((hO o).cell (p := ⟨_, 1, none⟩) (lt_of_cell c1)).trans c1
      have hc2 : ∀ o, (w2.alloc o).cell? ⟨w.heap.size, 2, none⟩ = some (.int .i64 g2) := fun o => ((hO o).cell (p := ⟨_, 2, none⟩) (lt_of_cell c2)).trans c2
      have hc3 : ∀ o, (w2.alloc o).cell? ⟨w.heap.size, 3, none⟩ = some (.string ⟨l1.toArray⟩) := fun o => ((hO o).cell (p := ⟨_, 3, none⟩) (lt_of_cell c3)).trans c3
      have hc4 : ∀ o, (w2.alloc o).cell? ⟨w.heap.size, 4, none⟩ = some (.string ⟨l2.toArray⟩) := fun o => ((hO o).cell (p := ⟨_, 4, none⟩) (lt_of_cell c4)).trans c4
      have hc5 : ∀ o, (w2.alloc o).cell? ⟨w.heap.size, 5, none⟩ = some (.int .i64 l3) := fun o => ((hO o).cell (p := ⟨_, 5, none⟩) (lt_of_cell c5)).trans c5
      have hc6 : ∀ o, (w2.alloc o).cell? ⟨w.heap.size, 6, none⟩ = some (.int .i64 l4) := fun o => ((hO o).cell (p := ⟨_, 6, none⟩) (lt_of_cell c6)).trans c6
      have hc7 : ∀ o, (w2.alloc o).cell? ⟨w.heap.size, 7, none⟩ = some (.string ⟨f1.toArray⟩) := fun o => ((hO o).cell (p := ⟨_, 7, none⟩) (lt_of_cell c7)).trans c7
      have hc8 : ∀ o, (w2.alloc o).cell? ⟨w.heap.size, 8, none⟩ = some (.int .i64 f2) := fun o => ((hO o).cell (p := ⟨_, 8, none⟩) (lt_of_cell c8)).trans c8
      have hc9 : ∀ o, (w2.alloc o).cell? ⟨w.heap.size, 9, none⟩ = some (.int .i64 f3) := fun o => ((hO o).cell (p := ⟨_, 9, none⟩) (lt_of_cell c9)).trans c9
      have hc10 : ∀ o, (w2.alloc o).cell? ⟨w.heap.size, 10, none⟩ = some (.string ⟨t1.toArray⟩) := fun o => ((hO o).cell (p := ⟨_, 10, none⟩) (lt_of_cell c10)).trans c10
      have hc11 : ∀ o, (w2.alloc o).cell? ⟨w.heap.size, 11, none⟩ = some (.int .i64 t2) := fun o => ((hO o).cell (p := ⟨_, 11, none⟩) (lt_of_cell c11)).trans c11
      have hc12 : ∀ o, (w2.alloc o).cell? ⟨w.heap.size, 12, none⟩ = some (.int .i64 t3) := fun o => ((hO o).cell (p := ⟨_, 12, none⟩) (lt_of_cell c12)).trans c12
      have hc13 : ∀ o, (w2.alloc o).cell? ⟨w.heap.size, 13, none⟩ = some (.int .i64 n) := fun o => ((hO o).cell (p := ⟨_, 13, none⟩) (lt_of_cell c13)).trans c13
      have HRR : Hid (r = if (k = kMove ∧ (f1, f2, f3) = (t1, t2, t3)) ∨ (k, (g1, g2), (l1, l2, l3, l4), (f1, f2, f3), (t1, t2, t3), n) ≠ (k, zeroGoods, (l1, [], 0, 0), (if bF = true then (f1, f2, f3) else zeroPlace), (if bT = true then (t1, t2, t3) else zeroPlace), n) then 3 else 0) := by
        show _ = _
        rw [HR.out, HWP.out]
        simp
      have HB := Lib.hid (fun o => B2.out.alloc B2.out.size o)
      have hkm : ((k == [109, 111, 118, 101]) = true ∧ k = kMove) ∨ ((k == [109, 111, 118, 101]) = false ∧ k ≠ kMove) := by
        by_cases h : k = kMove
        · exact .inl ⟨by rw [h]; rfl, h⟩
        · exact .inr ⟨beq_eq_false_iff_ne.2 h, h⟩
      have hqp := HQP.out
      have hft : (decide ((f1, f2, f3) = (t1, t2, t3)) = true ∧ (f1, f2, f3) = (t1, t2, t3)) ∨ (decide ((f1, f2, f3) = (t1, t2, t3)) = false ∧ (f1, f2, f3) ≠ (t1, t2, t3)) := by
        by_cases h : (f1, f2, f3) = (t1, t2, t3)
        · exact .inl ⟨decide_eq_true h, h⟩
        · exact .inr ⟨decide_eq_false h, h⟩
      have HFT := Lib.hid hft
      obtain ⟨dp, hdp⟩ : ∃ dp, dp = decide ((f1, f2, f3) = (t1, t2, t3)) := ⟨_, rfl⟩
      rw [← hdp] at hqp HFT
      clear hdp hft HR HWP HQP c1 c2 c4 c5 c6 c7 c8 c9 c10 c11 c12 d0 d1 hn2 hn3 C2 F2 hO
      cases bF <;> cases bT
      · have hq := fun W => HQ.out (k, ([], 0), (l1, [], 0, 0), ([], 0, 0), ([], 0, 0), n) W
        simp only at hq
        have hdq : (decide (((k, (g1, g2), (l1, l2, l3, l4), (f1, f2, f3), (t1, t2, t3), n) : EntV) = (k, ([], 0), (l1, [], 0, 0), ([], 0, 0), ([], 0, 0), n)) = true ∧ ((k, (g1, g2), (l1, l2, l3, l4), (f1, f2, f3), (t1, t2, t3), n) : EntV) = (k, ([], 0), (l1, [], 0, 0), ([], 0, 0), ([], 0, 0), n)) ∨ (decide (((k, (g1, g2), (l1, l2, l3, l4), (f1, f2, f3), (t1, t2, t3), n) : EntV) = (k, ([], 0), (l1, [], 0, 0), ([], 0, 0), ([], 0, 0), n)) = false ∧ ((k, (g1, g2), (l1, l2, l3, l4), (f1, f2, f3), (t1, t2, t3), n) : EntV) ≠ (k, ([], 0), (l1, [], 0, 0), ([], 0, 0), ([], 0, 0), n)) := by
          by_cases h : ((k, (g1, g2), (l1, l2, l3, l4), (f1, f2, f3), (t1, t2, t3), n) : EntV) = (k, ([], 0), (l1, [], 0, 0), ([], 0, 0), ([], 0, 0), n)
          · exact .inl ⟨decide_eq_true h, h⟩
          · exact .inr ⟨decide_eq_false h, h⟩
        have HDQ := Lib.hid hdq
        obtain ⟨dq, hdq'⟩ : ∃ dq, dq = decide (((k, (g1, g2), (l1, l2, l3, l4), (f1, f2, f3), (t1, t2, t3), n) : EntV) = (k, ([], 0), (l1, [], 0, 0), ([], 0, 0), ([], 0, 0), n)) := ⟨_, rfl⟩
        rw [← hdq'] at hq HDQ
        have HR3 : Hid ((k = kMove ∧ (f1, f2, f3) = (t1, t2, t3)) ∨ ((k, (g1, g2), (l1, l2, l3, l4), (f1, f2, f3), (t1, t2, t3), n) : EntV) ≠ (k, ([], 0), (l1, [], 0, 0), ([], 0, 0), ([], 0, 0), n) → r = 3) := fun h => HRR.out.trans (if_pos h)
        have HR4 : Hid (¬ ((k = kMove ∧ (f1, f2, f3) = (t1, t2, t3)) ∨ ((k, (g1, g2), (l1, l2, l3, l4), (f1, f2, f3), (t1, t2, t3), n) : EntV) ≠ (k, ([], 0), (l1, [], 0, 0), ([], 0, 0), ([], 0, 0), n)) → r = 0) := fun h => HRR.out.trans (if_neg h)
        clear hdq hdq' HRR HQ
        rcases hkm with ⟨hk1, hk2⟩ | ⟨hk1, hk2⟩
        · rcases HFT.out with ⟨rfl, h3⟩ | ⟨rfl, h3⟩
          · have HF3 := Lib.hid (HR3.out (.inl ⟨hk2, h3⟩))
            clear h3 hk2
            go_wp2
            go_ret
            rw [HF3.out]
            exact ⟨rfl, HB.out _⟩
          · rcases HDQ.out with ⟨rfl, h4⟩ | ⟨rfl, h4⟩
            · have HF3 := Lib.hid (HR4.out (fun h => by rcases h with h | h; exact h3 h.2; exact h h4))
              clear h3 h4 hk2
              go_wp2
              go_ret
              rw [HF3.out]
              exact ⟨rfl, HB.out _⟩
            · have HF3 := Lib.hid (HR3.out (.inr h4))
              clear h3 h4 hk2
              go_wp2
              go_ret
              rw [HF3.out]
              exact ⟨rfl, HB.out _⟩
        · rcases HDQ.out with ⟨rfl, h4⟩ | ⟨rfl, h4⟩
          · have HF3 := Lib.hid (HR4.out (fun h => by rcases h with h | h; exact hk2 h.1; exact h h4))
            clear h4 hk2
            go_wp2
            go_ret
            rw [HF3.out]
            exact ⟨rfl, HB.out _⟩
          · have HF3 := Lib.hid (HR3.out (.inr h4))
            clear h4 hk2
            go_wp2
            go_ret
            rw [HF3.out]
            exact ⟨rfl, HB.out _⟩
      · have hq := fun W => HQ.out (k, ([], 0), (l1, [], 0, 0), ([], 0, 0), (t1, t2, t3), n) W
        simp only at hq
        have hdq : (decide (((k, (g1, g2), (l1, l2, l3, l4), (f1, f2, f3), (t1, t2, t3), n) : EntV) = (k, ([], 0), (l1, [], 0, 0), ([], 0, 0), (t1, t2, t3), n)) = true ∧ ((k, (g1, g2), (l1, l2, l3, l4), (f1, f2, f3), (t1, t2, t3), n) : EntV) = (k, ([], 0), (l1, [], 0, 0), ([], 0, 0), (t1, t2, t3), n)) ∨ (decide (((k, (g1, g2), (l1, l2, l3, l4), (f1, f2, f3), (t1, t2, t3), n) : EntV) = (k, ([], 0), (l1, [], 0, 0), ([], 0, 0), (t1, t2, t3), n)) = false ∧ ((k, (g1, g2), (l1, l2, l3, l4), (f1, f2, f3), (t1, t2, t3), n) : EntV) ≠ (k, ([], 0), (l1, [], 0, 0), ([], 0, 0), (t1, t2, t3), n)) := by
          by_cases h : ((k, (g1, g2), (l1, l2, l3, l4), (f1, f2, f3), (t1, t2, t3), n) : EntV) = (k, ([], 0), (l1, [], 0, 0), ([], 0, 0), (t1, t2, t3), n)
          · exact .inl ⟨decide_eq_true h, h⟩
          · exact .inr ⟨decide_eq_false h, h⟩
        have HDQ := Lib.hid hdq
        obtain ⟨dq, hdq'⟩ : ∃ dq, dq = decide (((k, (g1, g2), (l1, l2, l3, l4), (f1, f2, f3), (t1, t2, t3), n) : EntV) = (k, ([], 0), (l1, [], 0, 0), ([], 0, 0), (t1, t2, t3), n)) := ⟨_, rfl⟩
        rw [← hdq'] at hq HDQ
        have HR3 : Hid ((k = kMove ∧ (f1, f2, f3) = (t1, t2, t3)) ∨ ((k, (g1, g2), (l1, l2, l3, l4), (f1, f2, f3), (t1, t2, t3), n) : EntV) ≠ (k, ([], 0), (l1, [], 0, 0), ([], 0, 0), (t1, t2, t3), n) → r = 3) := fun h => HRR.out.trans (if_pos h)
        have HR4 : Hid (¬ ((k = kMove ∧ (f1, f2, f3) = (t1, t2, t3)) ∨ ((k, (g1, g2), (l1, l2, l3, l4), (f1, f2, f3), (t1, t2, t3), n) : EntV) ≠ (k, ([], 0), (l1, [], 0, 0), ([], 0, 0), (t1, t2, t3), n)) → r = 0) := fun h => HRR.out.trans (if_neg h)
        clear hdq hdq' HRR HQ
        rcases hkm with ⟨hk1, hk2⟩ | ⟨hk1, hk2⟩
        · rcases HFT.out with ⟨rfl, h3⟩ | ⟨rfl, h3⟩
          · have HF3 := Lib.hid (HR3.out (.inl ⟨hk2, h3⟩))
            clear h3 hk2
            go_wp2
            go_ret
            rw [HF3.out]
            exact ⟨rfl, HB.out _⟩
          · rcases HDQ.out with ⟨rfl, h4⟩ | ⟨rfl, h4⟩
            · have HF3 := Lib.hid (HR4.out (fun h => by rcases h with h | h; exact h3 h.2; exact h h4))
              clear h3 h4 hk2
              go_wp2
              go_ret
              rw [HF3.out]
              exact ⟨rfl, HB.out _⟩
            · have HF3 := Lib.hid (HR3.out (.inr h4))
              clear h3 h4 hk2
              go_wp2
              go_ret
              rw [HF3.out]
              exact ⟨rfl, HB.out _⟩
        · rcases HDQ.out with ⟨rfl, h4⟩ | ⟨rfl, h4⟩
          · have HF3 := Lib.hid (HR4.out (fun h => by rcases h with h | h; exact hk2 h.1; exact h h4))
            clear h4 hk2
            go_wp2
            go_ret
            rw [HF3.out]
            exact ⟨rfl, HB.out _⟩
          · have HF3 := Lib.hid (HR3.out (.inr h4))
            clear h4 hk2
            go_wp2
            go_ret
            rw [HF3.out]
            exact ⟨rfl, HB.out _⟩
      · have hq := fun W => HQ.out (k, ([], 0), (l1, [], 0, 0), (f1, f2, f3), ([], 0, 0), n) W
        simp only at hq
        have hdq : (decide (((k, (g1, g2), (l1, l2, l3, l4), (f1, f2, f3), (t1, t2, t3), n) : EntV) = (k, ([], 0), (l1, [], 0, 0), (f1, f2, f3), ([], 0, 0), n)) = true ∧ ((k, (g1, g2), (l1, l2, l3, l4), (f1, f2, f3), (t1, t2, t3), n) : EntV) = (k, ([], 0), (l1, [], 0, 0), (f1, f2, f3), ([], 0, 0), n)) ∨ (decide (((k, (g1, g2), (l1, l2, l3, l4), (f1, f2, f3), (t1, t2, t3), n) : EntV) = (k, ([], 0), (l1, [], 0, 0), (f1, f2, f3), ([], 0, 0), n)) = false ∧ ((k, (g1, g2), (l1, l2, l3, l4), (f1, f2, f3), (t1, t2, t3), n) : EntV) ≠ (k, ([], 0), (l1, [], 0, 0), (f1, f2, f3), ([], 0, 0), n)) := by
          by_cases h : ((k, (g1, g2), (l1, l2, l3, l4), (f1, f2, f3), (t1, t2, t3), n) : EntV) = (k, ([], 0), (l1, [], 0, 0), (f1, f2, f3), ([], 0, 0), n)
          · exact .inl ⟨decide_eq_true h, h⟩
          · exact .inr ⟨decide_eq_false h, h⟩
        have HDQ := Lib.hid hdq
        obtain ⟨dq, hdq'⟩ : ∃ dq, dq = decide (((k, (g1, g2), (l1, l2, l3, l4), (f1, f2, f3), (t1, t2, t3), n) : EntV) = (k, ([], 0), (l1, [], 0, 0), (f1, f2, f3), ([], 0, 0), n)) := ⟨_, rfl⟩
        rw [← hdq'] at hq HDQ
        have HR3 : Hid ((k = kMove ∧ (f1, f2, f3) = (t1, t2, t3)) ∨ ((k, (g1, g2), (l1, l2, l3, l4), (f1, f2, f3), (t1, t2, t3), n) : EntV) ≠ (k, ([], 0), (l1, [], 0, 0), (f1, f2, f3), ([], 0, 0), n) → r = 3) := fun h => HRR.out.trans (if_pos h)
        have HR4 : Hid (¬ ((k = kMove ∧ (f1, f2, f3) = (t1, t2, t3)) ∨ ((k, (g1, g2), (l1, l2, l3, l4), (f1, f2, f3), (t1, t2, t3), n) : EntV) ≠ (k, ([], 0), (l1, [], 0, 0), (f1, f2, f3), ([], 0, 0), n)) → r = 0) := fun h => HRR.out.trans (if_neg h)
        clear hdq hdq' HRR HQ
        rcases hkm with ⟨hk1, hk2⟩ | ⟨hk1, hk2⟩
        · rcases HFT.out with ⟨rfl, h3⟩ | ⟨rfl, h3⟩
          · have HF3 := Lib.hid (HR3.out (.inl ⟨hk2, h3⟩))
            clear h3 hk2
            go_wp2
            go_ret
            rw [HF3.out]
            exact ⟨rfl, HB.out _⟩
          · rcases HDQ.out with ⟨rfl, h4⟩ | ⟨rfl, h4⟩
            · have HF3 := Lib.hid (HR4.out (fun h => by rcases h with h | h; exact h3 h.2; exact h h4))
              clear h3 h4 hk2
              go_wp2
              go_ret
              rw [HF3.out]
              exact ⟨rfl, HB.out _⟩
            · have HF3 := Lib.hid (HR3.out (.inr h4))
              clear h3 h4 hk2
              go_wp2
              go_ret
              rw [HF3.out]
              exact ⟨rfl, HB.out _⟩
        · rcases HDQ.out with ⟨rfl, h4⟩ | ⟨rfl, h4⟩
          · have HF3 := Lib.hid (HR4.out (fun h => by rcases h with h | h; exact hk2 h.1; exact h h4))
            clear h4 hk2
            go_wp2
            go_ret
            rw [HF3.out]
            exact ⟨rfl, HB.out _⟩
          · have HF3 := Lib.hid (HR3.out (.inr h4))
            clear h4 hk2
            go_wp2
            go_ret
            rw [HF3.out]
            exact ⟨rfl, HB.out _⟩
      · have hq := fun W => HQ.out (k, ([], 0), (l1, [], 0, 0), (f1, f2, f3), (t1, t2, t3), n) W
        simp only at hq
        have hdq : (decide (((k, (g1, g2), (l1, l2, l3, l4), (f1, f2, f3), (t1, t2, t3), n) : EntV) = (k, ([], 0), (l1, [], 0, 0), (f1, f2, f3), (t1, t2, t3), n)) = true ∧ ((k, (g1, g2), (l1, l2, l3, l4), (f1, f2, f3), (t1, t2, t3), n) : EntV) = (k, ([], 0), (l1, [], 0, 0), (f1, f2, f3), (t1, t2, t3), n)) ∨ (decide (((k, (g1, g2), (l1, l2, l3, l4), (f1, f2, f3), (t1, t2, t3), n) : EntV) = (k, ([], 0), (l1, [], 0, 0), (f1, f2, f3), (t1, t2, t3), n)) = false ∧ ((k, (g1, g2), (l1, l2, l3, l4), (f1, f2, f3), (t1, t2, t3), n) : EntV) ≠ (k, ([], 0), (l1, [], 0, 0), (f1, f2, f3), (t1, t2, t3), n)) := by
          by_cases h : ((k, (g1, g2), (l1, l2, l3, l4), (f1, f2, f3), (t1, t2, t3), n) : EntV) = (k, ([], 0), (l1, [], 0, 0), (f1, f2, f3), (t1, t2, t3), n)
          · exact .inl ⟨decide_eq_true h, h⟩
          · exact .inr ⟨decide_eq_false h, h⟩
        have HDQ := Lib.hid hdq
        obtain ⟨dq, hdq'⟩ : ∃ dq, dq = decide (((k, (g1, g2), (l1, l2, l3, l4), (f1, f2, f3), (t1, t2, t3), n) : EntV) = (k, ([], 0), (l1, [], 0, 0), (f1, f2, f3), (t1, t2, t3), n)) := ⟨_, rfl⟩
        rw [← hdq'] at hq HDQ
        have HR3 : Hid ((k = kMove ∧ (f1, f2, f3) = (t1, t2, t3)) ∨ ((k, (g1, g2), (l1, l2, l3, l4), (f1, f2, f3), (t1, t2, t3), n) : EntV) ≠ (k, ([], 0), (l1, [], 0, 0), (f1, f2, f3), (t1, t2, t3), n) → r = 3) := fun h => HRR.out.trans (if_pos h)
        have HR4 : Hid (¬ ((k = kMove ∧ (f1, f2, f3) = (t1, t2, t3)) ∨ ((k, (g1, g2), (l1, l2, l3, l4), (f1, f2, f3), (t1, t2, t3), n) : EntV) ≠ (k, ([], 0), (l1, [], 0, 0), (f1, f2, f3), (t1, t2, t3), n)) → r = 0) := fun h => HRR.out.trans (if_neg h)
        clear hdq hdq' HRR HQ
        rcases hkm with ⟨hk1, hk2⟩ | ⟨hk1, hk2⟩
        · rcases HFT.out with ⟨rfl, h3⟩ | ⟨rfl, h3⟩
          · have HF3 := Lib.hid (HR3.out (.inl ⟨hk2, h3⟩))
            clear h3 hk2
            go_wp2
            go_ret
            rw [HF3.out]
            exact ⟨rfl, HB.out _⟩
          · rcases HDQ.out with ⟨rfl, h4⟩ | ⟨rfl, h4⟩
            · have HF3 := Lib.hid (HR4.out (fun h => by rcases h with h | h; exact h3 h.2; exact h h4))
              clear h3 h4 hk2
              go_wp2
              go_ret
              rw [HF3.out]
              exact ⟨rfl, HB.out _⟩
            · have HF3 := Lib.hid (HR3.out (.inr h4))
              clear h3 h4 hk2
              go_wp2
              go_ret
              rw [HF3.out]
              exact ⟨rfl, HB.out _⟩
        · rcases HDQ.out with ⟨rfl, h4⟩ | ⟨rfl, h4⟩
          · have HF3 := Lib.hid (HR4.out (fun h => by rcases h with h | h; exact hk2 h.1; exact h h4))
            clear h4 hk2
            go_wp2
            go_ret
            rw [HF3.out]
            exact ⟨rfl, HB.out _⟩
          · have HF3 := Lib.hid (HR3.out (.inr h4))
            clear h4 hk2
            go_wp2
            go_ret
            rw [HF3.out]
            exact ⟨rfl, HB.out _⟩
  · rw [errOf_pos _ _ hpl]
    go_wp2_with fail
    go_ret
    rw [HR.out]
    simp only [Bool.true_eq_false, if_false]
    rw [if_pos hpl, errOf_pos _ _ hpl]
    exact ⟨rfl, B2.out⟩
end Go.Proofs.YtpifbahafnaejaaGreatDoor
namespace Go.Proofs.YtpifbahafnaejaaGreatDoor
open Go.RowKit Go.Sort Go.Proofs

/-- A three-way compare. -/
structure CmpLike {α : Type} (c : α → α → Int) : Prop where
  swap : ∀ x y, c y x < 0 ↔ 0 < c x y
  trans : ∀ x y z, c x y ≤ 0 → c y z ≤ 0 → c x z ≤ 0
theorem CmpLike.zero {α : Type} {c : α → α → Int} (h : CmpLike c) {x y : α} (h0 : c x y = 0) : c y x = 0 := by
  have a := h.swap x y
  have b := h.swap y x
  omega
theorem CmpLike.refl {α : Type} {c : α → α → Int} (h : CmpLike c) (x : α) : c x x = 0 := by
  have a := h.swap x x
  omega
theorem CmpLike.then_ {α : Type} {c d : α → α → Int} (h : CmpLike c) (k : CmpLike d) : CmpLike fun x y => if c x y = 0 then d x y else c x y where
  swap x y := by
    have a := h.swap x y
    have b := h.swap y x
    have p := k.swap x y
    by_cases h0 : c x y = 0
    · rw [if_pos h0, if_pos (h.zero h0)]; exact p
    · rw [if_neg h0, if_neg (by omega)]; exact a
  trans x y z h1 h2 := by
    have t1 : c x y ≤ 0 := by
      by_cases h0 : c x y = 0
      · omega
      · rwa [if_neg h0] at h1
    have t2 : c y z ≤ 0 := by
      by_cases h0 : c y z = 0
      · omega
      · rwa [if_neg h0] at h2
    have t3 := h.trans x y z t1 t2
    by_cases h0 : c x z = 0
    · have h0' := h.zero h0
      have u1 := h.trans y z x t2 (by omega)
      have u2 := h.trans z x y (by omega) t1
      have s1 := h.swap y x
      have s2 := h.swap z y
      have e1 : c x y = 0 := by omega
      have e2 : c y z = 0 := by omega
      rw [if_pos e1] at h1
      rw [if_pos e2] at h2
      rw [if_pos h0]
      exact k.trans x y z h1 h2
    · rw [if_neg h0]; exact t3
theorem CmpLike.swo {α : Type} {c : α → α → Int} (h : CmpLike c) : SWO (ltOf c) where
  irrefl x := by
    have := h.refl x
    unfold ltOf
    simp [this]
  trans x y z h1 h2 := by
    unfold ltOf at *
    rw [decide_eq_true_iff] at *
    have t := h.trans x y z (by omega) (by omega)
    have s := h.swap x y
    have s3 := h.swap x z
    have s3' := h.swap z x
    by_cases h0 : c x z = 0
    · have u := h.trans y z x (by omega) (by have := h.zero h0; omega)
      have s2 := h.swap y x
      omega
    · omega
  ntrans x y z h1 h2 := by
    unfold ltOf at *
    rw [decide_eq_false_iff_not] at *
    have a1 := h.swap x y
    have a2 := h.swap y x
    have b1 := h.swap y z
    have b2 := h.swap z y
    have t := h.trans z y x (by omega) (by omega)
    have c1 := h.swap x z
    have c2 := h.swap z x
    omega
theorem CmpLike.sub {α : Type} (f : α → Int) : CmpLike fun x y => f x - f y where
  swap x y := by constructor <;> intro h <;> omega
  trans x y z h1 h2 := by omega
theorem CmpLike.ints {α : Type} (f : α → Int) : CmpLike fun x y => Lib.compareInt (f x) (f y) where
  swap x y := by
    unfold Lib.compareInt
    by_cases h1 : f x < f y
    · have : ¬ f y < f x := by omega
      simp [h1, this]
    · by_cases h2 : f y < f x <;> simp [h1, h2]
  trans x y z h1 h2 := by
    unfold Lib.compareInt at *
    by_cases a1 : f x < f y <;> by_cases a2 : f y < f x <;> by_cases b1 : f y < f z <;> by_cases b2 : f z < f y <;> simp_all <;> split <;> (try split) <;> omega
theorem CmpLike.bytes {α : Type} (f : α → List UInt8) : CmpLike fun x y => Lib.compareBytes (f x) (f y) where
  swap x y := by rw [cmpB_swap (f x) (f y)]; omega
  trans x y z h1 h2 := by
    by_cases e1 : Lib.compareBytes (f x) (f y) = 0
    · rw [(cmpB_eq _ _).1 e1]; exact h2
    · by_cases e2 : Lib.compareBytes (f y) (f z) = 0
      · rw [← (cmpB_eq _ _).1 e2]; exact h1
      · have := cmpB_trans (f x) (f y) (f z) (by omega) (by omega)
        omega
theorem CmpLike.on {α β : Type} {c : α → α → Int} (h : CmpLike c) (f : β → α) : CmpLike fun x y => c (f x) (f y) where
  swap _ _ := h.swap _ _
  trans _ _ _ := h.trans _ _ _
theorem CmpLike.congr {α : Type} {c d : α → α → Int} (h : CmpLike c) (e : ∀ x y, d x y = c x y) : CmpLike d := by
  have : d = c := funext fun x => funext fun y => e x y
  rw [this]; exact h
end Go.Proofs.YtpifbahafnaejaaGreatDoor
namespace Go.Proofs.YtpifbahafnaejaaGreatDoor
open Go.RowKit Go.Sort Go.Proofs

/-- The compare of two places, on the way. -/
def cfPlace (x y : PlaceV) : Int := orL [Lib.compareBytes x.1 y.1, x.2.1 - y.2.1, if x.2.1 % 2 = 0 then -(x.2.2 - y.2.2) else x.2.2 - y.2.2]
def sbP (x : PlaceV) : Int := if x.2.1 % 2 = 0 then -x.2.2 else x.2.2
theorem likePlace : CmpLike cfPlace :=
  ((CmpLike.bytes (α := PlaceV) Prod.fst).then_ ((CmpLike.sub (α := PlaceV) (fun x => x.2.1)).then_ (CmpLike.sub sbP))).congr fun x y => by
    unfold cfPlace orL orL orL orL sbP
    by_cases h1 : Lib.compareBytes x.1 y.1 = 0
    · rw [if_pos h1, if_pos h1]
      by_cases h2 : x.2.1 - y.2.1 = 0
      · rw [if_pos h2, if_pos h2]
        have h3 : y.2.1 = x.2.1 := by omega
        rw [h3]
        by_cases h4 : x.2.1 % 2 = 0
        · simp only [if_pos h4]
          split <;> omega
        · simp only [if_neg h4]
          split <;> omega
      · rw [if_neg h2, if_neg h2]
    · rw [if_neg h1, if_neg h1]
theorem cfPlace_zero (x y : PlaceV) : cfPlace x y = 0 ↔ x = y := by
  constructor
  · intro h
    unfold cfPlace orL orL orL orL at h
    by_cases h1 : Lib.compareBytes x.1 y.1 = 0
    · rw [if_pos h1] at h
      by_cases h2 : x.2.1 - y.2.1 = 0
      · rw [if_pos h2] at h
        have e1 := (cmpB_eq _ _).1 h1
        have e2 : x.2.1 = y.2.1 := by omega
        have e3 : x.2.2 = y.2.2 := by
          by_cases h4 : x.2.1 % 2 = 0
          · simp only [if_pos h4] at h
            split at h <;> omega
          · simp only [if_neg h4] at h
            split at h <;> omega
        exact Prod.ext e1 (Prod.ext e2 e3)
      · rw [if_neg h2] at h; exact absurd h h2
    · rw [if_neg h1] at h; exact absurd h h1
  · rintro rfl
    exact likePlace.refl x

/-- Rows and bays of a well place. -/
def InP (x : PlaceV) : Prop := 1 ≤ x.2.1 ∧ x.2.1 ≤ 20 ∧ 1 ≤ x.2.2 ∧ x.2.2 ≤ 40
theorem InP.of {x : PlaceV} (h : placeE x = 0) : InP x := (placeE_zero.1 h).2

end Go.Proofs.YtpifbahafnaejaaGreatDoor
namespace Go.Proofs.YtpifbahafnaejaaGreatDoor
open Go.RowKit

theorem nameB_no (s : ByteArray) (h : (bts s).all alnum = false) : nameB (bts s) = false := by
  unfold nameB
  rw [h]; simp
theorem nameB_yes (s : ByteArray) (h : (bts s).all alnum = true) : nameB (bts s) = decide (1 ≤ s.size ∧ s.size ≤ 8) := by
  unfold nameB
  rw [h]
  have e : (bts s).length = s.size := rfl
  have : (bts s).isEmpty = decide (s.size = 0) := by
    rw [← e]
    cases bts s with
    | nil => rfl
    | cons x r => simp
  rw [this, e]
  by_cases h0 : s.size = 0
  · simp [h0]
  · have h1 : 1 ≤ s.size := by omega
    simp [h0, h1]

set_option maxHeartbeats 1000000 in
theorem isNameB (s : ByteArray) (hl : s.size ≤ 1000000000) (w : World) :
    Calls Tryz.prog 32 #[.string s] w fun e w' => e = .returned (.bool (nameB (bts s))) ∧ w = w' := by
  go_enter Tryz.func32, Tryz.ntmps32
  go_wp2
  go_loop [3, 4, 5] (fun i _ _ => ∃ k : Nat, k ≤ s.size ∧ i = .int .i64 k ∧ Hid (((bts s).take k).all alnum = true)) (fun i _ _ => s.size - (intOf i).toNat)
  case atStart => exact ⟨0, by omega, rfl, rfl⟩
  case round =>
    obtain ⟨k, hk, rfl, HA⟩ := hrel
    by_cases hlt : k < s.size
    · have HY := Lib.hid (fun h => all_snoc (p := alnum) s k hlt HA.out h)
      have HF := Lib.hid (fun h => nameB_no s (all_false (p := alnum) s k hlt h))
      have HAL := Lib.hid (show alnum s[k] = ((decide (97 ≤ s[k].toNat) && decide (s[k].toNat ≤ 122)) || (decide (48 ≤ s[k].toNat) && decide (s[k].toNat ≤ 57))) from rfl)
      by_cases h1 : 97 ≤ s[k].toNat
      · have i1 : 97 ≤ (s[k].toNat : Int) := by omega
        have j1 : 48 ≤ (s[k].toNat : Int) := by omega
        have j2 : ¬ (s[k].toNat : Int) ≤ 57 := by omega
        by_cases h2 : s[k].toNat ≤ 122
        · have i2 : (s[k].toNat : Int) ≤ 122 := by omega
          have HD := Lib.hid (HY.out (by rw [HAL.out]; simp; omega))
          clear h1 h2
          go_wp2
          go_round
          case rel => exact ⟨k + 1, by omega, by go_num, HD⟩
          case measure => simp [intOf]; omega
        · have i2 : ¬ (s[k].toNat : Int) ≤ 122 := by omega
          have HD := Lib.hid (HF.out (by rw [HAL.out]; simp; omega))
          clear h1 h2
          go_wp2
          go_ret
          exact ⟨by rw [HD.out]; rfl, rfl⟩
      · have i1 : ¬ 97 ≤ (s[k].toNat : Int) := by omega
        by_cases h2 : 48 ≤ s[k].toNat
        · have i2 : 48 ≤ (s[k].toNat : Int) := by omega
          by_cases h3 : s[k].toNat ≤ 57
          · have i3 : (s[k].toNat : Int) ≤ 57 := by omega
            have HD := Lib.hid (HY.out (by rw [HAL.out]; simp; omega))
            clear h1 h2 h3
            go_wp2
            go_round
            case rel => exact ⟨k + 1, by omega, by go_num, HD⟩
            case measure => simp [intOf]; omega
          · have i3 : ¬ (s[k].toNat : Int) ≤ 57 := by omega
            have HD := Lib.hid (HF.out (by rw [HAL.out]; simp; omega))
            clear h1 h2 h3
            go_wp2
            go_ret
            exact ⟨by rw [HD.out]; rfl, rfl⟩
        · have i2 : ¬ 48 ≤ (s[k].toNat : Int) := by omega
          have HD := Lib.hid (HF.out (by rw [HAL.out]; simp; omega))
          clear h1 h2
          go_wp2
          go_ret
          exact ⟨by rw [HD.out]; rfl, rfl⟩
    · obtain rfl : k = s.size := by omega
      have ha := HA.out
      rw [bts_all] at ha
      have HN := Lib.hid (nameB_yes s ha)
      clear ha
      by_cases h1 : 1 ≤ s.size
      · by_cases h8 : s.size ≤ 8
        · have hd8 : decide ((s.size : Int) ≤ 8) = true := by simp; omega
          have HM := Lib.hid (show nameB (bts s) = true by rw [HN.out, decide_eq_true ⟨h1, h8⟩])
          go_wp2
          go_ret
          exact ⟨by rw [HM.out]; rfl, rfl⟩
        · have hd8 : decide ((s.size : Int) ≤ 8) = false := by simp; omega
          have HM := Lib.hid (show nameB (bts s) = false by rw [HN.out]; simp; omega)
          go_wp2
          go_ret
          exact ⟨by rw [HM.out]; rfl, rfl⟩
      · have hd1 : decide (1 ≤ (s.size : Int)) = false := by simp; omega
        have HM := Lib.hid (show nameB (bts s) = false by rw [HN.out]; simp; omega)
        go_wp2
        go_ret
        exact ⟨by rw [HM.out]; rfl, rfl⟩
theorem isName_any (l : List UInt8) (hl : l.length ≤ 1000000000) (w : World) :
    Calls Tryz.prog 32 #[.string ⟨l.toArray⟩] w fun e w' => e = .returned (.bool (nameB l)) ∧ w = w' :=
  isNameB ⟨l.toArray⟩ (by simpa [ByteArray.size] using hl) w
end Go.Proofs.YtpifbahafnaejaaGreatDoor
namespace Go.Proofs.YtpifbahafnaejaaGreatDoor
open Go.RowKit

set_option maxRecDepth 100000 in
theorem byte_any (n : Int) (h0 : 0 ≤ n) (h1 : n < 128) (w : World) : Calls Tryz.prog 68 #[.int .i64 n] w fun e w' => e = .returned (.string ⟨#[UInt8.ofNat n.toNat]⟩) ∧ Below w.heap.size w w' := by
  have kc : (convert 74 9 (.slice (some ⟨w.heap.size, 0, none⟩) 1 1)).run Tryz.prog (w.alloc (.cells #[.int .u8 n] 5)) = .ok (.string ⟨#[UInt8.ofNat n.toNat]⟩) (w.alloc (.cells #[.int .u8 n] 5)) := run_convert_bytes_back (P := Tryz.prog) (w.alloc (.cells #[.int .u8 n] 5)) 74 9 5 ⟨w.heap.size, 0, none⟩ 1 [UInt8.ofNat n.toNat] Tryz.underlying74 Tryz.underlying5 Tryz.underlying9 (by
    intro j hj
    match j, hj with
    | 0, _ =>
      rw [Addr.add_zero', show (w.alloc (.cells #[.int .u8 n] 5)).cell? ⟨w.heap.size, 0, none⟩ = some (.int .u8 n) from cell_of_row _ _ 0 _ _ _ (heap_alloc_new w _)]
      congr 2
      simp only [List.getElem_cons_zero, UInt8.toNat_ofNat']
      omega)
  go_enter Tryz.func68, Tryz.ntmps68
  go_wp2
  go_ret
  exact ⟨rfl, (Below.refl _ _).alloc (Nat.le_refl _) _⟩

/-- below: the digits of a number that is not above 0. -/
theorem below_ind (u : Nat) : ∀ (w : World), u ≤ 9223372036854775807 → Calls Tryz.prog 53 #[.int .i64 (-(u : Int))] w fun e w' => e = .returned (.string ⟨(Lib.decDigits u).toArray⟩) ∧ Below w.heap.size w w' := by
  induction u using Nat.strongRecOn with
  | ind u ih =>
    intro w hu
    by_cases h : u < 10
    · have hb := byte_any (48 + u) (by omega) (by omega)
      have e : Lib.decDigits u = [UInt8.ofNat (48 + u)] := Lib.decDigits_one h
      have e1 : (48 : Int) - (-(u : Int)) = 48 + u := by omega
      have e2 : ((48 : Int) + (u : Int)).toNat = 48 + u := by omega
      have HE := Lib.hid e
      have HE2 := Lib.hid e2
      have HB := Lib.hid hb
      have hlt : -10 < -(u : Int) := by omega
      clear e e2 hb ih
      go_enter Tryz.func53, Tryz.ntmps53
      go_wp2_with fail
      refine (HB.out _).mono ?_
      rintro e w1 ⟨rfl, b1⟩
      go_wp2
      go_ret
      refine ⟨?_, b1⟩
      show Ending.returned (.string ⟨#[UInt8.ofNat ((48 : Int) + (u : Int)).toNat]⟩) = _
      rw [HE.out, HE2.out]
    · have e : Lib.decDigits u = Lib.decDigits (u / 10) ++ [UInt8.ofNat (48 + u % 10)] := by rw [Lib.decDigits, dif_neg h]
      have hq : (-(u : Int)).tdiv 10 = -((u / 10 : Nat) : Int) := by rw [Int.neg_tdiv, Int.tdiv_eq_ediv_of_nonneg (by omega)]; omega
      have hr : (-(u : Int)).tmod 10 = -((u % 10 : Nat) : Int) := by rw [Int.neg_tmod, Int.tmod_eq_emod_of_nonneg (by omega)]; omega
      have hi := ih (u / 10) (by omega)
      have hb := byte_any (48 + (u % 10 : Nat)) (by omega) (by omega)
      have e1 : (48 : Int) - (-((u % 10 : Nat) : Int)) = 48 + (u % 10 : Nat) := by omega
      have e2 : ((48 : Int) + ((u % 10 : Nat) : Int)).toNat = 48 + u % 10 := by omega
      have hlt : ¬ (-10 < -(u : Int)) := by omega
      have HE := Lib.hid e
      have HE2 := Lib.hid e2
      have HB := Lib.hid hb
      have HI := Lib.hid hi
      have hl : (Lib.decDigits (u / 10)).length ≤ 21 := by
        have := Lib.itoa_length_le ((u / 10 : Nat) : Int) (by omega) (by omega)
        rw [Lib.itoa_nonneg] at this
        exact this
      clear e e2 hb ih hi
      go_enter Tryz.func53, Tryz.ntmps53
      go_wp2_with fail
      rw [show -((u : Int) / 10) = -((u / 10 : Nat) : Int) by omega]
      refine (HI.out _ (by omega)).mono ?_
      rintro e w1 ⟨rfl, b1⟩
      go_wp2_with fail
      rw [show (48 : Int) + (u : Int) % 10 = 48 + ((u % 10 : Nat) : Int) by omega]
      refine (HB.out _).mono ?_
      rintro e w2 ⟨rfl, b2⟩
      rw [HE2.out]
      go_wp2
      go_ret
      refine ⟨?_, b1.trans (b2.mono b1.size)⟩
      show Ending.returned (.string ((⟨(Lib.decDigits (u / 10)).toArray⟩ : ByteArray) ++ (⟨#[48 + UInt8.ofNat (u % 10)]⟩ : ByteArray))) = _
      rw [HE.out, ← mk_app, show UInt8.ofNat (48 + u % 10) = 48 + UInt8.ofNat (u % 10) from UInt8.ofNat_add _ _]

/-- Decimal is the number's numeral. -/
theorem decimal_nat (u : Nat) (hu : u ≤ 9223372036854775807) (w : World) : Calls Tryz.prog 37 #[.int .i64 (u : Nat)] w fun e w' => e = .returned (.string ⟨(Lib.itoa u).toArray⟩) ∧ Below w.heap.size w w' := by
  have HB := Lib.hid (fun w => below_ind u w hu)
  have hu0 : ¬ ((u : Int) < 0) := by omega
  go_enter Tryz.func37, Tryz.ntmps37
  go_wp2_with fail
  refine (HB.out _).mono ?_
  rintro e w1 ⟨rfl, b1⟩
  go_wp2
  go_ret
  refine ⟨?_, b1⟩
  rw [Lib.itoa_nonneg]; rfl
end Go.Proofs.YtpifbahafnaejaaGreatDoor
namespace Go.Proofs.YtpifbahafnaejaaGreatDoor
open Go.RowKit

theorem less_cmp (a : List UInt8) : ∀ b, Op.bytesLess a b = decide (Lib.compareBytes a b < 0) := by
  induction a with
  | nil => intro b; cases b <;> simp [Op.bytesLess, Lib.compareBytes]
  | cons x r ih =>
    intro b
    cases b with
    | nil => simp [Op.bytesLess, Lib.compareBytes]
    | cons y s =>
      simp only [Op.bytesLess, Lib.compareBytes, ih]
      by_cases h1 : x < y
      · simp [h1]
      · by_cases h2 : y < x
        · have h3 : ¬ x = y := fun e => by subst e; exact h1 h2
          simp [h1, h2, h3]
        · have h3 : x = y := by
            have a1 : ¬ x.toNat < y.toNat := h1
            have a2 : ¬ y.toNat < x.toNat := h2
            exact UInt8.toNat_inj.1 (by omega)
          subst h3
          simp [h1]

end Go.Proofs.YtpifbahafnaejaaGreatDoor
namespace Go.Proofs.YtpifbahafnaejaaGreatDoor
open Go.RowKit Go.Sort Go.Proofs

set_option maxHeartbeats 800000 in
theorem refPlaceE_any (x : PlaceV) (h1 : x.1.length ≤ 1000000000) (w : World) :
    Calls Tryz.prog 33 #[.agg (encPlace x).toArray] w fun e w' => e = .returned (.int .i64 (placeE x : Nat)) ∧ Below w.heap.size w w' := by
  have HE := Lib.hid (show placeE x = if nameB x.1 = false then 5 else if x.2.1 < 1 ∨ 20 < x.2.1 ∨ x.2.2 < 1 ∨ 40 < x.2.2 then 2 else 0 from rfl)
  obtain ⟨a1, a2, a3⟩ := x
  have HN1 := Lib.hid (fun W => isName_any a1 h1 W)
  simp only [encPlace] at HE ⊢
  have B1 := Lib.hid (below_one w (.cells #[.string ⟨a1.toArray⟩, .int .i64 a2, .int .i64 a3] 27))
  generalize nameB a1 = n1 at HN1 HE
  have hcase : (n1 = false) ∨ (n1 = true ∧ a2 < 1) ∨ (n1 = true ∧ ¬ a2 < 1 ∧ 20 < a2) ∨ (n1 = true ∧ ¬ a2 < 1 ∧ ¬ 20 < a2 ∧ a3 < 1) ∨ (n1 = true ∧ ¬ a2 < 1 ∧ ¬ 20 < a2 ∧ ¬ a3 < 1 ∧ 40 < a3) ∨ (n1 = true ∧ ¬ a2 < 1 ∧ ¬ 20 < a2 ∧ ¬ a3 < 1 ∧ ¬ 40 < a3) := by
    cases n1
    · exact .inl rfl
    · simp only [true_and, Bool.true_eq_false, false_or]
      omega
  go_enter Tryz.func33, Tryz.ntmps33
  go_wp2_with fail
  refine (HN1.out _).mono ?_
  rintro e w1 ⟨rfl, rfl⟩
  rcases hcase with rfl | ⟨rfl, q1⟩ | ⟨rfl, q1, q2⟩ | ⟨rfl, q1, q2, q3⟩ | ⟨rfl, q1, q2, q3, q4⟩ | ⟨rfl, q1, q2, q3, q4⟩
  · go_wp2
    go_ret
    rw [HE.out, if_pos (by simp)]
    exact ⟨rfl, B1.out⟩
  · go_wp2
    go_ret
    rw [HE.out, if_neg (by simp), if_pos (by omega)]
    exact ⟨rfl, B1.out⟩
  · go_wp2
    go_ret
    rw [HE.out, if_neg (by simp), if_pos (by omega)]
    exact ⟨rfl, B1.out⟩
  · go_wp2
    go_ret
    rw [HE.out, if_neg (by simp), if_pos (by omega)]
    exact ⟨rfl, B1.out⟩
  · go_wp2
    go_ret
    rw [HE.out, if_neg (by simp), if_pos (by omega)]
    exact ⟨rfl, B1.out⟩
  · go_wp2
    go_ret
    rw [HE.out, if_neg (by simp), if_neg (by omega)]
    exact ⟨rfl, B1.out⟩

set_option maxHeartbeats 800000 in
theorem refPlaceText_any (x : PlaceV) (h1 : x.1.length ≤ 1000000000) (w : World) :
    Calls Tryz.prog 39 #[.agg (encPlace x).toArray] w fun e w' => e = .returned (.string ⟨(placeText x).toArray⟩) ∧ Below w.heap.size w w' := by
  have HCK := Lib.hid (fun W => refPlaceE_any x h1 W)
  by_cases hE : placeE x = 0
  · have hx := placeE_zero.1 hE
    have HTX := Lib.hid (show placeText x = x.1 ++ [45] ++ Lib.itoa x.2.1 ++ [45] ++ Lib.itoa x.2.2 by unfold placeText; rw [if_pos hE])
    rw [hE] at HCK
    obtain ⟨a1, a2, a3⟩ := x
    simp only at hx
    obtain ⟨x1, x2, x3, x4, x5⟩ := hx
    obtain ⟨u, rfl⟩ : ∃ u : Nat, a2 = (u : Int) := ⟨a2.toNat, by omega⟩
    obtain ⟨v, rfl⟩ : ∃ v : Nat, a3 = (v : Int) := ⟨a3.toNat, by omega⟩
    simp only [encPlace] at HCK HTX ⊢
    have l1 := (nameB_len x1).2
    have n3 := Lib.itoa_length_le (u : Int) (by omega) (by omega)
    have n4 := Lib.itoa_length_le (v : Int) (by omega) (by omega)
    have HD1 := Lib.hid (fun W => decimal_nat u (by omega) W)
    have HD2 := Lib.hid (fun W => decimal_nat v (by omega) W)
    clear hE x1 h1
    go_enter Tryz.func39, Tryz.ntmps39
    go_wp2_with fail
    refine (HCK.out _).mono ?_
    rintro e w1 ⟨rfl, bb1⟩
    have hh := (bb1.block w.heap.size (by simp)).trans (heap_alloc_new w (.cells #[.string ⟨a1.toArray⟩, .int .i64 (u : Int), .int .i64 (v : Int)] 27))
    have lw := heap_two bb1
    have b1 := (below_one w (.cells #[.string ⟨a1.toArray⟩, .int .i64 (u : Int), .int .i64 (v : Int)] 27)).trans (bb1.mono (by simp))
    have c0 : w1.cell? ⟨w.heap.size, 0, none⟩ = some (.string ⟨a1.toArray⟩) := by rw [cell_of_row w1 _ _ _ _ _ hh]; rfl
    have c1 : w1.cell? ⟨w.heap.size, 1, none⟩ = some (.int .i64 (u : Int)) := by rw [cell_of_row w1 _ _ _ _ _ hh]; rfl
    have c2 : w1.cell? ⟨w.heap.size, 2, none⟩ = some (.int .i64 (v : Int)) := by rw [cell_of_row w1 _ _ _ _ _ hh]; rfl
    clear hh bb1 HCK
    go_wp2_with fail
    have hd : Below w.heap.size w w1.drew := b1.drew
    have s1 : (⟨a1.toArray⟩ : ByteArray).size = a1.length := by simp [ByteArray.size]
    have v1 : ¬ 9223372036854775807 < a1.length + 1 := by omega
    have v2 : ¬ 9223372036854775807 < a1.length + 1 + (Lib.itoa (u : Int)).length := by omega
    have v3 : ¬ 9223372036854775807 < a1.length + 1 + (Lib.itoa (u : Int)).length + 1 := by omega
    have v4 : ¬ 9223372036854775807 < a1.length + 1 + (Lib.itoa (u : Int)).length + 1 + (Lib.itoa (v : Int)).length := by omega
    go_region_held3 (fun w' => w'.cell? ⟨w.heap.size, 0, none⟩ = some (.string ⟨a1.toArray⟩) ∧ w'.cell? ⟨w.heap.size, 1, none⟩ = some (.int .i64 (u : Int)) ∧ w'.cell? ⟨w.heap.size, 2, none⟩ = some (.int .i64 (v : Int)) ∧ Below w.heap.size w w')
      (first | exact ⟨c0, c1, c2, hd⟩ | exact ⟨(q4.cell lw).trans c0, (q4.cell lw).trans c1, (q4.cell lw).trans c2, b4⟩ | exact ⟨(q3.cell lw).trans c0, (q3.cell lw).trans c1, (q3.cell lw).trans c2, b3⟩ | go_keep)
      (first
        | (go_at_call_of 37 (Value.int .i64 (u : Int)); refine (HD1.out _).mono ?_; rintro e w3 ⟨rfl, bb3⟩; have q3 : Below w1.heap.size w1 w3 := (Below.refl w1.heap.size w1).drew.trans bb3; have b3 := b1.trans (q3.mono b1.size))
        | (go_at_call_of 37 (Value.int .i64 (v : Int)); refine (HD2.out _).mono ?_; rintro e w4 ⟨rfl, bb4⟩; have q4 := q3.trans (bb4.mono q3.size); have b4 := b1.trans (q4.mono b1.size)))
    all_goals
      have B4 := Lib.hid b4
      clear b4 q4 q3 b3 bb3 bb4 hd b1 c0 c1 c2
      go_wp2_with fail
      go_ret
      refine ⟨?_, B4.out⟩
      rw [HTX.out]
      show Ending.returned (.string ((⟨a1.toArray⟩ : ByteArray) ++ (⟨#[45]⟩ : ByteArray) ++ (⟨(Lib.itoa (u : Int)).toArray⟩ : ByteArray) ++ (⟨#[45]⟩ : ByteArray) ++ (⟨(Lib.itoa (v : Int)).toArray⟩ : ByteArray))) = _
      rw [show (⟨#[45]⟩ : ByteArray) = ⟨[45].toArray⟩ from rfl, mk_app, mk_app, mk_app, mk_app]
  · have HTX := Lib.hid (show placeText x = [] by unfold placeText; rw [if_neg hE])
    have hpos : 0 < placeE x := Nat.pos_of_ne_zero hE
    generalize placeE x = k at HCK hpos
    have hpi : 0 < (k : Int) := by omega
    obtain ⟨a1, a2, a3⟩ := x
    simp only [encPlace] at HCK ⊢
    clear hE
    go_enter Tryz.func39, Tryz.ntmps39
    go_wp2_with fail
    refine (HCK.out _).mono ?_
    rintro e w1 ⟨rfl, bb1⟩
    have B1 := Lib.hid ((below_one w (.cells #[.string ⟨a1.toArray⟩, .int .i64 a2, .int .i64 a3] 27)).trans (bb1.mono (by simp)))
    clear bb1
    go_wp2_with fail
    go_ret
    rw [HTX.out]
    exact ⟨rfl, B1.out⟩

theorem ahead_zone {x y : PlaceV} (h : ¬ x.1 = y.1) : ltOf cfPlace x y = Op.bytesLess x.1 y.1 := by
  rw [less_cmp]
  unfold ltOf cfPlace orL
  rw [if_neg (fun e => h ((cmpB_eq _ _).1 e))]
theorem ahead_row {x y : PlaceV} (h : x.1 = y.1) (h2 : ¬ x.2.1 = y.2.1) : ltOf cfPlace x y = decide (x.2.1 < y.2.1) := by
  unfold ltOf cfPlace orL orL
  rw [if_pos ((cmpB_eq _ _).2 h), if_neg (by omega)]
  exact decide_eq_decide.2 (by omega)
theorem ahead_bay {x y : PlaceV} (h : x.1 = y.1) (h2 : x.2.1 = y.2.1) : ltOf cfPlace x y = if x.2.1 % 2 = 0 then decide (y.2.2 < x.2.2) else decide (x.2.2 < y.2.2) := by
  unfold ltOf cfPlace orL orL orL orL
  rw [if_pos ((cmpB_eq _ _).2 h), if_pos (by omega)]
  by_cases h3 : x.2.1 % 2 = 0
  · simp only [if_pos h3]
    exact decide_eq_decide.2 (by split <;> omega)
  · simp only [if_neg h3]
    exact decide_eq_decide.2 (by split <;> omega)

end Go.Proofs.YtpifbahafnaejaaGreatDoor
