/- A stock's lines: the document's text, order. A stock of the document: Find. A result that lies in memory, beside one that doesn't; a struct stored cell by cell. -/
import Derived.Laws.ResultCell
import Derived.Laws.Rows
import Derived.Test.YtmhkcmoepopnoaaGreatDoorM01
import Derived.Test.YtmhkcmoepopnoaaGreatDoorM05
import Derived.Test.YtmhkcmoepopnoaaGreatDoorM09
import Derived.Test.YtmhkcmoepopnoaaGreatDoorM10
import Derived.Test.YtmhkcmoepopnoaaGreatDoorM11
namespace Go.Proofs.YtmhkcmoepopnoaaGreatDoor
open Go.RowKit Go.Sort Go.Proofs

set_option maxHeartbeats 800000 in
theorem refLineText_any (x : LineV) (w : World) (hz : x.1.1.length ≤ 1000000000) (hl : x.2.1.length ≤ 1000000000) (h0 : 0 ≤ x.2.2) (h1 : x.2.2 ≤ 9223372036854775807) :
    Calls Tryz.prog 84 #[.agg (encLine x).toArray] w fun e w' => e = .returned (.string ⟨(lineText x).toArray⟩) ∧ Below w.heap.size w w' := by
  have HP := Lib.hid (fun W => refPlaceText_any x.1 hz W)
  have n1 := placeText_len x.1
  have HTX := Lib.hid (show lineText x = placeText x.1 ++ [32] ++ x.2.1 ++ [32] ++ Lib.itoa x.2.2 from rfl)
  generalize lineText x = T at HTX ⊢
  generalize placeText x.1 = t at HP n1 HTX
  obtain ⟨⟨a1, a2, a3⟩, a4, a5⟩ := x
  simp only [encPlace, encLine] at HP HTX hl h0 h1 ⊢
  obtain ⟨u, rfl⟩ : ∃ u : Nat, a5 = (u : Int) := ⟨a5.toNat, by omega⟩
  have HI := Lib.hid (fun W => decimal_nat u (by omega) W)
  have n3 := Lib.itoa_length_le (u : Int) (by omega) (by omega)
  generalize Lib.itoa (u : Int) = t5 at HI n3 HTX
  clear h0 h1
  go_enter Tryz.func84, Tryz.ntmps84
  go_wp2_with fail
  have b0 : Below w.heap.size w (w.alloc (.cells #[.string ⟨a1.toArray⟩, .int .i64 a2, .int .i64 a3, .string ⟨a4.toArray⟩, .int .i64 (u : Int)] 84)) := (Below.refl _ _).alloc (Nat.le_refl _) _
  obtain ⟨W1, hW1⟩ : ∃ W1, W1 = w.alloc (.cells #[.string ⟨a1.toArray⟩, .int .i64 a2, .int .i64 a3, .string ⟨a4.toArray⟩, .int .i64 (u : Int)] 84) := ⟨_, rfl⟩
  have c0 : W1.cell? ⟨w.heap.size, 0, none⟩ = some (.string ⟨a1.toArray⟩) := by rw [hW1]; go_simp
  have c1 : W1.cell? ⟨w.heap.size, 1, none⟩ = some (.int .i64 a2) := by rw [hW1]; go_simp
  have c2 : W1.cell? ⟨w.heap.size, 2, none⟩ = some (.int .i64 a3) := by rw [hW1]; go_simp
  have c3 : W1.cell? ⟨w.heap.size, 3, none⟩ = some (.string ⟨a4.toArray⟩) := by rw [hW1]; go_simp
  have c4 : W1.cell? ⟨w.heap.size, 4, none⟩ = some (.int .i64 (u : Int)) := by rw [hW1]; go_simp
  have lw : w.heap.size < W1.heap.size := by rw [hW1]; simp
  rw [← hW1] at b0 ⊢
  clear hW1
  have hd : Below w.heap.size w W1.drew := b0.drew
  have qd : Below W1.heap.size W1 W1.drew := (Below.refl _ _).drew
  have v1 : ¬ 9223372036854775807 < t.length + 1 := by omega
  have v2 : ¬ 9223372036854775807 < t.length + 1 + a4.length := by omega
  have v3 : ¬ 9223372036854775807 < t.length + 1 + a4.length + 1 := by omega
  have v4 : ¬ 9223372036854775807 < t.length + 1 + a4.length + 1 + t5.length := by omega
  go_region_held3 (fun w' => w'.cell? ⟨w.heap.size, 0, none⟩ = some (.string ⟨a1.toArray⟩) ∧ w'.cell? ⟨w.heap.size, 1, none⟩ = some (.int .i64 a2) ∧ w'.cell? ⟨w.heap.size, 2, none⟩ = some (.int .i64 a3) ∧ w'.cell? ⟨w.heap.size, 3, none⟩ = some (.string ⟨a4.toArray⟩) ∧ w'.cell? ⟨w.heap.size, 4, none⟩ = some (.int .i64 (u : Int)) ∧ Below w.heap.size w w')
    (first | exact ⟨c0, c1, c2, c3, c4, hd⟩ | exact ⟨(q4.cell lw).trans c0, (q4.cell lw).trans c1, (q4.cell lw).trans c2, (q4.cell lw).trans c3, (q4.cell lw).trans c4, b4⟩ | exact ⟨(q3.cell lw).trans c0, (q3.cell lw).trans c1, (q3.cell lw).trans c2, (q3.cell lw).trans c3, (q3.cell lw).trans c4, b3⟩ | go_keep)
    (first
      | (go_at_call 68; refine (HP.out _).mono ?_; rintro e w3 ⟨rfl, bb3⟩; have q3 : Below W1.heap.size W1 w3 := qd.trans bb3; have b3 := b0.trans (q3.mono b0.size))
      | (go_at_call 66; refine (HI.out _).mono ?_; rintro e w4 ⟨rfl, bb4⟩; have q4 := q3.trans (bb4.mono q3.size); have b4 := b0.trans (q4.mono b0.size)))
  all_goals
    have B4 := Lib.hid b4
    clear b4 q4 q3 b3 bb3 bb4 hd b0 qd c0 c1 c2 c3 c4 HP HI
    go_wp2_with fail
    go_ret
    refine ⟨?_, B4.out⟩
    rw [HTX.out]
    show Ending.returned (.string ((⟨t.toArray⟩ : ByteArray) ++ (⟨#[32]⟩ : ByteArray) ++ (⟨a4.toArray⟩ : ByteArray) ++ (⟨#[32]⟩ : ByteArray) ++ (⟨t5.toArray⟩ : ByteArray))) = _
    rw [show (⟨#[32]⟩ : ByteArray) = ⟨[32].toArray⟩ from rfl, mk_app, mk_app, mk_app, mk_app]

theorem ahead_same {x y : LineV} (h : x.1 = y.1) : ltOf cfLine x y = Op.bytesLess x.2.1 y.2.1 := by
  rw [less_cmp]
  unfold ltOf cfLine orL orL orL
  rw [if_pos ((cfPlace_zero _ _).2 h)]
  split
  · rename_i h2; rw [h2]
  · rfl
theorem ahead_other {x y : LineV} (h : ¬ x.1 = y.1) : ltOf cfLine x y = ltOf cfPlace x.1 y.1 := by
  unfold ltOf cfLine orL
  rw [if_neg (fun e => h ((cfPlace_zero _ _).1 e))]
set_option maxHeartbeats 800000 in
theorem refLineAhead_any (x y : LineV) (hx : InP x.1) (W : World) :
    Calls Tryz.prog 77 #[.agg (encLine x).toArray, .agg (encLine y).toArray] W fun e w' => e = .returned (.bool (ltOf cfLine x y)) ∧ Below W.heap.size W w' := by
  have HS := Lib.hid (fun h => ahead_same (x := x) (y := y) h)
  have HO := Lib.hid (fun h => ahead_other (x := x) (y := y) h)
  have HA := Lib.hid (fun W => refAhead_any x.1 y.1 hx W)
  have HQ := Lib.hid (fun W => neqPlace x.1 y.1 W)
  have B1 := Lib.hid (below_two W (.cells (encLine x).toArray 84) (.cells (encLine y).toArray 84))
  clear hx
  by_cases h1 : x.1 = y.1
  · have HV := Lib.hid (HS.out h1)
    rw [decide_eq_true h1] at HQ
    obtain ⟨⟨a1, a2, a3⟩, a4, a5⟩ := x
    obtain ⟨⟨b1, b2, b3⟩, b4, b5⟩ := y
    simp only [encLine, encPlace] at HV HQ B1 ⊢
    have hq := HQ.out
    clear h1 HS HO HA HQ
    go_enter Tryz.func77, Tryz.ntmps77
    go_wp2
    go_ret
    refine ⟨?_, B1.out⟩
    rw [HV.out]; rfl
  · have HV := Lib.hid (HO.out h1)
    rw [decide_eq_false h1] at HQ
    obtain ⟨⟨a1, a2, a3⟩, a4, a5⟩ := x
    obtain ⟨⟨b1, b2, b3⟩, b4, b5⟩ := y
    simp only [encLine, encPlace] at HV HQ HA B1 ⊢
    have hq := HQ.out
    clear h1 HS HO HQ
    go_enter Tryz.func77, Tryz.ntmps77
    go_wp2_with fail
    refine (HA.out _).mono ?_
    rintro e w1 ⟨rfl, b1⟩
    have B2 := Lib.hid (B1.out.trans (b1.mono B1.out.size))
    clear b1
    go_wp2_with fail
    go_ret
    refine ⟨?_, B2.out⟩
    rw [HV.out]; rfl
end Go.Proofs.YtmhkcmoepopnoaaGreatDoor
namespace Go.Proofs.YtmhkcmoepopnoaaGreatDoor
open Go.RowKit Go.Sort Go.Proofs

/-- A line is of a place and a lot. -/
def isAt (p : PlaceV) (lot : List UInt8) (x : LineV) : Bool := decide (x.1 = p ∧ x.2.1 = lot)
def fndI (l : List LineV) (p : PlaceV) (lot : List UInt8) : Int := match l.findIdx? (isAt p lot) with | some i => (i : Int) | none => -1

set_option maxHeartbeats 1600000 in
set_option maxRecDepth 100000 in
theorem refFind_any (A : Option Addr) (cap : Nat) (l : List LineV) (p : PlaceV) (lot : List UInt8) (w : World) (hrow : RowAt encLine 5 w A l) (hl : l.length ≤ 100000) :
    Calls Tryz.prog 36 #[.agg #[.slice A l.length cap], .agg (encPlace p).toArray, .string ⟨lot.toArray⟩] w fun e w' => e = .returned (.int .i64 (fndI l p lot)) ∧ Below w.heap.size w w' := by
  obtain ⟨N, hN⟩ : ∃ N, N = l.length := ⟨_, rfl⟩
  have HN := Lib.hid hN
  have HROW := Lib.hid hrow
  have HB0 := Lib.hid (below_two w (.cells #[.slice A l.length cap] 30) (.cells (encPlace p).toArray 24))
  have HQ := Lib.hid (fun x : LineV => fun W => eqPlace x.1 p W)
  rw [← hN] at hl HB0 ⊢
  have HF : Hid (∀ k, (∀ j (h : j < l.length), j < k → isAt p lot l[j] = false) → (∀ h : k < l.length, isAt p lot l[k] = true) → fndI l p lot = if k < l.length then (k : Int) else -1) := fun k h1 h2 => by
    unfold fndI
    by_cases hk : k < l.length
    · have : l.findIdx? (isAt p lot) = some k := List.findIdx?_eq_some_iff_getElem.2 ⟨hk, h2 hk, fun j hj => by simpa using h1 j (by omega) hj⟩
      rw [this, if_pos hk]
    · have : l.findIdx? (isAt p lot) = none := by
        rw [List.findIdx?_eq_none_iff]
        intro x hx
        obtain ⟨j, hj, rfl⟩ := List.mem_iff_getElem.1 hx
        exact h1 j hj (by omega)
      rw [this, if_neg hk]
  generalize fndI l p lot = R at HF ⊢
  clear hN hrow
  obtain ⟨p1, p2, p3⟩ := p
  simp only [encPlace] at HB0 HQ ⊢
  have hc0 := cell_of_row _ _ 0 _ _ _ (((below_one (w.alloc (.cells #[.slice A N cap] 30)) (.cells #[.string ⟨p1.toArray⟩, .int .i64 p2, .int .i64 p3] 24)).block w.heap.size (by simp)).trans (heap_alloc_new w (.cells #[.slice A N cap] 30)))
  have hc1 := fun j => cell_of_row _ _ j _ _ _ (heap_new2 w (.cells #[.slice A N cap] 30) (.cells #[.string ⟨p1.toArray⟩, .int .i64 p2, .int .i64 p3] 24))
  have HC0 := Lib.hid hc0
  have HC1 := Lib.hid hc1
  clear hc0 hc1
  go_enter Tryz.func36, Tryz.ntmps36
  go_wp2_with fail
  obtain ⟨W0, hW0⟩ : ∃ W0, W0 = (w.alloc (.cells #[.slice A N cap] 30)).alloc (.cells #[.string ⟨p1.toArray⟩, .int .i64 p2, .int .i64 p3] 24) := ⟨_, rfl⟩
  rw [← hW0] at HB0 HC0 HC1 ⊢
  have hs0 : W0.heap.size = w.heap.size + 2 := by rw [hW0]; simp
  clear hW0
  go_loopw [7] (fun n wr => ∃ k : Nat, k ≤ N ∧ n = .int .i64 k ∧ Hid (∀ j (h : j < l.length), j < k → isAt (p1, p2, p3) lot l[j] = false) ∧ Below W0.heap.size W0 wr) (fun n _ => N - (intOf n).toNat)
  case atStart => exact ⟨0, by omega, rfl, fun j _ h => absurd h (Nat.not_lt_zero _), Below.refl _ _⟩
  case round =>
    obtain ⟨k, hk, rfl, HNO, hb⟩ := hrel
    have HB := Lib.hid hb
    have c0 : wr.cell? ⟨w.heap.size, 0, none⟩ = some (.slice A N cap) := (hb.cell (p := ⟨_, 0, none⟩) (by show w.heap.size < _; omega)).trans HC0.out
    have d0 : wr.cell? ⟨w.heap.size + 1, 0, none⟩ = some (.string ⟨p1.toArray⟩) := (hb.cell (p := ⟨_, 0, none⟩) (by show w.heap.size + 1 < _; omega)).trans (HC1.out 0)
    have d1 : wr.cell? ⟨w.heap.size + 1, 1, none⟩ = some (.int .i64 p2) := (hb.cell (p := ⟨_, 1, none⟩) (by show w.heap.size + 1 < _; omega)).trans (HC1.out 1)
    have d2 : wr.cell? ⟨w.heap.size + 1, 2, none⟩ = some (.int .i64 p3) := (hb.cell (p := ⟨_, 2, none⟩) (by show w.heap.size + 1 < _; omega)).trans (HC1.out 2)
    clear hb
    by_cases hkN : k < N
    · have hkx : k < l.length := by rw [← HN.out]; exact hkN
      obtain ⟨g, o, rfl, lg, cg⟩ := HROW.out.resolve_left (fun h => by rw [h] at hkx; simp at hkx)
      obtain ⟨x, hx⟩ : ∃ x, x = l[k] := ⟨_, rfl⟩
      have r5 := range5L (x := x) (w := wr) (b := g) (o := o + k * 5) (fun cc v hv => by
        have h1 := cg k hkx cc v (by rw [← hx]; exact hv)
        have h2 := (HB0.out.cell (p := ⟨g, o + k * 5 + cc, none⟩) lg).trans h1
        exact (HB.out.cell (p := ⟨g, o + k * 5 + cc, none⟩) (lt_of_cell h2)).trans h2)
      have HX := Lib.hid hx
      have HI := Lib.hid (show isAt (p1, p2, p3) lot x = decide (x.1 = (p1, p2, p3) ∧ x.2.1 = lot) from rfl)
      have hq := HQ.out x
      clear hx cg HQ
      by_cases h1 : x.1 = (p1, p2, p3)
      · rw [decide_eq_true h1] at hq
        by_cases h2 : x.2.1 = lot
        · have HT : Hid (R = (k : Int)) := by
            have := HF.out k HNO.out (fun h => by rw [← HX.out, HI.out, decide_eq_true ⟨h1, h2⟩])
            rw [if_pos hkx] at this
            exact this
          obtain ⟨⟨a1, a2, a3⟩, a4, a5⟩ := x
          obtain ⟨e0, e1, e2, e3, e4⟩ := r5
          simp only at e0 e1 e2 e3 e4 hq h2
          have hb4 : (a4 == lot) = true := by simpa using h2
          clear h1 h2 HF
          go_wp2_with fail
          go_region
          all_goals
            go_wp2
            go_ret
            rw [HT.out]
            exact ⟨rfl, HB0.out.trans ((HB.out.drew).mono (by omega))⟩
        · have HNX : Hid (∀ j (h : j < l.length), j < k + 1 → isAt (p1, p2, p3) lot l[j] = false) := fun j hj hjk => by
            rcases Nat.lt_succ_iff_lt_or_eq.1 hjk with h | rfl
            · exact HNO.out j hj h
            · rw [← HX.out, HI.out, decide_eq_false (fun h => h2 h.2)]
          obtain ⟨⟨a1, a2, a3⟩, a4, a5⟩ := x
          obtain ⟨e0, e1, e2, e3, e4⟩ := r5
          simp only at e0 e1 e2 e3 e4 hq h2
          have hb4 : (a4 == lot) = false := by simpa using h2
          clear h1 h2 HF
          go_wp2_with fail
          go_region
          all_goals
            go_wp2
            go_roundw
            case rel => exact ⟨k + 1, by omega, by go_num, HNX.out, HB.out.drew⟩
            case measure => simp [intOf]; omega
      · have HNX : Hid (∀ j (h : j < l.length), j < k + 1 → isAt (p1, p2, p3) lot l[j] = false) := fun j hj hjk => by
          rcases Nat.lt_succ_iff_lt_or_eq.1 hjk with h | rfl
          · exact HNO.out j hj h
          · rw [← HX.out, HI.out, decide_eq_false (fun h => h1 h.1)]
        rw [decide_eq_false h1] at hq
        obtain ⟨⟨a1, a2, a3⟩, a4, a5⟩ := x
        obtain ⟨e0, e1, e2, e3, e4⟩ := r5
        simp only at e0 e1 e2 e3 e4 hq
        clear h1 HF
        go_wp2_with fail
        go_region
        all_goals
          go_wp2
          go_roundw
          case rel => exact ⟨k + 1, by omega, by go_num, HNX.out, HB.out.drew⟩
          case measure => simp [intOf]; omega
    · obtain rfl : k = N := by omega
      have HT : Hid (R = -1) := by
        have := HF.out k HNO.out (fun h => by rw [← HN.out] at h; omega)
        rw [if_neg (by rw [← HN.out]; omega)] at this
        exact this
      go_wp2_with fail
      go_ret
      rw [HT.out]
      exact ⟨rfl, HB0.out.trans (HB.out.mono (by omega))⟩
end Go.Proofs.YtmhkcmoepopnoaaGreatDoor
namespace Go.Proofs.YtmhkcmoepopnoaaGreatDoor
open Go.RowKit

theorem results_cell_row2 {P : Program} {fn : Func} {p u : Tmp} {ty : TypeId} (h : fn.results = #[.cell p ty, .tmp u]) (tmps : Array Value) (w : World) (g : Nat) (t : TypeId) (cs : Array Value) (fr : Nat × Nat) (d : TypeDesc)
    (hp : tmps.getD p undef = .pointer (some ⟨g, 0, none⟩)) (hg : w.heap[g]? = some (.cells cs t fr))
    (hu : P.underlying ty = some d) (hd : (match d with | .struct _ | .array _ _ => true | _ => false) = true) (hi : (P.info? ty).map (·.size) = some cs.size) :
    (results fn tmps).run P w = .ok (.tuple #[.agg cs, tmps.getD u undef]) w := by
  have hp' : tmps[p]?.getD undef = .pointer (some ⟨g, 0, none⟩) := by simpa using hp
  rw [results_cell_tmp h]
  simp [hp', asAddr, run_loadVar_row w g t ty cs fr d hg hu hd hi, Result.andThen]

theorem row_lt {w : World} {b : Nat} {o : Obj} (h : w.heap[b]? = some o) : b < w.heap.size := by
  rcases Nat.lt_or_ge b w.heap.size with hl | hl
  · exact hl
  · rw [Array.getElem?_eq_none hl] at h; cases h
/-- Cells stored one behind the other. -/
def puts (w : World) (g i : Nat) : List Value → World
  | [] => w
  | v :: r => puts (w.setCell ⟨g, i, none⟩ v) g (i + 1) r
theorem puts_rowAt {g : Nat} {t : TypeId} (vs : List Value) : ∀ (w : World) (pre rest : List Value), rest.length = vs.length → w.heap[g]? = some (.cells (pre ++ rest).toArray t (0, 0)) → (puts w g pre.length vs).heap[g]? = some (.cells (pre ++ vs).toArray t (0, 0)) := by
  induction vs with
  | nil => intro w pre rest hl h; rw [List.eq_nil_of_length_eq_zero hl] at h; exact h
  | cons v r ih =>
    intro w pre rest hl h
    match rest, hl with
    | x :: q, hl =>
      have h2 := heap_setCell_same w g pre.length _ _ v h
      have e : (pre ++ x :: q).toArray.setIfInBounds pre.length v = (pre ++ v :: q).toArray := by
        apply Array.ext'
        simp [List.set_append_right]
      rw [e] at h2
      have h3 := ih (w.setCell ⟨g, pre.length, none⟩ v) (pre ++ [v]) q (by simpa using hl) (by simpa using h2)
      rw [List.length_append, List.length_singleton] at h3
      simpa [puts] using h3
theorem puts_row {w : World} {g : Nat} {t : TypeId} {cs : Array Value} (vs : List Value) (h : w.heap[g]? = some (.cells cs t (0, 0))) (hl : cs.size = vs.length) : (puts w g 0 vs).heap[g]? = some (.cells vs.toArray t (0, 0)) := by
  have := puts_rowAt (g := g) (t := t) vs w [] cs.toList (by simpa using hl) (by simpa using h)
  simpa using this
theorem puts_below {B : Nat} {w0 : World} {g : Nat} (hg : B ≤ g) (vs : List Value) : ∀ (w : World) (i : Nat), Below B w0 w → Below B w0 (puts w g i vs) := by
  induction vs with
  | nil => intro w i h; exact h
  | cons v r ih => intro w i h; exact ih _ _ (h.setCell (p := ⟨g, i, none⟩) hg v)
end Go.Proofs.YtmhkcmoepopnoaaGreatDoor
