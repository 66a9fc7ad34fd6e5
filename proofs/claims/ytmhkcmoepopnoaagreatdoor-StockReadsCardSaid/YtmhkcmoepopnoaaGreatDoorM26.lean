/- A stock read, plainly: pieces of a text, line by line. Equal lines. A stock has what its model has: AsStock answers 1. -/
import Derived.Test.YtmhkcmoepopnoaaGreatDoorM08
import Derived.Test.YtmhkcmoepopnoaaGreatDoorM09
import Derived.Test.YtmhkcmoepopnoaaGreatDoorM20
import Derived.Test.YtmhkcmoepopnoaaGreatDoorM21
import Derived.Test.YtmhkcmoepopnoaaGreatDoorM22
import Derived.Test.YtmhkcmoepopnoaaGreatDoorM25
namespace Go.Proofs.YtmhkcmoepopnoaaGreatDoor
open Go.RowKit Go.Sort Go.Proofs

theorem placeWords_ok {ws : List (List UInt8)} (h : (placeWords ws).2 = 0) : placeE (placeWords ws).1 = 0 := by
  unfold placeWords at *
  split at h
  · split at h
    · split at h
      · rename_i h0; rw [if_pos h0]; exact h0
      · rename_i h0; exact absurd h h0
    · cases h
  · cases h
theorem lineWords_ok {ws : List (List UInt8)} (h : (lineWords ws).2 = 0) : placeE (lineWords ws).1.1 = 0 ∧ nameB (lineWords ws).1.2.1 = true ∧ wiB (lineWords ws).1.2.2 1 1099511627776 = true := by
  match ws with
  | [a, b, c] =>
    cases hq : numQ c 13 with
    | none => rw [lineWords_none hq] at h; cases h
    | some n =>
      rw [lineWords_some hq] at h ⊢
      by_cases h1 : (placeWords (splitL 45 a)).2 ≠ 0
      · rw [if_pos h1] at h; exact absurd h h1
      rw [if_neg h1] at h ⊢
      by_cases h2 : nameB b = false
      · rw [if_pos h2] at h; cases h
      rw [if_neg h2] at h ⊢
      by_cases h3 : wiB (n : Int) 1 1099511627776 = false
      · rw [if_pos h3] at h; cases h
      rw [if_neg h3]
      exact ⟨placeWords_ok (by omega), by simpa using h2, by simpa using h3⟩
  | [] => rw [lineWords_len (by simp)] at h; cases h
  | [_] => rw [lineWords_len (by simp)] at h; cases h
  | [_, _] => rw [lineWords_len (by simp)] at h; cases h
  | _ :: _ :: _ :: _ :: _ => rw [lineWords_len (by simp)] at h; cases h

/-- Lines as a map, in the order in which they came. -/
def toM (l : List LineV) : StkV := l.map fun x => ((x.1, x.2.1), x.2.2.toNat)
theorem toM_snoc (l : List LineV) (x : LineV) : toM (l ++ [x]) = toM l ++ [((x.1, x.2.1), x.2.2.toNat)] := by simp [toM]
/-- What reading has done so far. -/
structure RdI (l : List LineV) : Prop where
  inv : StkI (toM l)
  up : l.Pairwise fun x y => ltOf cfLine x y = true
  pos : ∀ x ∈ l, 0 ≤ x.2.2
theorem RdI.nil : RdI [] := ⟨StkI.nil, List.Pairwise.nil, by simp⟩
theorem back_toM {l : List LineV} (h : ∀ x ∈ l, 0 ≤ x.2.2) : (toM l).map lineOf = l := by
  induction l with
  | nil => rfl
  | cons x r ih =>
    have e : toM (x :: r) = ((x.1, x.2.1), x.2.2.toNat) :: toM r := rfl
    rw [e, List.map_cons, ih fun y hy => h y (List.mem_cons_of_mem _ hy)]
    have := h x List.mem_cons_self
    obtain ⟨p, q, n⟩ := x
    simp only [lineOf, List.cons.injEq, Prod.mk.injEq, true_and, and_true] at *
    omega
theorem RdI.lines {l : List LineV} (h : RdI l) : linesM (toM l) = l := by
  refine (lines_of h.inv.nodup (d := l) ?_ ?_).symm
  · rw [back_toM h.pos]
  · exact h.up.imp fun hxy => ltL_asym hxy
theorem RdI.len {l : List LineV} (h : RdI l) : l.length ≤ 200 := by
  have := h.inv.well.few
  simpa [toM] using this
theorem lt_irr {x y : LineV} (h : ltOf cfLine x y = true) : ¬ (x.1 = y.1 ∧ x.2.1 = y.2.1) := fun e => by
  have h1 := (cfLine_zero x y).2 e
  unfold ltOf at h
  rw [h1] at h
  exact absurd h (by decide)

/-- What a line of a text answers, behind these. -/
def rdE (d : List LineV) (t : List UInt8) : Nat :=
  if (lineWords (splitL 32 t)).2 ≠ 0 then (lineWords (splitL 32 t)).2
  else if (match d.getLast? with | some z => !ltOf cfLine z (lineWords (splitL 32 t)).1 | none => false) = true then 10
  else putE (toM d) (lineWords (splitL 32 t)).1.1 (lineWords (splitL 32 t)).1.2.1 (lineWords (splitL 32 t)).1.2.2
theorem rdE_le (d : List LineV) (t : List UInt8) : rdE d t ≤ 12 := by
  have h1 := lineWords_le (splitL 32 t)
  have h2 : ∀ m pl lot n, putE m pl lot n ≤ 12 := fun m pl lot n => by
    have h3 : placeE pl ≤ 12 := Nat.le_trans (placeE_le pl) (by omega)
    unfold putE
    repeat' split
    all_goals omega
  unfold rdE
  repeat' split
  all_goals first | exact h1 | exact h2 _ _ _ _ | omega
theorem getLast_lt {d : List LineV} (hp : d.Pairwise fun x y => ltOf cfLine x y = true) {z x : LineV} (hz : d.getLast? = some z) (hx : ltOf cfLine z x = true) : ∀ y ∈ d, ltOf cfLine y x = true := fun y hy => by
  obtain ⟨r, rfl⟩ := List.getLast?_eq_some_iff.1 hz
  rcases List.mem_append.1 hy with h | h
  · exact likeLine.swo.trans _ _ _ ((List.pairwise_append.1 hp).2.2 y h z (by simp)) hx
  · rw [List.mem_singleton.1 h]; exact hx
theorem RdI.next {d : List LineV} (h : RdI d) {x : LineV} (hx : ∀ z, d.getLast? = some z → ltOf cfLine z x = true) (hp : putE (toM d) x.1 x.2.1 x.2.2 = 0) : RdI (d ++ [x]) ∧ toM (d ++ [x]) = putM (toM d) x.1 x.2.1 x.2.2 := by
  have hall : ∀ y ∈ d, ltOf cfLine y x = true := by
    cases hl : d.getLast? with
    | none => rw [List.getLast?_eq_none_iff.1 hl]; simp
    | some z => exact getLast_lt h.up hl (hx z hl)
  have hnew : ∀ p ∈ toM d, p.1 ≠ (x.1, x.2.1) := fun p hp e => by
    obtain ⟨y, hy, rfl⟩ := List.mem_map.1 hp
    simp only [Prod.mk.injEq] at e
    exact lt_irr (hall y hy) e
  obtain ⟨-, -, h3, -⟩ := putE_zero hp
  have he : toM (d ++ [x]) = putM (toM d) x.1 x.2.1 x.2.2 := by
    unfold putM
    rw [if_pos hp, mput_new _ hnew, toM_snoc]
    have : atM (toM d) (x.1, x.2.1) = 0 := by unfold atM; rw [mget_none hnew]; rfl
    rw [this, Nat.zero_add]
  refine ⟨⟨by rw [he]; exact h.inv.put _ _ _, ?_, fun y hy => ?_⟩, he⟩
  · rw [List.pairwise_append]
    exact ⟨h.up, by simp, fun y hy z hz => by rw [List.mem_singleton.1 hz]; exact hall y hy⟩
  · rcases List.mem_append.1 hy with hy | hy
    · exact h.pos y hy
    · rw [List.mem_singleton.1 hy]; omega
theorem rdE_zero {d : List LineV} {t : List UInt8} (h : rdE d t = 0) : (lineWords (splitL 32 t)).2 = 0 ∧ (∀ z, d.getLast? = some z → ltOf cfLine z (lineWords (splitL 32 t)).1 = true) ∧ putE (toM d) (lineWords (splitL 32 t)).1.1 (lineWords (splitL 32 t)).1.2.1 (lineWords (splitL 32 t)).1.2.2 = 0 := by
  unfold rdE at h
  by_cases h1 : (lineWords (splitL 32 t)).2 ≠ 0
  · rw [if_pos h1] at h; exact absurd h h1
  rw [if_neg h1] at h
  refine ⟨by omega, ?_⟩
  cases hl : d.getLast? with
  | none =>
    rw [hl] at h
    exact ⟨(fun z hz => by cases hz), by simpa using h⟩
  | some z =>
    rw [hl] at h
    cases h2 : ltOf cfLine z (lineWords (splitL 32 t)).1 with
    | false => simp [h2] at h
    | true => exact ⟨(fun y hy => by cases hy; exact h2), by simpa [h2] using h⟩

/-- The rest of the pieces read: an error and where, or the lines. -/
def rdGo : List (List UInt8) → Nat → List LineV → (Nat × Nat) ⊕ List LineV
  | [], _, d => .inr d
  | [t], i, d => if t = [] then .inr d else .inl (1, i)
  | t :: u :: r, i, d => if rdE d t = 0 then rdGo (u :: r) (i + 1) (d ++ [(lineWords (splitL 32 t)).1]) else .inl (rdE d t, i)
theorem rdGo_ok {t : List UInt8} {q : List (List UInt8)} {i : Nat} {d : List LineV} (hq : q ≠ []) (h : rdE d t = 0) : rdGo (t :: q) i d = rdGo q (i + 1) (d ++ [(lineWords (splitL 32 t)).1]) := by
  cases q with
  | nil => exact absurd rfl hq
  | cons u r => rw [rdGo, if_pos h]
theorem rdGo_bad {t : List UInt8} {q : List (List UInt8)} {i : Nat} {d : List LineV} (hq : q ≠ []) (h : rdE d t ≠ 0) : rdGo (t :: q) i d = .inl (rdE d t, i) := by
  cases q with
  | nil => exact absurd rfl hq
  | cons u r => rw [rdGo, if_neg h]
theorem rdGo_inv : ∀ (ps : List (List UInt8)) (i : Nat) (d l : List LineV), RdI d → rdGo ps i d = .inr l → RdI l
  | [], _, d, l, h, e => by rw [rdGo] at e; injection e with e; rw [← e]; exact h
  | [t], i, d, l, h, e => by
    rw [rdGo] at e
    split at e
    · injection e with e; rw [← e]; exact h
    · cases e
  | t :: u :: r, i, d, l, h, e => by
    rw [rdGo] at e
    split at e
    · rename_i h0
      obtain ⟨h1, h2, h3⟩ := rdE_zero h0
      exact rdGo_inv (u :: r) _ _ l (h.next h2 h3).1 e
    · cases e
theorem rdGo_code : ∀ (ps : List (List UInt8)) (i : Nat) (d : List LineV) (c k : Nat), rdGo ps i d = .inl (c, k) → 1 ≤ c ∧ c ≤ 12 ∧ k < i + ps.length
  | [], _, d, c, k, e => by rw [rdGo] at e; cases e
  | [t], i, d, c, k, e => by
    rw [rdGo] at e
    split at e
    · cases e
    · injection e with e; cases e; simp
  | t :: u :: r, i, d, c, k, e => by
    rw [rdGo] at e
    split at e
    · have := rdGo_code (u :: r) _ _ c k e
      simp only [List.length_cons] at *
      omega
    · rename_i h0
      injection e with e
      cases e
      have := rdE_le d t
      simp only [List.length_cons]
      omega
end Go.Proofs.YtmhkcmoepopnoaaGreatDoor
namespace Go.Proofs.YtmhkcmoepopnoaaGreatDoor
open Go.RowKit Go.Sort Go.Proofs

theorem eqInLine (x y : LineV) (W : World) : (Op.equalIn 10000 84 (.agg (encLine x).toArray) (.agg (encLine y).toArray)).run Tryz.prog W = .ok (decide (x = y)) W := by
  have u3 := Tryz.underlying3
  have u9 := Tryz.underlying9
  have hS : Tryz.prog.underlying 84 = some (.struct (Tryz.prog.fieldsOf 84)) := by kernel_rfl
  have hp : Tryz.prog.stoodInHeld 84 = false := by kernel_rfl
  have pS : Tryz.prog.underlying 24 = some (.struct (Tryz.prog.fieldsOf 24)) := by kernel_rfl
  have pp : Tryz.prog.stoodInHeld 24 = false := by kernel_rfl
  have eP : ∀ (a1 b1 : List UInt8) (a2 a3 b2 b3 : Int) (W : World), (Op.equalIn 9999 24 (.agg #[.string ⟨a1.toArray⟩, .int .i64 a2, .int .i64 a3]) (.agg #[.string ⟨b1.toArray⟩, .int .i64 b2, .int .i64 b3])).run Tryz.prog W = .ok (decide (a1 = b1 ∧ a2 = b2 ∧ a3 = b3)) W := fun a1 b1 a2 a3 b2 b3 W => by
    rw [show (9999 : Nat) = 9998 + 1 from rfl, run_equalIn_agg W 9998 24 _ _ pS pp]
    simp only [Program.fieldsOf, Tryz.underlying24]
    go_simp
    by_cases h1 : a1 = b1 <;> by_cases h2 : a2 = b2 <;> by_cases h3 : a3 = b3 <;> simp [h1, h2, h3]
  simp only [encLine]
  rw [show (10000 : Nat) = 9999 + 1 from rfl, run_equalIn_agg W 9999 84 _ _ hS hp]
  clear hS hp pS pp
  simp only [Program.fieldsOf, Tryz.underlying84]
  go_simp
  obtain ⟨⟨a1, a2, a3⟩, a4, a5⟩ := x
  obtain ⟨⟨b1, b2, b3⟩, b4, b5⟩ := y
  by_cases h1 : a1 = b1 <;> by_cases h2 : a2 = b2 <;> by_cases h3 : a3 = b3 <;> by_cases h4 : a4 = b4 <;> by_cases h5 : a5 = b5 <;> simp [h1, h2, h3, h4, h5]
theorem neqLine (x y : LineV) (W : World) : (binOp .neq 84 (.agg (encLine x).toArray) (.agg (encLine y).toArray)).run Tryz.prog W = .ok (.bool (!decide (x = y))) W := by
  rw [run_neq_struct, eqInLine]
  rfl
theorem eqLine (x y : LineV) (W : World) : (binOp .eql 84 (.agg (encLine x).toArray) (.agg (encLine y).toArray)).run Tryz.prog W = .ok (.bool (decide (x = y))) W := by
  rw [run_eql_struct, eqInLine]
  rfl
end Go.Proofs.YtmhkcmoepopnoaaGreatDoor
namespace Go.Proofs.YtmhkcmoepopnoaaGreatDoor
open Go.RowKit Go.Sort Go.Proofs

/-- The five cells of a line that lies in a row. -/
theorem RowAt.line {w : World} {g o : Nat} {l : List LineV} (h : RowAt encLine 5 w (some ⟨g, o, none⟩) l) (k : Nat) (hk : k < l.length) :
    w.cell? ⟨g, o + k * 5, none⟩ = some (.string ⟨l[k].1.1.toArray⟩) ∧ w.cell? ⟨g, o + k * 5 + 1, none⟩ = some (.int .i64 l[k].1.2.1) ∧ w.cell? ⟨g, o + k * 5 + 2, none⟩ = some (.int .i64 l[k].1.2.2) ∧ w.cell? ⟨g, o + k * 5 + 3, none⟩ = some (.string ⟨l[k].2.1.toArray⟩) ∧ w.cell? ⟨g, o + k * 5 + 4, none⟩ = some (.int .i64 l[k].2.2) := by
  rcases h with rfl | ⟨b, o', h1, _, h3⟩
  · simp at hk
  · cases h1
    exact range5L fun c v hv => h3 k hk c v hv
theorem RowAt.some_of {w : World} {A : Option Addr} {l : List LineV} (h : RowAt encLine 5 w A l) {k : Nat} (hk : k < l.length) : ∃ g o, A = some ⟨g, o, none⟩ := by
  rcases h with rfl | ⟨b, o, h1, _⟩
  · simp at hk
  · exact ⟨b, o, h1⟩

set_option maxHeartbeats 1600000 in
set_option maxRecDepth 100000 in
theorem asStock_any (E : Nat → Addr) (p b : Nat) {m : StkV} (hI : StkI m) (A : Option Addr) (cap : Nat) (w : World) (h : StkAt w p b m) (hrow : RowAt encLine 5 w A (linesM m)) (hG : PlaceG E w) :
    Calls Tryz.prog 17 #[.pointer (some ⟨p, 0, none⟩), .agg #[.slice A m.length cap]] w fun e w' => e = .returned (.int .i64 1) ∧ Below w.heap.size w w' := by
  have HLI := Lib.hid (fun W (hb : Below w.heap.size w W) => linesStock_any p b m W (h.below hb) hI.well.inPs (by have := hI.well.few; omega))
  have HTX := Lib.hid (fun W (hb : Below w.heap.size w W) => textStock_any E p b m W (h.below hb) hI.well (hG.below hb))
  have HRT := Lib.hid (fun W (hb : Below w.heap.size w W) => refText_m hI A cap W (hrow.below hb))
  have HOF := Lib.hid (fun lot W (hb : Below w.heap.size w W) => ofStock_any p b m lot W (h.below hb) (by have := hI.few lot; omega))
  have HRO := Lib.hid (fun lot W (hb : Below w.heap.size w W) => refOf_m hI A cap W (hrow.below hb) lot)
  have HROW := Lib.hid (fun W (hb : Below w.heap.size w W) => hrow.below hb)
  have hf := hI.well.few
  have HN := Lib.hid (linesM_len m)
  have HQ := Lib.hid (fun x W => neqLine x x W)
  unfold LinesEnds at HLI
  generalize linesM m = l at HLI HROW HN
  obtain ⟨N, hN⟩ : ∃ N, N = m.length := ⟨_, rfl⟩
  rw [← hN] at HLI HRT HRO hf HN ⊢
  have HB0 := Lib.hid (below_one w (.cells #[.slice A N cap] 30))
  have HC0 := Lib.hid (cell_of_row _ _ 0 _ _ _ (heap_alloc_new w (.cells #[.slice A N cap] 30)))
  clear h hI hrow hG hN
  go_enter Tryz.func17, Tryz.ntmps17
  go_wp2_with fail
  refine (HLI.out _ HB0.out).mono ?_
  rintro e w1 ⟨A1, cap1, rfl, hr1, -, b1⟩
  have B1 := Lib.hid (HB0.out.trans (b1.mono HB0.out.size))
  have HR1 := Lib.hid hr1
  have c0 : w1.cell? ⟨w.heap.size, 0, none⟩ = some (.slice A N cap) := (b1.cell (p := ⟨_, 0, none⟩) (by simp)).trans HC0.out
  have lw : w.heap.size < w1.heap.size := heap_two b1
  clear hr1 b1 HLI HC0
  go_wp2_with fail
  have hd : Below w.heap.size w w1.drew := B1.out.drew
  have qd : Below w1.heap.size w1 w1.drew := (Below.refl _ _).drew
  go_region_held3 (fun w' => w'.cell? ⟨w.heap.size, 0, none⟩ = some (.slice A N cap))
    (first | exact c0 | exact (q34.cell (p := ⟨_, 0, none⟩) lw).trans c0 | exact (q4.cell (p := ⟨_, 0, none⟩) lw).trans c0 | exact (q3.cell (p := ⟨_, 0, none⟩) lw).trans c0 | go_keep)
    (first
      | (go_at_call 30; refine (HTX.out _ hd).mono ?_; rintro e w3 ⟨rfl, bb3⟩; have q3 : Below w1.heap.size w1 w3 := qd.trans bb3; have b3 := B1.out.trans (q3.mono B1.out.size))
      | (go_at_call 44; refine (HRT.out _ hd).mono ?_; rintro e w4 ⟨rfl, bb4⟩; have q4 : Below w1.heap.size w1 w4 := qd.trans bb4; have b4 := B1.out.trans (q4.mono B1.out.size))
      | (go_at_call 30; refine (HTX.out _ b4).mono ?_; rintro e w3 ⟨rfl, bb3⟩; have q34 : Below w1.heap.size w1 w3 := q4.trans (bb3.mono q4.size); have b34 := B1.out.trans (q34.mono B1.out.size))
      | (go_at_call 44; refine (HRT.out _ b3).mono ?_; rintro e w4 ⟨rfl, bb4⟩; have q34 : Below w1.heap.size w1 w4 := q3.trans (bb4.mono q3.size); have b34 := B1.out.trans (q34.mono B1.out.size)))
  have B4 := Lib.hid b34
  have HR4 := Lib.hid (HR1.out.below q34)
  have HC4 := Lib.hid ((q34.cell (p := ⟨w.heap.size, 0, none⟩) lw).trans c0)
  have lw4 := Nat.lt_of_lt_of_le lw q34.size
  clear b34 q34 b3 q3 bb3 bb4 hd qd c0 HR1 HTX HRT B1 lw
  go_wp2_with fail
  go_loopw [6] (fun i wr => ∃ k : Nat, k ≤ N ∧ i = .int .i64 k ∧ Below w4.heap.size w4 wr) (fun i _ => N - (intOf i).toNat)
  case atStart => exact ⟨0, by omega, rfl, Below.refl _ _⟩
  case round =>
    obtain ⟨k, hk, rfl, hb⟩ := hrel
    have HB := Lib.hid (B4.out.trans (hb.mono B4.out.size))
    have HB4 := Lib.hid hb
    have c0 : wr.cell? ⟨w.heap.size, 0, none⟩ = some (.slice A N cap) := (hb.cell (p := ⟨_, 0, none⟩) lw4).trans HC4.out
    have lwr := Nat.lt_of_lt_of_le lw4 hb.size
    by_cases hkN : k < N
    · have hkl : k < l.length := by rw [HN.out]; exact hkN
      have hr1 := HR4.out.below hb
      have hr2 := HROW.out _ HB.out
      clear hb
      obtain ⟨g, o, rfl⟩ := hr1.some_of hkl
      obtain ⟨g2, o2, rfl⟩ := hr2.some_of hkl
      obtain ⟨e0, e1, e2, e3, e4⟩ := hr1.line k hkl
      obtain ⟨f0, f1, f2, f3, f4⟩ := hr2.line k hkl
      generalize l[k] = x at e0 e1 e2 e3 e4 f0 f1 f2 f3 f4
      have hq := HQ.out x
      have HO1 := Lib.hid (HOF.out x.2.1)
      have HO2 := Lib.hid (HRO.out x.2.1)
      generalize ofM m x.2.1 = ox at HO1 HO2
      obtain ⟨⟨a1, a2, a3⟩, a4, a5⟩ := x
      simp only [encLine] at hq
      simp only at e0 e1 e2 e3 e4 f0 f1 f2 f3 f4 HO1 HO2
      clear hr1 hr2 hkl
      have HC0 := Lib.hid c0
      have hd := HB.out.drew
      have qd : Below wr.heap.size wr wr.drew := (Below.refl _ _).drew
      go_wp2_with fail
      have up := Lib.hid (fun (W : World) (hW : Below wr.heap.size wr W) (q : Addr) (v : Value) (h : wr.cell? q = some v) => (hW.cell (lt_of_cell h)).trans h)
      go_region_held3 (fun w' => w'.cell? ⟨w.heap.size, 0, none⟩ = some (.slice (some ⟨g2, o2, none⟩) N cap) ∧ w'.cell? ⟨g, o + k * 5, none⟩ = some (.string ⟨a1.toArray⟩) ∧ w'.cell? ⟨g, o + k * 5 + 1, none⟩ = some (.int .i64 a2) ∧ w'.cell? ⟨g, o + k * 5 + 2, none⟩ = some (.int .i64 a3) ∧ w'.cell? ⟨g, o + k * 5 + 3, none⟩ = some (.string ⟨a4.toArray⟩) ∧ w'.cell? ⟨g, o + k * 5 + 4, none⟩ = some (.int .i64 a5) ∧ w'.cell? ⟨g2, o2 + k * 5, none⟩ = some (.string ⟨a1.toArray⟩) ∧ w'.cell? ⟨g2, o2 + k * 5 + 1, none⟩ = some (.int .i64 a2) ∧ w'.cell? ⟨g2, o2 + k * 5 + 2, none⟩ = some (.int .i64 a3) ∧ w'.cell? ⟨g2, o2 + k * 5 + 3, none⟩ = some (.string ⟨a4.toArray⟩) ∧ w'.cell? ⟨g2, o2 + k * 5 + 4, none⟩ = some (.int .i64 a5))
        (first
          | exact ⟨c0, e0, e1, e2, e3, e4, f0, f1, f2, f3, f4⟩
          | exact ⟨up.out _ q34 _ _ c0, up.out _ q34 _ _ e0, up.out _ q34 _ _ e1, up.out _ q34 _ _ e2, up.out _ q34 _ _ e3, up.out _ q34 _ _ e4, up.out _ q34 _ _ f0, up.out _ q34 _ _ f1, up.out _ q34 _ _ f2, up.out _ q34 _ _ f3, up.out _ q34 _ _ f4⟩
          | exact ⟨up.out _ q3 _ _ c0, up.out _ q3 _ _ e0, up.out _ q3 _ _ e1, up.out _ q3 _ _ e2, up.out _ q3 _ _ e3, up.out _ q3 _ _ e4, up.out _ q3 _ _ f0, up.out _ q3 _ _ f1, up.out _ q3 _ _ f2, up.out _ q3 _ _ f3, up.out _ q3 _ _ f4⟩
          | go_keep)
        (first
          | (go_at_call 20; refine (HO1.out _ hd).mono ?_; rintro e w5 ⟨rfl, bb3⟩; have q3 : Below wr.heap.size wr w5 := qd.trans bb3; have b3 := HB.out.trans (q3.mono HB.out.size))
          | (go_at_call 21; refine (HO2.out _ b3).mono ?_; rintro e w6 ⟨rfl, bb4⟩; have q34 : Below wr.heap.size wr w6 := q3.trans (bb4.mono q3.size)))
      have B6 := Lib.hid (HB4.out.trans (q34.mono HB4.out.size))
      clear q34 b3 q3 bb3 bb4 hd qd c0 e0 e1 e2 e3 e4 f0 f1 f2 f3 f4 hq up
      go_wp2
      go_roundw
      case rel => exact ⟨k + 1, by omega, by go_num, B6.out⟩
      case measure => simp [intOf]; omega
    · obtain rfl : k = N := by omega
      go_wp2_with fail
      go_ret
      exact ⟨rfl, HB.out⟩
end Go.Proofs.YtmhkcmoepopnoaaGreatDoor
