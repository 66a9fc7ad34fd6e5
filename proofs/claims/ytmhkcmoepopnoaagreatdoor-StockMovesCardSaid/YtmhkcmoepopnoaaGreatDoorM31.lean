/- The law StockMoves, walked. -/
import Derived.Test.YtmhkcmoepopnoaaGreatDoorM24
import Derived.Test.YtmhkcmoepopnoaaGreatDoorM26
import Derived.Test.YtmhkcmoepopnoaaGreatDoorM30
namespace Go.Proofs.YtmhkcmoepopnoaaGreatDoor
open Go.RowKit Go.Sort Go.Proofs

theorem itoa_short {n : Int} (k : Nat) (h0 : 0 ≤ n) (hk : 1 ≤ k) (h : n < 10 ^ k) : (Lib.itoa n).length ≤ k := by
  rw [itoa_nat _ h0]
  exact dec_len_le _ k hk (by have : ((10 ^ k : Nat) : Int) = 10 ^ k := by simp
                              omega)
theorem lineText_short {x : LineV} (h : WellL x) : (lineText x).length ≤ 40 := by
  obtain ⟨h1, h2, h3, h4⟩ := h
  obtain ⟨z1, z2, z3, z4, z5⟩ := placeE_zero.1 h1
  have n1 := (nameB_len z1).2
  have n2 := (nameB_len h2).2
  have n3 := itoa_short (n := x.1.2.1) 2 (by omega) (by omega) (by omega)
  have n4 := itoa_short (n := x.1.2.2) 2 (by omega) (by omega) (by omega)
  have n5 := itoa_short (n := x.2.2) 13 (by omega) (by omega) (by omega)
  unfold lineText placeText
  rw [if_pos h1]
  simp only [List.length_append, List.length_cons, List.length_nil]
  omega
theorem linesText_short {l : List LineV} (h : ∀ x ∈ l, WellL x) : (linesText l).length ≤ l.length * 41 := by
  induction l with
  | nil => simp [linesText]
  | cons x r ih =>
    have h1 := lineText_short (h x List.mem_cons_self)
    have h2 := ih fun y hy => h y (List.mem_cons_of_mem _ hy)
    unfold linesText at *
    simp only [List.map_cons, List.flatten_cons, List.length_append, List.length_cons, List.length_nil]
    omega
theorem StkI.short {m : StkV} (h : StkI m) : (textM m).length ≤ 8200 := by
  have h1 := linesText_short h.well.lines
  have h2 := h.well.few
  rw [linesM_len] at h1
  unfold textM
  omega

set_option maxHeartbeats 1600000 in
set_option maxRecDepth 100000 in
theorem smoves_out (E : Nat → Addr) (A : Option Addr) (k cap : Nat) (pf pt : PlaceV) (id : List UInt8) (n : Int) (w : World) (hG : RdG E w) (h : 40 < k) :
    Calls Tryz.prog 5 #[.slice A k cap, .agg (encPlace pf).toArray, .agg (encPlace pt).toArray, .string ⟨id.toArray⟩, .int .i64 n] w fun e w' => e = .returned (.bool true) ∧ Below w.heap.size w w' := by
  have b0 := below_two w (.cells (encPlace pf).toArray 24) (.cells (encPlace pt).toArray 24)
  have HST := Lib.hid (stocked_any E _ (hG.stk.below b0))
  have hi : (40 : Int) < (k : Int) := by omega
  obtain ⟨a1, a2, a3⟩ := pf
  obtain ⟨c1, c2, c3⟩ := pt
  simp only [encPlace] at *
  clear hG h
  go_enter Tryz.func5, Tryz.ntmps5
  go_wp2_with fail
  refine HST.out.mono ?_
  rintro e w1 ⟨rfl, b1⟩
  have B1 := Lib.hid (b0.trans (b1.mono b0.size))
  clear b1 b0
  go_wp2
  go_ret
  exact ⟨rfl, B1.out⟩

theorem but2_cell {p b : Nat} {w w' : World} (ht : But2 p b w w') {g o : Nat} {v : Value} (h : w.cell? ⟨g, o, none⟩ = some v) (hp : g ≠ p) (hb : g ≠ b) : w'.cell? ⟨g, o, none⟩ = some v := (World.cell?_of_block (ht.block g (lt_of_cell h) hp hb)).trans h
/-- What the law keeps in memory: its two places' boxes, its stock. -/
structure MvI (B p b : Nat) (pf pt : PlaceV) (m : StkV) (w0 w : World) : Prop where
  inv : StkI m
  stk : StkAt w p b m
  f : w.heap[B]? = some (.cells #[.string ⟨pf.1.toArray⟩, .int .i64 pf.2.1, .int .i64 pf.2.2] 24 (0, 0))
  t : w.heap[B + 1]? = some (.cells #[.string ⟨pt.1.toArray⟩, .int .i64 pt.2.1, .int .i64 pt.2.2] 24 (0, 0))
  below : Below B w0 w
  hp : B + 1 < p
  hb : B + 1 < b
  size : B + 1 < w.heap.size
theorem MvI.next {B p b : Nat} {pf pt : PlaceV} {m : StkV} {w0 w w' : World} (h : MvI B p b pf pt m w0 w) (hb : Below w.heap.size w w') : MvI B p b pf pt m w0 w' :=
  ⟨h.inv, h.stk.below hb, at_b hb h.f (heap_lt h.f), at_b hb h.t (heap_lt h.t), h.below.trans (hb.mono (by have := h.size; omega)), h.hp, h.hb, Nat.lt_of_lt_of_le h.size hb.size⟩
/-- Behind an act. -/
theorem MvI.act {B p b c : Nat} {pf pt : PlaceV} {m m' : StkV} {w0 w w' : World} (h : MvI B p b pf pt m w0 w) (hI : StkI m') (hS : StkAt w' p c m') (hc : c = b ∨ w.heap.size ≤ c) (ht : But2 p b w w') : MvI B p c pf pt m' w0 w' := by
  have h1 := h.hp
  have h2 := h.hb
  have h3 := h.size
  have hcB : B + 1 < c := by omega
  exact ⟨hI, hS, (ht.block _ (heap_lt h.f) (by omega) (by omega)).trans h.f, (ht.block _ (heap_lt h.t) (by omega) (by omega)).trans h.t, ht.below h.below (by omega) (by omega) (by omega), h1, hcB, Nat.lt_of_lt_of_le h3 ht.size⟩

set_option maxHeartbeats 3200000 in
set_option maxRecDepth 100000 in
theorem smoves_in (E : Nat → Addr) (A : Option Addr) (cap : Nat) (xs : List ActV) (pf pt : PlaceV) (id : List UInt8) (n : Int) (w : World) (hG : RdG E w) (hX : RowAt encAct 9 w A xs) (h40 : xs.length ≤ 40) :
    Calls Tryz.prog 5 #[.slice A xs.length cap, .agg (encPlace pf).toArray, .agg (encPlace pt).toArray, .string ⟨id.toArray⟩, .int .i64 n] w fun e w' => e = .returned (.bool true) ∧ Below w.heap.size w w' := by
  obtain ⟨N, hN⟩ : ∃ N, N = xs.length := ⟨_, rfl⟩
  have HN := Lib.hid hN
  have HX := Lib.hid hX
  have b0 := below_two w (.cells (encPlace pf).toArray 24) (.cells (encPlace pt).toArray 24)
  have hf0 := ((below_one (w.alloc (.cells (encPlace pf).toArray 24)) (.cells (encPlace pt).toArray 24)).block w.heap.size (by simp)).trans (heap_alloc_new w (.cells (encPlace pf).toArray 24))
  have ht0 := heap_new2 w (.cells (encPlace pf).toArray 24) (.cells (encPlace pt).toArray 24)
  have HST := Lib.hid (stocked_any E _ (hG.stk.below b0))
  have HG := Lib.hid (fun W (h : Below w.heap.size w W) => hG.below h)
  rw [← hN] at h40 ⊢
  clear hX hN hG
  obtain ⟨a1, a2, a3⟩ := pf
  obtain ⟨c1, c2, c3⟩ := pt
  simp only [encPlace] at *
  go_enter Tryz.func5, Tryz.ntmps5
  go_wp2_with fail
  refine HST.out.mono ?_
  rintro e w1 ⟨rfl, b1⟩
  have HF1 := Lib.hid (at_b b1 hf0 (heap_lt hf0))
  have HT1 := Lib.hid (at_b b1 ht0 (heap_lt ht0))
  have B1 := Lib.hid (b0.trans (b1.mono b0.size))
  have hw1 := heap_lt HT1.out
  clear b1 b0 hf0 ht0 HST
  go_wp2_with fail
  refine (newStock_any w1).mono ?_
  rintro e w2 ⟨rfl, hS2, b2⟩
  have hM : Hid (MvI w.heap.size (w1.heap.size + 1) w1.heap.size (a1, a2, a3) (c1, c2, c3) [] w w2) := by
    have h := hS2.lt
    refine ⟨StkI.nil, hS2, ?_, ?_, B1.out.trans (b2.mono B1.out.size), by omega, by omega, by omega⟩
    · exact at_b b2 HF1.out (heap_lt HF1.out)
    · exact at_b b2 HT1.out (heap_lt HT1.out)
  clear b2 hS2 B1 HF1 HT1
  obtain ⟨p, hp⟩ : ∃ p, p = w1.heap.size + 1 := ⟨_, rfl⟩
  rw [← hp] at hM
  rw [← hp]
  generalize w1.heap.size = b at *
  clear hp hw1
  go_wp2_with fail
  go_loopw [13] (fun i wr => ∃ (k : Nat) (m : StkV) (b : Nat), k ≤ N ∧ i = .int .i64 k ∧ Hid (MvI w.heap.size p b (a1, a2, a3) (c1, c2, c3) m w wr)) (fun i _ => N - (intOf i).toNat)
  case atStart => exact ⟨0, [], b, by omega, rfl, hM.out⟩
  case round =>
    obtain ⟨k, m, b, hk, rfl, HI⟩ := hrel
    by_cases hkN : k < N
    · have hkx : k < xs.length := by rw [← HN.out]; exact hkN
      obtain ⟨bx, ox, rfl, lx, cx⟩ := HX.out.resolve_left (fun h => by rw [h] at hkx; simp at hkx)
      obtain ⟨x, hxk⟩ : ∃ x, x = xs[k] := ⟨_, rfl⟩
      have ce := fun j v h => (HI.out.below.cell (p := ⟨bx, ox + k * 9 + j, none⟩) lx).trans (cx k hkx j v h)
      rw [← hxk] at ce
      obtain ⟨x1, ⟨f1, f2, f3⟩, ⟨t1, t2, t3⟩, x4, x5⟩ := x
      have e1 := ce 1 _ rfl
      have e2 := ce 2 _ rfl
      have e3 := ce 3 _ rfl
      have e7 := ce 7 _ rfl
      have e8 := ce 8 _ rfl
      simp only at e1 e2 e3 e7 e8
      have hbb := HI.out.hb
      have hpp := HI.out.hp
      have hxp : bx ≠ p := by omega
      have hxb : bx ≠ b := by omega
      have HPR := Lib.hid (putAct E p b HI.out.inv (f1, f2, f3) x4 x5 wr.drew (HI.out.stk.below (Below.refl _ _).drew) (HG.out _ HI.out.below.drew).stk)
      simp only [encPlace] at HPR
      have hlw : bx < wr.drew.heap.size := Nat.lt_of_lt_of_le lx HI.out.below.size
      clear ce cx hxk hkx
      go_wp2_with fail
      go_region_held3 (fun w' => w'.cell? ⟨bx, ox + k * 9 + 1, none⟩ = some (.string ⟨f1.toArray⟩) ∧ w'.cell? ⟨bx, ox + k * 9 + 2, none⟩ = some (.int .i64 f2) ∧ w'.cell? ⟨bx, ox + k * 9 + 3, none⟩ = some (.int .i64 f3) ∧ w'.cell? ⟨bx, ox + k * 9 + 7, none⟩ = some (.string ⟨x4.toArray⟩) ∧ w'.cell? ⟨bx, ox + k * 9 + 8, none⟩ = some (.int .i64 x5))
        (first | exact ⟨e1, e2, e3, e7, e8⟩ | exact ⟨but2_cell t3 e1 hxp hxb, but2_cell t3 e2 hxp hxb, but2_cell t3 e3 hxp hxb, but2_cell t3 e7 hxp hxb, but2_cell t3 e8 hxp hxb⟩ | go_keep)
        (first | (go_at_call 10; refine HPR.out.mono ?_; rintro e w3 ⟨rfl, hS3, t3⟩; have HE3 := Lib.hid (And.intro hS3 t3)))
      obtain ⟨⟨c3, hS3, hc3⟩, t3⟩ := HE3.out
      have HIN := Lib.hid ((HI.out.next ((Below.refl wr.heap.size wr).drew)).act (HI.out.inv.put (f1, f2, f3) x4 x5) hS3 hc3 t3)
      clear hS3 hc3 t3 HE3 HPR e1 e2 e3 e7 e8
      go_wp2
      go_roundw
      case rel => exact ⟨k + 1, _, c3, by omega, by go_num, HIN.out⟩
      case measure => simp [intOf]; omega
    · obtain rfl : k = N := by omega
      have hI := HI.out.inv
      have HTX := Lib.hid (fun W (h : MvI w.heap.size p b (a1, a2, a3) (c1, c2, c3) m w W) => textStock_any E p b m W h.stk hI.well (HG.out W h.below).stk.place)
      have HOF := Lib.hid (fun W (h : MvI w.heap.size p b (a1, a2, a3) (c1, c2, c3) m w W) => ofStock_any p b m id W h.stk (by have := hI.few id; omega))
      have HAF := Lib.hid (fun W (h : MvI w.heap.size p b (a1, a2, a3) (c1, c2, c3) m w W) => atStock_any p b m (a1, a2, a3) id W h.stk)
      have HAT := Lib.hid (fun W (h : MvI w.heap.size p b (a1, a2, a3) (c1, c2, c3) m w W) => atStock_any p b m (c1, c2, c3) id W h.stk)
      have HMV := Lib.hid (fun W (h : MvI w.heap.size p b (a1, a2, a3) (c1, c2, c3) m w W) => moveAct E p b hI (a1, a2, a3) (c1, c2, c3) id n W h.stk (HG.out W h.below).stk)
      have HMC := Lib.hid (fun h => move_counts hI (f := (a1, a2, a3)) (t := (c1, c2, c3)) (l := id) (n := n) h)
      have HMB := Lib.hid (fun h => move_back hI (f := (a1, a2, a3)) (t := (c1, c2, c3)) (l := id) (n := n) h)
      have HMI := Lib.hid (hI.move (a1, a2, a3) (c1, c2, c3) id n)
      have HME := Lib.hid (fun h : moveE m (a1, a2, a3) (c1, c2, c3) id n ≠ 0 => show moveM m (a1, a2, a3) (c1, c2, c3) id n = m by unfold moveM; rw [if_neg h])
      simp only [encPlace] at HAF HAT HMV
      have hva := atM_le m (a1, a2, a3) id
      have hvb := atM_le m (c1, c2, c3) id
      have hfew := hI.few id
      obtain ⟨tx, htx⟩ : ∃ tx, tx = textM m := ⟨_, rfl⟩
      have HTXV := Lib.hid htx
      rw [← htx] at HTX
      clear htx hI
      go_wp2_with fail
      refine (HTX.out _ HI.out).mono ?_
      rintro e w3 ⟨rfl, b3⟩
      have H3 := Lib.hid (HI.out.next b3)
      clear b3 HI
      go_wp2_with fail
      refine (HOF.out _ H3.out).mono ?_
      rintro e w4 ⟨rfl, b4⟩
      have H4 := Lib.hid (H3.out.next b4)
      clear b4 H3
      have hf4 := H4.out.f
      simp only at hf4
      obtain ⟨d0, d1, d2⟩ := row3 hf4
      clear hf4
      go_wp2_with fail
      refine (HAF.out _ H4.out).mono ?_
      rintro e w5 ⟨rfl, b5⟩
      have H5 := Lib.hid (H4.out.next b5)
      clear b5 H4 d0 d1 d2
      have hf5 := H5.out.t
      simp only at hf5
      obtain ⟨d0, d1, d2⟩ := row3 hf5
      clear hf5
      go_wp2_with fail
      refine (HAT.out _ H5.out).mono ?_
      rintro e w6 ⟨rfl, b6⟩
      have H6 := Lib.hid (H5.out.next b6)
      clear b6 H5 d0 d1 d2
      have hf6 := H6.out.f
      have ht6 := H6.out.t
      simp only at hf6
      simp only at ht6
      obtain ⟨d0, d1, d2⟩ := row3 hf6
      obtain ⟨g0, g1, g2⟩ := row3 ht6
      clear hf6 ht6
      go_wp2_with fail
      refine (HMV.out _ H6.out).mono ?_
      rintro e w7 ⟨rfl, ⟨c, hS7, hc7⟩, t7⟩
      have HI7 := Lib.hid (H6.out.act HMI.out hS7 hc7 t7)
      clear hS7 hc7 t7 d0 d1 d2 g0 g1 g2 H6 HMV
      by_cases hme : moveE m (a1, a2, a3) (c1, c2, c3) id n = 0
      · rw [hme, errOf_zero]
        obtain ⟨q1, q2, q3, q4⟩ := HMC.out hme
        obtain ⟨r1, r2⟩ := HMB.out hme
        have q5 := (takeE_zero (move_zero hme).1).2.1
        have hI7 := HMI.out
        obtain ⟨u1, u2⟩ := hI7.read
        have HU := Lib.hid (rdGo_inv _ _ _ _ RdI.nil u1)
        have hsh := hI7.short
        have HR1 := Lib.hid r1
        have HR2 := Lib.hid (show textM (moveM (moveM m (a1, a2, a3) (c1, c2, c3) id n) (c1, c2, c3) (a1, a2, a3) id n) = tx by unfold textM; rw [r2, HTXV.out]; rfl)
        clear r1 r2 hme HMC HMB HME HMI HTX HOF HAF HAT
        generalize moveM m (a1, a2, a3) (c1, c2, c3) id n = m' at *
        have HTX7 := Lib.hid (fun W (h : MvI w.heap.size p c (a1, a2, a3) (c1, c2, c3) m' w W) => textStock_any E p c m' W h.stk hI7.well (HG.out W h.below).stk.place)
        have HOF7 := Lib.hid (fun W (h : MvI w.heap.size p c (a1, a2, a3) (c1, c2, c3) m' w W) => ofStock_any p c m' id W h.stk (by have := hI7.few id; omega))
        have HAF7 := Lib.hid (fun W (h : MvI w.heap.size p c (a1, a2, a3) (c1, c2, c3) m' w W) => atStock_any p c m' (a1, a2, a3) id W h.stk)
        have HAT7 := Lib.hid (fun W (h : MvI w.heap.size p c (a1, a2, a3) (c1, c2, c3) m' w W) => atStock_any p c m' (c1, c2, c3) id W h.stk)
        have HMV7 := Lib.hid (fun W (h : MvI w.heap.size p c (a1, a2, a3) (c1, c2, c3) m' w W) => moveAct E p c hI7 (c1, c2, c3) (a1, a2, a3) id n W h.stk (HG.out W h.below).stk)
        have HI8 := Lib.hid (hI7.move (c1, c2, c3) (a1, a2, a3) id n)
        have HRD := Lib.hid (fun W h => readStock_any E (textM m') (by omega) W h)
        rw [u1] at HRD
        have HTT := Lib.hid (fun p2 b2 W h hg => textStock_any E p2 b2 (toM (linesM m')) W h HU.out.inv.well hg)
        rw [u2] at HTT
        rw [q2] at HOF7
        rw [q3] at HAF7
        rw [q4] at HAT7
        rw [HR1.out] at HMV7
        simp only [encPlace] at HAF7 HAT7 HMV7
        generalize atM m ((a1, a2, a3), id) = va at *
        generalize atM m ((c1, c2, c3), id) = vb at *
        generalize ofM m id = vo at *
        have hw1 : IntKind.i64.wrap ((va : Int) - n) = (va : Int) - n := wrap_small (by omega) (by omega)
        have hw2 : IntKind.i64.wrap ((vb : Int) + n) = (vb : Int) + n := wrap_small (by omega) (by omega)
        clear q2 q3 q4 u1 u2 hI7 HTXV
        generalize textM m' = tx' at *
        go_wp2_with fail
        refine (HOF7.out _ HI7.out).mono ?_
        rintro e w8 ⟨rfl, b8⟩
        have H8 := Lib.hid (HI7.out.next b8)
        clear b8 HI7
        have hf8 := H8.out.f
        have ht8 := H8.out.t
        simp only at hf8 ht8
        obtain ⟨d0, d1, d2⟩ := row3 hf8
        clear hf8 ht8
        go_wp2_with fail
        refine (HAF7.out _ H8.out).mono ?_
        rintro e w9 ⟨rfl, b9⟩
        have H9 := Lib.hid (H8.out.next b9)
        clear b9 H8 d0 d1 d2
        have ht9 := H9.out.t
        simp only at ht9
        obtain ⟨g0, g1, g2⟩ := row3 ht9
        clear ht9
        go_wp2_with fail
        refine (HAT7.out _ H9.out).mono ?_
        rintro e v1 ⟨rfl, j1⟩
        have K1 := Lib.hid (H9.out.next j1)
        clear j1 H9 g0 g1 g2
        go_wp2_with fail
        refine (HTX7.out _ K1.out).mono ?_
        rintro e v2 ⟨rfl, j2⟩
        have K2 := Lib.hid (K1.out.next j2)
        clear j2 K1
        go_wp2_with fail
        refine (HRD.out _ (HG.out _ K2.out.below)).mono ?_
        rintro e v3 ⟨j3, p2, b2, rfl, hS3, -, -⟩
        have K3 := Lib.hid (K2.out.next j3)
        have HS3 := Lib.hid hS3
        clear j3 K2 hS3 HRD
        go_wp2_with fail
        refine (HTT.out _ _ _ HS3.out (HG.out _ K3.out.below).stk.place).mono ?_
        rintro e v4 ⟨rfl, j4⟩
        have K4 := Lib.hid (K3.out.next j4)
        clear j4 K3 HTT HS3
        go_wp2_with fail
        refine (HTX7.out _ K4.out).mono ?_
        rintro e v5 ⟨rfl, j5⟩
        have K5 := Lib.hid (K4.out.next j5)
        clear j5 K4
        have hf5 := K5.out.f
        have ht5 := K5.out.t
        simp only at hf5 ht5
        obtain ⟨d0, d1, d2⟩ := row3 hf5
        obtain ⟨g0, g1, g2⟩ := row3 ht5
        clear hf5 ht5
        go_wp2_with fail
        refine (HMV7.out _ K5.out).mono ?_
        rintro e v6 ⟨rfl, ⟨c6, hS6, hc6⟩, t6⟩
        have K6 := Lib.hid (K5.out.act HI8.out hS6 hc6 t6)
        have HTX8 := Lib.hid (fun W (h : MvI w.heap.size p c6 (a1, a2, a3) (c1, c2, c3) (moveM m' (c1, c2, c3) (a1, a2, a3) id n) w W) => textStock_any E p c6 (moveM m' (c1, c2, c3) (a1, a2, a3) id n) W h.stk h.inv.well (HG.out W h.below).stk.place)
        rw [HR2.out] at HTX8
        clear hS6 hc6 t6 K5 d0 d1 d2 g0 g1 g2 HMV7
        rw [errOf_zero]
        go_wp2_with fail
        refine (HTX8.out _ K6.out).mono ?_
        rintro e v7 ⟨rfl, j7⟩
        have K7 := Lib.hid (K6.out.next j7)
        clear j7 K6
        go_wp2
        go_ret
        exact ⟨rfl, K7.out.below⟩
      · rw [errOf_pos _ _ hme]
        have hmm := HME.out hme
        rw [hmm] at HI7
        have HTX7 := Lib.hid (fun W (h : MvI w.heap.size p c (a1, a2, a3) (c1, c2, c3) m w W) => textStock_any E p c m W h.stk h.inv.well (HG.out W h.below).stk.place)
        have HOF7 := Lib.hid (fun W (h : MvI w.heap.size p c (a1, a2, a3) (c1, c2, c3) m w W) => ofStock_any p c m id W h.stk (by have := h.inv.few id; omega))
        rw [← HTXV.out] at HTX7
        clear hmm hme
        go_wp2_with fail
        refine (HTX7.out _ HI7.out).mono ?_
        rintro e w8 ⟨rfl, b8⟩
        have H8 := Lib.hid (HI7.out.next b8)
        clear b8
        go_wp2_with fail
        refine (HOF7.out _ H8.out).mono ?_
        rintro e w9 ⟨rfl, b9⟩
        have H9 := Lib.hid (H8.out.next b9)
        clear b9
        go_wp2
        go_ret
        exact ⟨rfl, H9.out.below⟩
theorem smoves_walk (E : Nat → Addr) (A : Option Addr) (cap : Nat) (xs : List ActV) (pf pt : PlaceV) (id : ByteArray) (n : Int) (w : World) (hG : RdG E w) (hX : RowAt encAct 9 w A xs) :
    Calls Tryz.prog 5 #[.slice A xs.length cap, .agg (encPlace pf).toArray, .agg (encPlace pt).toArray, .string id, .int .i64 n] w fun e w' => e = .returned (.bool true) ∧ Below w.heap.size w w' := by
  have hid : id = ⟨id.data.toList.toArray⟩ := by rw [Array.toArray_toList]
  rw [hid]
  by_cases h : 40 < xs.length
  · exact smoves_out E A xs.length cap pf pt _ n w hG h
  · exact smoves_in E A cap xs pf pt _ n w hG hX (by omega)
end Go.Proofs.YtmhkcmoepopnoaaGreatDoor
