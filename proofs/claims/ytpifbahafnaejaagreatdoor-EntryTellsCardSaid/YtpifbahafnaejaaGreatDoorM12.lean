/- Entries read by the document: ReadEntry whole. The statement EntryBack. Printed by gen/entl.py. What a row's list of package-level variables gives the walks: sentinels, strconv's table; what the world's shape gives. errors.Is and errors.As at the errors of this program: sentinels, faults with a place, nil. errors.As at a fault with a place and at a sentinel, the target a variable of type *api.Fault. plain.Code: an error's number and place. -/
import Derived.LaidLaws
import Derived.Stop.LaidErr
import Derived.Shelf.Vars
import Derived.LaidEql
import Derived.Stop.Asserts
import Derived.RowKitTokens
import Derived.LoopTactic
import Derived.Outline
import Derived.Test.YtpifbahafnaejaaGreatDoorM01
import Derived.Test.YtpifbahafnaejaaGreatDoorM09
import Derived.Test.YtpifbahafnaejaaGreatDoorM11
namespace Go.Proofs.YtpifbahafnaejaaGreatDoor
open Go.RowKit Go.Sort Go.Proofs

theorem splitL_free (c : UInt8) : ∀ (l : List UInt8), ∀ w ∈ splitL c l, c ∉ w
  | [], w, h => by
    simp [splitL] at h
    subst h
    simp
  | x :: r, w, h => by
    rw [splitL] at h
    by_cases hx : x = c
    · rw [if_pos hx] at h
      rcases List.mem_cons.1 h with rfl | h
      · simp
      · exact splitL_free c r w h
    · rw [if_neg hx] at h
      cases hs : splitL c r with
      | nil =>
        rw [hs] at h
        simp at h
        subst h
        simpa using Ne.symm hx
      | cons p q =>
        rw [hs] at h
        have ih := splitL_free c r
        rw [hs] at ih
        rcases List.mem_cons.1 h with rfl | h
        · have h1 := ih p List.mem_cons_self
          simp only [List.mem_cons, not_or]
          exact ⟨Ne.symm hx, h1⟩
        · exact ih w (List.mem_cons_of_mem _ h)
theorem lotWords_back {t : List (List UInt8)} (h : ∀ w ∈ t, (32 : UInt8) ∉ w) : lotWords (splitL 32 (joinL 32 t)) = lotWords t := by
  cases t with
  | nil => rfl
  | cons a r => rw [splitL_join 32 (a :: r) (by simp) h]

theorem refReadE_any (s : ByteArray) (hs : s.size ≤ 900000) (w : World) :
    Calls Tryz.prog 7 #[.string s] w (RdEnt (entRead (bts s)) w) := by
  have hs' : s.size ≤ 1000000 := by omega
  rw [entRead_fin]
  cases hw : splitL 32 (bts s) with
  | nil => exact absurd hw (splitL_ne 32 _)
  | cons k t =>
    have hfree : ∀ x ∈ t, (32 : UInt8) ∉ x := fun x hx => splitL_free 32 (bts s) x (by rw [hw]; exact List.mem_cons_of_mem _ hx)
    by_cases k1 : k = kGoods
    · rw [entWords_goods k1]
      by_cases hl : t.length = 2
      · obtain ⟨c, d, rfl⟩ : ∃ c d, t = [c, d] := by
          match t, hl with
          | [c, d], _ => exact ⟨c, d, rfl⟩
        have hc : c.length ≤ 900000 := Nat.le_trans (splitL_lens (c := 32) (l := bts s) (w := c) (by rw [hw]; simp)) hs
        have e : entGoods [k, c, d] = if refNum d 13 < 0 then (zeroEnt, 1) else ((k, (c, refNum d 13), zeroLot, zeroPlace, zeroPlace, 0), 0) := by
          rw [refNum_eq d 13 (by omega), k1]
          show (match numQ d 13 with | some v => (((kGoods, (c, (v : Int)), zeroLot, zeroPlace, zeroPlace, 0), 0) : EntV × Nat) | none => (zeroEnt, 1)) = _
          cases numQ d 13 with
          | none => rw [if_pos (by simp)]
          | some v => rw [if_neg (by simp)]
        rw [e]
        exact refReadE_goods s hs' k [c, d] hw k1 c d rfl hc w
      · have e : entGoods (k :: t) = (zeroEnt, 1) := by
          unfold entGoods
          split
          · rename_i a c d heq
            cases heq
            exact absurd rfl hl
          · rfl
        rw [e, finEnt_err _ (by decide)]
        exact refReadE_goods_len s hs' k t hw k1 hl w
    by_cases k2 : k = kLot
    · rw [entWords_lot k2, lotWords_back hfree, ← k2]
      exact refReadE_lot s hs' k t hw k2 w
    cases k3 : isP k with
    | false =>
      rw [entWords_none k1 k2 k3, finEnt_err _ (by decide)]
      exact refReadE_none s hs' k t hw (by unfold isKB; rw [decide_eq_false k1, decide_eq_false k2, k3]; rfl) w
    | true =>
      rw [entWords_p k1 k2 k3]
      cases hF : hasF k <;> cases hT : hasT k
      · by_cases hl : t.length = 2
        · obtain ⟨a, d, rfl⟩ : ∃ a d, t = [a, d] := by
            match t, hl with
            | [a, d], _ => exact ⟨a, d, rfl⟩
          exact refReadE_p00 s hs' k _ hw k1 k2 k3 hF hT a d rfl w
        · rw [entPieces_len (by rw [hF, hT]; simp; omega), finEnt_err _ (by decide)]
          exact refReadE_len00 s hs' k t hw k1 k2 k3 hF hT hl w
      · by_cases hl : t.length = 3
        · obtain ⟨a, q, d, rfl⟩ : ∃ a q d, t = [a, q, d] := by
            match t, hl with
            | [a, q, d], _ => exact ⟨a, q, d, rfl⟩
          exact refReadE_p01 s hs' k _ hw k1 k2 k3 hF hT a q d rfl w
        · rw [entPieces_len (by rw [hF, hT]; simp; omega), finEnt_err _ (by decide)]
          exact refReadE_len01 s hs' k t hw k1 k2 k3 hF hT hl w
      · by_cases hl : t.length = 3
        · obtain ⟨a, p, d, rfl⟩ : ∃ a p d, t = [a, p, d] := by
            match t, hl with
            | [a, p, d], _ => exact ⟨a, p, d, rfl⟩
          exact refReadE_p10 s hs' k _ hw k1 k2 k3 hF hT a p d rfl w
        · rw [entPieces_len (by rw [hF, hT]; simp; omega), finEnt_err _ (by decide)]
          exact refReadE_len10 s hs' k t hw k1 k2 k3 hF hT hl w
      · by_cases hl : t.length = 4
        · obtain ⟨a, p, q, d, rfl⟩ : ∃ a p q d, t = [a, p, q, d] := by
            match t, hl with
            | [a, p, q, d], _ => exact ⟨a, p, q, d, rfl⟩
          exact refReadE_p11 s hs' k _ hw k1 k2 k3 hF hT a p q d rfl w
        · rw [entPieces_len (by rw [hF, hT]; simp; omega), finEnt_err _ (by decide)]
          exact refReadE_len11 s hs' k t hw k1 k2 k3 hF hT hl w
end Go.Proofs.YtpifbahafnaejaaGreatDoor
namespace Go.Proofs.YtpifbahafnaejaaGreatDoor
open Go.RowKit Go.Sort Go.Proofs

theorem entText_one : entText (kIn, ([], 0), ([108, 49], [], 0, 0), ([], 0, 0), ([97], 1, 2), 5) = [105, 110, 32, 108, 49, 32, 97, 45, 49, 45, 50, 32, 53] := by
  have h : entE (kIn, ([], 0), ([108, 49], [], 0, 0), ([], 0, 0), ([97], 1, 2), 5) = 0 := by decide
  have h1 : Lib.itoa 1 = [49] := by
    unfold Lib.itoa
    rw [if_neg (by omega), show (1 : Int).toNat = 1 from rfl, Lib.decDigits_one (by omega)]
    rfl
  have h2 : Lib.itoa 2 = [50] := by
    unfold Lib.itoa
    rw [if_neg (by omega), show (2 : Int).toNat = 2 from rfl, Lib.decDigits_one (by omega)]
    rfl
  have h5 : Lib.itoa 5 = [53] := by
    unfold Lib.itoa
    rw [if_neg (by omega), show (5 : Int).toNat = 5 from rfl, Lib.decDigits_one (by omega)]
    rfl
  unfold entText
  rw [if_neg (by simpa using h), if_neg (by decide), if_neg (by decide)]
  unfold wordsP
  rw [if_neg (by decide), if_pos (by decide)]
  have hp : placeText ([97], 1, 2) = [97, 45, 49, 45, 50] := by
    unfold placeText
    rw [if_pos (by decide), h1, h2]
    rfl
  rw [hp, h5]
  rfl

set_option maxHeartbeats 800000 in
theorem entered_any (E : Nat → Addr) (w : World) (hG : EntG E w) : Calls Tryz.prog 4 #[] w fun e w' => e = .returned (.bool true) ∧ Below w.heap.size w w' := by
  have H := Lib.hid (fun W h => textEnt_any E (kIn, ([], 0), ([108, 49], [], 0, 0), ([], 0, 0), ([97], 1, 2), 5) (by simp) (by simp) W h)
  rw [entText_one] at H
  simp only [encEnt] at H
  have HG := Lib.hid (fun W (h : Below w.heap.size w W) => hG.below h)
  clear hG
  go_enter Tryz.func4, Tryz.ntmps4
  go_wp2_with fail
  refine (H.out _ (HG.out _ (below_one w _))).mono ?_
  rintro e w1 ⟨rfl, b1⟩
  have B1 := Lib.hid ((below_one w _).trans (b1.mono (by simp)))
  clear b1
  go_wp2
  go_ret
  exact ⟨rfl, B1.out⟩

/-- 1 if an entry is too long for a statement. -/
def longN (x : EntV) : Nat := if 20 < x.1.length ∨ 30 < x.2.1.1.length ∨ 30 < x.2.2.1.1.length ∨ 30 < x.2.2.1.2.1.length ∨ 30 < x.2.2.2.1.1.length ∨ 30 < x.2.2.2.2.1.1.length then 1 else 0
theorem longN_01 (x : EntV) : longN x = 0 ∨ longN x = 1 := by
  unfold longN
  split
  · exact .inr rfl
  · exact .inl rfl
theorem longN_short {x : EntV} (h : longN x = 0) : x.2.2.1.1.length ≤ 1000000000 ∧ x.2.2.1.2.1.length ≤ 1000000000 := by
  unfold longN at h
  split at h
  · cases h
  · omega
theorem lies_of14 {W : World} {b : Nat} {v0 v1 v2 v3 v4 v5 v6 v7 v8 v9 v10 v11 v12 v13 : Value} {R : Prop}
    (h : W.cell? ⟨b, 0, none⟩ = some v0 ∧ W.cell? ⟨b, 1, none⟩ = some v1 ∧ W.cell? ⟨b, 2, none⟩ = some v2 ∧ W.cell? ⟨b, 3, none⟩ = some v3 ∧ W.cell? ⟨b, 4, none⟩ = some v4 ∧ W.cell? ⟨b, 5, none⟩ = some v5 ∧ W.cell? ⟨b, 6, none⟩ = some v6 ∧ W.cell? ⟨b, 7, none⟩ = some v7 ∧ W.cell? ⟨b, 8, none⟩ = some v8 ∧ W.cell? ⟨b, 9, none⟩ = some v9 ∧ W.cell? ⟨b, 10, none⟩ = some v10 ∧ W.cell? ⟨b, 11, none⟩ = some v11 ∧ W.cell? ⟨b, 12, none⟩ = some v12 ∧ W.cell? ⟨b, 13, none⟩ = some v13 ∧ R) :
    Lies W b 0 [v0, v1, v2, v3, v4, v5, v6, v7, v8, v9, v10, v11, v12, v13] := by
  obtain ⟨h0, h1, h2, h3, h4, h5, h6, h7, h8, h9, h10, h11, h12, h13, -⟩ := h
  intro j v hv
  rw [Nat.zero_add]
  match j, hv with
  | 0, hv => cases hv; exact h0
  | 1, hv => cases hv; exact h1
  | 2, hv => cases hv; exact h2
  | 3, hv => cases hv; exact h3
  | 4, hv => cases hv; exact h4
  | 5, hv => cases hv; exact h5
  | 6, hv => cases hv; exact h6
  | 7, hv => cases hv; exact h7
  | 8, hv => cases hv; exact h8
  | 9, hv => cases hv; exact h9
  | 10, hv => cases hv; exact h10
  | 11, hv => cases hv; exact h11
  | 12, hv => cases hv; exact h12
  | 13, hv => cases hv; exact h13
  | j + 14, hv => simp at hv
set_option maxHeartbeats 3200000 in
set_option maxRecDepth 100000 in
theorem longEnt_any (x : EntV) (w : World) : Calls Tryz.prog 5 #[.agg (encEnt x).toArray] w fun e w' => e = .returned (.int .i64 (longN x : Nat)) ∧ Below w.heap.size w w' := by
  have BB := Lib.hid (below_one w (.cells (encEnt x).toArray 29))
  have hl := Lies.row (w := w.alloc (.cells (encEnt x).toArray 29)) (encEnt x) (heap_alloc_new _ _)
  obtain ⟨r, hr⟩ : ∃ r, r = longN x := ⟨_, rfl⟩
  rw [← hr]
  have HR := Lib.hid (show r = if 20 < x.1.length ∨ 30 < x.2.1.1.length ∨ 30 < x.2.2.1.1.length ∨ 30 < x.2.2.1.2.1.length ∨ 30 < x.2.2.2.1.1.length ∨ 30 < x.2.2.2.2.1.1.length then 1 else 0 from hr)
  clear hr
  have c0 : (w.alloc (.cells (encEnt x).toArray 29)).cell? ⟨w.heap.size, 0, none⟩ = some (.string ⟨(x.1).toArray⟩) := hl.at 0 _ rfl
  have c1 : (w.alloc (.cells (encEnt x).toArray 29)).cell? ⟨w.heap.size, 1, none⟩ = some (.string ⟨(x.2.1.1).toArray⟩) := hl.at 1 _ rfl
  have c3 : (w.alloc (.cells (encEnt x).toArray 29)).cell? ⟨w.heap.size, 3, none⟩ = some (.string ⟨(x.2.2.1.1).toArray⟩) := hl.at 3 _ rfl
  have c4 : (w.alloc (.cells (encEnt x).toArray 29)).cell? ⟨w.heap.size, 4, none⟩ = some (.string ⟨(x.2.2.1.2.1).toArray⟩) := hl.at 4 _ rfl
  have c7 : (w.alloc (.cells (encEnt x).toArray 29)).cell? ⟨w.heap.size, 7, none⟩ = some (.string ⟨(x.2.2.2.1.1).toArray⟩) := hl.at 7 _ rfl
  have c10 : (w.alloc (.cells (encEnt x).toArray 29)).cell? ⟨w.heap.size, 10, none⟩ = some (.string ⟨(x.2.2.2.2.1.1).toArray⟩) := hl.at 10 _ rfl
  clear hl
  generalize x.1 = k at c0 HR
  generalize x.2.1.1 = g1 at c1 HR
  generalize x.2.2.1.1 = l1 at c3 HR
  generalize x.2.2.1.2.1 = l2 at c4 HR
  generalize x.2.2.2.1.1 = f1 at c7 HR
  generalize x.2.2.2.2.1.1 = t1 at c10 HR
  generalize encEnt x = L at *
  by_cases h0 : 20 < k.length
  · have b0 : (20 : Int) < (k.length : Int) := by omega
    go_enter Tryz.func5, Tryz.ntmps5
    go_wp2_with fail
    go_ret
    rw [HR.out, if_pos (.inl h0)]
    exact ⟨rfl, BB.out⟩
  · have b0 : ¬ (20 : Int) < (k.length : Int) := by omega
    by_cases h1 : 30 < g1.length
    · have b1 : (30 : Int) < (g1.length : Int) := by omega
      go_enter Tryz.func5, Tryz.ntmps5
      go_wp2_with fail
      go_ret
      rw [HR.out, if_pos (.inr (.inl h1))]
      exact ⟨rfl, BB.out⟩
    · have b1 : ¬ (30 : Int) < (g1.length : Int) := by omega
      by_cases h3 : 30 < l1.length
      · have b3 : (30 : Int) < (l1.length : Int) := by omega
        go_enter Tryz.func5, Tryz.ntmps5
        go_wp2_with fail
        go_ret
        rw [HR.out, if_pos (.inr (.inr (.inl h3)))]
        exact ⟨rfl, BB.out⟩
      · have b3 : ¬ (30 : Int) < (l1.length : Int) := by omega
        by_cases h4 : 30 < l2.length
        · have b4 : (30 : Int) < (l2.length : Int) := by omega
          go_enter Tryz.func5, Tryz.ntmps5
          go_wp2_with fail
          go_ret
          rw [HR.out, if_pos (.inr (.inr (.inr (.inl h4))))]
          exact ⟨rfl, BB.out⟩
        · have b4 : ¬ (30 : Int) < (l2.length : Int) := by omega
          by_cases h7 : 30 < f1.length
          · have b7 : (30 : Int) < (f1.length : Int) := by omega
            go_enter Tryz.func5, Tryz.ntmps5
            go_wp2_with fail
            go_ret
            rw [HR.out, if_pos (.inr (.inr (.inr (.inr (.inl h7)))))]
            exact ⟨rfl, BB.out⟩
          · have b7 : ¬ (30 : Int) < (f1.length : Int) := by omega
            by_cases h10 : 30 < t1.length
            · have b10 : (30 : Int) < (t1.length : Int) := by omega
              go_enter Tryz.func5, Tryz.ntmps5
              go_wp2_with fail
              go_ret
              rw [HR.out, if_pos (.inr (.inr (.inr (.inr (.inr h10)))))]
              exact ⟨rfl, BB.out⟩
            · have b10 : ¬ (30 : Int) < (t1.length : Int) := by omega
              go_enter Tryz.func5, Tryz.ntmps5
              go_wp2_with fail
              go_ret
              rw [HR.out, if_neg (by omega)]
              exact ⟨rfl, BB.out⟩

theorem entBack_plain {x y : EntV} (hx : entE x = 0) (hy : entE y = 0) : (entText x == entText y) = decide (x = y) := by
  by_cases h : x = y
  · rw [h, decide_eq_true rfl]
    exact beq_self_eq_true _
  · rw [decide_eq_false h]
    exact beq_eq_false_iff_ne.2 fun e => h (ent_text_inj hx hy e)
theorem entText_size (x : EntV) : (entText x).length ≤ 1000000 := by
  unfold entText
  split
  · simp
  · rename_i hE
    have hE : entE x = 0 := by simpa using hE
    split
    · rename_i h
      have hg := goods_zero hE h
      have a1 := (nameB_len hg.1).2
      have a2 := Lib.itoa_length_le x.2.1.2 (by omega) (by omega)
      have a3 : kGoods.length = 5 := rfl
      simp only [List.length_append, List.length_singleton]
      omega
    · rename_i h1
      split
      · rename_i h
        have := lotText_len x.2.2.1 (lot_zero hE h)
        have a3 : kLot.length = 3 := rfl
        simp only [List.length_append, List.length_singleton]
        omega
      · rename_i h2
        have hP : isP x.1 = true := by
          cases hp : isP x.1
          · rw [entE_kind h1 h2 hp] at hE; cases hE
          · rfl
        obtain ⟨hn1, -, -, hn2, hn3, -⟩ := pieces_zero (by rw [← entE_pieces hP]; exact hE)
        have a1 := (nameB_len hn1).2
        have a2 := isP_len hP
        have a3 := Lib.itoa_length_le x.2.2.2.2.2 (by omega) (by omega)
        have a4 := placeText_len x.2.2.2.1
        have a5 := placeText_len x.2.2.2.2.1
        unfold wordsP
        cases hasF x.1 <;> cases hasT x.1 <;> simp [joinL] <;> omega

theorem len14 {L : List Value} (h : L.length = 14) : ∃ a b c d e f g i j k l m n o, L = [a, b, c, d, e, f, g, i, j, k, l, m, n, o] := by
  match L, h with
  | [a, b, c, d, e, f, g, i, j, k, l, m, n, o], _ => exact ⟨a, b, c, d, e, f, g, i, j, k, l, m, n, o, rfl⟩
end Go.Proofs.YtpifbahafnaejaaGreatDoor
namespace Go.Proofs.YtpifbahafnaejaaGreatDoor
open Go.RowKit Go.ChangeShapes

/-- A sentinel: the variable g holds a pointer a to a text, in a row that is not frozen. -/
structure Sent (g : Nat) (a : Addr) (text : List UInt8) (w : World) : Prop where
  at_ : ErrAt g a w
  text : ∃ s : ByteArray, w.cell? a = some (.string s) ∧ s.data.toList = text
  row : ∃ cs t, w.heap[a.block]? = some (.cells cs t (0, 0))
theorem Sent.below {g : Nat} {a : Addr} {l : List UInt8} {w w' : World} (h : Sent g a l w) (hb : Below w.heap.size w w') : Sent g a l w' := by
  obtain ⟨s, hs, ht⟩ := h.text
  obtain ⟨cs, t, hr⟩ := h.row
  exact ⟨h.at_.below hb, ⟨s, by rw [hb.cell (lt_of_cell hs)]; exact hs, ht⟩, ⟨cs, t, by rw [hb.block _ (lt_of_cell hs)]; exact hr⟩⟩

theorem errRow : ∀ u, Tryz.prog.typeName? 3 u = some "*errors.errorString" → u = 177 := fun u h =>
  typeName_ptr_named (nm := "errors.errorString") (by kernel_rfl) (by kernel_rfl) (by decide) u h

set_option maxRecDepth 100000 in
theorem sent_of {n : String} {l : List UInt8} {r : List (String × DataW Unit)} {W : World} {g : Nat}
    (h : laidMet Tryz.prog ((n, .iface "*errors.errorString" (.ptr (.agg [.lit (.string l)]))) :: r) W)
    (hg : Tryz.prog.globalNamed n = some g) (ht : (Tryz.prog.globals[g]?).map (·.type) = some 33) : ∃ a, Sent g a l W := by
  obtain ⟨ps, ⟨g0, t0, cs0, f0, p0, q0, hg0, ht0, hv0, hd0, _, e0⟩, _, hrows⟩ := h
  obtain rfl := Option.some.inj (hg.symm.trans hg0)
  obtain rfl := Option.some.inj (ht.symm.trans ht0)
  subst e0
  obtain ⟨l0⟩ := cs0
  have ok0 : ∀ u v, l0 = [.iface u v] → Value.okWide Tryz.prog W .any 0 u v := fun u v e => by
    subst e
    exact (hrows g 0 (by simp [MemPlace.row])).2 u v (by simpa using World.var?_cell hg0 hv0 0)
  obtain ⟨a0, s0, rfl, hc0, hs0, hz0, rfl⟩ := errorString_of_trod Tryz.underlying33 errRow Tryz.underlying177 Tryz.underlying179 rfl rfl Tryz.underlying9 (by kernel_rfl) (by kernel_rfl) hd0 ok0
  obtain ⟨c0, t0, hb0⟩ := (hrows a0.block a0.off (by simp [MemPlace.row])).1
  exact ⟨a0, by unfold ErrAt; simpa using World.var?_cell hg0 hv0 0, ⟨s0, hc0, hs0⟩, ⟨c0, t0, hb0⟩⟩

end Go.Proofs.YtpifbahafnaejaaGreatDoor
namespace Go.Proofs.YtpifbahafnaejaaGreatDoor
open Go.RowKit Go.Extern.Stop Go.Stop Go.Extern

/-! Closed facts: reflectlite's entries at this program's types. -/
theorem isTypeOf (v : Value) (w : World) : (Extern.ReflectliteType.typeOf #[.iface 177 v]).run Tryz.prog w = .ok (.iface 119 (.agg #[.pointer (some ⟨21, 177, none⟩)])) w := by kernel_rfl
theorem isComparable (w : World) : ((Extern.ReflectliteType.method fun t => do Extern.Rtype.noPackHeld "Comparable" t; (fun a => Value.bool a.comparable) <$> typeInfo t) #[.agg #[.pointer (some ⟨21, 177, none⟩)]]).run Tryz.prog w = .ok (.bool true) w := by kernel_rfl
theorem isMethodComparable (v : Value) (w : World) : (Go.method 310 119 v "Comparable").run Tryz.prog w = .ok (146, v) w := by kernel_rfl
theorem isComp : (Tryz.prog.info? 177).map (·.comparable) = some true := by kernel_rfl
theorem isSize : (Tryz.prog.info? 179).map (·.size) = some 1 := by kernel_rfl
theorem noIsE (v : Value) (xT : TypeId) (w : World) : (Instr.typeAssert (.iface 177 v) xT 130 true).run Tryz.prog w = .ok (.tuple #[.nilIface, .bool false]) w := run_typeAssert_lacksB Tryz.underlying130 (by kernel_rfl) (by kernel_rfl) v xT w
theorem noUnwrapE (v : Value) (xT : TypeId) (w : World) : (Instr.typeAssert (.iface 177 v) xT 126 true).run Tryz.prog w = .ok (.tuple #[.nilIface, .bool false]) w := run_typeAssert_lacksB Tryz.underlying126 (by kernel_rfl) (by kernel_rfl) v xT w
theorem noUnwrapsE (v : Value) (xT : TypeId) (w : World) : (Instr.typeAssert (.iface 177 v) xT 128 true).run Tryz.prog w = .ok (.tuple #[.nilIface, .bool false]) w := run_typeAssert_lacksB Tryz.underlying128 (by kernel_rfl) (by kernel_rfl) v xT w
theorem noAsE (v : Value) (xT : TypeId) (w : World) : (Instr.typeAssert (.iface 177 v) xT 123 true).run Tryz.prog w = .ok (.tuple #[.nilIface, .bool false]) w := run_typeAssert_lacksB Tryz.underlying123 (by kernel_rfl) (by kernel_rfl) v xT w
theorem noIsF (v : Value) (xT : TypeId) (w : World) : (Instr.typeAssert (.iface 83 v) xT 130 true).run Tryz.prog w = .ok (.tuple #[.nilIface, .bool false]) w := run_typeAssert_lacksB Tryz.underlying130 (by kernel_rfl) (by kernel_rfl) v xT w
theorem hasUnwrapF (v : Value) (xT : TypeId) (w : World) : (Instr.typeAssert (.iface 83 v) xT 126 true).run Tryz.prog w = .ok (.tuple #[.iface 83 v, .bool true]) w := run_typeAssert_hasB Tryz.underlying126 (by kernel_rfl) v xT w
theorem methodUnwrapF (v : Value) (w : World) : (Go.method 310 83 v "Unwrap").run Tryz.prog w = .ok (140, v) w := by kernel_rfl

theorem ex_TypeOf : ∀ (args : Array Value) (w : World), (callFunc 64 args).run Tryz.prog w = ((Extern.ReflectliteType.typeOf args).run Tryz.prog w).andThen fun v w' => .ok (.value v) w' :=
  @run_callFunc_extern Tryz.prog 64 _ Extern.ReflectliteType.typeOf Tryz.func64 (by kernel_rfl) (by kernel_rfl) (by kernel_rfl) (by kernel_rfl)
theorem ex_Comparable : ∀ (args : Array Value) (w : World), (callFunc 146 args).run Tryz.prog w = (((Extern.ReflectliteType.method fun t => do Extern.Rtype.noPackHeld "Comparable" t; pure (.bool (← typeInfo t).comparable)) args).run Tryz.prog w).andThen fun v w' => .ok (.value v) w' :=
  @run_callFunc_extern Tryz.prog 146 _ (Extern.ReflectliteType.method fun t => do Extern.Rtype.noPackHeld "Comparable" t; pure (.bool (← typeInfo t).comparable)) Tryz.func146 (by kernel_rfl) (by kernel_rfl) (by kernel_rfl) (by kernel_rfl)

/-- errors.Is(x, x), x a sentinel. -/
theorem is_same (a : Addr) (w : World) :
    Calls Tryz.prog 47 #[.iface 177 (.pointer (some a)), .iface 177 (.pointer (some a))] w fun e w' => e = .returned (.bool true) ∧ w = w' := by
  obtain ⟨i, hi, hcmp⟩ := Option.map_eq_some_iff.1 isComp
  obtain ⟨j, hj, hjs⟩ := Option.map_eq_some_iff.1 isSize
  have h8 := ex_TypeOf
  have h32 := ex_Comparable
  have tT := isTypeOf
  have cT := isComparable
  have mR := isMethodComparable
  have heq := run_eql_iface_ptr_same (P := Tryz.prog) w a Tryz.underlying33 Tryz.underlying177 hi hcmp hj
  go_enter Tryz.func47, Tryz.ntmps47
  go_wp2
  refine wp_loop_rounds 1 ?_
  rw [rounds_succ]
  go_wp2
  go_ret
  exact ⟨rfl, rfl⟩

/-- errors.Is of two unlike errors of errors.New's make. -/
theorem is_other (a b : Addr) (ca cb : Array Value) (ta tb : TypeId) (w : World) (hne : a ≠ b) (ha : w.heap[a.block]? = some (.cells ca ta (0, 0))) (hb : w.heap[b.block]? = some (.cells cb tb (0, 0))) :
    Calls Tryz.prog 47 #[.iface 177 (.pointer (some a)), .iface 177 (.pointer (some b))] w fun e w' => e = .returned (.bool false) ∧ w = w' := by
  obtain ⟨i, hi, hcmp⟩ := Option.map_eq_some_iff.1 isComp
  obtain ⟨j, hj, hjs⟩ := Option.map_eq_some_iff.1 isSize
  have h8 := ex_TypeOf
  have h32 := ex_Comparable
  have tT := isTypeOf
  have cT := isComparable
  have mR := isMethodComparable
  have nE := noIsE
  have uE := noUnwrapE
  have vE := noUnwrapsE
  have heq := run_eql_iface_ptr_other (P := Tryz.prog) w Tryz.underlying33 Tryz.underlying177 hi hcmp hj (by rw [hjs]; decide) hne ha hb
  go_enter Tryz.func47, Tryz.ntmps47
  go_wp2
  refine wp_loop_rounds 1 ?_
  rw [rounds_succ]
  go_wp2
  go_ret
  exact ⟨rfl, rfl⟩

/-- errors.Is of a fault that wraps x, and x. -/
theorem is_fault_same (pb po : Nat) (b : Addr) (w : World) (h1 : w.cell? ⟨pb, po + 1, none⟩ = some (.iface 177 (.pointer (some b)))) :
    Calls Tryz.prog 47 #[.iface 83 (.pointer (some ⟨pb, po, none⟩)), .iface 177 (.pointer (some b))] w fun e w' => e = .returned (.bool true) ∧ w = w' := by
  obtain ⟨i, hi, hcmp⟩ := Option.map_eq_some_iff.1 isComp
  obtain ⟨j, hj, hjs⟩ := Option.map_eq_some_iff.1 isSize
  have h8 := ex_TypeOf
  have h32 := ex_Comparable
  have tT := isTypeOf
  have cT := isComparable
  have mR := isMethodComparable
  have nE := noIsE
  have uE := noUnwrapE
  have vE := noUnwrapsE
  have nW := noIsF
  have uW := hasUnwrapF
  have mU := methodUnwrapF
  have heq := run_eql_iface_ptr_same (P := Tryz.prog) w b Tryz.underlying33 Tryz.underlying177 hi hcmp hj
  have hty := run_eql_iface_types (P := Tryz.prog) 83 177 (.pointer (some ⟨pb, po, none⟩)) (.pointer (some b)) Tryz.underlying33 (by decide) w
  go_enter Tryz.func47, Tryz.ntmps47
  go_wp2
  refine wp_loop_rounds 2 ?_
  rw [rounds_succ]
  go_wp2
  rw [rounds_succ]
  go_wp2
  go_ret
  exact ⟨rfl, rfl⟩

/-- errors.Is of a fault that wraps another error of errors.New's make. -/
theorem is_fault_other (pb po : Nat) (b a : Addr) (ca cb : Array Value) (ta tb : TypeId) (w : World) (h1 : w.cell? ⟨pb, po + 1, none⟩ = some (.iface 177 (.pointer (some a)))) (hne : a ≠ b) (ha : w.heap[a.block]? = some (.cells ca ta (0, 0))) (hb : w.heap[b.block]? = some (.cells cb tb (0, 0))) :
    Calls Tryz.prog 47 #[.iface 83 (.pointer (some ⟨pb, po, none⟩)), .iface 177 (.pointer (some b))] w fun e w' => e = .returned (.bool false) ∧ w = w' := by
  obtain ⟨i, hi, hcmp⟩ := Option.map_eq_some_iff.1 isComp
  obtain ⟨j, hj, hjs⟩ := Option.map_eq_some_iff.1 isSize
  have h8 := ex_TypeOf
  have h32 := ex_Comparable
  have tT := isTypeOf
  have cT := isComparable
  have mR := isMethodComparable
  have nE := noIsE
  have uE := noUnwrapE
  have vE := noUnwrapsE
  have nW := noIsF
  have uW := hasUnwrapF
  have mU := methodUnwrapF
  have heq := run_eql_iface_ptr_other (P := Tryz.prog) w Tryz.underlying33 Tryz.underlying177 hi hcmp hj (by rw [hjs]; decide) hne ha hb
  have hty := run_eql_iface_types (P := Tryz.prog) 83 177 (.pointer (some ⟨pb, po, none⟩)) (.pointer (some b)) Tryz.underlying33 (by decide) w
  go_enter Tryz.func47, Tryz.ntmps47
  go_wp2
  refine wp_loop_rounds 2 ?_
  rw [rounds_succ]
  go_wp2
  rw [rounds_succ]
  go_wp2
  go_ret
  exact ⟨rfl, rfl⟩
end Go.Proofs.YtpifbahafnaejaaGreatDoor
namespace Go.Proofs.YtpifbahafnaejaaGreatDoor
open Go.RowKit Go.Extern.Stop Go.Stop Go.Extern

/-! ### CLOSED FACTS ON THE MODEL's ENTRIES FOR internal/reflectlite, at this program's types: 25: *p.E · 27: **p.E · 23: error · 45: reflectlite's rtype · 1: how many package-level variables the dump has -/
theorem as_valueOf27 (t : Addr) (w : World) : (ReflectliteValue.unpack (.iface 85 (.pointer (some t)))).run Tryz.prog w
    = .ok (.agg #[.pointer (some ⟨21, 85, none⟩), .pointer (some ⟨w.heap.size, 0, none⟩), .int .u64 150]) (w.alloc (.cells #[.pointer (some t)] 85)) := by kernel_rfl
theorem as_type27 (a : Addr) (w : World) : (ReflectliteValue.methodAny (ReflectliteValue.valueError "reflectlite.Value.Type" 0) (fun t _ _ _ => ReflectliteType.toType t) #[.agg #[.pointer (some ⟨21, 85, none⟩), .pointer (some a), .int .u64 150]]).run Tryz.prog w
    = .ok (.iface 119 (.agg #[.pointer (some ⟨21, 85, none⟩)])) w := by kernel_rfl
theorem as_methodKind (h : Value) (w : World) : (Go.method 310 119 (.agg #[h]) "Kind").run Tryz.prog w = .ok (135, h) w := by kernel_rfl
theorem as_kind27 (w : World) : ((ReflectliteType.abiMethod fun t => (fun a : Nat => Value.int IntKind.u8 (a : Int)) <$> Rtype.kind t) #[.pointer (some ⟨21, 85, none⟩)]).run Tryz.prog w = .ok (.int .u8 22) w := by kernel_rfl
theorem as_kind25 (w : World) : ((ReflectliteType.abiMethod fun t => (fun a : Nat => Value.int IntKind.u8 (a : Int)) <$> Rtype.kind t) #[.pointer (some ⟨21, 83, none⟩)]).run Tryz.prog w = .ok (.int .u8 22) w := by kernel_rfl

/-! ### THE ENTRIES THAT READ OR WRITE MEMORY: laws with a premise on the cell (after Derived/Lib/ReflectliteSlice.lean's manner: each unfolding a lemma of its own, by rfl) -/
theorem rlm (z : Sem Value) (f : TypeId → Addr → Nat → Nat → Sem Value) (v : Value) :
    ReflectliteValue.method z f #[v] = (do match ← ReflectliteValue.parts v with | none => z | some (t, a, fl) => f t a fl (fl % 32)) := rfl
theorem as_parts27 (a : Addr) (w : World) : (ReflectliteValue.parts (.agg #[.pointer (some ⟨21, 85, none⟩), .pointer (some a), .int .u64 150])).run Tryz.prog w = .ok (some (85, a, 150)) w := by kernel_rfl
/-- (Value).IsNil at the Value of a **p.E that is not nil. -/
theorem as_isNil27 (a p : Addr) (W : World) (ha : W.cell? a = some (.pointer (some p))) :
    (ReflectliteValue.method (ReflectliteValue.valueError "reflectlite.Value.IsNil" 0) ReflectliteValue.isNil #[.agg #[.pointer (some ⟨21, 85, none⟩), .pointer (some a), .int .u64 150]]).run Tryz.prog W = .ok (.bool false) W := by
  rw [rlm]
  simp only [Sem.run_bind, as_parts27, Result.andThen]
  simp [ReflectliteValue.isNil, loadVar, isAgg, underlying, Tryz.underlying85, ha, Result.andThen]

theorem as_methodElem (h : Value) (w : World) : (Go.method 310 119 (.agg #[h]) "Elem").run Tryz.prog w = .ok (147, .agg #[h]) w := by kernel_rfl
theorem as_methodImplements (h : Value) (w : World) : (Go.method 310 119 (.agg #[h]) "Implements").run Tryz.prog w = .ok (148, .agg #[h]) w := by kernel_rfl
theorem as_methodAssignableTo (h : Value) (w : World) : (Go.method 310 119 (.agg #[h]) "AssignableTo").run Tryz.prog w = .ok (145, .agg #[h]) w := by kernel_rfl
theorem as_elem27 (w : World) : (ReflectliteType.method ReflectliteType.elem #[.agg #[.pointer (some ⟨21, 85, none⟩)]]).run Tryz.prog w = .ok (.iface 119 (.agg #[.pointer (some ⟨21, 83, none⟩)])) w := by kernel_rfl
theorem as_implements25 (w : World) : (ReflectliteType.relation "Implements" ReflectliteType.implements_ #[.agg #[.pointer (some ⟨21, 83, none⟩)], .iface 119 (.agg #[.pointer (some ⟨21, 33, none⟩)])]).run Tryz.prog w = .ok (.bool true) w := by kernel_rfl
theorem as_typeOf25 (v : Value) (w : World) : (ReflectliteType.typeOf #[.iface 83 v]).run Tryz.prog w = .ok (.iface 119 (.agg #[.pointer (some ⟨21, 83, none⟩)])) w := by kernel_rfl
theorem as_assignable25 (w : World) : (ReflectliteType.relation "AssignableTo" ReflectliteType.assignableTo #[.agg #[.pointer (some ⟨21, 83, none⟩)], .iface 119 (.agg #[.pointer (some ⟨21, 83, none⟩)])]).run Tryz.prog w = .ok (.bool true) w := by kernel_rfl
theorem as_valueOf25 (e : Addr) (w : World) : (ReflectliteValue.unpack (.iface 83 (.pointer (some e)))).run Tryz.prog w
    = .ok (.agg #[.pointer (some ⟨21, 83, none⟩), .pointer (some ⟨w.heap.size, 0, none⟩), .int .u64 150]) (w.alloc (.cells #[.pointer (some e)] 83)) := by kernel_rfl

theorem as_elemOf27 (w : World) : (Rtype.elem? 85).run Tryz.prog w = .ok (some 83) w := by kernel_rfl
theorem as_mk25 (p : Addr) (w : World) : (ReflectliteValue.mk 83 p ReflectliteValue.flagAddr).run Tryz.prog w = .ok (.agg #[.pointer (some ⟨21, 83, none⟩), .pointer (some p), .int .u64 406]) w := by kernel_rfl
/-- (Value).Elem at the Value of a **p.E that is not nil: the Value of the *p.E variable that it points to, addressable. -/
theorem as_elemV27 (a p : Addr) (W : World) (ha : W.cell? a = some (.pointer (some p))) :
    (ReflectliteValue.method (ReflectliteValue.valueError "reflectlite.Value.Elem" 0) ReflectliteValue.elem #[.agg #[.pointer (some ⟨21, 85, none⟩), .pointer (some a), .int .u64 150]]).run Tryz.prog W
      = .ok (.agg #[.pointer (some ⟨21, 83, none⟩), .pointer (some p), .int .u64 406]) W := by
  rw [rlm]
  simp only [Sem.run_bind, as_parts27, Result.andThen]
  simp [ReflectliteValue.elem, loadVar, isAgg, underlying, Tryz.underlying85, ha, Result.andThen, as_elemOf27, as_mk25]
theorem rls (v x : Value) : ReflectliteValue.set #[v, x] = (do
    let (some (dst, a, fl), some (src, b, _)) := (← ReflectliteValue.parts v, ← ReflectliteValue.parts x)
      | unsupported (.noEntry "extern/(internal/reflectlite.Value).Set.zeroValue")
    if fl / ReflectliteValue.flagAddr % 2 == 0 then unsupported (.noEntry "extern/(internal/reflectlite.Value).Set.unaddressable")
    let val ← loadVar src b
    if ← Rtype.directlyAssignable dst src then storeVar dst a val
    else if ← Rtype.implements dst src then
      if (← Rtype.kind src) == 20 then
        match val with
        | .nilIface => unsupported (.noEntry "extern/reflectlite: a nil value of one interface type handed on as a value of another")
        | _ => storeVar dst a val
      else storeVar dst a (.iface src val)
    else panicString ("reflectlite.Set: value of type " ++ (← Rtype.spelt src) ++ " is not assignable to type " ++ (← Rtype.spelt dst))
    pure (.tuple #[])) := rfl
theorem as_parts25a (a : Addr) (w : World) : (ReflectliteValue.parts (.agg #[.pointer (some ⟨21, 83, none⟩), .pointer (some a), .int .u64 406])).run Tryz.prog w = .ok (some (83, a, 406)) w := by kernel_rfl
theorem as_parts25 (a : Addr) (w : World) : (ReflectliteValue.parts (.agg #[.pointer (some ⟨21, 83, none⟩), .pointer (some a), .int .u64 150])).run Tryz.prog w = .ok (some (83, a, 150)) w := by kernel_rfl
theorem as_direct25 (w : World) : (Rtype.directlyAssignable 83 83).run Tryz.prog w = .ok true w := by kernel_rfl
theorem as_size25 (w : World) : (sizeOf 83).run Tryz.prog w = .ok 1 w := by kernel_rfl
/-- (Value).Set: the *p.E variable at 'ta' gets what the Value's own variable 'b' holds. -/
theorem as_set25 (ta b e : Addr) (old : Value) (W : World) (hb : W.cell? b = some (.pointer (some e))) (ht : W.cell? ta = some old) (hf : W.frozen? ta = false) :
    (ReflectliteValue.set #[.agg #[.pointer (some ⟨21, 83, none⟩), .pointer (some ta), .int .u64 406], .agg #[.pointer (some ⟨21, 83, none⟩), .pointer (some b), .int .u64 150]]).run Tryz.prog W
      = .ok (.tuple #[]) (W.setCell ta (.pointer (some e))) := by
  rw [rls]
  simp only [Sem.run_bind, as_parts25a, as_parts25, Result.andThen]
  simp [ReflectliteValue.flagAddr, loadVar, isAgg, underlying, Tryz.underlying83, hb, Result.andThen, as_direct25, storeVar, Value.cells, storeCells, Addr.add]
  rw [run_store Tryz.prog W ta _ _ (by rfl)]
  simp [ht, hf]

theorem ex_h6 : ∀ (args : Array Value) (w : World), (callFunc 60 args).run Tryz.prog w = (((fun args => ReflectliteValue.unpack (args.getD 0 (.tuple #[]))) args).run Tryz.prog w).andThen fun v w' => .ok (.value v) w' :=
  @run_callFunc_extern Tryz.prog 60 _ (fun args => ReflectliteValue.unpack (args.getD 0 (.tuple #[]))) Tryz.func60 (by kernel_rfl) (by kernel_rfl) (by kernel_rfl) (by kernel_rfl)
theorem ex_h7 : ∀ (args : Array Value) (w : World), (callFunc 61 args).run Tryz.prog w = (((ReflectliteValue.methodAny (ReflectliteValue.valueError "reflectlite.Value.Type" 0) (fun t _ _ _ => ReflectliteType.toType t)) args).run Tryz.prog w).andThen fun v w' => .ok (.value v) w' :=
  @run_callFunc_extern Tryz.prog 61 _ (ReflectliteValue.methodAny (ReflectliteValue.valueError "reflectlite.Value.Type" 0) (fun t _ _ _ => ReflectliteType.toType t)) Tryz.func61 (by kernel_rfl) (by kernel_rfl) (by kernel_rfl) (by kernel_rfl)
theorem ex_h8 : ∀ (args : Array Value) (w : World), (callFunc 62 args).run Tryz.prog w = (((ReflectliteValue.method (ReflectliteValue.valueError "reflectlite.Value.IsNil" 0) ReflectliteValue.isNil) args).run Tryz.prog w).andThen fun v w' => .ok (.value v) w' :=
  @run_callFunc_extern Tryz.prog 62 _ (ReflectliteValue.method (ReflectliteValue.valueError "reflectlite.Value.IsNil" 0) ReflectliteValue.isNil) Tryz.func62 (by kernel_rfl) (by kernel_rfl) (by kernel_rfl) (by kernel_rfl)
theorem ex_h27 : ∀ (args : Array Value) (w : World), (callFunc 135 args).run Tryz.prog w = (((ReflectliteType.abiMethod fun t => do pure (.int .u8 (← Rtype.kind t))) args).run Tryz.prog w).andThen fun v w' => .ok (.value v) w' :=
  @run_callFunc_extern Tryz.prog 135 _ (ReflectliteType.abiMethod fun t => do pure (.int .u8 (← Rtype.kind t))) Tryz.func135 (by kernel_rfl) (by kernel_rfl) (by kernel_rfl) (by kernel_rfl)
theorem ex_h37 : ∀ (args : Array Value) (w : World), (callFunc 147 args).run Tryz.prog w = (((ReflectliteType.method ReflectliteType.elem) args).run Tryz.prog w).andThen fun v w' => .ok (.value v) w' :=
  @run_callFunc_extern Tryz.prog 147 _ (ReflectliteType.method ReflectliteType.elem) Tryz.func147 (by kernel_rfl) (by kernel_rfl) (by kernel_rfl) (by kernel_rfl)
theorem ex_h38 : ∀ (args : Array Value) (w : World), (callFunc 148 args).run Tryz.prog w = (((ReflectliteType.relation "Implements" ReflectliteType.implements_) args).run Tryz.prog w).andThen fun v w' => .ok (.value v) w' :=
  @run_callFunc_extern Tryz.prog 148 _ (ReflectliteType.relation "Implements" ReflectliteType.implements_) Tryz.func148 (by kernel_rfl) (by kernel_rfl) (by kernel_rfl) (by kernel_rfl)
theorem ex_h35 : ∀ (args : Array Value) (w : World), (callFunc 145 args).run Tryz.prog w = (((ReflectliteType.relation "AssignableTo" ReflectliteType.assignableTo) args).run Tryz.prog w).andThen fun v w' => .ok (.value v) w' :=
  @run_callFunc_extern Tryz.prog 145 _ (ReflectliteType.relation "AssignableTo" ReflectliteType.assignableTo) Tryz.func145 (by kernel_rfl) (by kernel_rfl) (by kernel_rfl) (by kernel_rfl)
theorem ex_h11 : ∀ (args : Array Value) (w : World), (callFunc 77 args).run Tryz.prog w = (((ReflectliteValue.method (ReflectliteValue.valueError "reflectlite.Value.Elem" 0) ReflectliteValue.elem) args).run Tryz.prog w).andThen fun v w' => .ok (.value v) w' :=
  @run_callFunc_extern Tryz.prog 77 _ (ReflectliteValue.method (ReflectliteValue.valueError "reflectlite.Value.Elem" 0) ReflectliteValue.elem) Tryz.func77 (by kernel_rfl) (by kernel_rfl) (by kernel_rfl) (by kernel_rfl)
theorem ex_h12 : ∀ (args : Array Value) (w : World), (callFunc 78 args).run Tryz.prog w = ((ReflectliteValue.set args).run Tryz.prog w).andThen fun v w' => .ok (.value v) w' :=
  @run_callFunc_extern Tryz.prog 78 _ ReflectliteValue.set Tryz.func78 (by kernel_rfl) (by kernel_rfl) (by kernel_rfl) (by kernel_rfl)

set_option maxHeartbeats 4000000 in
theorem as_hit (e t : Addr) (old : Value) (w : World) (hg : w.cell? ⟨12, 0, none⟩ = some (.iface 119 (.agg #[.pointer (some ⟨21, 33, none⟩)]))) (ht0 : w.cell? t = some old) (hf0 : w.frozen? t = false) :
    Calls Tryz.prog 46 #[.iface 83 (.pointer (some e)), .iface 85 (.pointer (some t))] w fun ev w' => ev = .returned (.bool true) ∧ w' = ((((w.alloc (.cells #[.pointer (some t)] 85)).alloc (.cells #[.pointer (some ⟨21, 85, none⟩), .pointer (some ⟨w.heap.size, 0, none⟩), .int .u64 150] 98)).alloc (.cells #[.pointer (some ⟨21, 85, none⟩), .pointer (some ⟨w.heap.size, 0, none⟩), .int .u64 150] 98)).alloc (.cells #[.pointer (some e)] 83)).setCell t (.pointer (some e)) := by
  have h6 := ex_h6
  have h7 := ex_h7
  have h8 := ex_h8
  have h27 := ex_h27
  have h37 := ex_h37
  have h38 := ex_h38
  have h10 := ex_TypeOf
  have h35 := ex_h35
  have h11 := ex_h11
  have h12 := ex_h12
  have tO := as_typeOf25
  have mA := as_methodAssignableTo
  have a25 := as_assignable25
  have v25 := as_valueOf25
  have f6 := as_valueOf27
  have f7 := as_type27
  have mK := as_methodKind
  have mE := as_methodElem
  have mI := as_methodImplements
  have k27 := as_kind27
  have k25 := as_kind25
  have e27 := as_elem27
  have i25 := as_implements25
  have n8 := as_isNil27 ⟨w.heap.size, 0, none⟩ t ((w.alloc (.cells #[.pointer (some t)] 85)).alloc (.cells #[.pointer (some ⟨21, 85, none⟩), .pointer (some ⟨w.heap.size, 0, none⟩), .int .u64 150] 98)) (by simp)
  have hlt : 12 < w.heap.size := by
    exact lt_of_cell hg
  have hg2 : ((w.alloc (.cells #[.pointer (some t)] 85)).alloc (.cells #[.pointer (some ⟨21, 85, none⟩), .pointer (some ⟨w.heap.size, 0, none⟩), .int .u64 150] 98)).cell? ⟨12, 0, none⟩ = some (.iface 119 (.agg #[.pointer (some ⟨21, 33, none⟩)])) := by
    rw [World.cell?_alloc_lt _ _ ⟨12, 0, none⟩ (by simp; omega), World.cell?_alloc_lt _ _ ⟨12, 0, none⟩ hlt]; exact hg
  have htl : t.block < w.heap.size := by
    rcases Nat.lt_or_ge t.block w.heap.size with h | h
    · exact h
    · simp [World.cell?, Array.getElem?_eq_none h] at ht0
  have el := as_elemV27 ⟨w.heap.size, 0, none⟩ t (((w.alloc (.cells #[.pointer (some t)] 85)).alloc (.cells #[.pointer (some ⟨21, 85, none⟩), .pointer (some ⟨w.heap.size, 0, none⟩), .int .u64 150] 98)).alloc (.cells #[.pointer (some ⟨21, 85, none⟩), .pointer (some ⟨w.heap.size, 0, none⟩), .int .u64 150] 98)) (by rw [World.cell?_alloc_lt _ _ ⟨w.heap.size, 0, none⟩ (by simp; omega)]; simp)
  have st := as_set25 t ⟨w.heap.size + 1 + 1 + 1, 0, none⟩ e old ((((w.alloc (.cells #[.pointer (some t)] 85)).alloc (.cells #[.pointer (some ⟨21, 85, none⟩), .pointer (some ⟨w.heap.size, 0, none⟩), .int .u64 150] 98)).alloc (.cells #[.pointer (some ⟨21, 85, none⟩), .pointer (some ⟨w.heap.size, 0, none⟩), .int .u64 150] 98)).alloc (.cells #[.pointer (some e)] 83))
    (by rw [World.cell?_alloc_at _ _ _ _ (by simp)]; rfl)
    (by rw [World.cell?_alloc_lt _ _ t (by simp; omega), World.cell?_alloc_lt _ _ t (by simp; omega), World.cell?_alloc_lt _ _ t (by simp; omega), World.cell?_alloc_lt _ _ t htl]; exact ht0)
    (by rw [World.frozen?_alloc_old _ _ t (by simp; omega), World.frozen?_alloc_old _ _ t (by simp; omega), World.frozen?_alloc_old _ _ t (by simp; omega), World.frozen?_alloc_old _ _ t (Nat.ne_of_lt htl)]; exact hf0)
  go_enter Tryz.func46, Tryz.ntmps46
  go_wp2
  refine wp_loop_rounds 1 ?_
  rw [rounds_succ]
  go_wp2
  go_ret
  exact ⟨rfl, rfl⟩


theorem as_typeOfE (v : Value) (w : World) : (ReflectliteType.typeOf #[.iface 177 v]).run Tryz.prog w = .ok (.iface 119 (.agg #[.pointer (some ⟨21, 177, none⟩)])) w := by kernel_rfl
theorem as_assignableE (w : World) : (ReflectliteType.relation "AssignableTo" ReflectliteType.assignableTo #[.agg #[.pointer (some ⟨21, 177, none⟩)], .iface 119 (.agg #[.pointer (some ⟨21, 83, none⟩)])]).run Tryz.prog w = .ok (.bool false) w := by kernel_rfl

set_option maxHeartbeats 4000000 in
theorem as_miss (a t : Addr) (old : Value) (w : World) (hg : w.cell? ⟨12, 0, none⟩ = some (.iface 119 (.agg #[.pointer (some ⟨21, 33, none⟩)]))) (_ : w.cell? t = some old) :
    Calls Tryz.prog 46 #[.iface 177 (.pointer (some a)), .iface 85 (.pointer (some t))] w fun ev w' => ev = .returned (.bool false) ∧ Below w.heap.size w w' := by
  have h6 := ex_h6
  have h7 := ex_h7
  have h8 := ex_h8
  have h27 := ex_h27
  have h37 := ex_h37
  have h38 := ex_h38
  have h10 := ex_TypeOf
  have h35 := ex_h35
  have tO := as_typeOfE
  have mA := as_methodAssignableTo
  have aE := as_assignableE
  have f6 := as_valueOf27
  have f7 := as_type27
  have mK := as_methodKind
  have mE := as_methodElem
  have mI := as_methodImplements
  have k27 := as_kind27
  have k25 := as_kind25
  have e27 := as_elem27
  have i25 := as_implements25
  have uE := noUnwrapE
  have vE := noUnwrapsE
  have nA := noAsE
  have n8 := as_isNil27 ⟨w.heap.size, 0, none⟩ t ((w.alloc (.cells #[.pointer (some t)] 85)).alloc (.cells #[.pointer (some ⟨21, 85, none⟩), .pointer (some ⟨w.heap.size, 0, none⟩), .int .u64 150] 98)) (by simp)
  have hlt : 12 < w.heap.size := by
    exact lt_of_cell hg
  have hg2 : ((w.alloc (.cells #[.pointer (some t)] 85)).alloc (.cells #[.pointer (some ⟨21, 85, none⟩), .pointer (some ⟨w.heap.size, 0, none⟩), .int .u64 150] 98)).cell? ⟨12, 0, none⟩ = some (.iface 119 (.agg #[.pointer (some ⟨21, 33, none⟩)])) := by
    rw [World.cell?_alloc_lt _ _ ⟨12, 0, none⟩ (by simp; omega), World.cell?_alloc_lt _ _ ⟨12, 0, none⟩ hlt]; exact hg
  go_enter Tryz.func46, Tryz.ntmps46
  go_wp2
  refine wp_loop_rounds 1 ?_
  rw [rounds_succ]
  go_wp2
  go_ret
  exact ⟨rfl, (((Below.refl _ _).alloc (Nat.le_refl _) _).alloc (by simp) _).alloc (by simp; omega) _⟩
end Go.Proofs.YtpifbahafnaejaaGreatDoor
namespace Go.Proofs.YtpifbahafnaejaaGreatDoor
open Go.RowKit

/-- The variable of an error's number. -/
def gErr : Nat → Nat
  | 1 => 2 | 2 => 3 | 3 => 1 | 4 => 0 | 5 => 4 | 6 => 5
  | 7 => 6 | 8 => 7 | 9 => 8 | 10 => 9 | 11 => 10 | _ => 11

theorem lt_of_row {w : World} {b : Nat} {o : Obj} (h : w.heap[b]? = some o) : b < w.heap.size := by
  rcases Nat.lt_or_ge b w.heap.size with hl | hl
  · exact hl
  · rw [Array.getElem?_eq_none hl] at h; cases h

/-- The twelve sentinels, and errors' own variable. -/
structure ErrG (E : Nat → Addr) (w : World) : Prop where
  at_ : ∀ k, 1 ≤ k → k ≤ 12 → ErrAt (gErr k) (E k) w
  row : ∀ k, 1 ≤ k → k ≤ 12 → ∃ cs t, w.heap[(E k).block]? = some (.cells cs t (0, 0))
  inj : ∀ i j, 1 ≤ i → i ≤ 12 → 1 ≤ j → j ≤ 12 → E i = E j → i = j
  ty : w.cell? ⟨12, 0, none⟩ = some (.iface 119 (.agg #[.pointer (some ⟨21, 33, none⟩)]))
theorem ErrG.below {E : Nat → Addr} {w w' : World} (h : ErrG E w) (hb : Below w.heap.size w w') : ErrG E w' :=
  ⟨fun k h1 h2 => (h.at_ k h1 h2).below hb, fun k h1 h2 => (h.row k h1 h2).elim fun cs hh => hh.elim fun t hr => ⟨cs, t, (hb.block _ (lt_of_row hr)).trans hr⟩,
    h.inj, (hb.cell (lt_of_cell h.ty)).trans h.ty⟩

/-- How errors.Is answers of an error whose number is K (0: none of them). -/
def IsK (E : Nat → Addr) (v : Value) (K : Nat) (w : World) : Prop :=
  ∀ (k : Nat) (W : World), 1 ≤ k → k ≤ 12 → Below w.heap.size w W → Calls Tryz.prog 47 #[v, .iface 177 (.pointer (some (E k)))] W fun e w' => e = .returned (.bool (decide (k = K))) ∧ W = w'

/-- What plain.Code answers. -/
def codeOf (K : Nat) : Int := if K = 0 then -1 else K

theorem code_nil (w : World) : Calls Tryz.prog 26 #[.nilIface] w fun e w' => e = .returned (.tuple #[.int .i64 0, .int .i64 (-1)]) ∧ w = w' := by
  go_enter Tryz.func26, Tryz.ntmps26
  go_wp2
  go_ret2
  exact ⟨rfl, rfl⟩

theorem cells12 (E : Nat → Addr) (w : World) : ∀ k, k < 12 → (w.alloc (.cells #[.iface 177 (.pointer (some (E 1))), .iface 177 (.pointer (some (E 2))), .iface 177 (.pointer (some (E 3))), .iface 177 (.pointer (some (E 4))), .iface 177 (.pointer (some (E 5))), .iface 177 (.pointer (some (E 6))), .iface 177 (.pointer (some (E 7))), .iface 177 (.pointer (some (E 8))), .iface 177 (.pointer (some (E 9))), .iface 177 (.pointer (some (E 10))), .iface 177 (.pointer (some (E 11))), .iface 177 (.pointer (some (E 12)))] 33)).cell? ⟨w.heap.size, k, none⟩ = some (.iface 177 (.pointer (some (E (k + 1))))) := by
  intro k hk
  rcases (show k = 0 ∨ k = 1 ∨ k = 2 ∨ k = 3 ∨ k = 4 ∨ k = 5 ∨ k = 6 ∨ k = 7 ∨ k = 8 ∨ k = 9 ∨ k = 10 ∨ k = 11 by omega) with rfl | rfl | rfl | rfl | rfl | rfl | rfl | rfl | rfl | rfl | rfl | rfl <;> simp

set_option maxHeartbeats 1000000 in
/-- An error that bears no place. -/
theorem code_miss (E : Nat → Addr) (tv : TypeId) (pv : Value) (K : Nat) (w : World) (hG : ErrG E w) (hK : K ≤ 12) (hIs : IsK E (.iface tv pv) K w)
    (hAs : ∀ (t : Addr) (old : Value) (W : World), Below w.heap.size w W → W.cell? t = some old → Calls Tryz.prog 46 #[.iface tv pv, .iface 85 (.pointer (some t))] W fun ev w' => ev = .returned (.bool false) ∧ Below W.heap.size W w') :
    Calls Tryz.prog 26 #[.iface tv pv] w fun e w' => e = .returned (.tuple #[.int .i64 (codeOf K), .int .i64 (-1)]) ∧ Below w.heap.size w w' := by
  have HIs := Lib.hid hIs
  have HAs := Lib.hid hAs
  clear hIs hAs
  go_enter Tryz.func26, Tryz.ntmps26
  go_wp2_with fail
  refine (HAs.out _ (.pointer none) _ ((Below.refl _ _).alloc (Nat.le_refl _) _) (by simp)).mono ?_
  rintro e w1 ⟨rfl, hb1⟩
  have hb : Below w.heap.size w w1 := ((Below.refl w.heap.size w).alloc (Nat.le_refl _) _).trans (hb1.mono (by simp))
  have hG1 := hG.below hb
  have c1 := hG1.at_ 1 (by omega) (by omega)
  have c2 := hG1.at_ 2 (by omega) (by omega)
  have c3 := hG1.at_ 3 (by omega) (by omega)
  have c4 := hG1.at_ 4 (by omega) (by omega)
  have c5 := hG1.at_ 5 (by omega) (by omega)
  have c6 := hG1.at_ 6 (by omega) (by omega)
  have c7 := hG1.at_ 7 (by omega) (by omega)
  have c8 := hG1.at_ 8 (by omega) (by omega)
  have c9 := hG1.at_ 9 (by omega) (by omega)
  have c10 := hG1.at_ 10 (by omega) (by omega)
  have c11 := hG1.at_ 11 (by omega) (by omega)
  have c12 := hG1.at_ 12 (by omega) (by omega)
  simp only [gErr, ErrAt] at c1 c2 c3 c4 c5 c6 c7 c8 c9 c10 c11 c12
  go_wp2_with fail
  clear c1 c2 c3 c4 c5 c6 c7 c8 c9 c10 c11 c12 hG1
  have hc := cells12 E w1
  have hb2 : Below w.heap.size w (w1.alloc (.cells #[.iface 177 (.pointer (some (E 1))), .iface 177 (.pointer (some (E 2))), .iface 177 (.pointer (some (E 3))), .iface 177 (.pointer (some (E 4))), .iface 177 (.pointer (some (E 5))), .iface 177 (.pointer (some (E 6))), .iface 177 (.pointer (some (E 7))), .iface 177 (.pointer (some (E 8))), .iface 177 (.pointer (some (E 9))), .iface 177 (.pointer (some (E 10))), .iface 177 (.pointer (some (E 11))), .iface 177 (.pointer (some (E 12)))] 33)) := hb.alloc hb.size _
  generalize w1.alloc (.cells #[.iface 177 (.pointer (some (E 1))), .iface 177 (.pointer (some (E 2))), .iface 177 (.pointer (some (E 3))), .iface 177 (.pointer (some (E 4))), .iface 177 (.pointer (some (E 5))), .iface 177 (.pointer (some (E 6))), .iface 177 (.pointer (some (E 7))), .iface 177 (.pointer (some (E 8))), .iface 177 (.pointer (some (E 9))), .iface 177 (.pointer (some (E 10))), .iface 177 (.pointer (some (E 11))), .iface 177 (.pointer (some (E 12)))] 33) = w2 at hc hb2 ⊢
  generalize w1.heap.size = g at hc ⊢
  have HC := Lib.hid hc
  clear hc hb1 hb hG
  go_loop [3, 30] (fun a i => ∃ k : Nat, k ≤ 12 ∧ (K = 0 ∨ k < K) ∧ a = .int .i64 (-1) ∧ i = .int .i64 k) (fun _ i => 12 - (intOf i).toNat)
  case atStart => exact ⟨0, by omega, by omega, rfl, rfl⟩
  case round =>
    obtain ⟨k, hk, hlt, rfl, rfl⟩ := hrel
    by_cases h12 : k < 12
    · have hcell := HC.out k h12
      by_cases hKk : k + 1 = K
      · have hd : decide (k + 1 = K) = true := by simpa using hKk
        have HF := Lib.hid (show codeOf K = ((k : Int) + 1) by unfold codeOf; rw [if_neg (by omega), ← hKk]; rfl)
        clear hKk hlt
        go_wp2_with fail
        refine (HIs.out (k + 1) _ (by omega) (by omega) hb2).mono ?_
        rw [hd]
        rintro e w3 ⟨rfl, rfl⟩
        go_wp2_with fail
        go_ret2
        refine ⟨?_, hb2⟩
        rw [HF.out]
        rfl
      · have hd : decide (k + 1 = K) = false := by simpa using hKk
        go_wp2_with fail
        refine (HIs.out (k + 1) _ (by omega) (by omega) hb2).mono ?_
        rw [hd]
        rintro e w3 ⟨rfl, rfl⟩
        go_wp2_with fail
        go_round
        case rel => exact ⟨k + 1, by omega, by omega, rfl, by go_num⟩
        case measure => simp [intOf]; omega
    · have HF := Lib.hid (show codeOf K = -1 by unfold codeOf; rw [if_pos (by omega)])
      have hk12 : 12 ≤ k := by omega
      clear hlt
      go_wp2_with fail
      go_ret2
      refine ⟨?_, hb2⟩
      rw [HF.out]
      rfl

set_option maxRecDepth 100000 in
set_option maxHeartbeats 1000000 in
/-- A fault with a place. -/
theorem code_hit (E : Nat → Addr) (p : Addr) (n : Int) (K : Nat) (w : World) (hG : ErrG E w) (hK : K ≤ 12) (hp : w.cell? p = some (.int .i64 n)) (hIs : IsK E (.iface 83 (.pointer (some p))) K w) :
    Calls Tryz.prog 26 #[.iface 83 (.pointer (some p))] w fun e w' => e = .returned (.tuple #[.int .i64 (codeOf K), .int .i64 n]) ∧ Below w.heap.size w w' := by
  have HIs := Lib.hid hIs
  have hA := as_hit p ⟨w.heap.size, 0, none⟩ (.pointer none) (w.alloc (.cells #[.pointer none] 83)) (hG.below ((Below.refl _ _).alloc (Nat.le_refl _) _)).ty (by simp) (by simp)
  have HA := Lib.hid (hA.mono fun ev w' (h : ev = .returned (.bool true) ∧ w' = _) => (show ev = .returned (.bool true) ∧ Below w.heap.size w w' ∧ w'.cell? ⟨w.heap.size, 0, none⟩ = some (.pointer (some p)) ∧ w.heap.size < w'.heap.size from by
    obtain ⟨he, rfl⟩ := h
    refine ⟨he, ?_, ?_, by simp [World.setCell]; omega⟩
    · exact (((((((Below.refl w.heap.size w).alloc (Nat.le_refl _) _).alloc (by simp) _).alloc (by simp; omega) _).alloc (by simp; omega) _).alloc (by simp; omega) _)).setCell (by simp) _
    · refine World.cell?_setCell_same (u := .pointer none) _ _ _ ?_
      rw [World.cell?_alloc_lt _ _ ⟨w.heap.size, 0, none⟩ (by simp; omega), World.cell?_alloc_lt _ _ ⟨w.heap.size, 0, none⟩ (by simp; omega), World.cell?_alloc_lt _ _ ⟨w.heap.size, 0, none⟩ (by simp; omega), World.cell?_alloc_lt _ _ ⟨w.heap.size, 0, none⟩ (by simp)]
      simp))
  clear hIs hA
  go_enter Tryz.func26, Tryz.ntmps26
  go_wp2_with fail
  refine HA.out.mono ?_
  rintro e w1 ⟨rfl, hb, hcellF, hsz⟩
  have hp1 : w1.cell? p = some (.int .i64 n) := (hb.cell (lt_of_cell hp)).trans hp
  have hb1 : True := trivial
  have hG1 := hG.below hb
  have c1 := hG1.at_ 1 (by omega) (by omega)
  have c2 := hG1.at_ 2 (by omega) (by omega)
  have c3 := hG1.at_ 3 (by omega) (by omega)
  have c4 := hG1.at_ 4 (by omega) (by omega)
  have c5 := hG1.at_ 5 (by omega) (by omega)
  have c6 := hG1.at_ 6 (by omega) (by omega)
  have c7 := hG1.at_ 7 (by omega) (by omega)
  have c8 := hG1.at_ 8 (by omega) (by omega)
  have c9 := hG1.at_ 9 (by omega) (by omega)
  have c10 := hG1.at_ 10 (by omega) (by omega)
  have c11 := hG1.at_ 11 (by omega) (by omega)
  have c12 := hG1.at_ 12 (by omega) (by omega)
  simp only [gErr, ErrAt] at c1 c2 c3 c4 c5 c6 c7 c8 c9 c10 c11 c12
  go_wp2_with fail
  clear c1 c2 c3 c4 c5 c6 c7 c8 c9 c10 c11 c12 hG1
  have hc := cells12 E w1
  have hb2 : Below w.heap.size w (w1.alloc (.cells #[.iface 177 (.pointer (some (E 1))), .iface 177 (.pointer (some (E 2))), .iface 177 (.pointer (some (E 3))), .iface 177 (.pointer (some (E 4))), .iface 177 (.pointer (some (E 5))), .iface 177 (.pointer (some (E 6))), .iface 177 (.pointer (some (E 7))), .iface 177 (.pointer (some (E 8))), .iface 177 (.pointer (some (E 9))), .iface 177 (.pointer (some (E 10))), .iface 177 (.pointer (some (E 11))), .iface 177 (.pointer (some (E 12)))] 33)) := hb.alloc hb.size _
  generalize w1.alloc (.cells #[.iface 177 (.pointer (some (E 1))), .iface 177 (.pointer (some (E 2))), .iface 177 (.pointer (some (E 3))), .iface 177 (.pointer (some (E 4))), .iface 177 (.pointer (some (E 5))), .iface 177 (.pointer (some (E 6))), .iface 177 (.pointer (some (E 7))), .iface 177 (.pointer (some (E 8))), .iface 177 (.pointer (some (E 9))), .iface 177 (.pointer (some (E 10))), .iface 177 (.pointer (some (E 11))), .iface 177 (.pointer (some (E 12)))] 33) = w2 at hc hb2 ⊢
  generalize w1.heap.size = g at hc ⊢
  have HC := Lib.hid hc
  clear hc hb1 hb hG
  go_loop [3, 30] (fun a i => ∃ k : Nat, k ≤ 12 ∧ (K = 0 ∨ k < K) ∧ a = .int .i64 n ∧ i = .int .i64 k) (fun _ i => 12 - (intOf i).toNat)
  case atStart => exact ⟨0, by omega, by omega, rfl, rfl⟩
  case round =>
    obtain ⟨k, hk, hlt, rfl, rfl⟩ := hrel
    by_cases h12 : k < 12
    · have hcell := HC.out k h12
      by_cases hKk : k + 1 = K
      · have hd : decide (k + 1 = K) = true := by simpa using hKk
        have HF := Lib.hid (show codeOf K = ((k : Int) + 1) by unfold codeOf; rw [if_neg (by omega), ← hKk]; rfl)
        clear hKk hlt
        go_wp2_with fail
        refine (HIs.out (k + 1) _ (by omega) (by omega) hb2).mono ?_
        rw [hd]
        rintro e w3 ⟨rfl, rfl⟩
        go_wp2_with fail
        go_ret2
        refine ⟨?_, hb2⟩
        rw [HF.out]
        rfl
      · have hd : decide (k + 1 = K) = false := by simpa using hKk
        go_wp2_with fail
        refine (HIs.out (k + 1) _ (by omega) (by omega) hb2).mono ?_
        rw [hd]
        rintro e w3 ⟨rfl, rfl⟩
        go_wp2_with fail
        go_round
        case rel => exact ⟨k + 1, by omega, by omega, rfl, by go_num⟩
        case measure => simp [intOf]; omega
    · have HF := Lib.hid (show codeOf K = -1 by unfold codeOf; rw [if_pos (by omega)])
      have hk12 : 12 ≤ k := by omega
      clear hlt
      go_wp2_with fail
      go_ret2
      refine ⟨?_, hb2⟩
      rw [HF.out]
      rfl
end Go.Proofs.YtpifbahafnaejaaGreatDoor
