/- Stock: At, Copy. Plain facts: three-way compares, one behind the other, and the strict orders that they make. Places: their compare; Ahead. A world with more blocks than one. Lines of a stock: their compare. -/
import Derived.Shelf.SlMaps.Clone
import Derived.IntWalk
import Derived.Test.YtmhkcmoepopnoaaGreatDoorM04
import Derived.Test.YtmhkcmoepopnoaaGreatDoorM05
namespace Go.Proofs.YtmhkcmoepopnoaaGreatDoor
open Go.RowKit Go.Sort Go.Proofs

theorem look_stk {w : World} {p b : Nat} {m : StkV} (h : StkAt w p b m) (pl : PlaceV) (lot : List UInt8) :
    (Instr.lookup 69 (.map (some b)) (.agg #[.string ⟨pl.1.toArray⟩, .int .i64 pl.2.1, .int .i64 pl.2.2, .string ⟨lot.toArray⟩]) false).run Tryz.prog w = .ok (.int .i64 (atM m (pl, lot) : Nat)) w := h.2.look keyOk Tryz.underlying69 (zeroNat _) (pl, lot) false
theorem look_stk2 {w : World} {p b : Nat} {m : StkV} (h : StkAt w p b m) (pl : PlaceV) (lot : List UInt8) :
    (Instr.lookup 69 (.map (some b)) (.agg #[.string ⟨pl.1.toArray⟩, .int .i64 pl.2.1, .int .i64 pl.2.2, .string ⟨lot.toArray⟩]) true).run Tryz.prog w = .ok (.tuple #[.int .i64 (atM m (pl, lot) : Nat), .bool (mget m (pl, lot)).isSome]) w := h.2.look keyOk Tryz.underlying69 (zeroNat _) (pl, lot) true

set_option maxHeartbeats 400000 in
theorem atStock_any (p b : Nat) (m : StkV) (pl : PlaceV) (lot : List UInt8) (w : World) (h : StkAt w p b m) :
    Calls Tryz.prog 18 #[.pointer (some ⟨p, 0, none⟩), .agg (encPlace pl).toArray, .string ⟨lot.toArray⟩] w fun e w' => e = .returned (.int .i64 (atM m (pl, lot) : Nat)) ∧ Below w.heap.size w w' := by
  have B := Lib.hid (below_one w (.cells (encPlace pl).toArray 24))
  have h1 := h.below B.out
  have hl := look_stk (w := (w.alloc (.cells (encPlace pl).toArray 24)).drew) (h1 : StkAt _ p b m) pl lot
  have c0 := h1.cell
  generalize atM m (pl, lot) = a at hl ⊢
  obtain ⟨a1, a2, a3⟩ := pl
  simp only [encPlace] at hl c0 B ⊢
  clear h h1
  go_enter Tryz.func18, Tryz.ntmps18
  go_wp2
  go_region
  all_goals
    go_wp2
    go_ret
    exact ⟨rfl, B.out.drew⟩

set_option maxHeartbeats 1600000 in
set_option maxRecDepth 100000 in
theorem cloneStk_any (b : Nat) (es : Array MapEntry) (clock : Nat) (w : World) (hb : w.heap[b]? = some (.map es clock)) :
    Calls Tryz.prog 42 #[.map (some b)] w fun e w' => e = .returned (.map (some w.heap.size)) ∧ w' = w.alloc (.map es clock) := by
  have hq := fun w => run_eql_map_nil_sl (P := Tryz.prog) w 69 _ _ (some b) Tryz.underlying69
  go_enter Tryz.func42, Tryz.ntmps42
  go_wp2
  rw [run_callFunc_extern Tryz.func82 (by kernel_rfl) (by kernel_rfl) (by kernel_rfl) (e := Extern.MapsClone.clone) (by kernel_rfl), run_maps_clone_sl w 69 hb]
  simp only [Result.andThen]
  rw [Oper.upon_value]
  go_wp2
  rw [run_typeAssert_map_sl _ 69 _ _ _ _ Tryz.underlying69]
  simp only [Result.andThen]
  rw [Oper.upon_value]
  go_wp2
  go_ret
  exact ⟨rfl, rfl⟩

set_option maxHeartbeats 400000 in
theorem copyStock_any (p b : Nat) (m : StkV) (w : World) (h : StkAt w p b m) :
    Calls Tryz.prog 16 #[.pointer (some ⟨p, 0, none⟩)] w fun e w' => ∃ q c, e = .returned (.pointer (some ⟨q, 0, none⟩)) ∧ w.heap.size ≤ q ∧ w.heap.size ≤ c ∧ StkAt w' q c m ∧ Below w.heap.size w w' := by
  have c0 := h.cell
  obtain ⟨-, es, clock, hb, hs, hm⟩ := h
  go_enter Tryz.func16, Tryz.ntmps16
  go_wp2_with fail
  refine (cloneStk_any b es clock w hb).mono ?_
  rintro e w1 ⟨rfl, rfl⟩
  have B1 := below_two w (.map es clock) (.cells #[.map (some w.heap.size)] 71)
  have hm1 : ((w.alloc (.map es clock)).alloc (.cells #[.map (some w.heap.size)] 71)).heap[w.heap.size]? = some (.map es clock) := ((below_one (w.alloc (.map es clock)) _).block _ (by simp)).trans (heap_alloc_new _ _)
  have hp1 := heap_alloc_new (w.alloc (.map es clock)) (.cells #[.map (some w.heap.size)] 71)
  go_wp2_with fail
  go_ret
  exact ⟨_, w.heap.size, rfl, by simp, Nat.le_refl _, ⟨by simpa using hp1, es, clock, hm1, hs, hm⟩, B1⟩
end Go.Proofs.YtmhkcmoepopnoaaGreatDoor
namespace Go.Proofs.YtmhkcmoepopnoaaGreatDoor
open Go.RowKit Go.Sort Go.Proofs

/-- A three-way compare. -/
structure CmpLike {α : Type} (c : α → α → Int) : Prop where
  swap : ∀ x y, c y x < 0 ↔ 0 < c x y
  trans : ∀ x y z, c x y ≤ 0 → c y z ≤ 0 → c x z ≤ 0
theorem CmpLike.zero {α : Type} {c : α → α → Int} (h : CmpLike c) {x y : α} (h0 : c x y = 0) : c y x = 0 := by
  have a := h.swap x y
  have b := h.swap y x
  omega
theorem CmpLike.refl {α : Type} {c : α → α → Int} (h : CmpLike c) (x : α) : c x x = 0 := by
  have a := h.swap x x
  omega
theorem CmpLike.then_ {α : Type} {c d : α → α → Int} (h : CmpLike c) (k : CmpLike d) : CmpLike fun x y => if c x y = 0 then d x y else c x y where
  swap x y := by
    have a := h.swap x y
    have b := h.swap y x
    have p := k.swap x y
    by_cases h0 : c x y = 0
    · rw [if_pos h0, if_pos (h.zero h0)]; exact p
    · rw [if_neg h0, if_neg (by omega)]; exact a
  trans x y z h1 h2 := by
    have t1 : c x y ≤ 0 := by
      by_cases h0 : c x y = 0
      · omega
      · rwa [if_neg h0] at h1
    have t2 : c y z ≤ 0 := by
      by_cases h0 : c y z = 0
      · omega
      · rwa [if_neg h0] at h2
    have t3 := h.trans x y z t1 t2
    by_cases h0 : c x z = 0
    · have h0' := h.zero h0
      have u1 := h.trans y z x t2 (by omega)
      have u2 := h.trans z x y (by omega) t1
      have s1 := h.swap y x
      have s2 := h.swap z y
      have e1 : c x y = 0 := by omega
      have e2 : c y z = 0 := by omega
      rw [if_pos e1] at h1
      rw [if_pos e2] at h2
      rw [if_pos h0]
      exact k.trans x y z h1 h2
    · rw [if_neg h0]; exact t3
theorem CmpLike.swo {α : Type} {c : α → α → Int} (h : CmpLike c) : SWO (ltOf c) where
  irrefl x := by
    have := h.refl x
    unfold ltOf
    simp [this]
  trans x y z h1 h2 := by
    unfold ltOf at *
    rw [decide_eq_true_iff] at *
    have t := h.trans x y z (by omega) (by omega)
    have s := h.swap x y
    have s3 := h.swap x z
    have s3' := h.swap z x
    by_cases h0 : c x z = 0
    · have u := h.trans y z x (by omega) (by have := h.zero h0; omega)
      have s2 := h.swap y x
      omega
    · omega
  ntrans x y z h1 h2 := by
    unfold ltOf at *
    rw [decide_eq_false_iff_not] at *
    have a1 := h.swap x y
    have a2 := h.swap y x
    have b1 := h.swap y z
    have b2 := h.swap z y
    have t := h.trans z y x (by omega) (by omega)
    have c1 := h.swap x z
    have c2 := h.swap z x
    omega
theorem CmpLike.sub {α : Type} (f : α → Int) : CmpLike fun x y => f x - f y where
  swap x y := by constructor <;> intro h <;> omega
  trans x y z h1 h2 := by omega
theorem CmpLike.ints {α : Type} (f : α → Int) : CmpLike fun x y => Lib.compareInt (f x) (f y) where
  swap x y := by
    unfold Lib.compareInt
    by_cases h1 : f x < f y
    · have : ¬ f y < f x := by omega
      simp [h1, this]
    · by_cases h2 : f y < f x <;> simp [h1, h2]
  trans x y z h1 h2 := by
    unfold Lib.compareInt at *
    by_cases a1 : f x < f y <;> by_cases a2 : f y < f x <;> by_cases b1 : f y < f z <;> by_cases b2 : f z < f y <;> simp_all <;> split <;> (try split) <;> omega
theorem CmpLike.bytes {α : Type} (f : α → List UInt8) : CmpLike fun x y => Lib.compareBytes (f x) (f y) where
  swap x y := by rw [cmpB_swap (f x) (f y)]; omega
  trans x y z h1 h2 := by
    by_cases e1 : Lib.compareBytes (f x) (f y) = 0
    · rw [(cmpB_eq _ _).1 e1]; exact h2
    · by_cases e2 : Lib.compareBytes (f y) (f z) = 0
      · rw [← (cmpB_eq _ _).1 e2]; exact h1
      · have := cmpB_trans (f x) (f y) (f z) (by omega) (by omega)
        omega
theorem CmpLike.on {α β : Type} {c : α → α → Int} (h : CmpLike c) (f : β → α) : CmpLike fun x y => c (f x) (f y) where
  swap _ _ := h.swap _ _
  trans _ _ _ := h.trans _ _ _
theorem CmpLike.congr {α : Type} {c d : α → α → Int} (h : CmpLike c) (e : ∀ x y, d x y = c x y) : CmpLike d := by
  have : d = c := funext fun x => funext fun y => e x y
  rw [this]; exact h
end Go.Proofs.YtmhkcmoepopnoaaGreatDoor
namespace Go.Proofs.YtmhkcmoepopnoaaGreatDoor
open Go.RowKit Go.Sort Go.Proofs

/-- The compare of two places, on the way. -/
def cfPlace (x y : PlaceV) : Int := orL [Lib.compareBytes x.1 y.1, x.2.1 - y.2.1, if x.2.1 % 2 = 0 then -(x.2.2 - y.2.2) else x.2.2 - y.2.2]
def sbP (x : PlaceV) : Int := if x.2.1 % 2 = 0 then -x.2.2 else x.2.2
theorem likePlace : CmpLike cfPlace :=
  ((CmpLike.bytes (α := PlaceV) Prod.fst).then_ ((CmpLike.sub (α := PlaceV) (fun x => x.2.1)).then_ (CmpLike.sub sbP))).congr fun x y => by
    unfold cfPlace orL orL orL orL sbP
    by_cases h1 : Lib.compareBytes x.1 y.1 = 0
    · rw [if_pos h1, if_pos h1]
      by_cases h2 : x.2.1 - y.2.1 = 0
      · rw [if_pos h2, if_pos h2]
        have h3 : y.2.1 = x.2.1 := by omega
        rw [h3]
        by_cases h4 : x.2.1 % 2 = 0
        · simp only [if_pos h4]
          split <;> omega
        · simp only [if_neg h4]
          split <;> omega
      · rw [if_neg h2, if_neg h2]
    · rw [if_neg h1, if_neg h1]
theorem cfPlace_zero (x y : PlaceV) : cfPlace x y = 0 ↔ x = y := by
  constructor
  · intro h
    unfold cfPlace orL orL orL orL at h
    by_cases h1 : Lib.compareBytes x.1 y.1 = 0
    · rw [if_pos h1] at h
      by_cases h2 : x.2.1 - y.2.1 = 0
      · rw [if_pos h2] at h
        have e1 := (cmpB_eq _ _).1 h1
        have e2 : x.2.1 = y.2.1 := by omega
        have e3 : x.2.2 = y.2.2 := by
          by_cases h4 : x.2.1 % 2 = 0
          · simp only [if_pos h4] at h
            split at h <;> omega
          · simp only [if_neg h4] at h
            split at h <;> omega
        exact Prod.ext e1 (Prod.ext e2 e3)
      · rw [if_neg h2] at h; exact absurd h h2
    · rw [if_neg h1] at h; exact absurd h h1
  · rintro rfl
    exact likePlace.refl x

/-- Rows and bays of a well place. -/
def InP (x : PlaceV) : Prop := 1 ≤ x.2.1 ∧ x.2.1 ≤ 20 ∧ 1 ≤ x.2.2 ∧ x.2.2 ≤ 40
theorem InP.of {x : PlaceV} (h : placeE x = 0) : InP x := (placeE_zero.1 h).2

set_option maxHeartbeats 1000000 in
theorem cmpPlace_any (x y : PlaceV) (hx : InP x) (hy : InP y) (W : World) : Calls Tryz.prog 95 #[.agg (encPlace x).toArray, .agg (encPlace y).toArray] W fun e w' => e = .returned (.int .i64 (cfPlace x y)) ∧ ∃ q os', w' = grow (W.drewN q) os' := by
  obtain ⟨a1, a2, a3⟩ := x
  obtain ⟨b1, b2, b3⟩ := y
  obtain ⟨ha1, ha2, ha3, ha4⟩ : 1 ≤ a2 ∧ a2 ≤ 20 ∧ 1 ≤ a3 ∧ a3 ≤ 40 := hx
  obtain ⟨hb1, hb2, hb3, hb4⟩ : 1 ≤ b2 ∧ b2 ≤ 20 ∧ 1 ≤ b3 ∧ b3 ≤ 40 := hy
  simp only [encPlace, cfPlace]
  obtain ⟨s, hs⟩ : ∃ s : Int, s = if a2 % 2 = 0 then -(a3 - b3) else a3 - b3 := ⟨_, rfl⟩
  have HSV := Lib.hid hs
  rw [← hs]
  have hor := fun (B : Nat) (W' : World) (h0 : W'.cell? ⟨B, 0, none⟩ = some (.int .i64 (Lib.compareBytes a1 b1))) (h1 : W'.cell? ⟨B, 1, none⟩ = some (.int .i64 (a2 - b2))) (h2 : W'.cell? ⟨B, 2, none⟩ = some (.int .i64 s)) => or_any B [Lib.compareBytes a1 b1, a2 - b2, s] W' (by simp) (fun k hk => by
    have hk' : k < 3 := hk
    rcases (show k = 0 ∨ k = 1 ∨ k = 2 by omega) with rfl | rfl | rfl
    · exact h0
    · exact h1
    · exact h2)
  have HOR := Lib.hid hor
  have hw2 : IntKind.i64.wrap (a2 - b2) = a2 - b2 := IntWalk.i64_in _ (by omega)
  have HW2 := Lib.hid hw2
  clear hor hw2
  by_cases he : a2 % 2 = 0
  all_goals
    first
      | (have heq : (a2 % 2 == 0) = true := by simpa using he
         rw [if_pos he] at hs
         clear he)
      | (have heq : (a2 % 2 == 0) = false := by simpa using he
         rw [if_neg he] at hs
         clear he)
    have HS := Lib.hid hs
    clear hs HSV
    go_enter Tryz.func95, Tryz.ntmps95
    go_wp2_with fail
    rw [← HS.out]
    have hw2 := HW2.out
    go_region_held3 (fun w' => w'.cell? ⟨W.heap.size, 0, none⟩ = some (.string ⟨a1.toArray⟩) ∧ w'.cell? ⟨W.heap.size, 1, none⟩ = some (.int .i64 a2) ∧ w'.cell? ⟨W.heap.size + 1, 0, none⟩ = some (.string ⟨b1.toArray⟩) ∧ w'.cell? ⟨W.heap.size + 1, 1, none⟩ = some (.int .i64 b2))
      (go_keep)
      (first
        | (go_at_call 96; refine (Tryz.strings_Compare _ _ _).mono ?_; rintro e w' ⟨rfl, rfl⟩)
        | (go_at_call 94; refine (HOR.out _ _ (by show (World.alloc _ _).cell? _ = _; rw [World.cell?_alloc_at _ _ _ _ (by simp)]; rfl) (by show (World.alloc _ _).cell? _ = _; rw [World.cell?_alloc_at _ _ _ _ (by simp)]; rfl) (by show (World.alloc _ _).cell? _ = _; rw [World.cell?_alloc_at _ _ _ _ (by simp)]; rfl)).mono ?_; rintro e w' ⟨rfl, rfl⟩))
    all_goals
      clear HOR hw2
      go_wp2_with fail
      go_ret
      refine ⟨rfl, 1, #[.cells #[.string ⟨a1.toArray⟩, .int .i64 a2, .int .i64 a3] 24, .cells #[.string ⟨b1.toArray⟩, .int .i64 b2, .int .i64 b3] 24, .cells #[.int .i64 (Lib.compareBytes a1 b1), .int .i64 (a2 - b2), .int .i64 s] 3], ?_⟩
      rw [alloc_eq_grow, alloc_eq_grow, alloc_eq_grow, grow_grow, grow_grow]; rfl
end Go.Proofs.YtmhkcmoepopnoaaGreatDoor
namespace Go.Proofs.YtmhkcmoepopnoaaGreatDoor
open Go.RowKit Go.Sort Go.Proofs

/-- A world with more blocks. -/
def GrW (W w' : World) : Prop := ∃ q os, w' = grow (W.drewN q) os
theorem GrW.refl (W : World) : GrW W W := ⟨0, #[], by rw [grow_empty]; rfl⟩
theorem GrW.alloc {W w' : World} (h : GrW W w') (o : Obj) : GrW W (w'.alloc o) := by
  obtain ⟨q, os, rfl⟩ := h
  exact ⟨q, os ++ #[o], by rw [alloc_eq_grow, grow_grow]⟩
theorem GrW.trans {W w' w'' : World} (h : GrW W w') (h2 : GrW w' w'') : GrW W w'' := by
  obtain ⟨q, os, rfl⟩ := h
  obtain ⟨q2, os2, rfl⟩ := h2
  refine ⟨q + q2, os ++ os2, ?_⟩
  rw [← grow_grow]
  simp [grow, World.drewN, Nat.add_assoc]
theorem GrW.drew {W w' : World} (h : GrW W w') : GrW W w'.drew := h.trans ⟨1, #[], by rw [grow_empty]; rfl⟩
theorem GrW.below {W w' : World} (h : GrW W w') : Below W.heap.size W w' := by
  obtain ⟨q, os, rfl⟩ := h
  exact below_grown W q os

end Go.Proofs.YtmhkcmoepopnoaaGreatDoor
namespace Go.Proofs.YtmhkcmoepopnoaaGreatDoor
open Go.RowKit Go.Sort Go.Proofs

/-- A line: its place, its lot, how many pieces. -/
abbrev LineV := PlaceV × List UInt8 × Int
def encLine (x : LineV) : List Value := [.string ⟨x.1.1.toArray⟩, .int .i64 x.1.2.1, .int .i64 x.1.2.2, .string ⟨x.2.1.toArray⟩, .int .i64 x.2.2]
theorem encLine_len (x : LineV) : (encLine x).length = 5 := rfl
theorem encLine_one (x : LineV) : ∀ v ∈ encLine x, v.oneCell' = true := fun v hv => by
  simp [encLine] at hv
  rcases hv with rfl | rfl | rfl | rfl | rfl <;> rfl

/-- The compare of two lines. -/
def cfLine (x y : LineV) : Int := orL [cfPlace x.1 y.1, Lib.compareBytes x.2.1 y.2.1]
theorem likeLine : CmpLike cfLine :=
  ((likePlace.on (fun x : LineV => x.1)).then_ (CmpLike.bytes (α := LineV) fun x => x.2.1)).congr fun x y => by
    unfold cfLine orL orL orL
    by_cases h1 : cfPlace x.1 y.1 = 0
    · rw [if_pos h1, if_pos h1]
      split
      · rename_i h; exact h.symm
      · rfl
    · rw [if_neg h1, if_neg h1]
set_option maxHeartbeats 1000000 in
theorem cmpLine_any (x y : LineV) (hx : InP x.1) (hy : InP y.1) (W : World) : Calls Tryz.prog 74 #[.agg (encLine x).toArray, .agg (encLine y).toArray] W fun e w' => e = .returned (.int .i64 (cfLine x y)) ∧ ∃ q os', w' = grow (W.drewN q) os' := by
  have HP := Lib.hid (fun W' => cmpPlace_any x.1 y.1 hx hy W')
  obtain ⟨⟨a1, a2, a3⟩, a4, a5⟩ := x
  obtain ⟨⟨b1, b2, b3⟩, b4, b5⟩ := y
  simp only [encLine, encPlace, cfLine] at HP ⊢
  obtain ⟨c, hc⟩ : ∃ c, c = cfPlace (a1, a2, a3) (b1, b2, b3) := ⟨_, rfl⟩
  rw [← hc] at HP ⊢
  clear hc hx hy
  have hor := fun (B : Nat) (W' : World) (h0 : W'.cell? ⟨B, 0, none⟩ = some (.int .i64 c)) (h1 : W'.cell? ⟨B, 1, none⟩ = some (.int .i64 (Lib.compareBytes a4 b4))) => or_any B [c, Lib.compareBytes a4 b4] W' (by simp) (fun k hk => by
    have hk' : k < 2 := hk
    rcases (show k = 0 ∨ k = 1 by omega) with rfl | rfl
    · exact h0
    · exact h1)
  have HOR := Lib.hid hor
  clear hor
  go_enter Tryz.func74, Tryz.ntmps74
  go_wp2_with fail
  obtain ⟨W0, hW0⟩ : ∃ W0, W0 = (W.alloc (.cells #[.string ⟨a1.toArray⟩, .int .i64 a2, .int .i64 a3, .string ⟨a4.toArray⟩, .int .i64 a5] 84)).alloc (.cells #[.string ⟨b1.toArray⟩, .int .i64 b2, .int .i64 b3, .string ⟨b4.toArray⟩, .int .i64 b5] 84) := ⟨_, rfl⟩
  have g0 : GrW W W0 := by rw [hW0]; exact ((GrW.refl W).alloc _).alloc _
  have c0 : W0.cell? ⟨W.heap.size, 0, none⟩ = some (.string ⟨a1.toArray⟩) := by rw [hW0]; go_simp
  have c1 : W0.cell? ⟨W.heap.size, 1, none⟩ = some (.int .i64 a2) := by rw [hW0]; go_simp
  have c2 : W0.cell? ⟨W.heap.size, 2, none⟩ = some (.int .i64 a3) := by rw [hW0]; go_simp
  have c3 : W0.cell? ⟨W.heap.size, 3, none⟩ = some (.string ⟨a4.toArray⟩) := by rw [hW0]; go_simp
  have d0 : W0.cell? ⟨W.heap.size + 1, 0, none⟩ = some (.string ⟨b1.toArray⟩) := by rw [hW0]; go_simp
  have d1 : W0.cell? ⟨W.heap.size + 1, 1, none⟩ = some (.int .i64 b2) := by rw [hW0]; go_simp
  have d2 : W0.cell? ⟨W.heap.size + 1, 2, none⟩ = some (.int .i64 b3) := by rw [hW0]; go_simp
  have d3 : W0.cell? ⟨W.heap.size + 1, 3, none⟩ = some (.string ⟨b4.toArray⟩) := by rw [hW0]; go_simp
  have l0 : W.heap.size + 2 ≤ W0.heap.size := by rw [hW0]; simp
  rw [← hW0]
  clear hW0
  have HK : Hid (∀ w5, Below W0.heap.size W0 w5 → w5.cell? ⟨W.heap.size, 0, none⟩ = some (.string ⟨a1.toArray⟩) ∧ w5.cell? ⟨W.heap.size, 1, none⟩ = some (.int .i64 a2) ∧ w5.cell? ⟨W.heap.size, 2, none⟩ = some (.int .i64 a3) ∧ w5.cell? ⟨W.heap.size, 3, none⟩ = some (.string ⟨a4.toArray⟩) ∧ w5.cell? ⟨W.heap.size + 1, 0, none⟩ = some (.string ⟨b1.toArray⟩) ∧ w5.cell? ⟨W.heap.size + 1, 1, none⟩ = some (.int .i64 b2) ∧ w5.cell? ⟨W.heap.size + 1, 2, none⟩ = some (.int .i64 b3) ∧ w5.cell? ⟨W.heap.size + 1, 3, none⟩ = some (.string ⟨b4.toArray⟩)) := fun w5 h5 => by
    have g := fun (b o : Nat) (v : Value) (hc : W0.cell? ⟨b, o, none⟩ = some v) => (h5.cell (p := ⟨b, o, none⟩) (lt_of_cell hc)).trans hc
    exact ⟨g _ _ _ c0, g _ _ _ c1, g _ _ _ c2, g _ _ _ c3, g _ _ _ d0, g _ _ _ d1, g _ _ _ d2, g _ _ _ d3⟩
  have K0 := HK.out _ ((Below.refl W0.heap.size W0).drew)
  clear c0 c1 c2 c3 d0 d1 d2 d3
  have hd : GrW W0 W0.drew := (GrW.refl W0).drew
  have G0 := Lib.hid g0
  clear g0
  go_region_held3 (fun w5 => w5.cell? ⟨W.heap.size, 0, none⟩ = some (.string ⟨a1.toArray⟩) ∧ w5.cell? ⟨W.heap.size, 1, none⟩ = some (.int .i64 a2) ∧ w5.cell? ⟨W.heap.size, 2, none⟩ = some (.int .i64 a3) ∧ w5.cell? ⟨W.heap.size, 3, none⟩ = some (.string ⟨a4.toArray⟩) ∧ w5.cell? ⟨W.heap.size + 1, 0, none⟩ = some (.string ⟨b1.toArray⟩) ∧ w5.cell? ⟨W.heap.size + 1, 1, none⟩ = some (.int .i64 b2) ∧ w5.cell? ⟨W.heap.size + 1, 2, none⟩ = some (.int .i64 b3) ∧ w5.cell? ⟨W.heap.size + 1, 3, none⟩ = some (.string ⟨b4.toArray⟩))
    (first | exact K0 | exact K1 | go_keep)
    (first
      | (go_at_call 95; refine (HP.out _).mono ?_; rintro e w3 ⟨rfl, hg⟩; have g3 : GrW W0 w3 := hd.trans hg; have K1 := HK.out _ g3.below)
      | (go_at_call 96; refine (Tryz.strings_Compare _ _ _).mono ?_; rintro e w' ⟨rfl, rfl⟩)
      | (go_at_call 94; refine (HOR.out _ _ (by show (World.alloc _ _).cell? _ = _; rw [World.cell?_alloc_at _ _ _ _ (by simp)]; rfl) (by show (World.alloc _ _).cell? _ = _; rw [World.cell?_alloc_at _ _ _ _ (by simp)]; rfl)).mono ?_; rintro e w' ⟨rfl, rfl⟩))
  all_goals
    have G3 := Lib.hid (G0.out.trans g3)
    clear HOR HP HK K0 K1 g3 hd
    go_wp2_with fail
    go_ret
    exact ⟨rfl, G3.out.alloc _⟩


end Go.Proofs.YtmhkcmoepopnoaaGreatDoor
