/- The document's layers as the law uses them; both layers side by side. -/
import Derived.Test.YtnblbliehfgnkaaDoorRIn
import Derived.Test.YtnblbliehfgnkaaDoorROut
import Derived.Test.YtnblbliehfgnkaaDoorRText
import Derived.Test.YtnblbliehfgnkaaDoorCost
import Derived.Test.YtnblbliehfgnkaaDoorCodedB
namespace Go.Proofs.YtnblbliehfgnkaaDoor
open Go.RowKit

theorem rin_gen (p g : Nat) (ls : Ls) (n c : Int) (w : World) (hL : LayR w p g ls) (hk : OkL ls) (hlen : ls.length ≤ 1000000) :
    Calls Tryd.prog 24 #[.pointer (some ⟨p, 0, none⟩), .int .i64 n, .int .i64 c] w fun e w' => e = .returned (.int .i64 (inE ls n c : Nat)) ∧
      ∃ g', LayR w' p g' (inS ls n c) ∧ Only p g w w' ∧ (g' = g ∨ w.heap.size ≤ g') := by
  by_cases h : n < 1 ∨ 1099511627776 < n ∨ c < 0 ∨ 1048576 < c ∨ 1099511627776 - (hasL ls : Int) < n
  · have e : inE ls n c = 2 := if_pos h
    refine (rin_no p g ls n c w hL hk hlen h).mono ?_
    rintro e' w' ⟨rfl, hb⟩
    refine ⟨by rw [e]; rfl, g, ?_, Only.of_below hb, .inl rfl⟩
    simp only [inS, e]
    exact hL.below hb
  · have e : inE ls n c = 0 := if_neg h
    obtain ⟨m, rfl⟩ := Int.eq_ofNat_of_zero_le (show (0 : Int) ≤ n by omega)
    obtain ⟨d, rfl⟩ := Int.eq_ofNat_of_zero_le (show (0 : Int) ≤ c by omega)
    refine (rin_yes p g ls m d w hL hk hlen (by omega) (by omega) (by omega)).mono ?_
    rintro e' w' ⟨rfl, g', h1, h2, h3⟩
    refine ⟨by rw [e]; rfl, g', ?_, h2, h3⟩
    simp only [inS, e]
    exact h1

theorem rout_gen (p g : Nat) (ls : Ls) (n : Int) (w : World) (hL : LayR w p g ls) (hk : OkL ls) (hlen : ls.length ≤ 1000000) :
    Calls Tryd.prog 25 #[.pointer (some ⟨p, 0, none⟩), .int .i64 n] w fun e w' => e = .returned (.tuple #[.int .i64 (outN ls n : Nat), .int .i64 (outE ls n : Nat)]) ∧
      (∃ g', LayR w' p g' (outS ls n) ∧ (g' = g ∨ g' = p ∨ w.heap.size ≤ g')) ∧ Only p g w w' := by
  by_cases h : n < 1 ∨ 1099511627776 < n
  · have e : outE ls n = 2 := if_pos h
    refine (rout_bound p n w h).mono ?_
    rintro e' w' ⟨rfl, hb⟩
    refine ⟨by rw [e]; simp only [outN, e]; rfl, ⟨g, ?_, .inl rfl⟩, Only.of_below hb⟩
    simp only [outS, e]
    exact hL.below hb
  · by_cases h2 : (hasL ls : Int) < n
    · have e : outE ls n = 9 := by unfold outE; rw [if_neg h, if_pos h2]
      refine (rout_short p g ls n w hL hk hlen (by omega) (by omega) h2).mono ?_
      rintro e' w' ⟨rfl, hb⟩
      refine ⟨by rw [e]; simp only [outN, e]; rfl, ⟨g, ?_, .inl rfl⟩, Only.of_below hb⟩
      simp only [outS, e]
      exact hL.below hb
    · have e : outE ls n = 0 := by unfold outE; rw [if_neg h, if_neg h2]
      obtain ⟨m, rfl⟩ := Int.eq_ofNat_of_zero_le (show (0 : Int) ≤ n by omega)
      refine (rout_yes p g ls m w hL hk hlen (by omega) (by omega)).mono ?_
      rintro e' w' ⟨rfl, ⟨g', h1, d⟩, h2⟩
      refine ⟨by rw [e]; simp only [outN, e]; rfl, ⟨g', ?_, .inr d⟩, h2⟩
      simp only [outS, e]
      exact h1

theorem inE_le (ls : Ls) (n c : Int) : inE ls n c ≤ 12 := by unfold inE; split <;> omega
theorem outE_le (ls : Ls) (n : Int) : outE ls n ≤ 12 := by unfold outE; split <;> (try split) <;> omega

/-- The program's layers and the document's, that hold the same. -/
structure TwoR (B : Nat) (w : World) (px gx py gy : Nat) (ls : Ls) : Prop where
  x : Lay w px gx ls
  y : LayR w py gy ls
  bpx : B ≤ px
  bgx : B ≤ gx
  bpy : B ≤ py
  bgy : B ≤ gy
  n1 : px ≠ py
  n2 : px ≠ gy
  n3 : gx ≠ py
  n4 : gx ≠ gy
theorem TwoR.below {B : Nat} {w w' : World} {px gx py gy : Nat} {ls : Ls} (h : TwoR B w px gx py gy ls) (hb : Below w.heap.size w w') : TwoR B w' px gx py gy ls := ⟨h.x.below hb, h.y.below hb, h.bpx, h.bgx, h.bpy, h.bgy, h.n1, h.n2, h.n3, h.n4⟩
theorem TwoR.first {B : Nat} {a w w' : World} {px gx py gy gx' : Nat} {ls ls' : Ls} (h : TwoR B w px gx py gy ls) (hb : Below B a w) (hB : B ≤ w.heap.size) (_ : Lay w' px gx' ls') (o : Only px gx w w') (d : gx' = gx ∨ w.heap.size ≤ gx') :
    LayR w' py gy ls ∧ Below B a w' ∧ B ≤ gx' ∧ gx' ≠ py ∧ gx' ≠ gy ∧ B ≤ w'.heap.size := by
  have h1 := h.y.lt
  have h2 := h.bgx
  have h3 := h.n3
  have h4 := h.n4
  exact ⟨h.y.only o (Ne.symm h.n1) (Ne.symm h.n3) (Ne.symm h.n2) (Ne.symm h.n4), o.below hb h.bpx h.bgx hB, by omega, by omega, by omega, Nat.le_trans hB o.size⟩
theorem TwoR.both {B : Nat} {a w w1 w2 : World} {px gx py gy gx' gy' : Nat} {ls ls' : Ls} (h : TwoR B w px gx py gy ls) (hb : Below B a w) (hB : B ≤ w.heap.size) (l : Lay w1 px gx' ls') (o : Only px gx w w1) (d : gx' = gx ∨ w.heap.size ≤ gx')
    (l2 : LayR w2 py gy' ls') (o2 : Only py gy w1 w2) (d2 : gy' = gy ∨ gy' = py ∨ w1.heap.size ≤ gy') : TwoR B w2 px gx' py gy' ls' ∧ Below B a w2 := by
  obtain ⟨_, q2, q3, q4, q5, q6⟩ := h.first hb hB l o d
  have h1 := h.bgy
  have h2 := l.lt
  have h3 := h.n1
  have h4 := h.n2
  have h5 := h.bpy
  exact ⟨⟨l.only o2 h.n1 h.n2 q4 q5, l2, h.bpx, q3, h.bpy, by omega, h.n1, by omega, q4, by omega⟩, o2.below q2 h.bpy h.bgy q6⟩

/-- What the law needs of package-level variables. -/
structure LayersG (E : Nat → Addr) (w : World) : Prop where
  tab : TabG w
  err : ErrG E w
theorem LayersG.below {E : Nat → Addr} {w w' : World} (h : LayersG E w) (hb : Below w.heap.size w w') : LayersG E w' := ⟨h.tab.below hb, h.err.below hb⟩
theorem LayersG.bound {E : Nat → Addr} {w : World} (h : LayersG E w) : ErrAt 1 (E 2) w := h.err.at_ 2 (by omega) (by omega)
theorem LayersG.short {E : Nat → Addr} {w : World} (h : LayersG E w) : ErrAt 8 (E 9) w := h.err.at_ 9 (by omega) (by omega)

/-- coded tells true where the numbers are one. -/
theorem coded2_same (E : Nat → Addr) (j : Nat) (h2 : j ≤ 12) (w : World) (hG : ErrG E w) :
    Calls Tryd.prog 23 #[errOf E j, .int .i64 (j : Nat)] w fun e w' => e = .returned (.bool true) ∧ Below w.heap.size w w' := by
  have h := coded2 E j h2 j w hG
  rw [beq_self_eq_true] at h
  exact h
end Go.Proofs.YtnblbliehfgnkaaDoor
