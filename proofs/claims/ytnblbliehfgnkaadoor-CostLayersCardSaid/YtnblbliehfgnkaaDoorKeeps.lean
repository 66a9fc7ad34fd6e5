/- The law CostKeeps, walked. -/
import Derived.Test.YtnblbliehfgnkaaDoorCost
namespace Go.Proofs.YtnblbliehfgnkaaDoor
open Go.RowKit

/-- A slice of flows, whose numbers lie in cells. -/
def FlowsAt (w : World) (A : Option Addr) (len : Nat) (fs : Nat → Int × Int) : Prop :=
  len = 0 ∨ ∃ b off, A = some ⟨b, off, none⟩ ∧ b < w.heap.size ∧ ∀ i, i < len → w.cell? ⟨b, off + i * 2, none⟩ = some (.int .i64 (fs i).1) ∧ w.cell? ⟨b, off + i * 2 + 1, none⟩ = some (.int .i64 (fs i).2)

/-- What the law needs of package-level variables. -/
structure CostG (E : Nat → Addr) (w : World) : Prop where
  tab : TabG w
  bound : ErrAt 1 (E 2) w
  short : ErrAt 8 (E 9) w
theorem CostG.below {E : Nat → Addr} {w w' : World} (h : CostG E w) (hb : Below w.heap.size w w') : CostG E w' := ⟨h.tab.below hb, h.bound.below hb, h.short.below hb⟩

/-- Two layers that hold the same. -/
structure Two (B : Nat) (w : World) (px gx py gy : Nat) (ls : Ls) : Prop where
  x : Lay w px gx ls
  y : Lay w py gy ls
  bpx : B ≤ px
  bgx : B ≤ gx
  bpy : B ≤ py
  bgy : B ≤ gy
  n1 : px ≠ py
  n2 : px ≠ gy
  n3 : gx ≠ py
  n4 : gx ≠ gy

theorem Two.drewN {B : Nat} {w : World} {px gx py gy : Nat} {ls : Ls} (h : Two B w px gx py gy ls) (k : Nat) : Two B (w.drewN k) px gx py gy ls := ⟨h.x, h.y, h.bpx, h.bgx, h.bpy, h.bgy, h.n1, h.n2, h.n3, h.n4⟩
theorem Two.below {B : Nat} {w w' : World} {px gx py gy : Nat} {ls : Ls} (h : Two B w px gx py gy ls) (hb : Below w.heap.size w w') : Two B w' px gx py gy ls := ⟨h.x.below hb, h.y.below hb, h.bpx, h.bgx, h.bpy, h.bgy, h.n1, h.n2, h.n3, h.n4⟩
theorem errOf_iface (E : Nat → Addr) (k : Nat) (h : k ≠ 0) : ∃ A, errOf E k = .iface 79 A := ⟨_, errOf_pos E k h⟩
theorem wrap_in (G a b : Int) : wrap64 (wrap64 (G + a) + b) = wrap64 (G + (a + b)) := by unfold wrap64; omega
theorem wrap_out (G a b c : Int) (h : c + b = a) : wrap64 (G + a) = wrap64 (wrap64 (G + c) + b) := by unfold wrap64; omega

/-- Two that go, one behind the other. -/
theorem out_two (ls : Ls) (a b : Int) (h1 : 1 ≤ a) (h2 : 1 ≤ b) (h3 : a + b ≤ (hasL ls : Int)) (h4 : a + b ≤ 1099511627776) :
    outE ls a = 0 ∧ outE (outS ls a) b = 0 ∧ outN ls (a + b) = outN ls a + outN (outS ls a) b ∧ outS ls (a + b) = outS (outS ls a) b := by
  obtain ⟨m, rfl⟩ := Int.eq_ofNat_of_zero_le (show (0 : Int) ≤ a by omega)
  obtain ⟨d, rfl⟩ := Int.eq_ofNat_of_zero_le (show (0 : Int) ≤ b by omega)
  have e1 : outE ls (m : Int) = 0 := by unfold outE; rw [if_neg (by omega), if_neg (by omega)]
  have e2 : outE ls ((m : Int) + (d : Int)) = 0 := by unfold outE; rw [if_neg (by omega), if_neg (by omega)]
  have es : outS ls (m : Int) = (outL ls m).2 := by unfold outS; rw [if_pos e1]; rfl
  have hh := outL_has ls m (by omega)
  have e3 : outE (outS ls (m : Int)) (d : Int) = 0 := by rw [es]; unfold outE; rw [if_neg (by omega), if_neg (by omega)]
  have ha := outL_add ls m d
  have et : ((m : Int) + (d : Int)).toNat = m + d := by omega
  refine ⟨e1, e3, ?_, ?_⟩
  · unfold outN; rw [if_pos e1, if_pos e2, if_pos e3, es, et, ha]; rfl
  · rw [show outS ls ((m : Int) + (d : Int)) = (outL ls (m + d)).2 by unfold outS; rw [if_pos e2, et]]
    rw [show outS (outS ls (m : Int)) (d : Int) = (outL (outS ls (m : Int)) d).2 by unfold outS; rw [if_pos (by exact e3)]; rfl, es, ha]

/-- Behind a call on the first; behind one on the second. -/
theorem Two.first {B : Nat} {a w w' : World} {px gx py gy gx' : Nat} {ls ls' : Ls} (h : Two B w px gx py gy ls) (hb : Below B a w) (hB : B ≤ w.heap.size) (_ : Lay w' px gx' ls') (o : Only px gx w w') (d : gx' = gx ∨ w.heap.size ≤ gx') :
    Lay w' py gy ls ∧ Below B a w' ∧ B ≤ gx' ∧ gx' ≠ py ∧ gx' ≠ gy ∧ B ≤ w'.heap.size ∧ (gx' = gx ∨ w.heap.size ≤ gx') := by
  have h1 := h.y.lt
  have h2 := h.bgx
  have h3 := h.n3
  have h4 := h.n4
  exact ⟨h.y.only o (Ne.symm h.n1) (Ne.symm h.n3) (Ne.symm h.n2) (Ne.symm h.n4), o.below hb h.bpx h.bgx hB, by omega, by omega, by omega, Nat.le_trans hB o.size, d⟩
theorem Two.both {B : Nat} {a w w1 w2 : World} {px gx py gy gx' gy' : Nat} {ls ls' : Ls} (h : Two B w px gx py gy ls) (hb : Below B a w) (hB : B ≤ w.heap.size) (l : Lay w1 px gx' ls') (o : Only px gx w w1) (d : gx' = gx ∨ w.heap.size ≤ gx')
    (l2 : Lay w2 py gy' ls') (o2 : Only py gy w1 w2) (d2 : gy' = gy ∨ w1.heap.size ≤ gy') : Two B w2 px gx' py gy' ls' ∧ Below B a w2 ∧ B ≤ w2.heap.size := by
  obtain ⟨_, q2, q3, q4, q5, q6, _⟩ := h.first hb hB l o d
  have h1 := h.bgy
  have h2 := l.lt
  have h3 := h.n1
  have h4 := h.n2
  exact ⟨⟨l.only o2 h.n1 h.n2 q4 q5, l2, h.bpx, q3, h.bpy, by omega, h.n1, by omega, q4, by omega⟩, o2.below q2 h.bpy h.bgy q6, Nat.le_trans q6 o2.size⟩

set_option maxHeartbeats 1600000 in
set_option maxRecDepth 100000 in
theorem keeps_out (E : Nat → Addr) (A : Option Addr) (len cap : Nat) (a b : Int) (w : World) (hG : CostG E w) (h : 60 < len ∨ a < 1 ∨ b < 1 ∨ 549755813888 < a ∨ 549755813888 < b) :
    Calls Tryd.prog 4 #[.slice A len cap, .int .i64 a, .int .i64 b] w fun e w' => e = .returned (.bool true) ∧ Below w.heap.size w w' := by
  by_cases h1 : 60 < len
  · go_enter Tryd.func4, Tryd.ntmps4
    go_wp2_with fail
    refine (cheap_any _ hG.tab).mono ?_
    rintro e w1 ⟨rfl, b1⟩
    go_wp2
    go_ret
    exact ⟨rfl, b1⟩
  by_cases h2 : a < 1
  · go_enter Tryd.func4, Tryd.ntmps4
    go_wp2_with fail
    refine (cheap_any _ hG.tab).mono ?_
    rintro e w1 ⟨rfl, b1⟩
    go_wp2
    go_ret
    exact ⟨rfl, b1⟩
  by_cases h3 : b < 1
  · go_enter Tryd.func4, Tryd.ntmps4
    go_wp2_with fail
    refine (cheap_any _ hG.tab).mono ?_
    rintro e w1 ⟨rfl, b1⟩
    go_wp2
    go_ret
    exact ⟨rfl, b1⟩
  by_cases h4 : 549755813888 < a
  · go_enter Tryd.func4, Tryd.ntmps4
    go_wp2_with fail
    refine (cheap_any _ hG.tab).mono ?_
    rintro e w1 ⟨rfl, b1⟩
    go_wp2
    go_ret
    exact ⟨rfl, b1⟩
  have h5 : 549755813888 < b := by omega
  go_enter Tryd.func4, Tryd.ntmps4
  go_wp2_with fail
  refine (cheap_any _ hG.tab).mono ?_
  rintro e w1 ⟨rfl, b1⟩
  go_wp2
  go_ret
  exact ⟨rfl, b1⟩

set_option maxHeartbeats 1600000 in
set_option maxRecDepth 100000 in
theorem keeps_in (E : Nat → Addr) (A : Option Addr) (len cap : Nat) (fs : Nat → Int × Int) (a b : Int) (w : World) (hG : CostG E w) (hF : FlowsAt w A len fs)
    (h1 : len ≤ 60) (h2 : 1 ≤ a) (h3 : 1 ≤ b) (h4 : a ≤ 549755813888) (h5 : b ≤ 549755813888) :
    Calls Tryd.prog 4 #[.slice A len cap, .int .i64 a, .int .i64 b] w fun e w' => e = .returned (.bool true) ∧ Below w.heap.size w w' := by
  go_enter Tryd.func4, Tryd.ntmps4
  go_wp2_with fail
  refine (cheap_any _ hG.tab).mono ?_
  rintro e w1 ⟨rfl, b1⟩
  go_wp2_with fail
  refine (new_any _).mono ?_
  rintro e w2 ⟨rfl, rfl⟩
  go_wp2_with fail
  refine (new_any _).mono ?_
  rintro e w3 ⟨rfl, rfl⟩
  obtain ⟨w3, hw3⟩ : ∃ w3, w3 = (w1.alloc (.cells #[.slice none 0 0] 84)).alloc (.cells #[.slice none 0 0] 84) := ⟨_, rfl⟩
  have b3 : Below w.heap.size w w3 := by rw [hw3]; exact (b1.alloc b1.size _).alloc (by simp; have := b1.size; omega) _
  have t3 : Two w.heap.size w3 w1.heap.size w1.heap.size (w1.heap.size + 1) (w1.heap.size + 1) [] := by
    refine ⟨.inl ⟨rfl, rfl, ?_⟩, .inl ⟨rfl, rfl, ?_⟩, b1.size, b1.size, ?_, ?_, by omega, by omega, by omega, by omega⟩
    · rw [hw3, heap_alloc_old _ _ (by simp)]; exact heap_alloc_new _ _
    · rw [hw3]; have := heap_alloc_new (w1.alloc (.cells #[.slice none 0 0] 84)) (.cells #[.slice none 0 0] 84); simpa using this
    · have := b1.size; omega
    · have := b1.size; omega
  have es : (w1.alloc (.cells #[.slice none 0 0] 84)).heap.size = w1.heap.size + 1 := by simp
  rw [es, ← hw3]
  have hX : w1.heap.size + 1 ≤ w3.heap.size := by rw [hw3]; simp
  generalize w1.heap.size + 1 = py at *
  generalize w1.heap.size = px at *
  clear hw3 es b1
  go_wp2
  go_loopw [10, 11, 12] (fun cm wn i wr => ∃ (k : Nat) (ls : Ls) (gx gy : Nat) (G : Int), k ≤ len ∧ cm = .int .i64 (wrap64 (G + worthL ls)) ∧ wn = .int .i64 G ∧ i = .int .i64 k ∧ OkL ls ∧ ls.length ≤ k ∧
    Two w.heap.size wr px gx py gy ls ∧ Below w.heap.size w wr) (fun _ _ i _ => len - (intOf i).toNat)
  case atStart => exact ⟨0, [], px, py, 0, by omega, by simp [worthL, wrap64], rfl, rfl, ⟨by simp [hasL], by simp, by simp⟩, by simp, t3, b3⟩
  case round =>
    obtain ⟨k, ls, gx, gy, G, hk, rfl, rfl, rfl, hok, hll, ht, hb⟩ := hrel
    have hlen : ls.length ≤ 1000000 := by omega
    by_cases hkl : k < len
    · rcases hF with h0 | ⟨lb, lo, rfl, hlb, hcells⟩
      · omega
      obtain ⟨c1, c2⟩ := hcells k hkl
      have d1 := (hb.cell (p := ⟨lb, lo + k * 2, none⟩) hlb).trans c1
      have d2 := (hb.cell (p := ⟨lb, lo + k * 2 + 1, none⟩) hlb).trans c2
      clear c1 c2 hcells
      obtain ⟨n, hn⟩ : ∃ n, n = (fs k).1 := ⟨_, rfl⟩
      obtain ⟨c, hc⟩ : ∃ c, c = (fs k).2 := ⟨_, rfl⟩
      rw [← hn] at d1
      rw [← hc] at d2
      clear hn hc
      have HG := Lib.hid (hG.below (hb.mono (Nat.le_refl _)))
      by_cases hc0 : 0 ≤ c
      · go_wp2_with fail
        refine (in_gen E px gx ls n c _ HG.out.bound ht.x hok hlen).mono ?_
        rintro e w4 ⟨rfl, gx', l4, o4, s4⟩
        obtain ⟨y4, b4, _⟩ := ht.first hb hb.size l4 o4 s4
        go_wp2_with fail
        refine (in_gen E py gy ls n c _ (hG.below b4).bound y4 hok hlen).mono ?_
        rintro e w5 ⟨rfl, gy', l5, o5, s5⟩
        obtain ⟨t5, b5, _⟩ := ht.both hb hb.size l4 o4 s4 l5 o5 s5
        have hok' := inS_ok ls n c hok
        have hll' := inS_length ls n c
        have hw := inS_worth ls n c
        by_cases he : inE ls n c = 0
        · have hn1 : 1 ≤ n ∧ n ≤ 1099511627776 ∧ c ≤ 1048576 := by
            unfold inE at he
            split at he
            · cases he
            · omega
          obtain ⟨hn1, hn2, hn3⟩ := hn1
          rw [if_pos he] at hw
          have p0 : 0 ≤ n * c := Int.mul_nonneg (by omega) hc0
          have p1 : n * c ≤ 1099511627776 * 1048576 := Int.mul_le_mul hn2 hn3 hc0 (by omega)
          have p1' : n * c ≤ 1152921504606846976 := by omega
          clear p1
          rw [he, errOf_zero]
          have FIN := Lib.hid (And.intro hok' (And.intro hll' (And.intro hw (And.intro t5 b5))))
          clear hok' hll' hw t5 b5
          go_wp2_with fail
          go_quiet (fail)
          go_wp2
          obtain ⟨f1, f2, f3, f4, f5⟩ := FIN.out
          refine ⟨⟨k + 1, inS ls n c, gx', gy', G, by omega, ?_, rfl, by simp, f1, by omega, f4.drewN _, below_drewN f5 _⟩, by simp [intOf]; omega⟩
          rw [f3, wrap_in]
        · have eS : inS ls n c = ls := if_neg he
          obtain ⟨Ad, eA⟩ := errOf_iface E _ he
          rw [eA]
          rw [eS] at t5
          have FIN := Lib.hid (And.intro t5 b5)
          clear hok' hll' hw t5 b5 eS eA
          go_wp2_with fail
          go_quiet (fail)
          go_wp2
          obtain ⟨f4, f5⟩ := FIN.out
          exact ⟨⟨k + 1, ls, gx', gy', G, by omega, rfl, rfl, by simp, hok, by omega, f4.drewN _, below_drewN f5 _⟩, by simp [intOf]; omega⟩
      · go_wp2_with fail
        refine (out_gen E px gx ls n _ HG.out.bound HG.out.short ht.x hok hlen).mono ?_
        rintro e w4 ⟨rfl, l4, o4⟩
        obtain ⟨y4, b4, _⟩ := ht.first hb hb.size l4 o4 (.inl rfl)
        go_wp2_with fail
        refine (out_gen E py gy ls n _ (hG.below b4).bound (hG.below b4).short y4 hok hlen).mono ?_
        rintro e w5 ⟨rfl, l5, o5⟩
        obtain ⟨t5, b5, _⟩ := ht.both hb hb.size l4 o4 (.inl rfl) l5 o5 (.inl rfl)
        have hok' := outS_ok ls n hok
        have hll' := outS_length ls n
        have hw := outS_worth ls n
        have FIN := Lib.hid (And.intro hok' (And.intro hll' (And.intro hw (And.intro t5 b5))))
        clear hok' hll' hw t5 b5
        generalize hN : outN ls n = N at *
        by_cases he : outE ls n = 0
        · rw [he, errOf_zero]
          go_wp2_with fail
          go_quiet (fail)
          go_wp2
          obtain ⟨f1, f2, f3, f4, f5⟩ := FIN.out
          refine ⟨⟨k + 1, outS ls n, gx, gy, wrap64 (G + N), by omega, ?_, rfl, by simp, f1, by omega, f4.drewN _, below_drewN f5 _⟩, by simp [intOf]; omega⟩
          congr 1
          exact wrap_out _ _ _ _ (by omega)
        · obtain ⟨Ad, eA⟩ := errOf_iface E _ he
          rw [eA]
          go_wp2_with fail
          go_quiet (fail)
          go_wp2
          obtain ⟨f1, f2, f3, f4, f5⟩ := FIN.out
          refine ⟨⟨k + 1, outS ls n, gx, gy, wrap64 (G + N), by omega, ?_, rfl, by simp, f1, by omega, f4.drewN _, below_drewN f5 _⟩, by simp [intOf]; omega⟩
          congr 1
          exact wrap_out _ _ _ _ (by omega)
    · have hab1 : 1 ≤ a + b := by omega
      have hab2 : a + b ≤ 1099511627776 := by omega
      go_wp2_with fail
      refine (worth_any px gx ls _ ht.x hok hlen).mono ?_
      rintro e w4 ⟨rfl, bb4⟩
      have t4 := ht.below bb4
      have b4 : Below w.heap.size w w4 := hb.trans (bb4.mono hb.size)
      have HG := Lib.hid (hG.below (b4.mono (Nat.le_refl _)))
      go_wp2_with fail
      refine (out_gen E px gx ls (a + b) _ HG.out.bound HG.out.short t4.x hok hlen).mono ?_
      rintro e w5 ⟨rfl, l5, o5⟩
      obtain ⟨y5, b5, _⟩ := t4.first b4 b4.size l5 o5 (.inl rfl)
      by_cases he : outE ls (a + b) = 0
      · have eh : a + b ≤ (hasL ls : Int) := by
          unfold outE at he
          split at he
          · cases he
          · split at he
            · cases he
            · omega
        rw [he, errOf_zero]
        go_wp2_with fail
        have ea : outE ls a = 0 := by unfold outE; rw [if_neg (by omega), if_neg (by omega)]
        refine (out_gen E py gy ls a _ (hG.below b5).bound (hG.below b5).short y5 hok hlen).mono ?_
        rintro e w6 ⟨rfl, l6, o6⟩
        have x6 := l5.only o6 t4.n1 t4.n2 t4.n3 t4.n4
        have b6 := o6.below b5 t4.bpy t4.bgy b5.size
        obtain ⟨-, eb, eN, eS⟩ := out_two ls a b h2 h3 eh hab2
        rw [ea, errOf_zero]
        go_wp2_with fail
        refine (out_gen E py gy (outS ls a) b _ (hG.below b6).bound (hG.below b6).short l6 (outS_ok ls a hok) (Nat.le_trans (outS_length ls a) hlen)).mono ?_
        rintro e w7 ⟨rfl, l7, o7⟩
        have x7 := x6.only o7 t4.n1 t4.n2 t4.n3 t4.n4
        have b7 := o7.below b6 t4.bpy t4.bgy b6.size
        rw [eb, errOf_zero]
        rw [eS] at x7
        have okf := outS_ok _ b (outS_ok ls a hok)
        have lf := Nat.le_trans (outS_length (outS ls a) b) (Nat.le_trans (outS_length ls a) hlen)
        have hw1 := outS_worth ls a
        have hw2 := outS_worth (outS ls a) b
        have hw3 := hok.worth
        generalize outN ls a = N1 at *
        generalize outN (outS ls a) b = N2 at *
        generalize outS (outS ls a) b = lz at *
        have hN : N1 + N2 ≤ 1152921504606846976 := by omega
        clear hw1 hw2 hw3 eS eN
        go_wp2_with fail
        refine (text_any px gx lz _ (hG.below b7).tab x7 okf lf).mono ?_
        rintro e w8 ⟨rfl, q8⟩
        have b8 := b7.trans (q8.mono b7.size)
        go_wp2_with fail
        refine (text_any py gy lz _ (hG.below b8).tab (l7.below q8) okf lf).mono ?_
        rintro e w9 ⟨rfl, q9⟩
        have b9 := b8.trans (q9.mono b8.size)
        go_wp2
        go_ret
        exact ⟨rfl, b9⟩
      · have eN : outN ls (a + b) = 0 := if_neg he
        obtain ⟨Ad, eA⟩ := errOf_iface E _ he
        rw [eA, eN]
        go_wp2
        go_ret
        exact ⟨rfl, b5⟩

theorem keeps_walk (E : Nat → Addr) (A : Option Addr) (len cap : Nat) (fs : Nat → Int × Int) (a b : Int) (w : World) (hG : CostG E w) (hF : FlowsAt w A len fs) :
    Calls Tryd.prog 4 #[.slice A len cap, .int .i64 a, .int .i64 b] w fun e w' => e = .returned (.bool true) ∧ Below w.heap.size w w' := by
  by_cases h : 60 < len ∨ a < 1 ∨ b < 1 ∨ 549755813888 < a ∨ 549755813888 < b
  · exact keeps_out E A len cap a b w hG h
  · exact keeps_in E A len cap fs a b w hG hF (by omega) (by omega) (by omega) (by omega) (by omega)

end Go.Proofs.YtnblbliehfgnkaaDoor
