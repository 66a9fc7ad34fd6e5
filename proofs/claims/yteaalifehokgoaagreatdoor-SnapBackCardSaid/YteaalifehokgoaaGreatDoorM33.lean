/- plain.Code: an error's number and place. plain.Code at each make of error; coded. coded, of tithebarnlaw2. BookOf: two books out of entries. LongEntry; LongEntries. -/
import Derived.LoopTactic
import Derived.Outline
import Derived.Test.YteaalifehokgoaaGreatDoorM05
import Derived.Test.YteaalifehokgoaaGreatDoorM19
import Derived.Test.YteaalifehokgoaaGreatDoorM20
import Derived.Test.YteaalifehokgoaaGreatDoorM32
namespace Go.Proofs.YteaalifehokgoaaGreatDoor
open Go.RowKit
def gErr : Nat → Nat
 |1 => 1 | 2 => 0 | 3 => 2 | 4 => 3 | 5 => 4 | 6 => 5
 |7 => 6 | 8 => 7 | 9 => 8 | 10 => 9 | 11 => 10 | _ => 11
theorem lt_of_row {w : World} {b : Nat} {o : Obj} (h : w.heap[b]? = some o) : b < w.heap.size := by
 rcases Nat.lt_or_ge b w.heap.size with hl | hl
 ·exact hl
 ·rw [Array.getElem?_eq_none hl] at h; cases h
structure ErrG (E : Nat → Addr) (w : World) : Prop where
 at_ : ∀ k, 1 ≤ k → k ≤ 12 → ErrAt (gErr k) (E k) w
 row : ∀ k, 1 ≤ k → k ≤ 12 → ∃ cs t, w.heap[(E k).block]? = some (.cells cs t (0, 0))
 inj : ∀ i j, 1 ≤ i → i ≤ 12 → 1 ≤ j → j ≤ 12 → E i = E j → i = j
 ty : w.cell? ⟨12, 0, none⟩ = some (.iface 220 (.agg #[.pointer (some ⟨21, 31, none⟩)]))
theorem ErrG.below {E : Nat → Addr} {w w' : World} (h : ErrG E w) (hb : Below w.heap.size w w') : ErrG E w' :=
 ⟨fun k h1 h2 => (h.at_ k h1 h2).below hb, fun k h1 h2 => (h.row k h1 h2).elim fun cs hh => hh.elim fun t hr => ⟨cs, t, (hb.block _ (lt_of_row hr)).trans hr⟩,
  h.inj, (hb.cell (lt_of_cell h.ty)).trans h.ty⟩
def IsK (E : Nat → Addr) (v : Value) (K : Nat) (w : World) : Prop :=
 ∀ (k : Nat) (W : World), 1 ≤ k → k ≤ 12 → Below w.heap.size w W → Calls Tryz.prog 50 #[v, .iface 318 (.pointer (some (E k)))] W fun e w' => e = .returned (.bool (decide (k = K))) ∧ W = w'
def codeOf (K : Nat) : Int := if K = 0 then -1 else K
theorem code_nil (w : World) : Calls Tryz.prog 13 #[.nilIface] w fun e w' => e = .returned (.tuple #[.int .i64 0, .int .i64 (-1)]) ∧ w = w' := by
 go_enter Tryz.func13, Tryz.ntmps13
 go_wp2
 go_ret2
 exact ⟨rfl, rfl⟩
theorem cells12 (E : Nat → Addr) (w : World) : ∀ k, k < 12 → (w.alloc (.cells #[.iface 318 (.pointer (some (E 1))), .iface 318 (.pointer (some (E 2))), .iface 318 (.pointer (some (E 3))), .iface 318 (.pointer (some (E 4))), .iface 318 (.pointer (some (E 5))), .iface 318 (.pointer (some (E 6))), .iface 318 (.pointer (some (E 7))), .iface 318 (.pointer (some (E 8))), .iface 318 (.pointer (some (E 9))), .iface 318 (.pointer (some (E 10))), .iface 318 (.pointer (some (E 11))), .iface 318 (.pointer (some (E 12)))] 31)).cell? ⟨w.heap.size, k, none⟩ = some (.iface 318 (.pointer (some (E (k + 1))))) := by
 intro k hk
 rcases (show k = 0 ∨ k = 1 ∨ k = 2 ∨ k = 3 ∨ k = 4 ∨ k = 5 ∨ k = 6 ∨ k = 7 ∨ k = 8 ∨ k = 9 ∨ k = 10 ∨ k = 11 by omega) with rfl | rfl | rfl | rfl | rfl | rfl | rfl | rfl | rfl | rfl | rfl | rfl <;> simp
set_option maxHeartbeats 1000000 in
/-- An error that bears no place. -/
theorem code_miss (E : Nat → Addr) (tv : TypeId) (pv : Value) (K : Nat) (w : World) (hG : ErrG E w) (hK : K ≤ 12) (hIs : IsK E (.iface tv pv) K w)
  (hAs : ∀ (t : Addr) (old : Value) (W : World), Below w.heap.size w W → W.cell? t = some old → Calls Tryz.prog 49 #[.iface tv pv, .iface 114 (.pointer (some t))] W fun ev w' => ev = .returned (.bool false) ∧ Below W.heap.size W w') :
  Calls Tryz.prog 13 #[.iface tv pv] w fun e w' => e = .returned (.tuple #[.int .i64 (codeOf K), .int .i64 (-1)]) ∧ Below w.heap.size w w' := by
 have HIs := Lib.hid hIs
 have HAs := Lib.hid hAs
 clear hIs hAs
 go_enter Tryz.func13, Tryz.ntmps13
 go_wp2_with fail
 refine (HAs.out _ (.pointer none) _ ((Below.refl _ _).alloc (Nat.le_refl _) _) (by simp)).mono ?_
 rintro e w1 ⟨rfl, hb1⟩
 have hb : Below w.heap.size w w1 := ((Below.refl w.heap.size w).alloc (Nat.le_refl _) _).trans (hb1.mono (by simp))
 have hG1 := hG.below hb
 have c1 := hG1.at_ 1 (by omega) (by omega)
 have c2 := hG1.at_ 2 (by omega) (by omega)
 have c3 := hG1.at_ 3 (by omega) (by omega)
 have c4 := hG1.at_ 4 (by omega) (by omega)
 have c5 := hG1.at_ 5 (by omega) (by omega)
 have c6 := hG1.at_ 6 (by omega) (by omega)
 have c7 := hG1.at_ 7 (by omega) (by omega)
 have c8 := hG1.at_ 8 (by omega) (by omega)
 have c9 := hG1.at_ 9 (by omega) (by omega)
 have c10 := hG1.at_ 10 (by omega) (by omega)
 have c11 := hG1.at_ 11 (by omega) (by omega)
 have c12 := hG1.at_ 12 (by omega) (by omega)
 simp only [gErr, ErrAt] at c1 c2 c3 c4 c5 c6 c7 c8 c9 c10 c11 c12
 go_wp2_with fail
 clear c1 c2 c3 c4 c5 c6 c7 c8 c9 c10 c11 c12 hG1
 have hc := cells12 E w1
 have hb2 : Below w.heap.size w (w1.alloc (.cells #[.iface 318 (.pointer (some (E 1))), .iface 318 (.pointer (some (E 2))), .iface 318 (.pointer (some (E 3))), .iface 318 (.pointer (some (E 4))), .iface 318 (.pointer (some (E 5))), .iface 318 (.pointer (some (E 6))), .iface 318 (.pointer (some (E 7))), .iface 318 (.pointer (some (E 8))), .iface 318 (.pointer (some (E 9))), .iface 318 (.pointer (some (E 10))), .iface 318 (.pointer (some (E 11))), .iface 318 (.pointer (some (E 12)))] 31)) := hb.alloc hb.size _
 generalize w1.alloc (.cells #[.iface 318 (.pointer (some (E 1))), .iface 318 (.pointer (some (E 2))), .iface 318 (.pointer (some (E 3))), .iface 318 (.pointer (some (E 4))), .iface 318 (.pointer (some (E 5))), .iface 318 (.pointer (some (E 6))), .iface 318 (.pointer (some (E 7))), .iface 318 (.pointer (some (E 8))), .iface 318 (.pointer (some (E 9))), .iface 318 (.pointer (some (E 10))), .iface 318 (.pointer (some (E 11))), .iface 318 (.pointer (some (E 12)))] 31) = w2 at hc hb2 ⊢
 generalize w1.heap.size = g at hc ⊢
 have HC := Lib.hid hc
 clear hc hb1 hb hG
 go_loop [3, 30] (fun a i => ∃ k : Nat, k ≤ 12 ∧ (K = 0 ∨ k < K) ∧ a = .int .i64 (-1) ∧ i = .int .i64 k) (fun _ i => 12 - (intOf i).toNat)
 case atStart => exact ⟨0, by omega, by omega, rfl, rfl⟩
 case round =>
  obtain ⟨k, hk, hlt, rfl, rfl⟩ := hrel
  by_cases h12 : k < 12
  ·have hcell := HC.out k h12
   by_cases hKk : k + 1 = K
   ·have hd : decide (k + 1 = K) = true := by simpa using hKk
    have HF := Lib.hid (show codeOf K = ((k : Int) + 1) by unfold codeOf; rw [if_neg (by omega), ← hKk]; rfl)
    clear hKk hlt
    go_wp2_with fail
    refine (HIs.out (k + 1) _ (by omega) (by omega) hb2).mono ?_
    rw [hd]
    rintro e w3 ⟨rfl, rfl⟩
    go_wp2_with fail
    go_ret2
    refine ⟨?_, hb2⟩
    rw [HF.out]
    rfl
   ·have hd : decide (k + 1 = K) = false := by simpa using hKk
    go_wp2_with fail
    refine (HIs.out (k + 1) _ (by omega) (by omega) hb2).mono ?_
    rw [hd]
    rintro e w3 ⟨rfl, rfl⟩
    go_wp2_with fail
    go_round
    case rel => exact ⟨k + 1, by omega, by omega, rfl, by go_num⟩
    case measure => simp [intOf]; omega
  ·have HF := Lib.hid (show codeOf K = -1 by unfold codeOf; rw [if_pos (by omega)])
   have hk12 : 12 ≤ k := by omega
   clear hlt
   go_wp2_with fail
   go_ret2
   refine ⟨?_, hb2⟩
   rw [HF.out]
   rfl
end Go.Proofs.YteaalifehokgoaaGreatDoor
namespace Go.Proofs.YteaalifehokgoaaGreatDoor
open Go.RowKit
theorem isK_sent (E : Nat → Addr) (j : Nat) (h1 : 1 ≤ j) (h2 : j ≤ 12) (w : World) (hG : ErrG E w) : IsK E (.iface 318 (.pointer (some (E j)))) j w := by
 intro k W k1 k2 hb
 have hW := hG.below hb
 by_cases h : k = j
 ·subst h
  rw [show decide (k = k) = true by simp]
  exact is_same (E k) W
 ·rw [show decide (k = j) = false by simpa using h]
  obtain ⟨ca, ta, ra⟩ := hW.row j h1 h2
  obtain ⟨cb, tb, rb⟩ := hW.row k k1 k2
  exact is_other (E j) (E k) ca cb ta tb W (fun e => h (hG.inj j k h1 h2 k1 k2 e).symm) ra rb
theorem as_miss_of (E : Nat → Addr) (a : Addr) (w : World) (hG : ErrG E w) : ∀ (t : Addr) (old : Value) (W : World), Below w.heap.size w W → W.cell? t = some old → Calls Tryz.prog 49 #[.iface 318 (.pointer (some a)), .iface 114 (.pointer (some t))] W fun ev w' => ev = .returned (.bool false) ∧ Below W.heap.size W w' :=
 fun t old W hb ht => as_miss a t old W (hG.below hb).ty ht
theorem code_sent (E : Nat → Addr) (j : Nat) (h1 : 1 ≤ j) (h2 : j ≤ 12) (w : World) (hG : ErrG E w) :
  Calls Tryz.prog 13 #[.iface 318 (.pointer (some (E j)))] w fun e w' => e = .returned (.tuple #[.int .i64 j, .int .i64 (-1)]) ∧ Below w.heap.size w w' := by
 have h := code_miss E _ _ j w hG h2 (isK_sent E j h1 h2 w hG) (as_miss_of E _ w hG)
 rw [show codeOf j = (j : Int) by unfold codeOf; rw [if_neg (by omega)]] at h
 exact h
end Go.Proofs.YteaalifehokgoaaGreatDoor
namespace Go.Proofs.YteaalifehokgoaaGreatDoor
open Go.RowKit
set_option maxHeartbeats 400000 in
theorem coded2 (E : Nat → Addr) (j : Nat) (h2 : j ≤ 12) (n : Int) (w : World) (hG : ErrG E w) :
  Calls Tryz.prog 24 #[errOf E j, .int .i64 n] w fun e w' => e = .returned (.bool ((j : Int) == n)) ∧ Below w.heap.size w w' := by
 by_cases h0 : j = 0
 ·subst h0
  rw [errOf_zero]
  have HC := Lib.hid (code_nil w)
  go_enter Tryz.func24, Tryz.ntmps24
  go_wp2_with fail
  refine HC.out.mono ?_
  rintro e w1 ⟨rfl, rfl⟩
  go_wp2_with fail
  all_goals go_ret
  all_goals exact ⟨by simp; assumption, Below.refl _ _⟩
 ·rw [errOf_pos _ _ h0]
  have HC := Lib.hid (code_sent E j (by omega) h2 w hG)
  go_enter Tryz.func24, Tryz.ntmps24
  go_wp2_with fail
  refine HC.out.mono ?_
  rintro e w1 ⟨rfl, hb⟩
  go_wp2_with fail
  all_goals go_ret
  all_goals exact ⟨by simp; assumption, hb⟩
end Go.Proofs.YteaalifehokgoaaGreatDoor
namespace Go.Proofs.YteaalifehokgoaaGreatDoor
open Go.RowKit Go.Sort Go.Proofs
theorem results_three {fn : Func} {t u v : Tmp} (h : fn.results = #[.tmp t, .tmp u, .tmp v]) (tmps : Array Value) (P : Program) (w : World) :
  (results fn tmps).run P w = .ok (.tuple #[tmps.getD t undef, tmps.getD u undef, tmps.getD v undef]) w := by
 simp [results, h]
theorem len14c {L : List Value} (h : L.length = 14) : ∃ a0 a1 a2 a3 a4 a5 a6 a7 a8 a9 b0 b1 b2 b3, L = [a0, a1, a2, a3, a4, a5, a6, a7, a8, a9, b0, b1, b2, b3] := by
 match L, h with
 |[a0, a1, a2, a3, a4, a5, a6, a7, a8, a9, b0, b1, b2, b3], _ => exact ⟨a0, a1, a2, a3, a4, a5, a6, a7, a8, a9, b0, b1, b2, b3, rfl⟩
theorem doAll_take (B : BkV) (l : List EntV) (k : Nat) (h : k < l.length) : doAll B (l.take (k + 1)) = doB (doAll B (l.take k)) l[k] := by
 unfold doAll
 rw [List.take_succ_eq_append_getElem h, List.foldl_append]
 rfl
theorem MBk.nil {w : World} {q : Nat} (h : w.heap[q]? = some (.cells #[.slice none 0 0, .slice none 0 0, .slice none 0 0] 71 (0, 0))) : MBk w q [q] [] bk0 :=
 ⟨.slice none 0 0, .slice none 0 0, none, 0, rfl, by simp, rfl, by simp, ⟨h, World.ownsRow_nil _ _ _ _, World.ownsRow_nil _ _ _ _, .inl rfl⟩⟩
set_option maxHeartbeats 3200000 in
set_option maxRecDepth 100000 in
theorem bookOf_any (E : Nat → Addr) (A : Option Addr) (cap : Nat) (l : List EntV) (w : World) (hrow : RowAt encEnt 14 w A l) (hl : l.length ≤ 1000) (hs : ∀ x ∈ l, ShortE x) (hG : BkG E w) (hE : ErrG E w) :
  Calls Tryz.prog 8 #[.slice A l.length cap] w fun e w' => ∃ p q, e = .returned (.tuple #[.pointer (some ⟨p, 0, none⟩), .pointer (some ⟨q, 0, none⟩), .bool true]) ∧ Both w.heap.size w' p q (doAll bk0 l) (doAll bk0 l) ∧ Below w.heap.size w w' := by
 have HG := Lib.hid (fun W (h : Below w.heap.size w W) => hG.below h)
 have HE := Lib.hid (fun W (h : Below w.heap.size w W) => hE.below h)
 have HR := Lib.hid (fun W (h : Below w.heap.size w W) => hrow.below h)
 have HSH := Lib.hid hs
 have HI := Lib.hid (fun k : Nat => BkI.all BkI.nil (l.take k))
 have HTK := Lib.hid (doAll_take bk0 l)
 obtain ⟨N, hN⟩ : ∃ N, N = l.length := ⟨_, rfl⟩
 have HN := Lib.hid hN
 rw [← hN] at hl ⊢
 clear hG hE hrow hs hN
 go_enter Tryz.func8, Tryz.ntmps8
 go_wp2_with fail
 refine (newBook_any w).mono ?_
 rintro e w1 ⟨p, F, rfl, hB1, hF1, b1⟩
 have bq := below_one w1 (.cells #[.slice none 0 0, .slice none 0 0, .slice none 0 0] 71)
 have B2 := Lib.hid (b1.trans (bq.mono b1.size))
 have hm := heap_alloc_new w1 (.cells #[.slice none 0 0, .slice none 0 0, .slice none 0 0] 71)
 have hlt := hB1.lt
 have hz1 := b1.size
 have HB2 : Hid (Both w.heap.size (w1.alloc (.cells #[.slice none 0 0, .slice none 0 0, .slice none 0 0] 71)) p w1.heap.size bk0 bk0) :=
  ⟨F, [w1.heap.size], [], hB1.below bq, MBk.nil hm, fun k hk => ⟨hF1 k hk, fun h => by have := hlt k hk; simp only [List.mem_singleton] at h; omega, by simp⟩, fun k hk => by simp only [List.mem_singleton] at hk; omega, by simp⟩
 clear hB1 hF1 b1 bq hm hlt
 go_wp2_with fail
 generalize w1.alloc (.cells #[.slice none 0 0, .slice none 0 0, .slice none 0 0] 71) = W2 at B2 HB2 ⊢
 generalize w1.heap.size = q at HB2 ⊢
 go_loopw [7] (fun i wr => ∃ k : Nat, k ≤ N ∧ i = .int .i64 k ∧ Hid (Both w.heap.size wr p q (doAll bk0 (l.take k)) (doAll bk0 (l.take k))) ∧ Hid (Below w.heap.size w wr)) (fun i _ => N - (intOf i).toNat)
 case atStart => exact ⟨0, by omega, rfl, HB2.out, B2.out⟩
 case round =>
  obtain ⟨k, hk, rfl, HBO, HB⟩ := hrel
  by_cases hkN : k < N
  ·have hkx : k < l.length := by rw [← HN.out]; exact hkN
   obtain ⟨g, o, rfl, lg, cg⟩ := HR.out w (Below.refl _ _) |>.resolve_left (fun h => by rw [h] at hkx; simp at hkx)
   obtain ⟨x, hx⟩ : ∃ x, x = l[k] := ⟨_, rfl⟩
   have hsx := HSH.out x (by rw [hx]; exact List.getElem_mem hkx)
   have HX := Lib.hid hx
   have HL : Hid (∀ W, Below w.heap.size w W → Lies W g (o + k * 14) (encEnt x)) := fun W hb j v hv =>
    (hb.cell (p := ⟨g, o + k * 14 + j, none⟩) lg).trans (cg k hkx j v (by rw [← hx]; exact hv))
   have H1 := Lib.hid (fun W (h : Both w.heap.size W p q (doAll bk0 (l.take k)) (doAll bk0 (l.take k))) (hb : Below w.heap.size w W) => h.do1 E hb.size (HI.out k) x hsx (HG.out _ hb))
   have H2 := Lib.hid (fun W (h : Both w.heap.size W p q (doB (doAll bk0 (l.take k)) x) (doAll bk0 (l.take k))) (hb : Below w.heap.size w W) => h.do2 hb.size (HI.out k) x hsx)
   have H3 := Lib.hid (fun W (hb : Below w.heap.size w W) => coded2 E (doE (doAll bk0 (l.take k)) x) (doE_tw _ _) (doE (doAll bk0 (l.take k)) x : Nat) W (HE.out _ hb))
   have HNX : Hid (doAll bk0 (l.take (k + 1)) = doB (doAll bk0 (l.take k)) x) := by
    show _ = _
    rw [HTK.out k hkx, hx]
   rw [beq_self_eq_true] at H3
   clear hx cg hsx
   generalize doE (doAll bk0 (l.take k)) x = de at H1 H2 H3
   generalize doB (doAll bk0 (l.take k)) x = Bn at H1 H2 HNX
   have h14 : (encEnt x).length = 14 := rfl
   generalize encEnt x = LX at HL H1 H2 h14
   obtain ⟨a0, a1, a2, a3, a4, a5, a6, a7, a8, a9, b0, b1, b2, b3, rfl⟩ := len14c h14
   clear h14
   have HUP : Hid (∀ W, Below w.heap.size w W → W.cell? ⟨g, o + k * 14, none⟩ = some a0 ∧ W.cell? ⟨g, o + k * 14 + 1, none⟩ = some a1 ∧ W.cell? ⟨g, o + k * 14 + 2, none⟩ = some a2 ∧ W.cell? ⟨g, o + k * 14 + 3, none⟩ = some a3 ∧ W.cell? ⟨g, o + k * 14 + 4, none⟩ = some a4 ∧ W.cell? ⟨g, o + k * 14 + 5, none⟩ = some a5 ∧ W.cell? ⟨g, o + k * 14 + 6, none⟩ = some a6 ∧ W.cell? ⟨g, o + k * 14 + 7, none⟩ = some a7 ∧ W.cell? ⟨g, o + k * 14 + 8, none⟩ = some a8 ∧ W.cell? ⟨g, o + k * 14 + 9, none⟩ = some a9 ∧ W.cell? ⟨g, o + k * 14 + 10, none⟩ = some b0 ∧ W.cell? ⟨g, o + k * 14 + 11, none⟩ = some b1 ∧ W.cell? ⟨g, o + k * 14 + 12, none⟩ = some b2 ∧ W.cell? ⟨g, o + k * 14 + 13, none⟩ = some b3) := fun W hb => by
    have h := HL.out W hb
    exact ⟨h 0 _ rfl, h 1 _ rfl, h 2 _ rfl, h 3 _ rfl, h 4 _ rfl, h 5 _ rfl, h 6 _ rfl, h 7 _ rfl, h 8 _ rfl, h 9 _ rfl, h 10 _ rfl, h 11 _ rfl, h 12 _ rfl, h 13 _ rfl⟩
   have hd := HB.out.drew
   have hbo : Both w.heap.size wr.drew p q (doAll bk0 (l.take k)) (doAll bk0 (l.take k)) := HBO.out.below (Below.refl wr.heap.size wr).drew
   have HBD := Lib.hid hbo
   clear hbo
   go_wp2_with fail
   go_region_held3 (fun W => W.cell? ⟨g, o + k * 14, none⟩ = some a0 ∧ W.cell? ⟨g, o + k * 14 + 1, none⟩ = some a1 ∧ W.cell? ⟨g, o + k * 14 + 2, none⟩ = some a2 ∧ W.cell? ⟨g, o + k * 14 + 3, none⟩ = some a3 ∧ W.cell? ⟨g, o + k * 14 + 4, none⟩ = some a4 ∧ W.cell? ⟨g, o + k * 14 + 5, none⟩ = some a5 ∧ W.cell? ⟨g, o + k * 14 + 6, none⟩ = some a6 ∧ W.cell? ⟨g, o + k * 14 + 7, none⟩ = some a7 ∧ W.cell? ⟨g, o + k * 14 + 8, none⟩ = some a8 ∧ W.cell? ⟨g, o + k * 14 + 9, none⟩ = some a9 ∧ W.cell? ⟨g, o + k * 14 + 10, none⟩ = some b0 ∧ W.cell? ⟨g, o + k * 14 + 11, none⟩ = some b1 ∧ W.cell? ⟨g, o + k * 14 + 12, none⟩ = some b2 ∧ W.cell? ⟨g, o + k * 14 + 13, none⟩ = some b3)
    (first | exact HUP.out _ hd | exact HUP.out _ k1 | exact HUP.out _ k2 | exact HUP.out _ k3 | go_keep)
    (first
     |(go_at_call 12; refine (H1.out _ HBD.out hd).mono ?_; rintro e v1 ⟨rfl, m1, bb1⟩; have k1 := hd.trans bb1)
     |(go_at_call 25; refine (H2.out _ m1 k1).mono ?_; rintro e v2 ⟨rfl, m2, bb2⟩; have k2 := k1.trans bb2)
     |(go_at_call 24; refine (H3.out _ k2).mono ?_; rintro e v3 ⟨rfl, bb3⟩; have k3 := k2.trans (bb3.mono k2.size); have m3 := m2.below bb3))
   all_goals
    have M3 := Lib.hid m3
    have K3 := Lib.hid k3
    clear m1 m2 m3 k1 k2 k3 bb1 bb2 bb3 hd
    go_wp2_with fail
    go_roundw
    case rel => exact ⟨k + 1, by omega, by go_num, by show Both _ _ _ _ _ _; rw [HNX.out]; exact M3.out, K3.out⟩
    case measure => simp [intOf]; omega
  ·obtain rfl : k = N := by omega
   have hT : l.take k = l := List.take_of_length_le (by rw [← HN.out]; exact Nat.le_refl _)
   rw [hT] at HBO
   clear hT
   go_wp2_with fail
   (try simp only [Exit.inBlock, Exit.then])
   refine bodyPost_ret (results_three rfl _ _ _) rfl ?_
   exact ⟨p, q, rfl, HBO.out, HB.out⟩
end Go.Proofs.YteaalifehokgoaaGreatDoor
namespace Go.Proofs.YteaalifehokgoaaGreatDoor
open Go.RowKit Go.Sort Go.Proofs
def longN (x : EntV) : Nat := if 20 < x.1.length ∨ 30 < x.2.1.1.length ∨ 30 < x.2.2.1.1.length ∨ 30 < x.2.2.1.2.1.length ∨ 30 < x.2.2.2.1.1.length ∨ 30 < x.2.2.2.2.1.1.length then 1 else 0
theorem longN_01 (x : EntV) : longN x = 0 ∨ longN x = 1 := by
 unfold longN
 split
 ·exact .inr rfl
 ·exact .inl rfl
theorem longN_short {x : EntV} (h : longN x = 0) : x.2.2.1.1.length ≤ 1000000000 ∧ x.2.2.1.2.1.length ≤ 1000000000 := by
 unfold longN at h
 split at h
 ·cases h
 ·omega
set_option maxHeartbeats 3200000 in
set_option maxRecDepth 100000 in
theorem longEnt_any (x : EntV) (w : World) : Calls Tryz.prog 23 #[.agg (encEnt x).toArray] w fun e w' => e = .returned (.int .i64 (longN x : Nat)) ∧ Below w.heap.size w w' := by
 have BB := Lib.hid (below_one w (.cells (encEnt x).toArray 43))
 have hl := Lies.row (w := w.alloc (.cells (encEnt x).toArray 43)) (encEnt x) (heap_alloc_new _ _)
 obtain ⟨r, hr⟩ : ∃ r, r = longN x := ⟨_, rfl⟩
 rw [← hr]
 have HR := Lib.hid (show r = if 20 < x.1.length ∨ 30 < x.2.1.1.length ∨ 30 < x.2.2.1.1.length ∨ 30 < x.2.2.1.2.1.length ∨ 30 < x.2.2.2.1.1.length ∨ 30 < x.2.2.2.2.1.1.length then 1 else 0 from hr)
 clear hr
 have c0 : (w.alloc (.cells (encEnt x).toArray 43)).cell? ⟨w.heap.size, 0, none⟩ = some (.string ⟨(x.1).toArray⟩) := hl.at 0 _ rfl
 have c1 : (w.alloc (.cells (encEnt x).toArray 43)).cell? ⟨w.heap.size, 1, none⟩ = some (.string ⟨(x.2.1.1).toArray⟩) := hl.at 1 _ rfl
 have c3 : (w.alloc (.cells (encEnt x).toArray 43)).cell? ⟨w.heap.size, 3, none⟩ = some (.string ⟨(x.2.2.1.1).toArray⟩) := hl.at 3 _ rfl
 have c4 : (w.alloc (.cells (encEnt x).toArray 43)).cell? ⟨w.heap.size, 4, none⟩ = some (.string ⟨(x.2.2.1.2.1).toArray⟩) := hl.at 4 _ rfl
 have c7 : (w.alloc (.cells (encEnt x).toArray 43)).cell? ⟨w.heap.size, 7, none⟩ = some (.string ⟨(x.2.2.2.1.1).toArray⟩) := hl.at 7 _ rfl
 have c10 : (w.alloc (.cells (encEnt x).toArray 43)).cell? ⟨w.heap.size, 10, none⟩ = some (.string ⟨(x.2.2.2.2.1.1).toArray⟩) := hl.at 10 _ rfl
 clear hl
 generalize x.1 = k at c0 HR
 generalize x.2.1.1 = g1 at c1 HR
 generalize x.2.2.1.1 = l1 at c3 HR
 generalize x.2.2.1.2.1 = l2 at c4 HR
 generalize x.2.2.2.1.1 = f1 at c7 HR
 generalize x.2.2.2.2.1.1 = t1 at c10 HR
 generalize encEnt x = L at *
 by_cases h0 : 20 < k.length
 ·have b0 : (20 : Int) < (k.length : Int) := by omega
  go_enter Tryz.func23, Tryz.ntmps23
  go_wp2_with fail
  go_ret
  rw [HR.out, if_pos (.inl h0)]
  exact ⟨rfl, BB.out⟩
 ·have b0 : ¬ (20 : Int) < (k.length : Int) := by omega
  by_cases h1 : 30 < g1.length
  ·have b1 : (30 : Int) < (g1.length : Int) := by omega
   go_enter Tryz.func23, Tryz.ntmps23
   go_wp2_with fail
   go_ret
   rw [HR.out, if_pos (.inr (.inl h1))]
   exact ⟨rfl, BB.out⟩
  ·have b1 : ¬ (30 : Int) < (g1.length : Int) := by omega
   by_cases h3 : 30 < l1.length
   ·have b3 : (30 : Int) < (l1.length : Int) := by omega
    go_enter Tryz.func23, Tryz.ntmps23
    go_wp2_with fail
    go_ret
    rw [HR.out, if_pos (.inr (.inr (.inl h3)))]
    exact ⟨rfl, BB.out⟩
   ·have b3 : ¬ (30 : Int) < (l1.length : Int) := by omega
    by_cases h4 : 30 < l2.length
    ·have b4 : (30 : Int) < (l2.length : Int) := by omega
     go_enter Tryz.func23, Tryz.ntmps23
     go_wp2_with fail
     go_ret
     rw [HR.out, if_pos (.inr (.inr (.inr (.inl h4))))]
     exact ⟨rfl, BB.out⟩
    ·have b4 : ¬ (30 : Int) < (l2.length : Int) := by omega
     by_cases h7 : 30 < f1.length
     ·have b7 : (30 : Int) < (f1.length : Int) := by omega
      go_enter Tryz.func23, Tryz.ntmps23
      go_wp2_with fail
      go_ret
      rw [HR.out, if_pos (.inr (.inr (.inr (.inr (.inl h7)))))]
      exact ⟨rfl, BB.out⟩
     ·have b7 : ¬ (30 : Int) < (f1.length : Int) := by omega
      by_cases h10 : 30 < t1.length
      ·have b10 : (30 : Int) < (t1.length : Int) := by omega
       go_enter Tryz.func23, Tryz.ntmps23
       go_wp2_with fail
       go_ret
       rw [HR.out, if_pos (.inr (.inr (.inr (.inr (.inr h10)))))]
       exact ⟨rfl, BB.out⟩
      ·have b10 : ¬ (30 : Int) < (t1.length : Int) := by omega
       go_enter Tryz.func23, Tryz.ntmps23
       go_wp2_with fail
       go_ret
       rw [HR.out, if_neg (by omega)]
       exact ⟨rfl, BB.out⟩
theorem longN_ShortE {x : EntV} (h : longN x = 0) : x.2.1.1.length ≤ 1000000 ∧ x.2.2.1.1.length ≤ 1000000 ∧ x.2.2.1.2.1.length ≤ 1000000 ∧ x.2.2.2.1.1.length ≤ 1000000 ∧ x.2.2.2.2.1.1.length ≤ 1000000 := by
 unfold longN at h
 split at h
 ·cases h
 ·omega
def longL (l : List EntV) (most : Nat) : Nat := if most < l.length then 1 else if l.any (fun x => decide (longN x = 1)) = true then 1 else 0
theorem longL_01 (l : List EntV) (n : Nat) : longL l n = 0 ∨ longL l n = 1 := by
 unfold longL
 repeat' split
 all_goals simp
theorem longL_short {l : List EntV} {most : Nat} (h : longL l most = 0) : l.length ≤ most ∧ ∀ x ∈ l, longN x = 0 := by
 unfold longL at h
 split at h
 ·cases h
 split at h
 ·cases h
 rename_i h1 h2
 refine ⟨by omega, fun x hx => ?_⟩
 rcases longN_01 x with h3 | h3
 ·exact h3
 ·exact absurd (List.any_eq_true.2 ⟨x, hx, by simpa using h3⟩) h2
set_option maxHeartbeats 1600000 in
set_option maxRecDepth 100000 in
theorem longEntries_any (A : Option Addr) (cap : Nat) (l : List EntV) (most : Nat) (w : World) (hmo : most ≤ 1000) (hrow : RowAt encEnt 14 w A l) :
  Calls Tryz.prog 7 #[.slice A l.length cap, .int .i64 (most : Nat)] w fun e w' => e = .returned (.int .i64 (longL l most : Nat)) ∧ Below w.heap.size w w' := by
 have HR := Lib.hid (fun W (h : Below w.heap.size w W) => hrow.below h)
 have HLE := Lib.hid (fun x W => longEnt_any x W)
 obtain ⟨r, hr⟩ : ∃ r, r = longL l most := ⟨_, rfl⟩
 rw [← hr]
 unfold longL at hr
 have HRR := Lib.hid hr
 obtain ⟨N, hN⟩ : ∃ N, N = l.length := ⟨_, rfl⟩
 have HN := Lib.hid hN
 rw [← hN] at HRR ⊢
 clear hr hrow
 by_cases hm : most < N
 ·have HT := Lib.hid (HRR.out.trans (if_pos hm))
  have hm' : ((most : Nat) : Int) < (N : Nat) := by omega
  clear hN
  go_enter Tryz.func7, Tryz.ntmps7
  go_wp2_with fail
  go_ret
  rw [HT.out]
  exact ⟨rfl, Below.refl _ _⟩
 have HT := Lib.hid (HRR.out.trans (if_neg hm))
 have hm' : ¬ ((most : Nat) : Int) < (N : Nat) := by omega
 have hNb : N ≤ 1000 := by omega
 clear hN HRR
 go_enter Tryz.func7, Tryz.ntmps7
 go_wp2_with fail
 go_loopw [5] (fun i wr => ∃ k : Nat, k ≤ N ∧ i = .int .i64 k ∧ Hid (∀ j (h : j < l.length), j < k → longN l[j] = 0) ∧ Hid (Below w.heap.size w wr)) (fun i _ => N - (intOf i).toNat)
 case atStart => exact ⟨0, by omega, rfl, fun j _ h => absurd h (Nat.not_lt_zero _), Below.refl _ _⟩
 case round =>
  obtain ⟨k, hk, rfl, HNO, HB⟩ := hrel
  by_cases hkN : k < N
  ·have hkx : k < l.length := by rw [← HN.out]; exact hkN
   obtain ⟨g, o, rfl, lg, cg⟩ := HR.out w (Below.refl _ _) |>.resolve_left (fun h => by rw [h] at hkx; simp at hkx)
   obtain ⟨x, hx⟩ : ∃ x, x = l[k] := ⟨_, rfl⟩
   have hlies : Lies wr g (o + k * 14) (encEnt x) := fun j v hv =>
    (HB.out.cell (p := ⟨g, o + k * 14 + j, none⟩) lg).trans (cg k hkx j v (by rw [← hx]; exact hv))
   have HX := Lib.hid hx
   have HLX := Lib.hid (HLE.out x)
   have h14 : (encEnt x).length = 14 := rfl
   have HL := Lib.hid hlies
   clear hx cg hlies
   obtain ⟨LX, hLX⟩ : ∃ LX, LX = encEnt x := ⟨_, rfl⟩
   rw [← hLX] at HLX HL h14
   clear hLX
   rcases longN_01 x with h0 | h0
   ·rw [h0] at HLX
    have HNX : Hid (∀ j (h : j < l.length), j < k + 1 → longN l[j] = 0) := fun j hj hjk => by
     rcases Nat.lt_succ_iff_lt_or_eq.1 hjk with h | rfl
     ·exact HNO.out j hj h
     ·rw [← HX.out]; exact h0
    clear h0
    go_wp2_with (refine wpList_load_at rfl 43 _ rfl g (o + k * 14) rfl LX HL.out _ Tryz.underlying43 rfl (by rw [h14]; kernel_rfl) ?_)
    refine (HLX.out wr).mono ?_
    rintro e w1 ⟨rfl, b1⟩
    have B1 := Lib.hid (HB.out.trans (b1.mono HB.out.size))
    clear b1
    go_wp2_with fail
    go_roundw
    case rel => exact ⟨k + 1, by omega, by go_num, HNX.out, B1.out⟩
    case measure => simp [intOf]; omega
   ·rw [h0] at HLX
    have HT1 : Hid (r = 1) := by
     show _ = _
     rw [HT.out, if_pos]
     exact List.any_eq_true.2 ⟨x, by rw [HX.out]; exact List.getElem_mem hkx, by simpa using h0⟩
    clear h0
    go_wp2_with (refine wpList_load_at rfl 43 _ rfl g (o + k * 14) rfl LX HL.out _ Tryz.underlying43 rfl (by rw [h14]; kernel_rfl) ?_)
    refine (HLX.out wr).mono ?_
    rintro e w1 ⟨rfl, b1⟩
    have B1 := Lib.hid (HB.out.trans (b1.mono HB.out.size))
    clear b1
    go_wp2_with fail
    go_ret
    rw [HT1.out]
    exact ⟨rfl, B1.out⟩
  ·obtain rfl : k = N := by omega
   have HT1 : Hid (r = 0) := by
    show _ = _
    rw [HT.out, if_neg]
    intro h
    obtain ⟨x, hx, h1⟩ := List.any_eq_true.1 h
    obtain ⟨j, hj, rfl⟩ := List.mem_iff_getElem.1 hx
    have := HNO.out j hj (by rw [HN.out]; exact hj)
    simp [this] at h1
   go_wp2_with fail
   go_ret
   rw [HT1.out]
   exact ⟨rfl, HB.out⟩
end Go.Proofs.YteaalifehokgoaaGreatDoor
