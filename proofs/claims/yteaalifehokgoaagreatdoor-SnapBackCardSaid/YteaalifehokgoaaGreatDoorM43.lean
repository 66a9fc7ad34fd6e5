/- A line of a stock read: stock.ReadLine. A slice of strings appended to one that the call owns. Slices of strings that a call owns: one more appended; joined. A range over a function whose body turns memory: what its iterator owes, what its body owes; told by what blocks may turn. -/
import Derived.Maps.AppendAt
import Derived.OwnWalk
import Derived.Lib.Join
import Derived.RangeFuncNested
import Derived.RangeFuncBound
import Derived.RangeFuncCalls
import Derived.RangeFuncLeaves
import Derived.Test.YteaalifehokgoaaGreatDoorM01
import Derived.Test.YteaalifehokgoaaGreatDoorM14
import Derived.Test.YteaalifehokgoaaGreatDoorM16
import Derived.Test.YteaalifehokgoaaGreatDoorM17
namespace Go.Proofs.YteaalifehokgoaaGreatDoor
open Go.RowKit Go.Sort Go.Proofs
set_option maxHeartbeats 6000000 in
set_option maxRecDepth 100000 in
theorem lineRead_any (E : Nat → Addr) (s : ByteArray) (hs : s.size ≤ 1000000) (w : World) (hG : ReadG E w) :
  Calls Tryz.prog 89 #[.string s] w fun e w' => e = .returned (.tuple #[.agg (encLine (lineWords (splitL 32 (bts s))).1).toArray, errOf E (lineWords (splitL 32 (bts s))).2]) ∧ Below w.heap.size w w' := by
 have HSP := Lib.hid (fun W (h : MaxG W) => split_any s 32 W (by omega) h)
 have hle := fun x (h : x ∈ splitL 32 (bts s)) => splitL_lens h
 generalize splitL 32 (bts s) = ws at HSP hle ⊢
 rw [show (bts s).length = s.size from rfl] at hle
 have HG := Lib.hid (fun W (h : Below w.heap.size w W) => hG.below h)
 have hgT := lt_of_cell hG.text
 have hgN := lt_of_cell hG.name
 have hgB := lt_of_cell hG.bound
 simp only at hgT hgN hgB
 have b0 := below_one w (.cells #[.string ⟨#[]⟩, .int .i64 0, .int .i64 0, .string ⟨#[]⟩, .int .i64 0] 90)
 have hz0 := heap_alloc_new w (.cells #[.string ⟨#[]⟩, .int .i64 0, .int .i64 0, .string ⟨#[]⟩, .int .i64 0] 90)
 clear hG
 go_enter Tryz.func89, Tryz.ntmps89
 go_wp2_with fail
 obtain ⟨rb, hrb⟩ : ∃ rb, rb = w.heap.size := ⟨_, rfl⟩
 have HRB : Hid (w.heap.size ≤ rb) := by show _ ≤ _; omega
 rw [← hrb] at hz0 hgT hgN hgB ⊢
 generalize w.alloc (.cells #[.string ⟨#[]⟩, .int .i64 0, .int .i64 0, .string ⟨#[]⟩, .int .i64 0] 90) = W0 at b0 hz0 ⊢
 refine (HSP.out W0 (HG.out _ b0).maxl).mono ?_
 rintro e w1 ⟨A, cap, rfl, hS, -, bb1⟩
 have HZ1 := Lib.hid ((bb1.block rb (row_lt hz0)).trans hz0)
 have B1 := Lib.hid (b0.trans (bb1.mono b0.size))
 clear bb1 hz0 b0 HSP hrb
 by_cases h4 : ws.length = 3
 ·obtain ⟨a, b, c, rfl⟩ := three h4
  have ha := hle a (by simp)
  have hb := hle b (by simp)
  have hcl := hle c (by simp)
  have HNU := Lib.hid (fun W h1 h2 => numb_any c 13 (by omega) (by omega) W h1 h2)
  have HNM := Lib.hid (fun W => name_wide b W)
  have HPL := Lib.hid (fun W hg => placeRead_any E ⟨a.toArray⟩ (by show a.toArray.size ≤ _; simp; omega) W hg)
  have HWI := Lib.hid (fun n W => within_any n 1 1099511627776 W)
  rw [show bts ⟨a.toArray⟩ = a from rfl] at HPL
  have HL0 := Lib.hid (fun h => lineWords_none (a := a) (b := b) (c := c) h)
  have HL1 := Lib.hid (fun n h => lineWords_some (a := a) (b := b) (c := c) (n := n) h)
  generalize placeWords (splitL 45 a) = P at HPL HL1
  generalize nameB b = nb at HNM HL1
  obtain ⟨bl, o, rfl, hl, p0, p1, p2⟩ := strs3 hS
  rw [show [a, b, c].length = 3 from rfl]
  clear hS hle h4
  go_wp2_with fail
  refine (HNU.out _ (HG.out _ B1.out).tab (HG.out _ B1.out).atoi).mono ?_
  rintro e w2 ⟨n0, rfl, hn0, b2⟩
  have B2 := Lib.hid (B1.out.trans (b2.mono B1.out.size))
  have HZ2 := Lib.hid ((b2.block rb (row_lt HZ1.out)).trans HZ1.out)
  have HN0 := Lib.hid hn0
  have up := fun (q : Addr) (v : Value) (h : w1.cell? q = some v) => (b2.cell (lt_of_cell h)).trans h
  have q0 := up _ _ p0
  have q1 := up _ _ p1
  clear up p0 p1 p2 b2 hn0 B1 HZ1 hl HNU
  cases hq : numQ c 13 with
  |none =>
   have HR := Lib.hid (HL0.out hq)
   have hg := (HG.out _ B2.out).text
   unfold ErrAt at hg
   have hne : 1 ≠ rb := by omega
   obtain ⟨⟨z0, z1, z2, z3, z4⟩, f0, f1, f2, f3, f4⟩ := row5f HZ2.out
   clear hq HL0 HL1 HN0
   go_wp2_with fail
   go_region
   all_goals
    go_wp2_with fail
    (try simp only [Exit.inBlock, Exit.then])
    refine bodyPost_ret (results_cell_row2 rfl _ _ rb 90 #[.string ⟨#[]⟩, .int .i64 0, .int .i64 0, .string ⟨#[]⟩, .int .i64 0] (0, 0) _ rfl (puts_row [.string ⟨#[]⟩, .int .i64 0, .int .i64 0, .string ⟨#[]⟩, .int .i64 0] HZ2.out rfl) Tryz.underlying90 rfl (by kernel_rfl)) rfl ?_
    rw [HR.out]
    exact ⟨rfl, (puts_below HRB.out [.string ⟨#[]⟩, .int .i64 0, .int .i64 0, .string ⟨#[]⟩, .int .i64 0] _ 0 B2.out).drew⟩
  |some n =>
   have hn := HN0.out n hq
   subst hn
   have HR := Lib.hid (HL1.out n hq)
   clear hq HL0 HL1 HN0
   go_wp2_with fail
   refine (HPL.out _ (HG.out _ B2.out)).mono ?_
   rintro e w3 ⟨rfl, b3⟩
   obtain ⟨⟨y1, y2, y3⟩, pe⟩ := P
   simp only [encPlace]
   have hz3 := (b3.block rb (row_lt HZ2.out)).trans HZ2.out
   have b3x := below_one w3 (.cells #[.string ⟨y1.toArray⟩, .int .i64 y2, .int .i64 y3] 41)
   have HX := Lib.hid (heap_alloc_new w3 (.cells #[.string ⟨y1.toArray⟩, .int .i64 y2, .int .i64 y3] 41))
   have HZ4 := Lib.hid ((b3x.block rb (row_lt hz3)).trans hz3)
   have HB4 := Lib.hid (B2.out.trans ((b3.trans (b3x.mono b3.size)).mono B2.out.size))
   have up := fun (q : Addr) (v : Value) (h : w2.cell? q = some v) => ((b3.trans (b3x.mono b3.size)).cell (lt_of_cell h)).trans h
   have k1 := up _ _ q1
   clear up q0 q1 b3 b3x hz3 HZ2 B2 HPL
   by_cases hpe : pe = 0
   ·subst hpe
    rw [errOf_zero]
    go_wp2_with fail
    generalize w3.alloc (.cells #[.string ⟨y1.toArray⟩, .int .i64 y2, .int .i64 y3] 41) = w4 at *
    generalize w3.heap.size = xb at *
    refine (HNM.out _).mono ?_
    rintro e w5 ⟨rfl, b5⟩
    have HX5 := Lib.hid ((b5.block xb (row_lt HX.out)).trans HX.out)
    have HZ5 := Lib.hid ((b5.block rb (row_lt HZ4.out)).trans HZ4.out)
    have HB5 := Lib.hid (HB4.out.trans (b5.mono HB4.out.size))
    have j1 := (b5.cell (lt_of_cell k1)).trans k1
    clear b5 k1 HX HZ4 HB4
    obtain ⟨⟨z0, z1, z2, z3, z4⟩, f0, f1, f2, f3, f4⟩ := row5f HZ5.out
    cases nb with
    |false =>
     have hg := (HG.out _ HB5.out).name
     unfold ErrAt at hg
     have hne : 4 ≠ rb := by omega
     go_wp2_with fail
     go_region
     all_goals
      go_wp2_with fail
      (try simp only [Exit.inBlock, Exit.then])
      refine bodyPost_ret (results_cell_row2 rfl _ _ rb 90 #[.string ⟨#[]⟩, .int .i64 0, .int .i64 0, .string ⟨#[]⟩, .int .i64 0] (0, 0) _ rfl (puts_row [.string ⟨#[]⟩, .int .i64 0, .int .i64 0, .string ⟨#[]⟩, .int .i64 0] HZ5.out rfl) Tryz.underlying90 rfl (by kernel_rfl)) rfl ?_
      rw [HR.out, if_neg (by simp), if_pos (by simp)]
      exact ⟨rfl, (puts_below HRB.out [.string ⟨#[]⟩, .int .i64 0, .int .i64 0, .string ⟨#[]⟩, .int .i64 0] _ 0 HB5.out).drew⟩
    |true =>
     go_wp2_with fail
     refine (HWI.out _ _).mono ?_
     rintro e w6 ⟨rfl, rfl⟩
     by_cases hwi : wiB (n : Int) 1 1099511627776 = false
     ·rw [hwi]
      have hg := (HG.out _ HB5.out).bound
      unfold ErrAt at hg
      have hne : 0 ≠ rb := by omega
      have HR2 := Lib.hid (HR.out.trans (by rw [if_neg (by simp), if_neg (by simp), if_pos hwi]))
      clear hwi
      go_wp2_with fail
      go_region
      all_goals
       go_wp2_with fail
       (try simp only [Exit.inBlock, Exit.then])
       refine bodyPost_ret (results_cell_row2 rfl _ _ rb 90 #[.string ⟨#[]⟩, .int .i64 0, .int .i64 0, .string ⟨#[]⟩, .int .i64 0] (0, 0) _ rfl (puts_row [.string ⟨#[]⟩, .int .i64 0, .int .i64 0, .string ⟨#[]⟩, .int .i64 0] HZ5.out rfl) Tryz.underlying90 rfl (by kernel_rfl)) rfl ?_
       rw [HR2.out]
       exact ⟨rfl, (puts_below HRB.out [.string ⟨#[]⟩, .int .i64 0, .int .i64 0, .string ⟨#[]⟩, .int .i64 0] _ 0 HB5.out).drew⟩
     ·have hwt : wiB (n : Int) 1 1099511627776 = true := by simpa using hwi
      rw [hwt]
      have HR2 := Lib.hid (HR.out.trans (by rw [if_neg (by simp), if_neg (by simp), if_neg hwi]))
      obtain ⟨⟨x0, x1, x2⟩, -⟩ := row3f HX5.out
      clear hwi hwt
      go_wp2_with fail
      go_region
      all_goals
       go_wp2_with fail
       (try simp only [Exit.inBlock, Exit.then])
       refine bodyPost_ret (results_cell_row2 rfl _ _ rb 90 #[.string ⟨y1.toArray⟩, .int .i64 y2, .int .i64 y3, .string ⟨b.toArray⟩, .int .i64 (n : Int)] (0, 0) _ rfl (puts_row [.string ⟨y1.toArray⟩, .int .i64 y2, .int .i64 y3, .string ⟨b.toArray⟩, .int .i64 (n : Int)] HZ5.out rfl) Tryz.underlying90 rfl (by kernel_rfl)) rfl ?_
       rw [HR2.out]
       exact ⟨rfl, (puts_below HRB.out [.string ⟨y1.toArray⟩, .int .i64 y2, .int .i64 y3, .string ⟨b.toArray⟩, .int .i64 (n : Int)] _ 0 HB5.out).drew⟩
   ·rw [errOf_pos _ _ hpe]
    go_wp2_with (refine wpList_store_box rfl 90 _ _ rfl rb [.string ⟨#[]⟩, .int .i64 0, .int .i64 0, .string ⟨#[]⟩, .int .i64 0] rfl rfl 90 [.string ⟨#[]⟩, .int .i64 0, .int .i64 0, .string ⟨#[]⟩, .int .i64 0] HZ4.out (by kernel_rfl) rfl (encLine_one zeroLine) ?_; intro wf hf tf)
    (try simp only [Exit.inBlock, Exit.then])
    refine bodyPost_ret (results_cell_row2 rfl _ _ rb 90 #[.string ⟨#[]⟩, .int .i64 0, .int .i64 0, .string ⟨#[]⟩, .int .i64 0] (0, 0) _ rfl hf Tryz.underlying90 rfl (by kernel_rfl)) rfl ?_
    rw [HR.out, if_pos (show pe ≠ 0 from hpe), errOf_pos _ _ hpe]
    exact ⟨rfl, HB4.out.trans (tf.below HRB.out)⟩
 ·have HW := Lib.hid (lineWords_len h4)
  obtain ⟨n, hn⟩ : ∃ n, n = ws.length := ⟨_, rfl⟩
  rw [← hn] at h4 ⊢
  have h4' : ¬ (n : Int) = 3 := by omega
  have hg := (HG.out _ B1.out).text
  unfold ErrAt at hg
  have hne : 1 ≠ rb := by omega
  obtain ⟨⟨z0, z1, z2, z3, z4⟩, f0, f1, f2, f3, f4⟩ := row5f HZ1.out
  clear hn
  go_wp2_with fail
  go_region
  all_goals
   go_wp2_with fail
   (try simp only [Exit.inBlock, Exit.then])
   refine bodyPost_ret (results_cell_row2 rfl _ _ rb 90 #[.string ⟨#[]⟩, .int .i64 0, .int .i64 0, .string ⟨#[]⟩, .int .i64 0] (0, 0) _ rfl (puts_row [.string ⟨#[]⟩, .int .i64 0, .int .i64 0, .string ⟨#[]⟩, .int .i64 0] HZ1.out rfl) Tryz.underlying90 rfl (by kernel_rfl)) rfl ?_
   rw [HW.out]
   exact ⟨rfl, (puts_below HRB.out [.string ⟨#[]⟩, .int .i64 0, .int .i64 0, .string ⟨#[]⟩, .int .i64 0] _ 0 B1.out).drew⟩
end Go.Proofs.YteaalifehokgoaaGreatDoor
namespace Go.Proofs.YteaalifehokgoaaGreatDoor
open Go.RowKit
theorem StrsAt.lt {w : World} {A : Option Addr} {xs : List (List UInt8)} (h : StrsAt w A xs) (hx : xs ≠ []) : ∀ a, A = some a → a.block < w.heap.size := by
 rcases h with h | ⟨b, o, h1, h2, _⟩
 ·exact absurd h hx
 ·intro a ha
  rw [h1] at ha
  cases ha
  exact h2
end Go.Proofs.YteaalifehokgoaaGreatDoor
namespace Go.Proofs.YteaalifehokgoaaGreatDoor
open Go.RowKit
theorem join_joinL (c : UInt8) (xs : List (List UInt8)) : Lib.join xs [c] = joinL c xs := by
 induction xs with
 |nil => rfl
 |cons x r ih =>
  rw [Lib.join_cons]
  cases r with
  |nil => simp [Lib.joinTail, joinL]
  |cons y q =>
   rw [joinL_cons, ← ih, Lib.join_cons]
   simp [Lib.joinTail]
theorem joinLies_any (c : UInt8) (A : Option Addr) (cap : Nat) (xs : List (List UInt8)) (w : World) (h : StrsAt w A xs) (hc : xs.length ≤ cap) (hl : xs.length ≤ 1000000) (hj : (joinL c xs).length ≤ 140737488355328) :
  Calls Tryz.prog 90 #[.slice A xs.length cap, .string ⟨#[c]⟩] w fun e w' => e = .returned (.string ⟨(joinL c xs).toArray⟩) ∧ Below w.heap.size w w' := by
 rcases h with rfl | ⟨g, o, rfl, hgl, hx⟩
 ·exact (Tryz.strings_Join_none A cap ⟨#[c]⟩ w).mono fun e w' hh => by
   obtain ⟨he, rfl⟩ := hh
   exact ⟨he, Below.refl _ _⟩
 ·have e : (xs.map fun x => (⟨x.toArray⟩ : ByteArray)).map (·.data.toList) = xs := by simp [Function.comp_def]
  have h := Tryz.strings_Join g o cap (xs.map fun x => (⟨x.toArray⟩ : ByteArray)) ⟨#[c]⟩ w (fun j x hx' => ?_) hgl (by simp; omega) (by simpa using hc) (by rw [e]; show (Lib.join xs [c]).length ≤ _; rw [join_joinL]; exact hj)
  ·rw [e, List.length_map] at h
   rw [← join_joinL]
   exact h
  ·obtain ⟨hj, hx2⟩ := List.getElem?_eq_some_iff.1 hx'
   have hj : j < xs.length := by simpa using hj
   rw [hx j hj]
   simp at hx2
   simp [hx2]
end Go.Proofs.YteaalifehokgoaaGreatDoor
namespace Go.Proofs.YteaalifehokgoaaGreatDoor
open Go.RowKit Go.Proofs
def SeqX {α : Type} (P : Program) (gf : Nat) (lb : Array Value) (encs : α → Array Value) (xs : List α) (b : Nat) (Kp : List Nat) (Ok : World → Prop) : Prop :=
 ∀ (l : Nat) (J : Nat → World → Prop) (Jx : World → Prop) (W : World), Ok W → (∀ i W1 W2, J i W1 → ButF [b] W1 W2 → J i W2) → (∀ i W, J i W → ∀ k ∈ b :: Kp, k < W.heap.size) →
  (∀ i W1 (h : i < xs.length), J i W1 → YieldAt Fence.wide 1 P l (encs xs[i]) W1 fun e W' => (e = .returned (.bool true) ∧ J (i + 1) W' ∧ (∀ k ∈ Kp, W'.heap[k]? = W1.heap[k]?) ∧ W1.heap.size ≤ W'.heap.size) ∨ (e = .returned (.bool false) ∧ Jx W')) →
  J 0 W →
  Calls P gf (#[.func (.yield l) #[] #[]] ++ lb) W fun e W' => (∃ v, e = .returned v) ∧ (J xs.length W' ∨ Jx W')
def endX (Kp : List Nat) (D : Nat) (W : World) (I : World → Prop) (Ix : World → Prop) : Exit → Act → World → Prop
 |.normal, _, W' => I W' ∧ (∀ k ∈ D :: (D + 1) :: Kp, W'.heap[k]? = W.heap[k]?) ∧ W.heap.size ≤ W'.heap.size
 |.ret, _, W' => Ix W' ∧ (∀ k ∈ D :: (D + 1) :: Kp, W'.heap[k]? = W.heap[k]?) ∧ W.heap.size ≤ W'.heap.size
 |_, _, _ => False
theorem butF_put {W : World} {k : Nat} {o : Obj} {X : List Nat} (h : k ∈ X) : ButF X W (W.putObj k o) :=
 ⟨rfl, rfl, rfl, by simp, fun i _ hi => World.putObj_heap_other fun e => hi (e ▸ h)⟩
theorem wp_rangeFunc_x {α : Type} {P : Program} {g : Operand} {ps : Array Tmp} {assign body : Code} {Q : Exit → Act → World → Prop} {a : Act} {w : World} {gf : Nat} {lb : Array Value}
  (hg : a.eval g = .func (.func gf) #[] lb) (eg : ∀ args w, (callFunc gf args).run P w = .ok (.enter gf args) w) {encs : α → Array Value} {xs : List α} {b : Nat} {Kp : List Nat} {Ok : World → Prop}
  (hseq : SeqX P gf lb encs xs b Kp Ok) (hok : ∀ W, Below w.heap.size w W → Ok W) (hbk : ∀ k ∈ b :: Kp, k < w.heap.size) (hps : ∀ x, (encs x).size = ps.size)
  (I : Nat → World → Prop) (Ix : World → Prop) (hI : ∀ i W W', I i W → ButF [b, w.heap.size, w.heap.size + 1] W W' → I i W') (hIx : ∀ W W', Ix W → ButF [b, w.heap.size, w.heap.size + 1] W W' → Ix W') (h0 : I 0 w) (up0 up : α → Array Value → Array Value) (hup : ∀ x t, (ps.zip (encs x)).foldl (fun t (p, v) => t.setIfInBounds p v) t = up0 x t)
  (hassign : ∀ (l : Nat) (x : α) (W : World) (K : Act → World → Prop), K { tmps := up x (up0 x a.tmps), defers := [] } W →
   assign.wpIn (Fence.wide.inRound l) 1 P (Exit.then K (fun _ _ _ => False)) { tmps := up0 x a.tmps, defers := [] } W)
  (hbody : ∀ (l : Nat) (i : Nat) (h : i < xs.length) (W : World), w.heap.size + 1 < W.heap.size → I i W → body.wpIn (Fence.wide.inRound l) 1 P (endX Kp w.heap.size W (I (i + 1)) Ix) { tmps := up xs[i] (up0 xs[i] a.tmps), defers := [] } W)
  (hdone : ∀ (W : World), I xs.length W → W.heap[w.heap.size]? = some (.deferred (some [])) → Q .normal { a with defers := { target := .collected w.heap.size, args := #[] } :: a.defers } W)
  (hstop : ∀ (W : World), Ix W → W.heap[w.heap.size]? = some (.deferred (some [])) → Code.ret.wp P Q { a with defers := { target := .collected w.heap.size, args := #[] } :: a.defers } W) :
  (Code.rangeFunc g ps assign body).wp P Q a w := by
 refine (wpIn_wide (n := 2)).1 (wpIn_rangeFunc ?_)
 intro fn hfn
 have hb : b < w.heap.size := hbk b (by simp)
 obtain ⟨rec, hrec⟩ : ∃ rec : LoopState → Option Code → Loop, rec = fun st pe => { state := st, pending := pe, fn, tmps := a.tmps, params := ps, assign, body, defers := w.heap.size } := ⟨_, rfl⟩
 obtain ⟨W1, hW1⟩ : ∃ W1, (w.alloc (.deferred (some []))).alloc (.loop (rec .ready none)) = W1 := ⟨_, rfl⟩
 have hL1 : W1.heap[w.heap.size + 1]? = some (.loop (rec .ready none)) := by
  rw [← hW1]; have := World.alloc_heap_new (w.alloc (.deferred (some []))) (.loop (rec .ready none)); rwa [World.size_alloc] at this
 have hK1 : W1.heap[w.heap.size]? = some (.deferred (some [])) := by
  rw [← hW1]; exact (Below.heap_alloc _ _ _ (by simp)).trans (World.alloc_heap_new w _)
 have hb1 : Below w.heap.size w W1 := by
  rw [← hW1]; exact ((Below.refl _ w).alloc (Nat.le_refl _) _).alloc (by simp) _
 have hI1 : I 0 W1 := hI 0 w W1 h0 (ButF.of_below hb1)
 refine ⟨w.heap.size + 1, [{ target := .collected w.heap.size, args := #[] }], W1, { target := .fn (.func gf) lb, args := #[.func (.yield (w.heap.size + 1)) #[] #[]] }, W1, gf,
  #[.func (.yield (w.heap.size + 1)) #[] #[]] ++ lb, W1, ?_, ?_, ?_, ?_, ?_, ?_⟩
 ·rw [← hW1, hrec]; exact run_enterLoop_outer _ _ _ _ _
 ·simp only [resolve, hg]
  simp [go_sem]
 ·intro f' hf'; trivial
 ·simp [invoke, go_sem, eg]
 ·intro h; simp [Fence.wide] at h
 ·refine callsIn_wide.2 ?_
  have hbl : ∀ {i}, i = w.heap.size ∨ i = w.heap.size + 1 → i ≠ b := fun hi e => by omega
  refine (hseq (w.heap.size + 1)
   (fun i W => I i W ∧ W.heap[w.heap.size + 1]? = some (.loop (rec .ready none)) ∧ W.heap[w.heap.size]? = some (.deferred (some [])))
   (fun W => Ix W ∧ W.heap[w.heap.size + 1]? = some (.loop (rec .done (some .ret))) ∧ W.heap[w.heap.size]? = some (.deferred (some [])))
   W1 (hok W1 hb1) ?_ ?_ ?_ ⟨hI1, hL1, hK1⟩).mono ?_
  ·rintro i A B ⟨h1, h2, h3⟩ hB
   refine ⟨hI i A B h1 (hB.mono fun k hk => .inl (by simp only [List.mem_singleton] at hk; simp [hk])), ?_, ?_⟩
   ·exact (hB.block _ (Array.getElem?_eq_some_iff.1 h2).1 (by simpa using hbl (.inr rfl))).trans h2
   ·exact (hB.block _ (Array.getElem?_eq_some_iff.1 h3).1 (by simpa using hbl (.inl rfl))).trans h3
  ·rintro i W ⟨-, h2, -⟩ k hk
   have := (Array.getElem?_eq_some_iff.1 h2).1
   have := hbk k hk
   omega
  ·-- ONE ROUND
   rintro i W h ⟨hi, hl, hk⟩
   have hlt : w.heap.size + 1 < W.heap.size := (Array.getElem?_eq_some_iff.1 hl).1
   have hy := run_yield (P := P) (args := encs xs[i]) hl (by rw [hrec]; exact hps _)
   rw [hrec] at hy
   rw [hup] at hy
   refine ⟨fn, _, assign, body, hy, roundIn_of_wpIn hfn (hassign _ xs[i] W _ ?_)⟩
   clear hy
   refine ⟨_, run_beginRound hl (by rw [hrec]), ?_⟩
   have hl2 : (W.putObj (w.heap.size + 1) (.loop { rec .ready none with state := .busy })).heap[w.heap.size + 1]? = some (.loop { rec .ready none with state := .busy }) := World.putObj_heap_same hlt
   have hk2 : (W.putObj (w.heap.size + 1) (.loop { rec .ready none with state := .busy })).heap[w.heap.size]? = some (.deferred (some [])) := (World.putObj_heap_other (by omega)).trans hk
   have hb2 : ∀ k ∈ Kp, (W.putObj (w.heap.size + 1) (.loop { rec .ready none with state := .busy })).heap[k]? = W.heap[k]? := fun k hk => World.putObj_heap_other (by have := hbk k (List.mem_cons_of_mem _ hk); omega)
   refine wpIn_mono (hbody _ i h _ (by simpa using hlt) (hI i _ _ hi (butF_put (by simp)))) ?_
   have fin : ∀ (jump : Option Code) (W3 : World), (∀ k ∈ w.heap.size :: (w.heap.size + 1) :: Kp, W3.heap[k]? = (W.putObj (w.heap.size + 1) (.loop { rec .ready none with state := .busy })).heap[k]?) →
     (Instr.endRound (w.heap.size + 1) jump).run P W3 = .ok (.bool jump.isNone) (W3.putObj (w.heap.size + 1) (.loop (rec (if jump.isNone then .ready else .done) jump))) ∧
     (W3.putObj (w.heap.size + 1) (.loop (rec (if jump.isNone then .ready else .done) jump))).heap[w.heap.size + 1]? = some (.loop (rec (if jump.isNone then .ready else .done) jump)) ∧
     (W3.putObj (w.heap.size + 1) (.loop (rec (if jump.isNone then .ready else .done) jump))).heap[w.heap.size]? = some (.deferred (some [])) ∧
     ∀ k ∈ Kp, (W3.putObj (w.heap.size + 1) (.loop (rec (if jump.isNone then .ready else .done) jump))).heap[k]? = W.heap[k]? := fun jump W3 hk3 => by
    have hl3 := (hk3 (w.heap.size + 1) (by simp)).trans hl2
    have := run_endRound (P := P) jump hl3
    rw [hrec] at this ⊢
    exact ⟨this, World.putObj_heap_same (Array.getElem?_eq_some_iff.1 hl3).1, (World.putObj_heap_other (by omega)).trans ((hk3 _ (by simp)).trans hk2), fun k hk => (World.putObj_heap_other (by have := hbk k (List.mem_cons_of_mem _ hk); omega)).trans ((hk3 k (by simp [hk])).trans (hb2 k hk))⟩
   rintro e a3 W3 hp
   cases e with
   |normal =>
    obtain ⟨hi3, hk3, hs3⟩ := hp
    obtain ⟨hr, hl4, hk4, hb4⟩ := fin none W3 hk3
    exact ⟨_, _, hr, .inl ⟨rfl, ⟨hI _ _ _ hi3 (butF_put (by simp)), hl4, hk4⟩, hb4, by simpa using hs3⟩⟩
   |ret =>
    obtain ⟨hi3, hk3, hs3⟩ := hp
    obtain ⟨hr, hl4, hk4, hb4⟩ := fin (some .ret) W3 hk3
    exact ⟨_, _, hr, .inr ⟨rfl, hIx _ _ hi3 (butF_put (by simp)), hl4, hk4⟩⟩
   |exit id => exact hp.elim
   |goto t => exact hp.elim
   |panic ch => exact hp.elim
   |outgrown => exact hp.elim
  ·-- BEHIND THE ITERATOR
   rintro e W2 ⟨⟨v, rfl⟩, (⟨hi, hl, hk⟩ | ⟨hi, hl, hk⟩)⟩
   ·exact ⟨none, _, by have := run_endLoop (P := P) hl (by rw [hrec]; simp); rw [hrec] at this; exact this, hdone _ (hI _ _ _ hi (butF_put (by simp))) ((World.putObj_heap_other (by omega)).trans hk)⟩
   ·exact ⟨some .ret, _, by have := run_endLoop (P := P) hl (by rw [hrec]; simp); rw [hrec] at this; exact this, wpIn_wide.2 (hstop _ (hIx _ _ hi (butF_put (by simp))) ((World.putObj_heap_other (by omega)).trans hk))⟩
end Go.Proofs.YteaalifehokgoaaGreatDoor
