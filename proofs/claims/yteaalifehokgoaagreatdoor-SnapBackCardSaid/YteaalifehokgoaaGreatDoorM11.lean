/- A stock of the document: with. -/
import Derived.Test.YteaalifehokgoaaGreatDoorM05
import Derived.Test.YteaalifehokgoaaGreatDoorM10
namespace Go.Proofs.YteaalifehokgoaaGreatDoor
open Go.RowKit Go.Sort Go.Proofs
def wstep (x : LineV) (st : List LineV × Bool) (y : LineV) : List LineV × Bool :=
 if isAt x.1 x.2.1 y = true then st else if st.2 = false ∧ ltOf cfLine x y = true then (st.1 ++ [x] ++ [y], true) else (st.1 ++ [y], st.2)
def withP (x : LineV) (l : List LineV) : List LineV × Bool := l.foldl (wstep x) ([], decide (x.2.2 = 0))
def withL (x : LineV) (l : List LineV) : List LineV := if (withP x l).2 = true then (withP x l).1 else (withP x l).1 ++ [x]
theorem withP_take (x : LineV) (l : List LineV) (k : Nat) (h : k < l.length) : withP x (l.take (k + 1)) = wstep x (withP x (l.take k)) l[k] := by
 unfold withP
 rw [List.take_succ_eq_append_getElem h, List.foldl_append]
 rfl
theorem wstep_len (x : LineV) (st : List LineV × Bool) (y : LineV) : (wstep x st y).1.length ≤ st.1.length + 2 := by
 unfold wstep
 split
 ·omega
 ·split <;> simp
theorem withP_len (x : LineV) (l : List LineV) (k : Nat) (h : k ≤ l.length) : (withP x (l.take k)).1.length ≤ 2 * k := by
 induction k with
 |zero => simp [withP]
 |succ k ih =>
  rw [withP_take x l k (by omega)]
  have := wstep_len x (withP x (l.take k)) l[k]
  have := ih (by omega)
  omega
theorem own_setL {B b j e n : Nat} {v u : Value} {xs : List Value} {w : World} (hown : w.ownsRow B e 5 u n xs) (h : b < B) : (w.setCell ⟨b, j, none⟩ v).ownsRow B e 5 u n xs := by
 refine ⟨hown.1, ?_⟩
 rcases hown.2 with h0 | ⟨g, cap, cur, r1, r2, r3, r4⟩
 ·exact .inl h0
 ·exact .inr ⟨g, cap, cur, r1, r2, (Below.heap_setCell _ _ _ _ (by show g ≠ b; omega)).trans r3, r4⟩
theorem own_bl {w w' : World} {B e size n : Nat} {v : Value} {xs : List Value} (h : w.ownsRow B e size v n xs) (hb : Below w.heap.size w w') : w'.ownsRow B e size v n xs := by
 refine ⟨h.1, ?_⟩
 rcases h.2 with h0 | ⟨g, cap, cur, h1, h2, h3, h4⟩
 ·exact .inl h0
 ·exact .inr ⟨g, cap, cur, h1, h2, (hb.block g (Array.getElem?_eq_some_iff.1 h3).1).trans h3, h4⟩
theorem heap5 (w : World) (o0 o1 o2 o3 o4 : Obj) : ((((((w.alloc o0).alloc o1).alloc o2).alloc o3).alloc o4).heap[w.heap.size]? = some o0 ∧ (((((w.alloc o0).alloc o1).alloc o2).alloc o3).alloc o4).heap[w.heap.size + 1]? = some o1 ∧
  (((((w.alloc o0).alloc o1).alloc o2).alloc o3).alloc o4).heap[w.heap.size + 2]? = some o2 ∧ (((((w.alloc o0).alloc o1).alloc o2).alloc o3).alloc o4).heap[w.heap.size + 3]? = some o3 ∧ (((((w.alloc o0).alloc o1).alloc o2).alloc o3).alloc o4).heap[w.heap.size + 4]? = some o4) := by
 have a : ∀ (W : World) (o : Obj) (i : Nat), i < W.heap.size → (W.alloc o).heap[i]? = W.heap[i]? := fun W o i h => (below_one W o).block i h
 have n : ∀ (W : World) (o : Obj) (i : Nat), i = W.heap.size → (W.alloc o).heap[i]? = some o := fun W o i h => by rw [h]; exact heap_alloc_new W o
 refine ⟨?_, ?_, ?_, ?_, ?_⟩
 ·rw [a _ _ _ (by simp; omega), a _ _ _ (by simp; omega), a _ _ _ (by simp; omega), a _ _ _ (by simp)]
  exact n _ _ _ rfl
 ·rw [a _ _ _ (by simp), a _ _ _ (by simp), a _ _ _ (by simp)]
  exact n _ _ _ (by simp)
 ·rw [a _ _ _ (by simp), a _ _ _ (by simp)]
  exact n _ _ _ (by simp)
 ·rw [a _ _ _ (by simp)]
  exact n _ _ _ (by simp)
 ·exact n _ _ _ (by simp)
theorem own_slice {w : World} {B e size n : Nat} {v : Value} {xs : List Value} (h : w.ownsRow B e size v n xs) : ∃ A c, v = .slice A n c := by
 rcases h.2 with ⟨h0, h1⟩ | ⟨g, cap, cur, h1, _⟩
 ·exact ⟨none, 0, by rw [h0, h1]⟩
 ·exact ⟨_, _, h1⟩
theorem set_row {w : World} {q : Nat} {c : Value} {t : TypeId} (h : w.heap[q]? = some (.cells #[c] t (0, 0))) (v : Value) : (w.setCell ⟨q, 0, none⟩ v).heap[q]? = some (.cells #[v] t (0, 0)) := by
 simp [World.setCell, Array.getElem?_modify, h]
theorem heap_set_new (w : World) (p : Addr) (v : Value) (o : Obj) : ((w.setCell p v).alloc o).heap[w.heap.size]? = some o := by
 have := heap_alloc_new (w.setCell p v) o
 simpa [World.setCell] using this
def OutAt (q : Nat) (out : List LineV) (w0 w : World) : Prop :=
 ∃ v, w.heap[q]? = some (.cells #[v] 69 (0, 0)) ∧ w.ownsRow (q + 1) 90 5 v out.length (flatL encLine out) ∧ ButB (q + 1) q w0 w
theorem OutAt.below {q : Nat} {out : List LineV} {w0 w w' : World} (h : OutAt q out w0 w) (hb : Below w.heap.size w w') : OutAt q out w0 w' := by
 obtain ⟨v, h1, h2, h3⟩ := h
 have hq := (Array.getElem?_eq_some_iff.1 h1).1
 exact ⟨v, (hb.block _ hq).trans h1, own_bl h2 hb, h3.trans ⟨hb.os, hb.tape, hb.output, hb.size, fun k hk _ => hb.block k (by omega)⟩⟩
theorem OutAt.put {q : Nat} {out more : List LineV} {w0 w w' : World} {v' : Value} (h : OutAt q out w0 w) (ho : Hid (w'.ownsRow (q + 1) 90 5 v' (out.length + more.length) (flatL encLine out ++ flatL encLine more))) (hb : Below (q + 1) w w') :
  OutAt q (out ++ more) w0 (w'.setCell ⟨q, 0, none⟩ v') := by
 obtain ⟨v, h1, h2, h3⟩ := h
 have h4 : w'.heap[q]? = some (.cells #[v] 69 (0, 0)) := (hb.block _ (Nat.lt_succ_self _)).trans h1
 refine ⟨v', ?_, ?_, ?_⟩
 ·simp [World.setCell, Array.getElem?_modify, h4]
 ·rw [List.length_append, flatL_append]
  exact own_setL ho.out (Nat.lt_succ_self _)
 ·exact (h3.trans (ButB.of_below hb)).trans (butB_set _)
theorem wpList_append_rowsG {P : Program} {α : Type} {enc : α → List Value} {k : Nat} {ops : Array Oper} {rest : List Oper} {o : Oper} {a : Act} {Q : Exit → Act → World → Prop} (w : World) (hgd : o.guard = none) (s x : Operand) (t : TypeId)
  (ho : o.op = .call { callee := .builtin .append, args := #[s, x], argTypes := #[t, t] })
  (base : Nat) (e : TypeId) (i : TypeInfo) (z : Value) (bytes : Nat) (ht : P.underlying t = some (.slice e)) (hi : P.info? e = some i) (hz : i.zero = some z)
  (hsize : i.size = k) (hby : i.bytes = bytes) (hzs : z.cells.size = k) (hk : ∀ x, (enc x).length = k) (hk0 : 0 < k) (h1 : ∀ x, ∀ u ∈ enc x, u.oneCell' = true)
  (v : Value) (n : Nat) (cs : List Value) (hs : a.eval s = v) (hown : w.ownsRow base e k v n cs) (A : Option Addr) (c : Nat) (ys : List α) (hx : a.eval x = .slice A ys.length c) (hS : RowAt enc k w A ys) (hn : n + ys.length ≤ 1000000) (hbytes : bytes ≤ 1000) (hbase : base ≤ w.heap.size)
  (h : ∀ v' w', Hid (w'.ownsRow base e k v' (n + ys.length) (cs ++ flatL enc ys)) → Hid (w.grownBy w' v.ownBlock) → Below base w w' → wpList P ops Q rest (a.put o.dst v') w') : wpList P ops Q (o :: rest) a w := by
 refine wpList_plain hgd fun K hK => ?_
 obtain ⟨v', w', hr, h2, h3⟩ := run_append_rows w base t o.type e i z bytes ht hi hz hsize hby hzs hk hk0 h1 v n cs hown A c ys hS hn hbytes hbase
 unfold Oper.wp execOp
 simp only [ho, resolve, invoke, builtin, Sem.run_bind, Sem.run_pure, Result.andThen_ok, List.map_toArray, List.map_cons, List.map_nil, hs, hx, hr]
 exact hK _ _ (h v' w' h2 h3 ((Below.refl base w).grown h3 hbase (fun j hj => (hown.lt j hj).1)))
set_option maxHeartbeats 3200000 in
set_option maxRecDepth 100000 in
theorem refWith_any (A : Option Addr) (cap : Nat) (l : List LineV) (x : LineV) (w : World) (hrow : RowAt encLine 5 w A l) (hl : l.length ≤ 100000) (hx : InP x.1) :
  Calls Tryz.prog 124 #[.agg #[.slice A l.length cap], .agg (encPlace x.1).toArray, .string ⟨x.2.1.toArray⟩, .int .i64 x.2.2] w fun e w' =>
   ∃ A' cap', e = .returned (.agg #[.slice A' (withL x l).length cap']) ∧ RowAt encLine 5 w' A' (withL x l) ∧ (∀ a, A' = some a → w.heap.size ≤ a.block) ∧ Below w.heap.size w w' := by
 obtain ⟨i0, hi, hz0, hz1, hz2⟩ := info_parts lineInfo
 obtain ⟨N, hN⟩ : ∃ N, N = l.length := ⟨_, rfl⟩
 have HN := Lib.hid hN
 have HROW := Lib.hid hrow
 have HQ := Lib.hid (fun y : LineV => fun W => eqPlace y.1 x.1 W)
 have HA := Lib.hid (fun y W => refLineAhead_any x y hx W)
 have HST := Lib.hid (fun k (h : k < l.length) => withP_take x l k h)
 have HLN := Lib.hid (fun k (h : k ≤ l.length) => withP_len x l k h)
 have HWL := Lib.hid (show withL x l = if (withP x l).2 = true then (withP x l).1 else (withP x l).1 ++ [x] from rfl)
 have HW0 := Lib.hid (show withP x (l.take 0) = ([], decide (x.2.2 = 0)) from rfl)
 have HI := Lib.hid (fun y => show isAt x.1 x.2.1 y = decide (y.1 = x.1 ∧ y.2.1 = x.2.1) from rfl)
 have HX := Lib.hid (show (encLine x) = [.string ⟨x.1.1.toArray⟩, .int .i64 x.1.2.1, .int .i64 x.1.2.2, .string ⟨x.2.1.toArray⟩, .int .i64 x.2.2] from rfl)
 rw [← hN] at hl ⊢
 clear hN hrow hx
 obtain ⟨xx, hxx⟩ : ∃ xx, xx = x := ⟨_, rfl⟩
 rw [← hxx] at HST HLN HWL HW0 ⊢
 obtain ⟨⟨p1, p2, p3⟩, lot, n⟩ := x
 have HXX := Lib.hid hxx
 have hw0 : (decide (xx.2.2 = 0)) = (n == 0) := by rw [hxx]; simp [BEq.beq]
 rw [hw0] at HW0
 rw [hxx]
 clear hxx hw0
 simp only [encPlace, encLine] at HQ HA ⊢
 go_enter Tryz.func124, Tryz.ntmps124
 go_wp2_with fail
 obtain ⟨W0, hW0⟩ : ∃ W0, W0 = ((((w.alloc (.cells #[.slice A N cap] 69)).alloc (.cells #[.string ⟨p1.toArray⟩, .int .i64 p2, .int .i64 p3] 41)).alloc (.cells #[.slice none 0 0] 69)).alloc (.cells #[.string ⟨p1.toArray⟩, .int .i64 p2, .int .i64 p3, .string ⟨lot.toArray⟩, .int .i64 n] 90)).alloc (.cells #[.slice none 0 0] 69) := ⟨_, rfl⟩
 obtain ⟨g0, g1, g2, g3, g4⟩ := heap5 w (.cells #[.slice A N cap] 69) (.cells #[.string ⟨p1.toArray⟩, .int .i64 p2, .int .i64 p3] 41) (.cells #[.slice none 0 0] 69) (.cells #[.string ⟨p1.toArray⟩, .int .i64 p2, .int .i64 p3, .string ⟨lot.toArray⟩, .int .i64 n] 90) (.cells #[.slice none 0 0] 69)
 rw [← hW0] at g0 g1 g2 g3 g4 ⊢
 have HB0 : Hid (Below w.heap.size w W0) := by
  rw [hW0]
  exact ((((below_one w _).alloc (by simp) _).alloc (by simp; omega) _).alloc (by simp; omega) _).alloc (by simp; omega) _
 have hs0 : W0.heap.size = w.heap.size + 5 := by rw [hW0]; simp
 clear hW0
 have G0 := Lib.hid g0
 have G1 := Lib.hid g1
 have G2 := Lib.hid g2
 have G3 := Lib.hid g3
 have HOUT : Hid (OutAt (w.heap.size + 4) [] W0 W0) := ⟨_, g4, World.ownsRow_nil _ _ _ _, ButB.refl _ _ _⟩
 clear g0 g1 g2 g3 g4
 go_loopw [11, 12] (fun d i wr => ∃ (k : Nat) (out : List LineV) (b : Bool), k ≤ N ∧ i = .int .i64 k ∧ d = .bool b ∧ Hid (withP xx (l.take k) = (out, b)) ∧ Hid (OutAt (w.heap.size + 4) out W0 wr)) (fun _ i _ => N - (intOf i).toNat)
 case atStart => exact ⟨0, [], n == 0, by omega, rfl, rfl, HW0.out, HOUT.out⟩
 case round =>
  obtain ⟨k, out, b, hk, rfl, rfl, HP, HO⟩ := hrel
  have hlen : out.length ≤ 2 * k := by
   have := HLN.out k (by rw [← HN.out]; exact hk)
   rwa [HP.out] at this
  obtain ⟨v, hv, hown, hbut⟩ := HO.out
  have keep : ∀ j, j < 4 → wr.heap[w.heap.size + j]? = W0.heap[w.heap.size + j]? := fun j hj => hbut.block _ (by omega) (by omega)
  have c0 : wr.cell? ⟨w.heap.size, 0, none⟩ = some (.slice A N cap) := cell_of_row _ _ 0 _ _ _ ((keep 0 (by omega)).trans G0.out)
  have q1 := (keep 1 (by omega)).trans G1.out
  have d0 : wr.cell? ⟨w.heap.size + 1, 0, none⟩ = some (.string ⟨p1.toArray⟩) := cell_of_row _ _ 0 _ _ _ q1
  have d1 : wr.cell? ⟨w.heap.size + 1, 1, none⟩ = some (.int .i64 p2) := cell_of_row _ _ 1 _ _ _ q1
  have d2 : wr.cell? ⟨w.heap.size + 1, 2, none⟩ = some (.int .i64 p3) := cell_of_row _ _ 2 _ _ _ q1
  have q3 := (keep 3 (by omega)).trans G3.out
  have x0 : wr.cell? ⟨w.heap.size + 3, 0, none⟩ = some (.string ⟨p1.toArray⟩) := cell_of_row _ _ 0 _ _ _ q3
  have x1 : wr.cell? ⟨w.heap.size + 3, 1, none⟩ = some (.int .i64 p2) := cell_of_row _ _ 1 _ _ _ q3
  have x2 : wr.cell? ⟨w.heap.size + 3, 2, none⟩ = some (.int .i64 p3) := cell_of_row _ _ 2 _ _ _ q3
  have x3 : wr.cell? ⟨w.heap.size + 3, 3, none⟩ = some (.string ⟨lot.toArray⟩) := cell_of_row _ _ 3 _ _ _ q3
  have x4 : wr.cell? ⟨w.heap.size + 3, 4, none⟩ = some (.int .i64 n) := cell_of_row _ _ 4 _ _ _ q3
  have o0 : wr.cell? ⟨w.heap.size + 4, 0, none⟩ = some v := cell_of_row _ _ 0 _ _ _ hv
  have of0 : wr.frozen? ⟨w.heap.size + 4, 0, none⟩ = false := frozen_of_row _ _ 0 _ _ hv
  have hbelow : Below w.heap.size w wr := HB0.out.trans (hbut.below (by omega) (by omega))
  have HBW := Lib.hid hbelow
  have hszr := hbut.size
  have HOWN := Lib.hid hown
  have HV := Lib.hid hv
  have HBUT := Lib.hid hbut
  clear hv hown hbut keep q1 q3 hbelow
  by_cases hkN : k < N
  ·have hkx : k < l.length := by rw [← HN.out]; exact hkN
   obtain ⟨g, o, rfl, lg, cg⟩ := HROW.out.resolve_left (fun h => by rw [h] at hkx; simp at hkx)
   obtain ⟨y, hy⟩ : ∃ y, y = l[k] := ⟨_, rfl⟩
   have r5 := range5L (x := y) (w := wr) (b := g) (o := o + k * 5) (fun cc u hu => by
    have h1 := cg k hkx cc u (by rw [← hy]; exact hu)
    exact (HBW.out.cell (p := ⟨g, o + k * 5 + cc, none⟩) lg).trans h1)
   have HS := Lib.hid (HST.out k hkx)
   rw [HP.out, ← hy] at HS
   have HIY := Lib.hid (HI.out y)
   have hq := HQ.out y
   have HAY := Lib.hid (HA.out y)
   clear hy cg HQ HI HA
   by_cases hm : y.1 = (p1, p2, p3) ∧ y.2.1 = lot
   ·have HS2 : Hid (withP xx (l.take (k + 1)) = (out, b)) := by
     show _ = _
     rw [HS.out]
     unfold wstep
     rw [HXX.out, HIY.out, if_pos (by simpa using hm)]
    rw [decide_eq_true hm.1] at hq
    have hb4 : (y.2.1 == lot) = true := by simpa using hm.2
    clear hm HS HIY HAY
    obtain ⟨⟨a1, a2, a3⟩, a4, a5⟩ := y
    obtain ⟨e0, e1, e2, e3, e4⟩ := r5
    simp only at e0 e1 e2 e3 e4 hq hb4
    have up := fun (p : Addr) (v : Value) (h : wr.cell? p = some v) => ((below_one wr (.cells #[.string ⟨a1.toArray⟩, .int .i64 a2, .int .i64 a3, .string ⟨a4.toArray⟩, .int .i64 a5] 90)).cell (lt_of_cell h)).trans h
    have d0' := up _ _ d0
    have d1' := up _ _ d1
    have d2' := up _ _ d2
    clear up
    go_wp2
    go_roundw
    case rel => exact ⟨k + 1, out, b, by omega, by go_num, rfl, HS2.out, HO.out.below (below_one _ _)⟩
    case measure => simp [intOf]; omega
   ·obtain ⟨t1, t2, ht1, ht2, ht⟩ : ∃ t1 t2 : Bool, decide (y.1 = (p1, p2, p3)) = t1 ∧ (y.2.1 == lot) = t2 ∧ (t1 = true → t2 = false) := ⟨_, _, rfl, rfl, fun h => by
     have h' : y.1 = (p1, p2, p3) := by simpa using h
     have : ¬ y.2.1 = lot := fun h2 => hm ⟨h', h2⟩
     simpa using this⟩
    rw [ht1] at hq
    have HS2 : Hid (withP xx (l.take (k + 1)) = if b = false ∧ ltOf cfLine xx y = true then (out ++ [xx] ++ [y], true) else (out ++ [y], b)) := by
     show _ = _
     rw [HS.out]
     unfold wstep
     rw [if_neg (by rw [HXX.out, HIY.out]; simpa using hm)]
    obtain ⟨ah, hah⟩ : ∃ ah, ah = ltOf cfLine ((p1, p2, p3), lot, n) y := ⟨_, rfl⟩
    rw [HXX.out, ← hah, ← HXX.out] at HS2
    rw [← hah] at HAY
    clear hm HS HIY ht1 hah
    obtain ⟨⟨a1, a2, a3⟩, a4, a5⟩ := y
    obtain ⟨e0, e1, e2, e3, e4⟩ := r5
    simp only at e0 e1 e2 e3 e4 hq ht2
    have up := fun (p : Addr) (v : Value) (h : wr.cell? p = some v) => ((below_one wr (.cells #[.string ⟨a1.toArray⟩, .int .i64 a2, .int .i64 a3, .string ⟨a4.toArray⟩, .int .i64 a5] 90)).cell (lt_of_cell h)).trans h
    have d0' := up _ _ d0
    have d1' := up _ _ d1
    have d2' := up _ _ d2
    have x0' := up _ _ x0
    have x1' := up _ _ x1
    have x2' := up _ _ x2
    have x3' := up _ _ x3
    have x4' := up _ _ x4
    have o0' := up _ _ o0
    have HO1 := Lib.hid (HO.out.below (below_one wr (.cells #[.string ⟨a1.toArray⟩, .int .i64 a2, .int .i64 a3, .string ⟨a4.toArray⟩, .int .i64 a5] 90)))
    clear up
    rcases (show t1 = false ∨ (t1 = true ∧ t2 = false) by cases t1 <;> simp_all) with rfl | ⟨rfl, rfl⟩
    all_goals
     cases b with
     |true =>
      go_wp2_with (at_builtin; refine wpList_append_rows _ rfl (.tmp 57) (.tmp 59) 67 rfl (w.heap.size + 5) 90 i0 _ 56 Tryz.underlying67 hi hz0 hz1 hz2 rfl encLine_len (by decide) encLine_one v out.length (flatL encLine out) rfl (own_bl HOWN.out (below_two _ _ _)) (some ⟨wr.heap.size + 1, 0, none⟩) 1 [((a1, a2, a3), a4, a5)] rfl (row_one (heap_new2 _ _ _)) (by simp; omega) (by decide) (by simp; omega) ?_; intro v3 w3 HO3 hb3; have HB3 := Lib.hid hb3; have hk3 := (hb3.block (w.heap.size + 4) (by omega)).trans (((below_two wr (.cells #[.string ⟨a1.toArray⟩, .int .i64 a2, .int .i64 a3, .string ⟨a4.toArray⟩, .int .i64 a5] 90) (.cells #[.string ⟨a1.toArray⟩, .int .i64 a2, .int .i64 a3, .string ⟨a4.toArray⟩, .int .i64 a5] 90)).block (w.heap.size + 4) (by omega)).trans HV.out); obtain ⟨A3, n3, rfl⟩ := own_slice HO3.out; have k3 := cell_of_row _ _ 0 _ _ _ hk3; have kf3 := frozen_of_row _ _ 0 _ _ hk3; clear hb3 hk3)
      go_roundw
      case rel =>
       refine ⟨k + 1, out ++ [((a1, a2, a3), a4, a5)], true, by omega, by go_num, rfl, ?_, ?_⟩
       ·show _ = _
        rw [HS2.out, if_neg (by simp)]
       ·exact (HO1.out.below (below_one _ _)).put HO3 HB3.out
      case measure => simp [intOf]; omega
     |false =>
      have hyc := fun j => cell_of_row _ _ j _ _ _ (heap_alloc_new wr (.cells #[.string ⟨a1.toArray⟩, .int .i64 a2, .int .i64 a3, .string ⟨a4.toArray⟩, .int .i64 a5] 90))
      have y0' := hyc 0
      have y1' := hyc 1
      have y2' := hyc 2
      have y3' := hyc 3
      have y4' := hyc 4
      clear hyc
      go_wp2_with fail
      refine (HAY.out _).mono ?_
      rintro e w4 ⟨rfl, b4⟩
      have up := fun (p : Addr) (v : Value) (h : (wr.alloc (.cells #[.string ⟨a1.toArray⟩, .int .i64 a2, .int .i64 a3, .string ⟨a4.toArray⟩, .int .i64 a5] 90)).cell? p = some v) => (b4.cell (lt_of_cell h)).trans h
      have x0w := up _ _ x0'
      have x1w := up _ _ x1'
      have x2w := up _ _ x2'
      have x3w := up _ _ x3'
      have x4w := up _ _ x4'
      have o0w := up _ _ o0'
      have y0w := up _ _ y0'
      have y1w := up _ _ y1'
      have y2w := up _ _ y2'
      have y3w := up _ _ y3'
      have y4w := up _ _ y4'
      have HO4 := Lib.hid (HO1.out.below b4)
      have HB4 := Lib.hid ((below_one wr (.cells #[.string ⟨a1.toArray⟩, .int .i64 a2, .int .i64 a3, .string ⟨a4.toArray⟩, .int .i64 a5] 90)).trans (b4.mono (by simp)))
      have hs4 := b4.size
      simp at hs4
      clear up b4 x0' x1' x2' x3' x4' o0' y0' y1' y2' y3' y4' d0' d1' d2' HAY e0 e1 e2 e3 e4
      cases ah with
      |false =>
       go_wp2_with (at_builtin; refine wpList_append_rows _ rfl (.tmp 57) (.tmp 59) 67 rfl (w.heap.size + 5) 90 i0 _ 56 Tryz.underlying67 hi hz0 hz1 hz2 rfl encLine_len (by decide) encLine_one v out.length (flatL encLine out) rfl (own_bl (own_bl HOWN.out HB4.out) (below_one _ _)) (some ⟨w4.heap.size, 0, none⟩) 1 [((a1, a2, a3), a4, a5)] rfl (row_one (heap_alloc_new _ _)) (by simp; omega) (by decide) (by simp; omega) ?_; intro v3 w3 HO3 hb3; have HB3 := Lib.hid hb3; have hk3 := (hb3.block (w.heap.size + 4) (by omega)).trans (((below_one w4 (.cells #[.string ⟨a1.toArray⟩, .int .i64 a2, .int .i64 a3, .string ⟨a4.toArray⟩, .int .i64 a5] 90)).block (w.heap.size + 4) (by omega)).trans ((HB4.out.block (w.heap.size + 4) (by omega)).trans HV.out)); obtain ⟨A3, n3, rfl⟩ := own_slice HO3.out; have k3 := cell_of_row _ _ 0 _ _ _ hk3; have kf3 := frozen_of_row _ _ 0 _ _ hk3; clear hb3 hk3)
       go_roundw
       case rel =>
        refine ⟨k + 1, out ++ [((a1, a2, a3), a4, a5)], false, by omega, by go_num, rfl, ?_, ?_⟩
        ·show _ = _
         rw [HS2.out, if_neg (by simp)]
        ·exact (HO4.out.below (below_one _ _)).put HO3 HB3.out
       case measure => simp [intOf]; omega
      |true =>
       have hne : some wr.heap.size ≠ v.ownBlock := fun e => by
        have := (HOWN.out.lt _ e.symm).2
        omega
       go_wp2_with (first
        |(at_builtin; refine wpList_append_rowsG _ rfl (.tmp 51) (.tmp 53) 67 rfl (w.heap.size + 5) 90 i0 _ 56 Tryz.underlying67 hi hz0 hz1 hz2 rfl encLine_len (by decide) encLine_one v out.length (flatL encLine out) rfl (own_bl (own_bl HOWN.out HB4.out) (below_one _ _)) (some ⟨w4.heap.size, 0, none⟩) 1 [((p1, p2, p3), lot, n)] rfl (row_one (heap_alloc_new _ _)) (by simp; omega) (by decide) (by simp; omega) ?_; intro v3 w3 HO3 HG3 hb3; have HB3 := Lib.hid hb3; have hk3 := (hb3.block (w.heap.size + 4) (by omega)).trans (((below_one w4 (.cells #[.string ⟨p1.toArray⟩, .int .i64 p2, .int .i64 p3, .string ⟨lot.toArray⟩, .int .i64 n] 90)).block (w.heap.size + 4) (by omega)).trans ((HB4.out.block (w.heap.size + 4) (by omega)).trans HV.out)); obtain ⟨A3, n3, rfl⟩ := own_slice HO3.out; have k3 := cell_of_row _ _ 0 _ _ _ hk3; have kf3 := frozen_of_row _ _ 0 _ _ hk3; have hyb := (HG3.out.block wr.heap.size (by simp; omega) hne).trans ((below_one w4 (.cells #[.string ⟨p1.toArray⟩, .int .i64 p2, .int .i64 p3, .string ⟨lot.toArray⟩, .int .i64 n] 90)).block _ (by omega)); have hk6 := set_row hk3 (.slice A3 (out.length + 1) n3); have k6 := cell_of_row _ _ 0 _ _ _ hk6; have kf6 := frozen_of_row _ _ 0 _ _ hk6; have up : ∀ (j : Nat) (u : Value), w4.cell? ⟨wr.heap.size, j, none⟩ = some u → (w3.setCell ⟨w.heap.size + 4, 0, none⟩ (.slice A3 (out.length + 1) n3)).cell? ⟨wr.heap.size, j, none⟩ = some u := fun j u h => (World.cell?_of_block (Below.heap_setCell w3 ⟨w.heap.size + 4, 0, none⟩ (.slice A3 (out.length + 1) n3) wr.heap.size (by show wr.heap.size ≠ w.heap.size + 4; omega))).trans ((World.cell?_of_block hyb).trans h); have y0s := up _ _ y0w; have y1s := up _ _ y1w; have y2s := up _ _ y2w; have y3s := up _ _ y3w; have y4s := up _ _ y4w; have HO6 := Lib.hid ((HO4.out.below (below_one w4 (.cells #[.string ⟨p1.toArray⟩, .int .i64 p2, .int .i64 p3, .string ⟨lot.toArray⟩, .int .i64 n] 90))).put HO3 HB3.out); have HOW6 := Lib.hid (own_setL (b := w.heap.size + 4) (j := 0) (v := .slice A3 (out.length + 1) n3) HO3.out (Nat.lt_succ_self _)); have hs3 := hb3.size; simp at hs3; have HK6 := Lib.hid hk6; clear hb3 hk3 hk6 up hyb)
        |(at_builtin; refine wpList_append_rows _ rfl (.tmp 57) (.tmp 59) 67 rfl (w.heap.size + 5) 90 i0 _ 56 Tryz.underlying67 hi hz0 hz1 hz2 rfl encLine_len (by decide) encLine_one (.slice A3 (out.length + 1) n3) (out.length + 1) (flatL encLine out ++ flatL encLine [((p1, p2, p3), lot, n)]) rfl (own_bl HOW6.out (below_one _ _)) (some ⟨w3.heap.size, 0, none⟩) 1 [((a1, a2, a3), a4, a5)] rfl (row_one (heap_set_new _ _ _ _)) (by simp; omega) (by decide) (by simp; omega) ?_; intro v7 w7 HO7 hb7; have HB7 := Lib.hid hb7; have hk7 := (hb7.block (w.heap.size + 4) (by omega)).trans (((below_one _ (.cells #[.string ⟨a1.toArray⟩, .int .i64 a2, .int .i64 a3, .string ⟨a4.toArray⟩, .int .i64 a5] 90)).block (w.heap.size + 4) (by simp; omega)).trans HK6.out); obtain ⟨A7, n7, rfl⟩ := own_slice HO7.out; have k7 := cell_of_row _ _ 0 _ _ _ hk7; have kf7 := frozen_of_row _ _ 0 _ _ hk7; clear hb7 hk7))
       go_roundw
       case rel =>
        refine ⟨k + 1, out ++ [((p1, p2, p3), lot, n)] ++ [((a1, a2, a3), a4, a5)], true, by omega, by go_num, rfl, ?_, ?_⟩
        ·show _ = _
         rw [HS2.out, if_pos (by simp), HXX.out]
        ·refine (HO6.out.below (below_one _ _)).put ?_ HB7.out
         show World.ownsRow _ _ _ _ _ _ _
         rw [List.length_append, flatL_append]
         exact HO7.out
       case measure => simp [intOf]; omega
  ·obtain rfl : k = N := by omega
   have htk : l.take k = l := List.take_of_length_le (by rw [← HN.out]; exact Nat.le_refl _)
   rw [htk] at HP
   have hr2 := (HBUT.out.block (w.heap.size + 2) (by omega) (by omega)).trans G2.out
   have r0 : wr.cell? ⟨w.heap.size + 2, 0, none⟩ = some (.slice none 0 0) := cell_of_row _ _ 0 _ _ _ hr2
   have rf0 : wr.frozen? ⟨w.heap.size + 2, 0, none⟩ = false := frozen_of_row _ _ 0 _ _ hr2
   have HR2 := Lib.hid hr2
   clear hr2
   rw [HXX.out] at HP HWL
   cases b with
   |true =>
    have HE : Hid (withL ((p1, p2, p3), lot, n) l = out) := by
     show _ = _
     rw [HWL.out, HP.out]
     rfl
    obtain ⟨A3, c3, rfl⟩ := own_slice HOWN.out
    have hrow := set_row HR2.out (.slice A3 out.length c3)
    have hbe := HBW.out.setCell (p := ⟨w.heap.size + 2, 0, none⟩) (by show _ ≤ w.heap.size + 2; omega) (.slice A3 out.length c3)
    obtain ⟨A4, c4, h4, hRW, hge⟩ := RowAt.of_own encLine_len (own_setL (b := w.heap.size + 2) (j := 0) (v := .slice A3 out.length c3) HOWN.out (by omega))
    cases h4
    have HRW := Lib.hid hRW
    have HBE := Lib.hid hbe
    clear hRW hbe
    go_wp2_with fail
    (try simp only [Exit.inBlock, Exit.then])
    refine bodyPost_ret (results_cell_row rfl _ _ (w.heap.size + 2) 69 #[.slice A3 out.length c3] (0, 0) _ rfl hrow Tryz.underlying69 rfl (by kernel_rfl)) rfl ?_
    rw [HE.out]
    exact ⟨A3, c3, rfl, HRW.out, fun a ha => by have := hge a ha; omega, HBE.out⟩
   |false =>
    have HE : Hid (withL ((p1, p2, p3), lot, n) l = out ++ [((p1, p2, p3), lot, n)]) := by
     show _ = _
     rw [HWL.out, HP.out]
     rfl
    go_wp2_with (at_builtin; refine wpList_append_rows _ rfl (.tmp 65) (.tmp 67) 67 rfl (w.heap.size + 5) 90 i0 _ 56 Tryz.underlying67 hi hz0 hz1 hz2 rfl encLine_len (by decide) encLine_one v out.length (flatL encLine out) rfl (own_bl HOWN.out (below_one _ _)) (some ⟨wr.heap.size, 0, none⟩) 1 [((p1, p2, p3), lot, n)] rfl (row_one (heap_alloc_new _ _)) (by simp; omega) (by decide) (by simp; omega) ?_; intro v3 w3 HO3 hb3; have HB3 := Lib.hid hb3; have hk3 := (hb3.block (w.heap.size + 4) (by omega)).trans (((below_one wr (.cells #[.string ⟨p1.toArray⟩, .int .i64 p2, .int .i64 p3, .string ⟨lot.toArray⟩, .int .i64 n] 90)).block (w.heap.size + 4) (by omega)).trans HV.out); have hk2 := (hb3.block (w.heap.size + 2) (by omega)).trans (((below_one wr (.cells #[.string ⟨p1.toArray⟩, .int .i64 p2, .int .i64 p3, .string ⟨lot.toArray⟩, .int .i64 n] 90)).block (w.heap.size + 2) (by omega)).trans HR2.out); obtain ⟨A3, n3, rfl⟩ := own_slice HO3.out; have k3 := cell_of_row _ _ 0 _ _ _ hk3; have kf3 := frozen_of_row _ _ 0 _ _ hk3; have hk6 := set_row hk3 (.slice A3 (out.length + 1) n3); have k6 := cell_of_row _ _ 0 _ _ _ hk6; have hm6 : (w3.setCell ⟨w.heap.size + 4, 0, none⟩ (.slice A3 (out.length + 1) n3)).heap[w.heap.size + 2]? = some (.cells #[.slice none 0 0] 69 (0, 0)) := (Below.heap_setCell _ _ _ _ (by show w.heap.size + 2 ≠ w.heap.size + 4; omega)).trans hk2; have m6 := cell_of_row _ _ 0 _ _ _ hm6; have mf6 := frozen_of_row _ _ 0 _ _ hm6; have HM6 := Lib.hid hm6; have HO6 := Lib.hid ((HO.out.below (below_one wr (.cells #[.string ⟨p1.toArray⟩, .int .i64 p2, .int .i64 p3, .string ⟨lot.toArray⟩, .int .i64 n] 90))).put HO3 HB3.out); have HOW6 := Lib.hid (own_setL (b := w.heap.size + 2) (j := 0) (v := .slice A3 (out.length + 1) n3) (own_setL (b := w.heap.size + 4) (j := 0) (v := .slice A3 (out.length + 1) n3) HO3.out (Nat.lt_succ_self _)) (by omega)); clear hb3 hk3 hk6 hk2 hm6)
    have hrow := set_row HM6.out (.slice A3 (out.length + 1) n3)
    have hbe : Below w.heap.size w ((w3.setCell ⟨w.heap.size + 4, 0, none⟩ (.slice A3 (out.length + 1) n3)).setCell ⟨w.heap.size + 2, 0, none⟩ (.slice A3 (out.length + 1) n3)) := by
     obtain ⟨_, _, _, hbb⟩ := HO6.out
     exact (HB0.out.trans (hbb.below (by omega) (by omega))).setCell (p := ⟨w.heap.size + 2, 0, none⟩) (by show _ ≤ w.heap.size + 2; omega) _
    have hRW0 := RowAt.of_own (xs := out ++ [((p1, p2, p3), lot, n)]) encLine_len (by rw [List.length_append, flatL_append]; exact HOW6.out)
    obtain ⟨A4, c4, h4, hRW, hge⟩ := hRW0
    injection h4 with h5 h6 h7
    subst h5 h7
    (try simp only [Exit.inBlock, Exit.then])
    refine bodyPost_ret (results_cell_row rfl _ _ (w.heap.size + 2) 69 #[.slice A3 (out.length + 1) n3] (0, 0) _ rfl hrow Tryz.underlying69 rfl (by kernel_rfl)) rfl ?_
    rw [HE.out]
    exact ⟨A3, n3, by rw [List.length_append]; rfl, hRW, fun a ha => by have := hge a ha; omega, hbe⟩
end Go.Proofs.YteaalifehokgoaaGreatDoor
