/- Counts twice, plainly: behind what Diff tells a second one tells nothing. No program in sight. Tasks of counting, plainly: what acts answer, and make of them. No program in sight. What stays where little turns. Tasks of counting, in memory; none of them, how many, one of them. An empty slice appended to nil. Sheets cloned. -/
import Derived.Deep.MidRow
import Derived.Test.YtchiojiicehpeaaGreatDoorM01
import Derived.Test.YtchiojiicehpeaaGreatDoorM07
import Derived.Test.YtchiojiicehpeaaGreatDoorM15
import Derived.Test.YtchiojiicehpeaaGreatDoorM19
import Derived.Test.YtchiojiicehpeaaGreatDoorM22
import Derived.Test.YtchiojiicehpeaaGreatDoorM27
namespace Go.Proofs.YtchiojiicehpeaaGreatDoor
open Go.RowKit Go.Sort Go.Proofs
theorem fL_some {B : BkV} {id : List UInt8} : (fL B id).isSome = true ↔ ∃ y ∈ B.2.1, y.1.1 = id := by
 unfold fL
 rw [List.find?_isSome]
 simp
theorem fL_keeps {B : BkV} {id : List UInt8} (x : EntV) (h : (fL B id).isSome = true) : (fL (doB B x) id).isSome = true := by
 rw [fL_some] at *
 obtain ⟨y, hy, hk⟩ := h
 unfold doB
 split
 ·exact ⟨y, hy, hk⟩
 split
 ·exact ⟨y, hy, hk⟩
 split
 ·refine ⟨y, ?_, hk⟩
  show y ∈ insLo _ _
  rw [insLo_eq]
  exact (insK_perm (fun y : LoH => y.1.1) _ _).mem_iff.2 (List.mem_cons_of_mem _ hy)
 ·unfold doP setLo
  refine ⟨_, List.mem_map.2 ⟨y, hy, rfl⟩, ?_⟩
  split
  ·exact hk
  ·exact hk
theorem fL_keepsAll {id : List UInt8} : ∀ (l : List EntV) {B : BkV}, (fL B id).isSome = true → (fL (doAll B l) id).isSome = true
 |[], _, h => h
 |x :: r, _, h => fL_keepsAll r (fL_keeps x h)
theorem noLot_none {B : BkV} : ∀ (l : List LineV) (i : Nat), noLot B l i = none ↔ ∀ x ∈ l, (fL B x.2.1).isSome = true
 |[], i => by simp [noLot]
 |x :: r, i => by
  unfold noLot
  split
  ·rename_i h
   rw [noLot_none r (i + 1)]
   simp [h]
  ·rename_i h
   simp [h]
theorem ctwice_plain {B : BkV} {l : List LineV} {out : List EntV} (hd : diffB B l = .inl out) (hok : allOk B out) :
  diffB (doAll B out) l = .inl [] ∧ ∀ x ∈ l, (atM (doAll B out).2.2 (x.1, x.2.1) : Int) = x.2.2 := by
 unfold diffB at hd
 cases hs : sheetF [] l with
 |some e => rw [hs] at hd; cases hd
 |none =>
  rw [hs] at hd
  cases hn : noLot B l 0 with
  |some e => rw [hn] at hd; cases hd
  |none =>
   rw [hn] at hd
   injection hd with hd
   subst hd
   obtain ⟨h1, -, h3⟩ := sheet_none l [] hs
   obtain ⟨h4, -⟩ := diff_seen l B.2.2 B (fun x hx => (h1 x hx).2.2.1) h3 (fun _ _ => rfl) hok
   refine ⟨?_, h4⟩
   unfold diffB
   rw [hs]
   have hn' : noLot (doAll B (diffL B.2.2 l)) l 0 = none := (noLot_none l 0).2 fun x hx => fL_keepsAll _ ((noLot_none l 0).1 hn x hx)
   simp only [hn']
   rw [diff_twice h4]
theorem allOk_take {B : BkV} {l : List EntV} {k : Nat} (h : k < l.length) (ha : allOk B (l.take k)) (hk : doE (doAll B (l.take k)) l[k] = 0) : allOk B (l.take (k + 1)) := by
 rw [List.take_succ_eq_append_getElem h, allOk_app]
 exact ⟨ha, hk, trivial⟩
end Go.Proofs.YtchiojiicehpeaaGreatDoor
namespace Go.Proofs.YtchiojiicehpeaaGreatDoor
open Go.RowKit Go.Sort Go.Proofs
abbrev TaskV := List UInt8 × List UInt8 × List UInt8 × List UInt8 × List LineV
def sOpen : List UInt8 := [111, 112, 101, 110]
def sCounted : List UInt8 := [99, 111, 117, 110, 116, 101, 100]
def sAgain : List UInt8 := [97, 103, 97, 105, 110]
def sDone : List UInt8 := [100, 111, 110, 101]
def sRefused : List UInt8 := [114, 101, 102, 117, 115, 101, 100]
def overT (x : TaskV) : Bool := decide (x.2.1 = sDone ∨ x.2.1 = sRefused)
def atT (ts : List TaskV) (k : Int) : Option TaskV := if k < 0 then none else ts[k.toNat]?
def setT (ts : List TaskV) (k : Int) (f : TaskV → TaskV) : List TaskV := ts.modify k.toNat f
def openE (ts : List TaskV) (code : List UInt8) : Nat :=
 if nameB code = false then 5 else if (ts.any fun x => decide (x.1 = code) && !overT x) = true then 7 else if 30 ≤ ts.length then 8 else 0
def openT (ts : List TaskV) (code : List UInt8) : List TaskV := if openE ts code = 0 then ts ++ [(code, sOpen, [], [], [])] else ts
def alikeL (a b : List LineV) : Bool := decide (a.length = b.length) && a.all fun x => decide (x ∈ b)
def countX (x : TaskV) (by_ : List UInt8) (sheet : List LineV) : TaskV :=
 if x.2.1 = sOpen then (x.1, sCounted, by_, x.2.2.2.1, sheet) else if alikeL sheet x.2.2.2.2 = true then (x.1, sCounted, x.2.2.1, by_, x.2.2.2.2) else (x.1, x.2.1, by_, [], sheet)
def countE (x : TaskV) (by_ : List UInt8) (sheet : List LineV) : Option (Nat × Option Nat) :=
 if x.2.1 ≠ sOpen ∧ x.2.1 ≠ sAgain then some (11, none) else if nameB by_ = false then some (5, none)
 else if x.2.1 = sAgain ∧ by_ = x.2.2.1 then some (7, none)
 else match sheetF [] sheet with
  |some (c, i) => some (c, some i)
  |none => none
def countR (ts : List TaskV) (k : Int) (by_ : List UInt8) (sheet : List LineV) : Option (Nat × Option Nat) :=
 match atT ts k with
 |none => some (6, none)
 |some x => countE x by_ sheet
def countT (ts : List TaskV) (k : Int) (by_ : List UInt8) (sheet : List LineV) : List TaskV := if countR ts k by_ sheet = none then setT ts k (fun x => countX x by_ sheet) else ts
def doubtE (ts : List TaskV) (k : Int) : Nat :=
 match atT ts k with
 |none => 6
 |some x => if x.2.1 ≠ sCounted ∨ x.2.2.2.1 ≠ [] then 11 else 0
def doubtX (x : TaskV) : TaskV := (x.1, sAgain, x.2.2)
def doubtT (ts : List TaskV) (k : Int) : List TaskV := if doubtE ts k = 0 then setT ts k doubtX else ts
def refuseE (ts : List TaskV) (k : Int) : Nat :=
 match atT ts k with
 |none => 6
 |some x => if overT x = true then 11 else 0
def refuseX (x : TaskV) : TaskV := (x.1, sRefused, x.2.2)
def refuseT (ts : List TaskV) (k : Int) : List TaskV := if refuseE ts k = 0 then setT ts k refuseX else ts
def firstE (B : BkV) : List EntV → Nat
 |[] => 0
 |x :: r => if doE B x ≠ 0 then doE B x else firstE (doB B x) r
theorem firstE_ok : ∀ (l : List EntV) (B : BkV), firstE B l = 0 ↔ allOk B l
 |[], _ => by simp [firstE, allOk]
 |x :: r, B => by
  unfold firstE allOk
  by_cases h : doE B x = 0
  ·rw [if_neg (by simpa using h), firstE_ok r]
   simp [h]
  ·rw [if_pos h]
   simp [h]
def postE (ts : List TaskV) (k : Int) (B : BkV) : Nat :=
 match atT ts k with
 |none => 6
 |some x => if x.2.1 ≠ sCounted then 11 else match diffB B x.2.2.2.2 with
  |.inr (c, _) => c
  |.inl out => firstE B out
def postL (ts : List TaskV) (k : Int) (B : BkV) : List EntV :=
 if postE ts k B ≠ 0 then [] else match atT ts k with
 |none => []
 |some x => diffL B.2.2 x.2.2.2.2
def postX (x : TaskV) : TaskV := (x.1, sDone, x.2.2)
def postT (ts : List TaskV) (k : Int) (B : BkV) : List TaskV := if postE ts k B = 0 then setT ts k postX else ts
def postB (ts : List TaskV) (k : Int) (B : BkV) : BkV := if postE ts k B = 0 then doAll B (postL ts k B) else B
/-! What holds of tasks. -/
def goesT (x : TaskV) : Prop := x.2.1 = sOpen ∨ x.2.1 = sCounted ∨ x.2.1 = sAgain
structure TaskI (ts : List TaskV) : Prop where
 state : ∀ x ∈ ts, goesT x ∨ overT x = true
 other : ∀ x ∈ ts, x.2.2.2.1 ≠ [] → x.2.2.2.1 ≠ x.2.2.1
 fresh : ∀ x ∈ ts, x.2.1 = sOpen → x.2.2.2.1 = []
 one : ts.Pairwise fun x y => goesT x → goesT y → x.1 ≠ y.1
 few : ts.length ≤ 30
theorem goes_over {x : TaskV} (h : goesT x) : overT x = false := by
 unfold overT
 rw [decide_eq_false_iff_not]
 rintro (e | e) <;> rcases h with h | h | h <;> rw [e] at h <;> exact absurd h (by decide)
theorem TaskI.nil : TaskI [] := ⟨by simp, by simp, by simp, List.Pairwise.nil, by simp⟩
theorem openE_zero {ts : List TaskV} {code : List UInt8} (h : openE ts code = 0) : nameB code = true ∧ (∀ x ∈ ts, x.1 = code → overT x = true) ∧ ts.length < 30 := by
 unfold openE at h
 split at h
 ·cases h
 rename_i h1
 split at h
 ·cases h
 rename_i h2
 split at h
 ·cases h
 rename_i h3
 refine ⟨by simpa using h1, fun x hx hc => ?_, by omega⟩
 cases ho : overT x with
 |true => rfl
 |false =>
  exact absurd (List.any_eq_true.2 ⟨x, hx, by simp [hc, ho]⟩) h2
theorem TaskI.open_ {ts : List TaskV} (h : TaskI ts) (code : List UInt8) : TaskI (openT ts code) := by
 unfold openT
 split
 ·rename_i h0
  obtain ⟨h1, h2, h3⟩ := openE_zero h0
  refine ⟨fun x hx => ?_, fun x hx => ?_, fun x hx => ?_, ?_, by simp; omega⟩
  ·rcases List.mem_append.1 hx with hx | hx
   ·exact h.state x hx
   ·rw [List.mem_singleton.1 hx]
    exact .inl (.inl rfl)
  ·rcases List.mem_append.1 hx with hx | hx
   ·exact h.other x hx
   ·rw [List.mem_singleton.1 hx]
    exact fun he => absurd rfl he
  ·rcases List.mem_append.1 hx with hx | hx
   ·exact h.fresh x hx
   ·rw [List.mem_singleton.1 hx]
    exact fun _ => rfl
  ·refine List.pairwise_append.2 ⟨h.one, List.pairwise_singleton _ _, fun x hx y hy gx _ e => ?_⟩
   rw [List.mem_singleton.1 hy] at e
   have := h2 x hx e
   rw [goes_over gx] at this
   cases this
 ·exact h
theorem atT_some {ts : List TaskV} {k : Int} {x : TaskV} (h : atT ts k = some x) : 0 ≤ k ∧ ∃ hk : k.toNat < ts.length, ts[k.toNat] = x := by
 unfold atT at h
 split at h
 ·cases h
 ·rename_i h0
  obtain ⟨h1, h2⟩ := List.getElem?_eq_some_iff.1 h
  exact ⟨by omega, h1, h2⟩
theorem TaskI.set_ {ts : List TaskV} (h : TaskI ts) {k : Int} {x : TaskV} (hx : atT ts k = some x) (f : TaskV → TaskV) (hc : (f x).1 = x.1) (hs : goesT (f x) ∨ overT (f x) = true) (hg : goesT (f x) → goesT x) (ho : (f x).2.2.2.1 ≠ [] → (f x).2.2.2.1 ≠ (f x).2.2.1) (hf : (f x).2.1 = sOpen → (f x).2.2.2.1 = []) : TaskI (setT ts k f) := by
 obtain ⟨h0, hk, hv⟩ := atT_some hx
 have hm : ∀ y ∈ setT ts k f, y ∈ ts ∨ y = f x := fun y hy => by
  obtain ⟨i, hi, e⟩ := List.mem_iff_getElem.1 hy
  unfold setT at hi e
  rw [List.getElem_modify] at e
  rw [List.length_modify] at hi
  split at e
  ·rename_i hki
   subst hki
   rw [hv] at e
   exact .inr e.symm
  ·exact .inl (e ▸ List.getElem_mem hi)
 refine ⟨fun y hy => ?_, fun y hy => ?_, fun y hy => ?_, ?_, by unfold setT; rw [List.length_modify]; exact h.few⟩
 ·rcases hm y hy with hy | rfl
  ·exact h.state y hy
  ·exact hs
 ·rcases hm y hy with hy | rfl
  ·exact h.other y hy
  ·exact ho
 ·rcases hm y hy with hy | rfl
  ·exact h.fresh y hy
  ·exact hf
 ·rw [List.pairwise_iff_getElem]
  intro i j hi hj hij
  unfold setT at hi hj ⊢
  rw [List.length_modify] at hi hj
  rw [List.getElem_modify, List.getElem_modify]
  have hp := List.pairwise_iff_getElem.1 h.one i j hi hj hij
  split
  ·rename_i e1
   rw [if_neg (by omega)]
   subst e1
   rw [hv] at hp ⊢
   exact fun g1 g2 => by rw [hc]; exact hp (hg g1) g2
  ·split
   ·rename_i e2
    subst e2
    rw [hv] at hp ⊢
    exact fun g1 g2 => by rw [hc]; exact hp g1 (hg g2)
   ·exact hp
theorem countE_none {x : TaskV} {b : List UInt8} {s : List LineV} (h : countE x b s = none) : (x.2.1 = sOpen ∨ x.2.1 = sAgain) ∧ nameB b = true ∧ (x.2.1 = sAgain → b ≠ x.2.2.1) ∧ sheetF [] s = none := by
 unfold countE at h
 split at h
 ·cases h
 rename_i h1
 split at h
 ·cases h
 rename_i h2
 split at h
 ·cases h
 rename_i h3
 split at h
 ·cases h
 rename_i h4
 refine ⟨?_, by simpa using h2, fun e e2 => h3 ⟨e, e2⟩, h4⟩
 by_cases e : x.2.1 = sOpen
 ·exact .inl e
 ·exact .inr (Classical.byContradiction fun e2 => h1 ⟨e, e2⟩)
theorem TaskI.count_ {ts : List TaskV} (h : TaskI ts) (k : Int) (b : List UInt8) (s : List LineV) : TaskI (countT ts k b s) := by
 unfold countT
 split
 ·rename_i h0
  unfold countR at h0
  cases hx : atT ts k with
  |none => rw [hx] at h0; cases h0
  |some x =>
   rw [hx] at h0
   obtain ⟨h1, h2, h3, -⟩ := countE_none h0
   obtain ⟨-, hk, hv⟩ := atT_some hx
   have hm : x ∈ ts := hv ▸ List.getElem_mem hk
   have hgo : goesT x := h1.elim .inl fun e => .inr (.inr e)
   refine h.set_ hx _ ?_ ?_ (fun _ => hgo) ?_ ?_
   ·show (countX x b s).1 = x.1
    unfold countX
    repeat' split
    all_goals rfl
   ·refine .inl ?_
    show goesT (countX x b s)
    unfold countX
    split
    ·exact .inr (.inl rfl)
    split
    ·exact .inr (.inl rfl)
    ·exact hgo
   ·show (countX x b s).2.2.2.1 ≠ [] → (countX x b s).2.2.2.1 ≠ (countX x b s).2.2.1
    unfold countX
    split
    ·rename_i e
     exact fun hne => absurd (h.fresh x hm e) hne
    split
    ·rename_i e _
     exact fun _ => h3 (h1.resolve_left e)
    ·exact fun hne => absurd rfl hne
   ·show (countX x b s).2.1 = sOpen → (countX x b s).2.2.2.1 = []
    unfold countX
    split
    ·exact fun e => absurd e (by show ¬ sCounted = sOpen; decide)
    split
    ·exact fun e => absurd e (by show ¬ sCounted = sOpen; decide)
    ·exact fun _ => rfl
 ·exact h
theorem TaskI.doubt_ {ts : List TaskV} (h : TaskI ts) (k : Int) : TaskI (doubtT ts k) := by
 unfold doubtT
 split
 ·rename_i h0
  unfold doubtE at h0
  cases hx : atT ts k with
  |none => rw [hx] at h0; cases h0
  |some x =>
   rw [hx] at h0
   simp only at h0
   split at h0
   ·cases h0
   rename_i h1
   have e1 : x.2.1 = sCounted := Classical.byContradiction fun e => h1 (.inl e)
   have e2 : x.2.2.2.1 = [] := Classical.byContradiction fun e => h1 (.inr e)
   refine h.set_ hx _ rfl (.inl (.inr (.inr rfl))) (fun _ => .inr (.inl e1)) (fun hne => absurd e2 hne) (fun e => absurd e (by show ¬ sAgain = sOpen; decide))
 ·exact h
theorem TaskI.refuse_ {ts : List TaskV} (h : TaskI ts) (k : Int) : TaskI (refuseT ts k) := by
 unfold refuseT
 split
 ·rename_i h0
  unfold refuseE at h0
  cases hx : atT ts k with
  |none => rw [hx] at h0; cases h0
  |some x =>
   obtain ⟨-, hk, hv⟩ := atT_some hx
   have hm : x ∈ ts := hv ▸ List.getElem_mem hk
   refine h.set_ hx _ rfl (.inr (by unfold overT refuseX; simp)) (fun g => ?_) (h.other x hm) (fun e => absurd e (by show ¬ sRefused = sOpen; decide))
   rcases g with g | g | g
   ·exact absurd g (by show ¬ sRefused = sOpen; decide)
   ·exact absurd g (by show ¬ sRefused = sCounted; decide)
   ·exact absurd g (by show ¬ sRefused = sAgain; decide)
 ·exact h
theorem TaskI.post_ {ts : List TaskV} (h : TaskI ts) (k : Int) (B : BkV) : TaskI (postT ts k B) := by
 unfold postT
 split
 ·rename_i h0
  unfold postE at h0
  cases hx : atT ts k with
  |none => rw [hx] at h0; cases h0
  |some x =>
   obtain ⟨-, hk, hv⟩ := atT_some hx
   have hm : x ∈ ts := hv ▸ List.getElem_mem hk
   refine h.set_ hx _ rfl (.inr (by unfold overT postX; simp)) (fun g => ?_) (h.other x hm) (fun e => absurd e (by show ¬ sDone = sOpen; decide))
   rcases g with g | g | g
   ·exact absurd g (by show ¬ sDone = sOpen; decide)
   ·exact absurd g (by show ¬ sDone = sCounted; decide)
   ·exact absurd g (by show ¬ sDone = sAgain; decide)
 ·exact h
theorem set_over {ts : List TaskV} {k : Int} {x : TaskV} (hx : atT ts k = some x) (hn : overT x = false) (f : TaskV → TaskV) (i : Nat) (hi : i < ts.length) (ho : overT ts[i] = true) : ∃ h : i < (setT ts k f).length, (setT ts k f)[i] = ts[i] := by
 obtain ⟨-, hk, hv⟩ := atT_some hx
 refine ⟨by unfold setT; rw [List.length_modify]; exact hi, ?_⟩
 unfold setT
 rw [List.getElem_modify, if_neg]
 intro e
 subst e
 rw [hv, hn] at ho
 cases ho
theorem sheetF_ne : ∀ (l done : List LineV) (k i : Nat), sheetF done l = some (k, i) → k ≠ 0
 |[], _, k, i, h => by simp [sheetF] at h
 |x :: r, done, k, i, h => by
  unfold sheetF at h
  split at h
  ·cases h
   assumption
  ·exact sheetF_ne r _ k i h
theorem noLot_ne (B : BkV) : ∀ (l : List LineV) (i k j : Nat), noLot B l i = some (k, j) → k ≠ 0
 |[], _, k, j, h => by simp [noLot] at h
 |x :: r, i, k, j, h => by
  unfold noLot at h
  split at h
  ·exact noLot_ne B r _ k j h
  ·cases h
   decide
end Go.Proofs.YtchiojiicehpeaaGreatDoor
namespace Go.Proofs.YtchiojiicehpeaaGreatDoor
open Go.RowKit Go.Sort Go.Proofs
theorem But.cellAt {b : Nat} {w w' : World} (h : But b w w') {a : Addr} {v : Value} (hc : w.cell? a = some v) (hne : a.block ≠ b) : w'.cell? a = some v := (World.cell?_of_block (h.block _ (lt_of_cell hc) hne)).trans hc
theorem But.row {b : Nat} {w w' : World} (h : But b w w') {k : Nat} {o : Obj} (hc : w.heap[k]? = some o) (hne : k ≠ b) : w'.heap[k]? = some o := (h.block _ (row_lt hc) hne).trans hc
theorem But2.row {p b : Nat} {w w' : World} (h : But2 p b w w') {k : Nat} {o : Obj} (hc : w.heap[k]? = some o) (h1 : k ≠ p) (hne : k ≠ b) : w'.heap[k]? = some o := (h.block _ (row_lt hc) h1 hne).trans hc
theorem row_below {B : Nat} {w w' : World} (h : Below B w w') {k : Nat} {o : Obj} (hc : w.heap[k]? = some o) (hk : k < B) : w'.heap[k]? = some o := (h.block _ hk).trans hc
end Go.Proofs.YtchiojiicehpeaaGreatDoor
namespace Go.Proofs.YtchiojiicehpeaaGreatDoor
open Go.RowKit Go.Sort Go.Proofs
abbrev TaskC := TaskV × Option Addr × Nat
def encTask (c : TaskC) : List Value := [.string ⟨c.1.1.toArray⟩, .string ⟨c.1.2.1.toArray⟩, .string ⟨c.1.2.2.1.toArray⟩, .string ⟨c.1.2.2.2.1.toArray⟩, .slice c.2.1 c.1.2.2.2.2.length c.2.2]
theorem encTask_len (c : TaskC) : (encTask c).length = 5 := rfl
theorem encTask_one (c : TaskC) : ∀ v ∈ encTask c, v.oneCell' = true := fun v hv => by
 simp [encTask] at hv
 rcases hv with rfl | rfl | rfl | rfl | rfl <;> rfl
structure TaskMt (tb tt : TypeId) (w : World) (p : Nat) (v : Value) (cs : List TaskC) : Prop where
 box : w.heap[p]? = some (.cells #[v] tb (0, 0))
 own : w.ownsRow 0 tt 5 v cs.length (flatL encTask cs)
 sheet : ∀ c ∈ cs, RowAt encLine 5 w c.2.1 c.1.2.2.2.2
 room : ∀ c ∈ cs, c.1.2.2.2.2.length ≤ c.2.2
def sheetsL (cs : List TaskC) : List Nat := cs.filterMap fun c => if c.1.2.2.2.2 = [] then none else c.2.1.map (·.block)
def TaskIst (tb tt : TypeId) (w : World) (p : Nat) (F R : List Nat) (ts : List TaskV) : Prop :=
 ∃ v cs, cs.map (·.1) = ts ∧ TaskMt tb tt w p v cs ∧ F = p :: blockL v ∧ F.Nodup ∧ R = sheetsL cs ∧ (∀ k ∈ R, k ∉ F ∧ k < w.heap.size)
theorem mem_sheets {cs : List TaskC} {c : TaskC} (h : c ∈ cs) {a : Addr} (ha : c.2.1 = some a) (hn : c.1.2.2.2.2 ≠ []) : a.block ∈ sheetsL cs :=
 List.mem_filterMap.2 ⟨c, h, by rw [if_neg hn, ha]; rfl⟩
theorem TaskMt.keep {tb tt : TypeId} {w w' : World} {p : Nat} {v : Value} {cs : List TaskC} (h : TaskMt tb tt w p v cs) (hp : w'.heap[p]? = w.heap[p]?) (hv : ∀ g ∈ blockL v, w'.heap[g]? = w.heap[g]?) (hR : ∀ k ∈ sheetsL cs, w'.heap[k]? = w.heap[k]?) (hs : w.heap.size ≤ w'.heap.size) : TaskMt tb tt w' p v cs := by
 refine ⟨hp.trans h.box, own_kept h.own fun g hg => hv g (blockL_mem hg), fun c hc => ?_, h.room⟩
 rcases h.sheet c hc with he | ⟨g, o, h1, h2, h3⟩
 ·exact .inl he
 ·refine .inr ⟨g, o, h1, Nat.lt_of_lt_of_le h2 hs, fun i hi j u hu => ?_⟩
  have hn : c.1.2.2.2.2 ≠ [] := fun e => by rw [e] at hi; simp at hi
  exact (World.cell?_of_block (a := ⟨g, o + i * 5 + j, none⟩) (hR g (mem_sheets hc h1 hn))).trans (h3 i hi j u hu)
abbrev TaskM (w : World) (p : Nat) (v : Value) (cs : List TaskC) : Prop := TaskMt 108 39 w p v cs
abbrev TaskIs (w : World) (p : Nat) (F R : List Nat) (ts : List TaskV) : Prop := TaskIst 108 39 w p F R ts
theorem TaskIst.keep {tb tt : TypeId} {w w' : World} {p : Nat} {F R : List Nat} {ts : List TaskV} (h : TaskIst tb tt w p F R ts) (hF : ∀ k ∈ F, w'.heap[k]? = w.heap[k]?) (hR : ∀ k ∈ R, w'.heap[k]? = w.heap[k]?) (hs : w.heap.size ≤ w'.heap.size) : TaskIst tb tt w' p F R ts := by
 obtain ⟨v, cs, h1, h2, rfl, h4, rfl, h6⟩ := h
 exact ⟨v, cs, h1, h2.keep (hF p List.mem_cons_self) (fun g hg => hF g (List.mem_cons_of_mem _ hg)) hR hs, rfl, h4, rfl, fun k hk => ⟨(h6 k hk).1, Nat.lt_of_lt_of_le (h6 k hk).2 hs⟩⟩
theorem TaskIst.lt {tb tt : TypeId} {w : World} {p : Nat} {F R : List Nat} {ts : List TaskV} (h : TaskIst tb tt w p F R ts) : ∀ k, k ∈ F ∨ k ∈ R → k < w.heap.size := by
 obtain ⟨v, cs, -, h2, rfl, -, rfl, h6⟩ := h
 rintro k (hk | hk)
 ·rcases List.mem_cons.1 hk with rfl | hk
  ·exact row_lt h2.box
  ·exact (h2.own.lt k (blockL_own hk)).2
 ·exact (h6 k hk).2
theorem TaskIst.below {tb tt : TypeId} {w w' : World} {p : Nat} {F R : List Nat} {ts : List TaskV} (h : TaskIst tb tt w p F R ts) (hb : Below w.heap.size w w') : TaskIst tb tt w' p F R ts :=
 h.keep (fun k hk => hb.block _ (h.lt k (.inl hk))) (fun k hk => hb.block _ (h.lt k (.inr hk))) hb.size
theorem TaskIst.butF {tb tt : TypeId} {w w' : World} {p : Nat} {F R F' : List Nat} {ts : List TaskV} (h : TaskIst tb tt w p F R ts) (hb : ButF F' w w') (hd : ∀ k, k ∈ F ∨ k ∈ R → k ∉ F') : TaskIst tb tt w' p F R ts :=
 h.keep (fun k hk => hb.block _ (h.lt k (.inl hk)) (hd k (.inl hk))) (fun k hk => hb.block _ (h.lt k (.inr hk)) (hd k (.inr hk))) hb.size
theorem TaskMt.slice {tb tt : TypeId} {w : World} {p : Nat} {v : Value} {cs : List TaskC} (h : TaskMt tb tt w p v cs) : ∃ A cap, v = .slice A cs.length cap ∧ w.cell? ⟨p, 0, none⟩ = some (.slice A cs.length cap) ∧ RowAt encTask 5 w A cs := by
 obtain ⟨A, cap, e, hr, -⟩ := RowAt.of_own encTask_len h.own
 exact ⟨A, cap, e, (cell_of_row _ _ _ _ _ _ h.box).trans (by rw [e]; rfl), hr⟩
theorem TaskMt.at_ {tb tt : TypeId} {w : World} {p : Nat} {v : Value} {cs : List TaskC} (h : TaskMt tb tt w p v cs) {k : Nat} (hk : k < cs.length) : ∃ g cap, v = .slice (some ⟨g, 0, none⟩) cs.length cap ∧ g < w.heap.size ∧ g ∈ blockL v ∧ w.cell? ⟨p, 0, none⟩ = some (.slice (some ⟨g, 0, none⟩) cs.length cap) ∧ ∀ c u, (encTask cs[k])[c]? = some u → w.cell? ⟨g, k * 5 + c, none⟩ = some u := by
 have h0 := h.own
 rcases h0.2 with ⟨e, hz⟩ | ⟨g, cap, cur, e, -, hg, -, -, -, -⟩
 ·omega
 ·refine ⟨g, cap, e, row_lt hg, blockL_mem (by rw [e]; rfl), (cell_of_row _ _ _ _ _ _ h.box).trans (by rw [e]; rfl), fun c u hu => ?_⟩
  have hc : c < 5 := by
   have := (List.getElem?_eq_some_iff.1 hu).1
   rwa [encTask_len] at this
  rw [e] at h0
  rw [h0.cellAt (k * 5 + c) (by omega), flatL_get encTask_len cs k c hk hc]
  exact hu
set_option maxHeartbeats 400000 in
theorem newTasks_any (w : World) : Calls Tryz.prog 13 #[] w fun e w' => ∃ p, e = .returned (.pointer (some ⟨p, 0, none⟩)) ∧ TaskIs w' p [p] [] [] ∧ w.heap.size ≤ p ∧ Below w.heap.size w w' := by
 go_enter Tryz.func13, Tryz.ntmps13
 go_wp2_with fail
 go_ret
 exact ⟨w.heap.size, rfl, ⟨.slice none 0 0, [], rfl, ⟨heap_alloc_new _ _, World.ownsRow_nil _ _ _ _, (fun c hc => by cases hc), (fun c hc => by cases hc)⟩, rfl, by simp, rfl, fun k hk => by cases hk⟩, Nat.le_refl _, below_one _ _⟩
set_option maxHeartbeats 400000 in
theorem lenTasks_any {w : World} {p : Nat} {F R : List Nat} {ts : List TaskV} (h : TaskIs w p F R ts) : Calls Tryz.prog 14 #[.pointer (some ⟨p, 0, none⟩)] w fun e w' => e = .returned (.int .i64 ts.length) ∧ w = w' := by
 obtain ⟨v, cs, rfl, h2, -, -, -, -⟩ := h
 obtain ⟨A, cap, -, hc, -⟩ := h2.slice
 have HL : Hid ((cs.map (·.1)).length = cs.length) := List.length_map ..
 rw [HL.out]
 clear h2 HL
 go_enter Tryz.func14, Tryz.ntmps14
 go_wp2_with fail
 go_ret
 exact ⟨rfl, rfl⟩
def taskP (v : Value) (n : Nat) (k : Int) : Value := if k < 0 ∨ (n : Int) ≤ k then .pointer none else match v with
 |.slice (some a) _ _ => .pointer (some ⟨a.block, k.toNat * 5, none⟩)
 |_ => .pointer none
set_option maxHeartbeats 800000 in
theorem atTasks_any {w : World} {p : Nat} {v : Value} {cs : List TaskC} (h : TaskM w p v cs) (k : Int) : Calls Tryz.prog 48 #[.pointer (some ⟨p, 0, none⟩), .int .i64 k] w fun e w' => e = .returned (taskP v cs.length k) ∧ w = w' := by
 by_cases h0 : k < 0
 ·have HT : Hid (taskP v cs.length k = .pointer none) := by show _ = _; unfold taskP; rw [if_pos (.inl h0)]
  clear h
  go_enter Tryz.func48, Tryz.ntmps48
  go_wp2_with fail
  go_ret
  rw [HT.out]
  exact ⟨rfl, rfl⟩
 ·by_cases h1 : (cs.length : Int) ≤ k
  ·have HT : Hid (taskP v cs.length k = .pointer none) := by show _ = _; unfold taskP; rw [if_pos (.inr h1)]
   obtain ⟨A, cap, -, hc, -⟩ := h.slice
   clear h
   go_enter Tryz.func48, Tryz.ntmps48
   go_wp2_with fail
   go_ret
   rw [HT.out]
   exact ⟨rfl, rfl⟩
  ·obtain ⟨m, rfl⟩ : ∃ m : Nat, k = m := ⟨k.toNat, by omega⟩
   have hm : m < cs.length := by omega
   obtain ⟨g, cap, e, -, -, hc, -⟩ := h.at_ hm
   have HT : Hid (taskP v cs.length m = .pointer (some ⟨g, m * 5, none⟩)) := by
    show _ = _
    unfold taskP
    rw [if_neg (by omega), e]
    rfl
   have hm0 : (0 : Int) ≤ (m : Nat) := by omega
   have hm1 : ((m : Nat) : Int) < (cs.length : Nat) := by omega
   clear h e
   generalize cs.length = n at hc h1 hm hm1 HT
   go_enter Tryz.func48, Tryz.ntmps48
   go_wp2_with fail
   go_ret
   rw [HT.out]
   exact ⟨by simp, rfl⟩
theorem TaskM.turn {w w' : World} {p g cap : Nat} {cs : List TaskC} (h : TaskM w p (.slice (some ⟨g, 0, none⟩) cs.length cap) cs) {L : List Value} (hL : w.heap[g]? = some (.cells L.toArray 39 (0, 0))) {k c : Nat} (hk : k < cs.length) (hc : c < 5) {u : Value} (hw : w'.heap[g]? = some (.cells (L.take (k * 5 + c) ++ [u] ++ L.drop (k * 5 + c + 1)).toArray 39 (0, 0)))
  (ht : Turned g w w') (hpg : p ≠ g) (hs : ∀ d ∈ cs, ∀ a, d.2.1 = some a → d.1.2.2.2.2 ≠ [] → a.block ≠ g) {y : TaskC} (hy : encTask y = (encTask cs[k]).take c ++ [u] ++ (encTask cs[k]).drop (c + 1)) (hys : RowAt encLine 5 w' y.2.1 y.1.2.2.2.2) (hyr : y.1.2.2.2.2.length ≤ y.2.2) : TaskM w' p (.slice (some ⟨g, 0, none⟩) cs.length cap) (cs.set k y) := by
 refine ⟨(ht.block p hpg).trans h.box, ?_, fun d hd => ?_, fun d hd => by rcases List.mem_or_eq_of_mem_set hd with hd | rfl; exact h.room d hd; exact hyr⟩
 ·have := own_splice (w' := w') (vs := [u]) (off := k * 5 + c) h.own hL hw (by simp; omega)
  rw [← flat_splice encTask_len cs k hk y c [u] hy (by simp; omega)] at this
  rw [List.length_set]
  exact this
 ·rcases List.mem_or_eq_of_mem_set hd with hd | rfl
  ·rcases h.sheet d hd with he | ⟨b, o, h1, h2, h3⟩
   ·exact .inl he
   ·refine .inr ⟨b, o, h1, Nat.lt_of_lt_of_le h2 (Nat.le_of_eq ht.size.symm), fun i hi j x hx => ?_⟩
    have hn : d.1.2.2.2.2 ≠ [] := fun e => by rw [e] at hi; simp at hi
    exact (World.cell?_of_block (a := ⟨b, o + i * 5 + j, none⟩) (ht.block b (hs d hd _ h1 hn))).trans (h3 i hi j x hx)
  ·exact hys
end Go.Proofs.YtchiojiicehpeaaGreatDoor
namespace Go.Proofs.YtchiojiicehpeaaGreatDoor
open Go.RowKit
end Go.Proofs.YtchiojiicehpeaaGreatDoor
namespace Go.Proofs.YtchiojiicehpeaaGreatDoor
open Go.RowKit Go.Sort Go.Proofs
theorem lineInfo1 : (Tryz.prog.info? 60).map (fun i => (i.zero, i.size, i.bytes)) = some (some (.agg #[.string ⟨#[]⟩, .int .i64 0, .int .i64 0, .string ⟨#[]⟩, .int .i64 0]), 5, 56) := by kernel_rfl
theorem own_capL {w : World} {B e size n c : Nat} {A : Option Addr} {xs : List Value} (h : w.ownsRow B e size (.slice A n c) n xs) : n ≤ c := by
 rcases h.2 with ⟨e1, e2⟩ | ⟨g, cap, cur, e1, -, -, hc, -, -, -⟩
 ·rw [e2]
  exact Nat.zero_le _
 ·cases e1
  exact hc
set_option maxHeartbeats 800000 in
theorem cloneLine_any (A : Option Addr) (cap : Nat) (xs : List LineV) (w : World) (hn : xs.length ≤ 1000) (hX : RowAt encLine 5 w A xs) :
  Calls Tryz.prog 49 #[.slice A xs.length cap] w fun e w' => ∃ A' c', e = .returned (.slice A' xs.length c') ∧ RowAt encLine 5 w' A' xs ∧ (∀ a, A' = some a → w.heap.size ≤ a.block) ∧ xs.length ≤ c' ∧ Below w.heap.size w w' := by
 obtain ⟨i0, hi, hz0, hz1, hz2⟩ := info_parts lineInfo1
 have q : ∀ (w : World) (a : Option Addr) (n c n' c' : Nat), (binOp .eql 33 (.slice a n c) (.slice none n' c')).run Tryz.prog w = .ok (.bool a.isNone) w := fun w a n c n' c' => Lib.run_eql_slice_nil w _ _ a n c n' c' Tryz.underlying33
 cases A with
 |none =>
  have h0 : xs = [] := by
   rcases hX with h | ⟨b, o, h, -⟩
   ·exact h
   ·cases h
  subst h0
  clear hX
  go_enter Tryz.func49, Tryz.ntmps49
  go_wp2_with fail
  go_ret
  exact ⟨none, 0, rfl, .inl rfl, (fun a ha => by cases ha), Nat.le_refl _, Below.refl _ _⟩
 |some a =>
  have hq : ∀ (w : World) (n c n' c' : Nat), (binOp .eql 33 (.slice (some a) n c) (.slice none n' c')).run Tryz.prog w = .ok (.bool false) w := fun w n c n' c' => q w (some a) n c n' c'
  obtain ⟨N, hN⟩ : ∃ N, N = xs.length := ⟨_, rfl⟩
  have HN := Lib.hid hN
  have HX := Lib.hid (hX.below (below_one w (.cells #[] 60)))
  have hown := Lib.hid (World.ownsRow_lit (base := w.heap.size) (e := 60) (size := 5) w #[] 0 (Nat.le_refl _) (by decide) rfl)
  rw [← hN] at hn ⊢
  clear hX hN q
  go_enter Tryz.func49, Tryz.ntmps49
  go_wp2_with (at_builtin; refine wpList_append_rows _ rfl (.tmp 5) (.tmp 6) 33 rfl w.heap.size 60 i0 _ 56 Tryz.underlying33 hi hz0 hz1 hz2 rfl encLine_len (by decide) encLine_one _ 0 [] rfl hown.out (some a) cap xs (by rw [← HN.out]; rfl) HX.out (by rw [← HN.out]; omega) (by decide) (by simp) ?_; intro v1 w1 HO1 hb1; have HB1 := Lib.hid hb1; clear hb1)
  go_ret
  have ho := HO1.out
  rw [Nat.zero_add, List.nil_append] at ho
  obtain ⟨A', c', e, hr, hge⟩ := RowAt.of_own encLine_len ho
  subst e
  have hcp := own_capL ho
  rw [← HN.out] at hcp
  exact ⟨A', c', by rw [HN.out]; rfl, hr, hge, hcp, ((below_one w _).mono (Nat.le_refl _)).trans HB1.out⟩
end Go.Proofs.YtchiojiicehpeaaGreatDoor
