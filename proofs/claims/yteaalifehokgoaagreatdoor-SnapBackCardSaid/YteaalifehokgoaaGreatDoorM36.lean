/- The book, plainly: equal books, what an entry changes; entries replayed; lots of goods. No program in sight. -/
import Derived.Test.YteaalifehokgoaaGreatDoorM07
import Derived.Test.YteaalifehokgoaaGreatDoorM19
import Derived.Test.YteaalifehokgoaaGreatDoorM26
namespace Go.Proofs.YteaalifehokgoaaGreatDoor
open Go.RowKit Go.Sort Go.Proofs
def BkEq (B C : BkV) : Prop := B.1 = C.1 ∧ B.2.1 = C.2.1 ∧ linesM B.2.2 = linesM C.2.2
theorem BkEq.refl (B : BkV) : BkEq B B := ⟨rfl, rfl, rfl⟩
theorem BkEq.symm {B C : BkV} (h : BkEq B C) : BkEq C B := ⟨h.1.symm, h.2.1.symm, h.2.2.symm⟩
theorem BkEq.trans {B C D : BkV} (h : BkEq B C) (k : BkEq C D) : BkEq B D := ⟨h.1.trans k.1, h.2.1.trans k.2.1, h.2.2.trans k.2.2⟩
theorem lines_perm_of {m m' : StkV} (h : linesM m = linesM m') : m.Perm m' := by
 have h1 := (lines_perm m).symm.trans ((show (linesM m).Perm (linesM m') by rw [h]).trans (lines_perm m'))
 have h2 := h1.map fun y : LineV => (((y.1, y.2.1), y.2.2.toNat) : KeyV × Nat)
 have e : ∀ l : StkV, (l.map lineOf).map (fun y : LineV => (((y.1, y.2.1), y.2.2.toNat) : KeyV × Nat)) = l := fun l => by
  rw [List.map_map]
  conv => rhs; rw [← List.map_id l]
  refine List.map_congr_left fun x _ => ?_
  obtain ⟨⟨a, b⟩, c⟩ := x
  simp [lineOf]
 rw [e, e] at h2
 exact h2
theorem BkEq.perm {B C : BkV} (h : BkEq B C) : B.2.2.Perm C.2.2 := lines_perm_of h.2.2
theorem textM_inj {m m' : StkV} (h : StkI m) (h' : StkI m') (ht : textM m = textM m') : linesM m = linesM m' := by
 have h1 := h.read.1
 have h2 := h'.read.1
 rw [ht, h2] at h1
 exact (Sum.inr.inj h1).symm
theorem sorted_ext {α : Type} (key : α → List UInt8) {l l' : List α} (hs : l.Pairwise fun x y => ltB (key x) (key y) = true) (hs' : l'.Pairwise fun x y => ltB (key x) (key y) = true)
  (h : ∀ k, l.find? (fun x => decide (key x = k)) = l'.find? (fun x => decide (key x = k))) : l = l' := by
 have hm : ∀ x, x ∈ l ↔ x ∈ l' := fun x => by
  constructor
  ·intro hx
   have := find_is key hs hx
   rw [h] at this
   exact (find_mem key this).1
  ·intro hx
   have := find_is key hs' hx
   rw [← h] at this
   exact (find_mem key this).1
 have hn : ∀ {l : List α}, (l.Pairwise fun x y => ltB (key x) (key y) = true) → l.Nodup := fun h => h.imp fun {a b} hab e => ltB_ne hab (congrArg key e)
 have hp : l.Perm l' := (List.perm_ext_iff_of_nodup (hn hs) (hn hs')).2 hm
 refine List.Perm.eq_of_pairwise (le := fun x y => ltB (key x) (key y) = true) (fun x y _ _ h1 h2 => ?_) hs hs' hp
 exact absurd h2 (by rw [ltB_asym h1]; simp)
theorem BkI.eq_of {B C : BkV} (h : BkI B) (k : BkI C) (h1 : ∀ i, goodsF B i = goodsF C i) (h2 : ∀ i, lotsF B i = lotsF C i) (h3 : ∀ i, heldF B i = heldF C i) (h4 : ∀ i, sumsF B i = sumsF C i) (h5 : textM B.2.2 = textM C.2.2) : BkEq B C := by
 have e3 : ∀ i, heldOf B i = heldOf C i := fun i => by
  have := congrArg (·.getD 0) (h3 i)
  simp only [heldF_get] at this
  exact this
 have e4 : ∀ i, sumsOf B i = sumsOf C i := fun i => by
  have := congrArg (·.getD zeroSums) (h4 i)
  simp only [sumsF_get] at this
  exact this
 refine ⟨sorted_ext (fun y : GoS => y.1.1) h.gs k.gs fun i => ?_, sorted_ext (fun y : LoH => y.1.1) h.ls k.ls fun i => ?_, textM_inj h.stk k.stk h5⟩
 ·have a := h1 i
  have b := e4 i
  show fG B i = fG C i
  unfold goodsF at a
  unfold sumsOf at b
  cases hb : fG B i with
  |none =>
   rw [hb] at a
   cases hc : fG C i with
   |none => rfl
   |some y => rw [hc] at a; cases a
  |some x =>
   rw [hb] at a b
   cases hc : fG C i with
   |none => rw [hc] at a; cases a
   |some y =>
    rw [hc] at a b
    simp only [Option.map_some, Option.some.injEq] at a b
    rw [Prod.ext a b]
 ·have a := h2 i
  have b := e3 i
  show fL B i = fL C i
  unfold lotsF at a
  unfold heldOf at b
  cases hb : fL B i with
  |none =>
   rw [hb] at a
   cases hc : fL C i with
   |none => rfl
   |some y => rw [hc] at a; cases a
  |some x =>
   rw [hb] at a b
   cases hc : fL C i with
   |none => rw [hc] at a; cases a
   |some y =>
    rw [hc] at a b
    simp only [Option.map_some, Option.some.injEq] at a b
    rw [Prod.ext a b]
theorem BkEq.maps {B C : BkV} (h : BkEq B C) : (∀ i, goodsF B i = goodsF C i) ∧ (∀ i, lotsF B i = lotsF C i) ∧ (∀ i, heldF B i = heldF C i) ∧ (∀ i, sumsF B i = sumsF C i) ∧ textM B.2.2 = textM C.2.2 := by
 have g : ∀ i, fG B i = fG C i := fun i => by unfold fG; rw [h.1]
 have l : ∀ i, fL B i = fL C i := fun i => by unfold fL; rw [h.2.1]
 have s : ∀ i, sumsOf B i = sumsOf C i := fun i => by unfold sumsOf; rw [g]
 have d : ∀ i, heldOf B i = heldOf C i := fun i => by unfold heldOf; rw [l]
 exact ⟨fun i => by unfold goodsF; rw [g], fun i => by unfold lotsF; rw [l], fun i => by unfold heldF; rw [d], fun i => by unfold sumsF; rw [s], by unfold textM; rw [h.2.2]⟩
theorem actE_perm {m m' : StkV} (h : StkI m) (hp : m.Perm m') (x : EntV) : actE m x = actE m' x := by
 unfold actE
 rw [putE_perm h hp, takeE_perm h hp, moveE_perm h hp]
theorem actM_perm {m m' : StkV} (h : StkI m) (hp : m.Perm m') (x : EntV) : (actM m x).Perm (actM m' x) := by
 unfold actM
 split
 ·exact putM_perm h hp _ _ _
 split
 ·exact takeM_perm h hp _ _ _
 split
 ·exact moveM_perm h hp _ _ _ _
 ·exact hp
theorem BkEq.doE {B C : BkV} (h : BkEq B C) (hB : BkI B) (x : EntV) : doE B x = doE C x := by
 have g : ∀ i, fG B i = fG C i := fun i => by unfold fG; rw [h.1]
 have l : ∀ i, fL B i = fL C i := fun i => by unfold fL; rw [h.2.1]
 have s : ∀ i, sumsOf B i = sumsOf C i := fun i => by unfold sumsOf; rw [g]
 have hp := h.perm
 unfold Go.Proofs.YteaalifehokgoaaGreatDoor.doE pcE
 simp only [g, l, s, h.1, h.2.1, actE_perm hB.stk hp x, ofM_perm (actM_perm hB.stk hp x) x.2.2.1.1]
theorem BkEq.doB {B C : BkV} (h : BkEq B C) (hB : BkI B) (x : EntV) : BkEq (doB B x) (doB C x) := by
 have g : ∀ i, fG B i = fG C i := fun i => by unfold fG; rw [h.1]
 have l : ∀ i, fL B i = fL C i := fun i => by unfold fL; rw [h.2.1]
 have s : ∀ i, sumsOf B i = sumsOf C i := fun i => by unfold sumsOf; rw [g]
 have d : ∀ i, heldOf B i = heldOf C i := fun i => by unfold heldOf; rw [l]
 have c : ∀ i, codeLo B i = codeLo C i := fun i => by unfold codeLo; rw [l]
 have hp := h.perm
 unfold Go.Proofs.YteaalifehokgoaaGreatDoor.doB
 rw [h.doE hB x]
 split
 ·exact h
 split
 ·exact ⟨by show insG _ _ = insG _ _; rw [h.1], h.2.1, h.2.2⟩
 split
 ·exact ⟨h.1, by show insLo _ _ = insLo _ _; rw [h.2.1], h.2.2⟩
 ·refine ⟨?_, ?_, ?_⟩
  ·show setG _ _ _ = setG _ _ _
   rw [c, s, h.1]
  ·show setLo _ _ _ = setLo _ _ _
   rw [d, h.2.1]
  ·exact lines_permE (hB.stk.act x) (actM_perm hB.stk hp x)
theorem BkEq.all {B C : BkV} (h : BkEq B C) (hB : BkI B) (l : List EntV) : BkEq (doAll B l) (doAll C l) := by
 unfold doAll
 induction l generalizing B C with
 |nil => exact h
 |cons x r ih => exact ih (h.doB hB x) (hB.do_ x)
theorem BkI.changed {B : BkV} (h : BkI B) {x : EntV} (he : doE B x = 0) : ¬ BkEq B (doB B x) := by
 intro hq
 obtain ⟨q1, q2, q3⟩ := hq
 have hp := lines_perm_of q3
 unfold doB at q1 q2 hp
 rw [if_neg (by simpa using he)] at q1 q2 hp
 have he' := he
 unfold doE at he'
 split at he'
 ·rename_i h1; exact absurd he' h1
 rename_i h1
 simp only [ne_eq, Classical.not_not] at h1
 rcases ent_kinds h1 with ⟨k1, _⟩ | ⟨k1, _⟩ | ⟨k1, k2, k3, k4⟩
 ·rw [if_pos k1] at q1
  have := congrArg List.length q1
  rw [show (insG (x.2.1, zeroSums) B.1).length = B.1.length + 1 from (insK_perm (fun y : GoS => y.1.1) _ _).length_eq] at this
  omega
 ·rw [if_neg (by rw [k1]; decide), if_pos k1] at q2
  have := congrArg List.length q2
  rw [show (insLo (x.2.2.1, 0) B.2.1).length = B.2.1.length + 1 from (insK_perm (fun y : LoH => y.1.1) _ _).length_eq] at this
  omega
 ·rw [if_neg k1, if_neg k2] at he' q2 hp
  obtain ⟨y, hf, ha, h0, hle, -⟩ := pc_zero he'
  obtain ⟨-, hn, -, hn1, -, -⟩ : True ∧ (nameB x.2.2.1.1 = true) ∧ True ∧ (1 ≤ x.2.2.2.2.2) ∧ True ∧ True := by
   obtain ⟨a1, _, _, a2, _, _⟩ := pieces_zero k4
   exact ⟨trivial, a1, trivial, a2, trivial, trivial⟩
  have hown := act_own h.stk ha (by omega)
  have hper := ofM_perm hp x.2.2.1.1
  have hpm : (doP B x).2.2 = actM B.2.2 x := rfl
  rw [hpm] at hper hp
  have hmv : moreN x = 0 := by omega
  have hheld := heldOf_doP hf x.2.2.1.1
  rw [if_pos rfl] at hheld
  have hh2 : heldOf (doP B x) x.2.2.1.1 = heldOf B x.2.2.1.1 := by
   unfold heldOf fL
   rw [← q2]
  rw [hh2] at hheld
  obtain ⟨-, e2, -⟩ := h.lot_goods hf
  rw [e2] at hheld
  unfold moreN at hmv
  split at hmv
  ·omega
  rename_i m1
  split at hmv
  ·omega
  rename_i m2
  unfold isP at k3
  simp only [decide_eq_true_eq] at k3
  by_cases m3 : x.1 = kMove
  ·have hact : actE B.2.2 x = moveE B.2.2 x.2.2.2.1 x.2.2.2.2.1 x.2.2.1.1 x.2.2.2.2.2 := by unfold actE; rw [if_neg m1, if_neg m2, if_pos m3]
   have hacm : actM B.2.2 x = moveM B.2.2 x.2.2.2.1 x.2.2.2.2.1 x.2.2.1.1 x.2.2.2.2.2 := by unfold actM; rw [if_neg m1, if_neg m2, if_pos m3]
   rw [hact] at ha
   obtain ⟨t1, _, t3, t4, t5⟩ := move_zero ha
   have hat := atM_perm h.stk hp (x.2.2.2.1, x.2.2.1.1)
   rw [hacm, t5, at_put t4, if_neg (fun e => t3 (congrArg Prod.fst e)), at_take t1, if_pos rfl] at hat
   obtain ⟨_, _, t6⟩ := takeE_zero t1
   omega
  ·by_cases m4 : x.1 = kHold
   ·have : heldN y.2 x = y.2 + x.2.2.2.2.2 := by unfold heldN; rw [if_pos m4]
    omega
   ·by_cases m5 : x.1 = kFree
    ·have : heldN y.2 x = y.2 - x.2.2.2.2.2 := by unfold heldN; rw [if_neg m4, if_pos m5]
     omega
    ·rcases k3 with e | e | e | e | e | e | e
     ·exact m1 (.inl e)
     ·exact m1 (.inr e)
     ·exact m2 (.inl e)
     ·exact m2 (.inr e)
     ·exact m3 e
     ·exact m4 e
     ·exact m5 e
end Go.Proofs.YteaalifehokgoaaGreatDoor
