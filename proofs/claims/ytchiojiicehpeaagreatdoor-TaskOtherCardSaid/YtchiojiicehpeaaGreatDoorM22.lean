/- The book, plainly: equal books, what an entry changes; entries replayed; lots of goods. No program in sight. Counts, plainly: a sheet's fault; what Diff tells; behind it the stock is what was seen. No program in sight. -/
import Derived.Test.YtchiojiicehpeaaGreatDoorM07
import Derived.Test.YtchiojiicehpeaaGreatDoorM21
namespace Go.Proofs.YtchiojiicehpeaaGreatDoor
open Go.RowKit Go.Sort Go.Proofs
def BkEq (B C : BkV) : Prop := B.1 = C.1 ∧ B.2.1 = C.2.1 ∧ linesM B.2.2 = linesM C.2.2
theorem BkEq.refl (B : BkV) : BkEq B B := ⟨rfl, rfl, rfl⟩
theorem BkEq.symm {B C : BkV} (h : BkEq B C) : BkEq C B := ⟨h.1.symm, h.2.1.symm, h.2.2.symm⟩
theorem BkEq.trans {B C D : BkV} (h : BkEq B C) (k : BkEq C D) : BkEq B D := ⟨h.1.trans k.1, h.2.1.trans k.2.1, h.2.2.trans k.2.2⟩
theorem lines_perm_of {m m' : StkV} (h : linesM m = linesM m') : m.Perm m' := by
 have h1 := (lines_perm m).symm.trans ((show (linesM m).Perm (linesM m') by rw [h]).trans (lines_perm m'))
 have h2 := h1.map fun y : LineV => (((y.1, y.2.1), y.2.2.toNat) : KeyV × Nat)
 have e : ∀ l : StkV, (l.map lineOf).map (fun y : LineV => (((y.1, y.2.1), y.2.2.toNat) : KeyV × Nat)) = l := fun l => by
  rw [List.map_map]
  conv => rhs; rw [← List.map_id l]
  refine List.map_congr_left fun x _ => ?_
  obtain ⟨⟨a, b⟩, c⟩ := x
  simp [lineOf]
 rw [e, e] at h2
 exact h2
theorem BkEq.perm {B C : BkV} (h : BkEq B C) : B.2.2.Perm C.2.2 := lines_perm_of h.2.2
theorem textM_inj {m m' : StkV} (h : StkI m) (h' : StkI m') (ht : textM m = textM m') : linesM m = linesM m' := by
 have h1 := h.read.1
 have h2 := h'.read.1
 rw [ht, h2] at h1
 exact (Sum.inr.inj h1).symm
theorem sorted_ext {α : Type} (key : α → List UInt8) {l l' : List α} (hs : l.Pairwise fun x y => ltB (key x) (key y) = true) (hs' : l'.Pairwise fun x y => ltB (key x) (key y) = true)
  (h : ∀ k, l.find? (fun x => decide (key x = k)) = l'.find? (fun x => decide (key x = k))) : l = l' := by
 have hm : ∀ x, x ∈ l ↔ x ∈ l' := fun x => by
  constructor
  ·intro hx
   have := find_is key hs hx
   rw [h] at this
   exact (find_mem key this).1
  ·intro hx
   have := find_is key hs' hx
   rw [← h] at this
   exact (find_mem key this).1
 have hn : ∀ {l : List α}, (l.Pairwise fun x y => ltB (key x) (key y) = true) → l.Nodup := fun h => h.imp fun {a b} hab e => ltB_ne hab (congrArg key e)
 have hp : l.Perm l' := (List.perm_ext_iff_of_nodup (hn hs) (hn hs')).2 hm
 refine List.Perm.eq_of_pairwise (le := fun x y => ltB (key x) (key y) = true) (fun x y _ _ h1 h2 => ?_) hs hs' hp
 exact absurd h2 (by rw [ltB_asym h1]; simp)
theorem BkI.eq_of {B C : BkV} (h : BkI B) (k : BkI C) (h1 : ∀ i, goodsF B i = goodsF C i) (h2 : ∀ i, lotsF B i = lotsF C i) (h3 : ∀ i, heldF B i = heldF C i) (h4 : ∀ i, sumsF B i = sumsF C i) (h5 : textM B.2.2 = textM C.2.2) : BkEq B C := by
 have e3 : ∀ i, heldOf B i = heldOf C i := fun i => by
  have := congrArg (·.getD 0) (h3 i)
  simp only [heldF_get] at this
  exact this
 have e4 : ∀ i, sumsOf B i = sumsOf C i := fun i => by
  have := congrArg (·.getD zeroSums) (h4 i)
  simp only [sumsF_get] at this
  exact this
 refine ⟨sorted_ext (fun y : GoS => y.1.1) h.gs k.gs fun i => ?_, sorted_ext (fun y : LoH => y.1.1) h.ls k.ls fun i => ?_, textM_inj h.stk k.stk h5⟩
 ·have a := h1 i
  have b := e4 i
  show fG B i = fG C i
  unfold goodsF at a
  unfold sumsOf at b
  cases hb : fG B i with
  |none =>
   rw [hb] at a
   cases hc : fG C i with
   |none => rfl
   |some y => rw [hc] at a; cases a
  |some x =>
   rw [hb] at a b
   cases hc : fG C i with
   |none => rw [hc] at a; cases a
   |some y =>
    rw [hc] at a b
    simp only [Option.map_some, Option.some.injEq] at a b
    rw [Prod.ext a b]
 ·have a := h2 i
  have b := e3 i
  show fL B i = fL C i
  unfold lotsF at a
  unfold heldOf at b
  cases hb : fL B i with
  |none =>
   rw [hb] at a
   cases hc : fL C i with
   |none => rfl
   |some y => rw [hc] at a; cases a
  |some x =>
   rw [hb] at a b
   cases hc : fL C i with
   |none => rw [hc] at a; cases a
   |some y =>
    rw [hc] at a b
    simp only [Option.map_some, Option.some.injEq] at a b
    rw [Prod.ext a b]
theorem BkEq.maps {B C : BkV} (h : BkEq B C) : (∀ i, goodsF B i = goodsF C i) ∧ (∀ i, lotsF B i = lotsF C i) ∧ (∀ i, heldF B i = heldF C i) ∧ (∀ i, sumsF B i = sumsF C i) ∧ textM B.2.2 = textM C.2.2 := by
 have g : ∀ i, fG B i = fG C i := fun i => by unfold fG; rw [h.1]
 have l : ∀ i, fL B i = fL C i := fun i => by unfold fL; rw [h.2.1]
 have s : ∀ i, sumsOf B i = sumsOf C i := fun i => by unfold sumsOf; rw [g]
 have d : ∀ i, heldOf B i = heldOf C i := fun i => by unfold heldOf; rw [l]
 exact ⟨fun i => by unfold goodsF; rw [g], fun i => by unfold lotsF; rw [l], fun i => by unfold heldF; rw [d], fun i => by unfold sumsF; rw [s], by unfold textM; rw [h.2.2]⟩
theorem actE_perm {m m' : StkV} (h : StkI m) (hp : m.Perm m') (x : EntV) : actE m x = actE m' x := by
 unfold actE
 rw [putE_perm h hp, takeE_perm h hp, moveE_perm h hp]
theorem actM_perm {m m' : StkV} (h : StkI m) (hp : m.Perm m') (x : EntV) : (actM m x).Perm (actM m' x) := by
 unfold actM
 split
 ·exact putM_perm h hp _ _ _
 split
 ·exact takeM_perm h hp _ _ _
 split
 ·exact moveM_perm h hp _ _ _ _
 ·exact hp
theorem BkEq.doE {B C : BkV} (h : BkEq B C) (hB : BkI B) (x : EntV) : doE B x = doE C x := by
 have g : ∀ i, fG B i = fG C i := fun i => by unfold fG; rw [h.1]
 have l : ∀ i, fL B i = fL C i := fun i => by unfold fL; rw [h.2.1]
 have s : ∀ i, sumsOf B i = sumsOf C i := fun i => by unfold sumsOf; rw [g]
 have hp := h.perm
 unfold Go.Proofs.YtchiojiicehpeaaGreatDoor.doE pcE
 simp only [g, l, s, h.1, h.2.1, actE_perm hB.stk hp x, ofM_perm (actM_perm hB.stk hp x) x.2.2.1.1]
theorem BkEq.doB {B C : BkV} (h : BkEq B C) (hB : BkI B) (x : EntV) : BkEq (doB B x) (doB C x) := by
 have g : ∀ i, fG B i = fG C i := fun i => by unfold fG; rw [h.1]
 have l : ∀ i, fL B i = fL C i := fun i => by unfold fL; rw [h.2.1]
 have s : ∀ i, sumsOf B i = sumsOf C i := fun i => by unfold sumsOf; rw [g]
 have d : ∀ i, heldOf B i = heldOf C i := fun i => by unfold heldOf; rw [l]
 have c : ∀ i, codeLo B i = codeLo C i := fun i => by unfold codeLo; rw [l]
 have hp := h.perm
 unfold Go.Proofs.YtchiojiicehpeaaGreatDoor.doB
 rw [h.doE hB x]
 split
 ·exact h
 split
 ·exact ⟨by show insG _ _ = insG _ _; rw [h.1], h.2.1, h.2.2⟩
 split
 ·exact ⟨h.1, by show insLo _ _ = insLo _ _; rw [h.2.1], h.2.2⟩
 ·refine ⟨?_, ?_, ?_⟩
  ·show setG _ _ _ = setG _ _ _
   rw [c, s, h.1]
  ·show setLo _ _ _ = setLo _ _ _
   rw [d, h.2.1]
  ·exact lines_permE (hB.stk.act x) (actM_perm hB.stk hp x)
theorem BkEq.all {B C : BkV} (h : BkEq B C) (hB : BkI B) (l : List EntV) : BkEq (doAll B l) (doAll C l) := by
 unfold doAll
 induction l generalizing B C with
 |nil => exact h
 |cons x r ih => exact ih (h.doB hB x) (hB.do_ x)
def repl (B : BkV) : List EntV → Nat → BkV ⊕ (Nat × Nat)
 |[], _ => .inl B
 |x :: r, i => if doE B x ≠ 0 then .inr (doE B x, i) else repl (doB B x) r (i + 1)
theorem repl_ok : ∀ (l : List EntV) {B C : BkV} {i : Nat}, repl B l i = .inl C → C = doAll B l
 |[], B, C, i, h => by
  unfold repl at h
  exact (Sum.inl.inj h).symm
 |x :: r, B, C, i, h => by
  unfold repl at h
  split at h
  ·cases h
  ·exact repl_ok r h
theorem repl_app : ∀ (l r : List EntV) (B : BkV) (i : Nat), repl B (l ++ r) i = match repl B l i with | .inl C => repl C r (i + l.length) | .inr e => .inr e
 |[], r, B, i => by simp [repl]
 |x :: l, r, B, i => by
  rw [List.cons_append, show repl B (x :: (l ++ r)) i = if Go.Proofs.YtchiojiicehpeaaGreatDoor.doE B x ≠ 0 then .inr (Go.Proofs.YtchiojiicehpeaaGreatDoor.doE B x, i) else repl (Go.Proofs.YtchiojiicehpeaaGreatDoor.doB B x) (l ++ r) (i + 1) from rfl, show repl B (x :: l) i = if Go.Proofs.YtchiojiicehpeaaGreatDoor.doE B x ≠ 0 then .inr (Go.Proofs.YtchiojiicehpeaaGreatDoor.doE B x, i) else repl (Go.Proofs.YtchiojiicehpeaaGreatDoor.doB B x) l (i + 1) from rfl]
  split
  ·rfl
  ·rw [repl_app l r (Go.Proofs.YtchiojiicehpeaaGreatDoor.doB B x) (i + 1), List.length_cons, show i + 1 + l.length = i + (l.length + 1) by omega]
def lotsB (B : BkV) (c : List UInt8) : List LotV := Stab.srt (ltOf cfLot) ((B.2.1.filter fun x : LoH => decide (x.1.2.1 = c)).map fun x : LoH => x.1)
theorem lotsB_mem {B : BkV} {c : List UInt8} {l : LotV} : l ∈ lotsB B c ↔ l.2.1 = c ∧ ∃ h, (l, h) ∈ B.2.1 := by
 unfold lotsB
 rw [(Stab.srt_perm _ _).mem_iff, List.mem_map]
 constructor
 ·rintro ⟨x, hx, rfl⟩
  obtain ⟨h1, h2⟩ := List.mem_filter.1 hx
  exact ⟨by simpa using h2, x.2, h1⟩
 ·rintro ⟨h1, h, h2⟩
  exact ⟨(l, h), List.mem_filter.2 ⟨h2, by simpa using h1⟩, rfl⟩
theorem cfLot_zero {x y : LotV} (h : cfLot x y = 0) : x.2.2.1 = y.2.2.1 ∧ x.1 = y.1 := by
 unfold cfLot at h
 simp only [orL] at h
 split at h
 ·rename_i h1
  refine ⟨(cmpI_zero _ _).1 h1, ?_⟩
  split at h
  ·rename_i h2; exact (cmpB_eq _ _).1 h2
  ·rename_i h2; exact absurd h h2
 ·rename_i h1; exact absurd h h1
theorem BkI.lot_uniq {B : BkV} (h : BkI B) {x y : LoH} (hx : x ∈ B.2.1) (hy : y ∈ B.2.1) (e : x.1.1 = y.1.1) : x = y := by
 have h1 := h.fL_is hx
 have h2 := h.fL_is hy
 rw [e, h2] at h1
 exact (Option.some.inj h1).symm
theorem ltLot_neither {x y : LotV} (h1 : ltOf cfLot x y = false) (h2 : ltOf cfLot y x = false) : x.1 = y.1 := by
 rw [ltLot, decide_eq_false_iff_not] at h1 h2
 have s := cmpB_swap x.1 y.1
 refine (cmpB_eq _ _).1 ?_
 by_cases e : x.2.2.1 = y.2.2.1
 ·have a : ¬ Lib.compareBytes x.1 y.1 < 0 := fun h => h1 (.inr ⟨e, h⟩)
  have b : ¬ Lib.compareBytes y.1 x.1 < 0 := fun h => h2 (.inr ⟨e.symm, h⟩)
  omega
 ·exact absurd (by omega : x.2.2.1 < y.2.2.1 ∨ y.2.2.1 < x.2.2.1) (fun h => by rcases h with h | h; exact h1 (.inl h); exact h2 (.inl h))
theorem BkI.lots_strict {B : BkV} (h : BkI B) (c : List UInt8) : (lotsB B c).Pairwise fun x y => ltOf cfLot x y = true := by
 have hs : Stab.Srt (ltOf cfLot) (lotsB B c) := Stab.srt_sorted swoLot _
 have hn : (lotsB B c).Nodup := by
  unfold lotsB
  rw [(Stab.srt_perm _ _).nodup_iff]
  have : (B.2.1.map fun x : LoH => x.1).Nodup := by
   rw [List.Nodup, List.pairwise_map]
   exact h.ls.imp fun {a b} hab e => ltB_ne hab (congrArg (fun z : LotV => z.1) e)
  exact ((List.filter_sublist.map _).nodup this)
 have hp := List.pairwise_and_iff.2 ⟨hs, hn⟩
 refine List.Pairwise.imp_of_mem ?_ hp
 intro x y hx hy hxy
 cases hlt : ltOf cfLot x y with
 |true => rfl
 |false =>
  obtain ⟨_, u, hu⟩ := lotsB_mem.1 hx
  obtain ⟨_, v, hv⟩ := lotsB_mem.1 hy
  have e := ltLot_neither hlt hxy.1
  have := h.lot_uniq hu hv e
  exact absurd (congrArg (fun z : LoH => z.1) this) hxy.2
def insS (x : LotV) (l : List LotV) : List LotV := l.takeWhile (fun y => ltOf cfLot y x) ++ x :: l.dropWhile (fun y => ltOf cfLot y x)
theorem insS_perm (x : LotV) (l : List LotV) : (insS x l).Perm (x :: l) := by
 unfold insS
 refine List.perm_middle.trans ?_
 rw [List.takeWhile_append_dropWhile]
theorem insS_sorted (x : LotV) : ∀ {l : List LotV}, Stab.Srt (ltOf cfLot) l → Stab.Srt (ltOf cfLot) (insS x l)
 |[], _ => by simp [insS, Stab.Srt]
 |y :: r, h => by
  have h' := List.pairwise_cons.1 h
  unfold insS
  by_cases hl : ltOf cfLot y x = true
  ·rw [List.takeWhile_cons_of_pos (p := fun y => ltOf cfLot y x) hl, List.dropWhile_cons_of_pos (p := fun y => ltOf cfLot y x) hl]
   have ih := insS_sorted x h'.2
   refine List.pairwise_cons.2 ⟨fun z hz => ?_, ih⟩
   rcases List.mem_cons.1 ((insS_perm x r).mem_iff.1 hz) with rfl | hz
   ·cases h2 : ltOf cfLot z y with
    |false => rfl
    |true => exact absurd (swoLot.trans _ _ _ h2 hl) (by rw [swoLot.irrefl]; simp)
   ·exact h'.1 z hz
  ·rw [List.takeWhile_cons_of_neg (p := fun y => ltOf cfLot y x) hl, List.dropWhile_cons_of_neg (p := fun y => ltOf cfLot y x) hl]
   refine List.pairwise_cons.2 ⟨fun z hz => ?_, h⟩
   rcases List.mem_cons.1 hz with rfl | hz
   ·simpa using hl
   ·exact swoLot.ntrans _ _ _ (h'.1 z hz) (by simpa using hl)
def lotsI (l : List LotV) : List LotV := l.foldl (fun out x => insS x out) []
theorem lotsI_snoc (l : List LotV) (x : LotV) : lotsI (l ++ [x]) = insS x (lotsI l) := by simp [lotsI]
theorem lotsI_both (l : List LotV) : (lotsI l).Perm l ∧ Stab.Srt (ltOf cfLot) (lotsI l) := by
 refine Stab.rev_ind (P := fun l => (lotsI l).Perm l ∧ Stab.Srt (ltOf cfLot) (lotsI l)) ⟨List.Perm.refl _, List.Pairwise.nil⟩ (fun l x ih => ?_) l
 rw [lotsI_snoc]
 exact ⟨(insS_perm x _).trans ((ih.1.cons x).trans (List.perm_append_singleton x l).symm), insS_sorted x ih.2⟩
theorem BkI.lots_ins {B : BkV} (h : BkI B) (c : List UInt8) : lotsI ((B.2.1.filter fun x : LoH => decide (x.1.2.1 = c)).map fun x : LoH => x.1) = lotsB B c := by
 obtain ⟨h1, h2⟩ := lotsI_both ((B.2.1.filter fun x : LoH => decide (x.1.2.1 = c)).map fun x : LoH => x.1)
 refine srt_unique (h1.trans (Stab.srt_perm _ _).symm) h2 (Stab.srt_sorted swoLot _) fun x hx y hy h3 h4 => ?_
 obtain ⟨a, ha, rfl⟩ := List.mem_map.1 (h1.mem_iff.1 hx)
 obtain ⟨b, hb, rfl⟩ := List.mem_map.1 (h1.mem_iff.1 hy)
 rw [h.lot_uniq (List.mem_filter.1 ha).1 (List.mem_filter.1 hb).1 (ltLot_neither h3 h4)]
/-! What an entry changes. -/
theorem still_has {B : BkV} (h : BkI B) {x : EntV} (he : doE B x = 0) (hk : x.1 ≠ kIn ∧ x.1 ≠ kOut ∧ x.1 ≠ kMore ∧ x.1 ≠ kLess) {c : List UInt8} (hc : (fG B c).isSome = true) : sumsOf (doB B x) c = sumsOf B c ∧ hasOf (doB B x) c = hasOf B c := by
 obtain ⟨g, hg⟩ := Option.isSome_iff_exists.1 hc
 have hI := h.do_ x
 have hs : sumsOf (doB B x) c = sumsOf B c ∧ (fG (doB B x) c).isSome = true := by
  unfold doB
  rw [if_neg (by simpa using he)]
  have he' := he
  unfold doE at he'
  split at he'
  ·rename_i h1; exact absurd he' h1
  rename_i h1
  simp only [ne_eq, Classical.not_not] at h1
  rcases ent_kinds h1 with ⟨k1, _⟩ | ⟨k1, _⟩ | ⟨k1, k2, k3, k4⟩
  ·rw [if_pos k1] at he' ⊢
   split at he'
   ·cases he'
   rename_i hn
   have hno : fG B x.2.1.1 = none := isSome_none hn
   have e := h.fG_ins (g := x.2.1) hno c
   have hne : x.2.1.1 ≠ c := fun e => by rw [e, hg] at hno; cases hno
   rw [if_neg hne] at e
   constructor
   ·unfold sumsOf; rw [e]
   ·rw [e, hg]; rfl
  ·rw [if_neg (by rw [k1]; decide), if_pos k1]
   exact ⟨rfl, hc⟩
  ·rw [if_neg k1, if_neg k2] at he' ⊢
   obtain ⟨y, hf, -⟩ := pc_zero he'
   obtain ⟨e1, e2, g2, e3, e4, e5⟩ := h.lot_goods hf
   have hs : summ (sumsOf B (codeLo B x.2.2.1.1)) x = sumsOf B (codeLo B x.2.2.1.1) := by
    unfold summ
    rw [if_neg hk.1, if_neg hk.2.1, if_neg hk.2.2.1, if_neg hk.2.2.2]
   refine ⟨?_, by rw [fG_doP, hg]; rfl⟩
   rw [sumsOf_doP (g := g2) (by rw [e1]; exact e3), hs]
   split
   ·rename_i h2; rw [h2]
   ·rfl
 refine ⟨hs.1, ?_⟩
 obtain ⟨g', hg'⟩ := Option.isSome_iff_exists.1 hs.2
 have a := h.pac g (fG_mem hg).1
 have b := hI.pac g' (fG_mem hg').1
 rw [(fG_mem hg).2] at a
 rw [(fG_mem hg').2] at b
 have c1 : sumsOf B c = g.2 := by unfold sumsOf; rw [hg]
 have c2 : sumsOf (doB B x) c = g'.2 := by unfold sumsOf; rw [hg']
 have c3 := hs.1
 rw [c1, c2] at c3
 rw [c3] at b
 omega
theorem BkI.changed {B : BkV} (h : BkI B) {x : EntV} (he : doE B x = 0) : ¬ BkEq B (doB B x) := by
 intro hq
 obtain ⟨q1, q2, q3⟩ := hq
 have hp := lines_perm_of q3
 unfold doB at q1 q2 hp
 rw [if_neg (by simpa using he)] at q1 q2 hp
 have he' := he
 unfold doE at he'
 split at he'
 ·rename_i h1; exact absurd he' h1
 rename_i h1
 simp only [ne_eq, Classical.not_not] at h1
 rcases ent_kinds h1 with ⟨k1, _⟩ | ⟨k1, _⟩ | ⟨k1, k2, k3, k4⟩
 ·rw [if_pos k1] at q1
  have := congrArg List.length q1
  rw [show (insG (x.2.1, zeroSums) B.1).length = B.1.length + 1 from (insK_perm (fun y : GoS => y.1.1) _ _).length_eq] at this
  omega
 ·rw [if_neg (by rw [k1]; decide), if_pos k1] at q2
  have := congrArg List.length q2
  rw [show (insLo (x.2.2.1, 0) B.2.1).length = B.2.1.length + 1 from (insK_perm (fun y : LoH => y.1.1) _ _).length_eq] at this
  omega
 ·rw [if_neg k1, if_neg k2] at he' q2 hp
  obtain ⟨y, hf, ha, h0, hle, -⟩ := pc_zero he'
  obtain ⟨-, hn, -, hn1, -, -⟩ : True ∧ (nameB x.2.2.1.1 = true) ∧ True ∧ (1 ≤ x.2.2.2.2.2) ∧ True ∧ True := by
   obtain ⟨a1, _, _, a2, _, _⟩ := pieces_zero k4
   exact ⟨trivial, a1, trivial, a2, trivial, trivial⟩
  have hown := act_own h.stk ha (by omega)
  have hper := ofM_perm hp x.2.2.1.1
  have hpm : (doP B x).2.2 = actM B.2.2 x := rfl
  rw [hpm] at hper hp
  have hmv : moreN x = 0 := by omega
  have hheld := heldOf_doP hf x.2.2.1.1
  rw [if_pos rfl] at hheld
  have hh2 : heldOf (doP B x) x.2.2.1.1 = heldOf B x.2.2.1.1 := by
   unfold heldOf fL
   rw [← q2]
  rw [hh2] at hheld
  obtain ⟨-, e2, -⟩ := h.lot_goods hf
  rw [e2] at hheld
  unfold moreN at hmv
  split at hmv
  ·omega
  rename_i m1
  split at hmv
  ·omega
  rename_i m2
  unfold isP at k3
  simp only [decide_eq_true_eq] at k3
  by_cases m3 : x.1 = kMove
  ·have hact : actE B.2.2 x = moveE B.2.2 x.2.2.2.1 x.2.2.2.2.1 x.2.2.1.1 x.2.2.2.2.2 := by unfold actE; rw [if_neg m1, if_neg m2, if_pos m3]
   have hacm : actM B.2.2 x = moveM B.2.2 x.2.2.2.1 x.2.2.2.2.1 x.2.2.1.1 x.2.2.2.2.2 := by unfold actM; rw [if_neg m1, if_neg m2, if_pos m3]
   rw [hact] at ha
   obtain ⟨t1, _, t3, t4, t5⟩ := move_zero ha
   have hat := atM_perm h.stk hp (x.2.2.2.1, x.2.2.1.1)
   rw [hacm, t5, at_put t4, if_neg (fun e => t3 (congrArg Prod.fst e)), at_take t1, if_pos rfl] at hat
   obtain ⟨_, _, t6⟩ := takeE_zero t1
   omega
  ·by_cases m4 : x.1 = kHold
   ·have : heldN y.2 x = y.2 + x.2.2.2.2.2 := by unfold heldN; rw [if_pos m4]
    omega
   ·by_cases m5 : x.1 = kFree
    ·have : heldN y.2 x = y.2 - x.2.2.2.2.2 := by unfold heldN; rw [if_neg m4, if_pos m5]
     omega
    ·rcases k3 with e | e | e | e | e | e | e
     ·exact m1 (.inl e)
     ·exact m1 (.inr e)
     ·exact m2 (.inl e)
     ·exact m2 (.inr e)
     ·exact m3 e
     ·exact m4 e
     ·exact m5 e
end Go.Proofs.YtchiojiicehpeaaGreatDoor
namespace Go.Proofs.YtchiojiicehpeaaGreatDoor
open Go.RowKit Go.Sort Go.Proofs
def lineE (done : List LineV) (x : LineV) : Nat :=
 if placeE x.1 ≠ 0 then placeE x.1 else if nameB x.2.1 = false then 5 else if wiB x.2.2 0 1099511627776 = false then 2 else if done.any (fun y => isAt x.1 x.2.1 y) = true then 7 else 0
def sheetF : List LineV → List LineV → Option (Nat × Nat)
 |_, [] => none
 |done, x :: r => if lineE done x ≠ 0 then some (lineE done x, done.length) else sheetF (done ++ [x]) r
def diffX (m : StkV) (x : LineV) : List EntV :=
 if x.2.2 - (atM m (x.1, x.2.1) : Nat) > 0 then [(kMore, zeroGoods, (x.2.1, [], 0, 0), zeroPlace, x.1, x.2.2 - (atM m (x.1, x.2.1) : Nat))]
 else if x.2.2 - (atM m (x.1, x.2.1) : Nat) < 0 then [(kLess, zeroGoods, (x.2.1, [], 0, 0), x.1, zeroPlace, - (x.2.2 - (atM m (x.1, x.2.1) : Nat)))] else []
def diffL (m : StkV) (l : List LineV) : List EntV := l.flatMap (diffX m)
def noLot (B : BkV) : List LineV → Nat → Option (Nat × Nat)
 |[], _ => none
 |x :: r, i => if (fL B x.2.1).isSome = true then noLot B r (i + 1) else some (6, i)
def diffB (B : BkV) (l : List LineV) : List EntV ⊕ (Nat × Nat) :=
 match sheetF [] l with
 |some e => .inr e
 |none => match noLot B l 0 with
  |some e => .inr e
  |none => .inl (diffL B.2.2 l)
theorem sheet_none : ∀ (l done : List LineV), sheetF done l = none → (∀ x ∈ l, placeE x.1 = 0 ∧ nameB x.2.1 = true ∧ 0 ≤ x.2.2 ∧ x.2.2 ≤ 1099511627776) ∧ (∀ x ∈ l, ∀ y ∈ done, isAt x.1 x.2.1 y = false) ∧ l.Pairwise fun x y => (x.1, x.2.1) ≠ (y.1, y.2.1)
 |[], _, _ => ⟨by simp, by simp, List.Pairwise.nil⟩
 |x :: r, done, h => by
  unfold sheetF at h
  split at h
  ·cases h
  rename_i h1
  simp only [ne_eq, Classical.not_not] at h1
  obtain ⟨i1, i2, i3⟩ := sheet_none r (done ++ [x]) h
  unfold lineE at h1
  split at h1
  ·rename_i q; exact absurd h1 q
  rename_i q1
  split at h1
  ·cases h1
  rename_i q2
  split at h1
  ·cases h1
  rename_i q3
  split at h1
  ·cases h1
  rename_i q4
  simp only [ne_eq, Classical.not_not] at q1
  unfold wiB at q3
  simp only [decide_eq_false_iff_not, Classical.not_not] at q3
  refine ⟨fun y hy => ?_, fun y hy z hz => ?_, List.pairwise_cons.2 ⟨fun y hy e => ?_, i3⟩⟩
  ·rcases List.mem_cons.1 hy with rfl | hy
   ·exact ⟨q1, by simpa using q2, q3.1, q3.2⟩
   ·exact i1 y hy
  ·rcases List.mem_cons.1 hy with rfl | hy
   ·simp only [Bool.not_eq_true, List.any_eq_false] at q4
    have := q4 z hz
    simpa using this
   ·exact i2 y hy z (List.mem_append_left _ hz)
  ·have := i2 y hy x (by simp)
   unfold isAt at this
   have h2 := of_decide_eq_false this
   simp only [Prod.mk.injEq] at e
   exact h2 ⟨e.1, e.2⟩
theorem at_more {B : BkV} {p : PlaceV} {id : List UInt8} {n : Int} (he : doE B (kMore, zeroGoods, (id, [], 0, 0), zeroPlace, p, n) = 0) (k : KeyV) :
  atM (doB B (kMore, zeroGoods, (id, [], 0, 0), zeroPlace, p, n)).2.2 k = if k = (p, id) then atM B.2.2 k + n.toNat else atM B.2.2 k := by
 have hm : (doB B (kMore, zeroGoods, (id, [], 0, 0), zeroPlace, p, n)).2.2 = putM B.2.2 p id n := by
  unfold doB
  rw [if_neg (by simpa using he), if_neg (by decide : ¬ kMore = kGoods), if_neg (by decide : ¬ kMore = kLot)]
  unfold doP
  simp only
  unfold actM
  rw [if_pos (.inr rfl)]
 have hp : putE B.2.2 p id n = 0 := by
  unfold doE at he
  split at he
  ·rename_i h; exact absurd he h
  rw [if_neg (by decide : ¬ kMore = kGoods), if_neg (by decide : ¬ kMore = kLot)] at he
  obtain ⟨y, _, ha, _⟩ := pc_zero he
  unfold actE at ha
  rwa [if_pos (.inr rfl)] at ha
 rw [hm, at_put hp]
theorem at_less {B : BkV} {p : PlaceV} {id : List UInt8} {n : Int} (he : doE B (kLess, zeroGoods, (id, [], 0, 0), p, zeroPlace, n) = 0) (k : KeyV) :
  atM (doB B (kLess, zeroGoods, (id, [], 0, 0), p, zeroPlace, n)).2.2 k = if k = (p, id) then atM B.2.2 k - n.toNat else atM B.2.2 k := by
 have hm : (doB B (kLess, zeroGoods, (id, [], 0, 0), p, zeroPlace, n)).2.2 = takeM B.2.2 p id n := by
  unfold doB
  rw [if_neg (by simpa using he), if_neg (by decide : ¬ kLess = kGoods), if_neg (by decide : ¬ kLess = kLot)]
  unfold doP
  simp only
  unfold actM
  rw [if_neg (by decide : ¬ (kLess = kIn ∨ kLess = kMore)), if_pos (.inr rfl)]
 have hp : takeE B.2.2 p id n = 0 := by
  unfold doE at he
  split at he
  ·rename_i h; exact absurd he h
  rw [if_neg (by decide : ¬ kLess = kGoods), if_neg (by decide : ¬ kLess = kLot)] at he
  obtain ⟨y, _, ha, _⟩ := pc_zero he
  unfold actE at ha
  rwa [if_neg (by decide : ¬ (kLess = kIn ∨ kLess = kMore)), if_pos (.inr rfl)] at ha
 rw [hm, at_take hp]
def allOk (B : BkV) : List EntV → Prop
 |[] => True
 |x :: r => doE B x = 0 ∧ allOk (doB B x) r
theorem allOk_app : ∀ (a b : List EntV) (B : BkV), allOk B (a ++ b) ↔ allOk B a ∧ allOk (doAll B a) b
 |[], b, B => by simp [allOk, doAll]
 |x :: a, b, B => by
  have ih := allOk_app a b (doB B x)
  show (doE B x = 0 ∧ allOk (doB B x) (a ++ b)) ↔ (doE B x = 0 ∧ allOk (doB B x) a) ∧ allOk (doAll (doB B x) a) b
  rw [ih, and_assoc]
theorem diff_seen : ∀ (l : List LineV) (m : StkV) (B : BkV), (∀ x ∈ l, 0 ≤ x.2.2) → (l.Pairwise fun x y => (x.1, x.2.1) ≠ (y.1, y.2.1)) → (∀ x ∈ l, atM B.2.2 (x.1, x.2.1) = atM m (x.1, x.2.1)) → allOk B (diffL m l) →
  (∀ x ∈ l, (atM (doAll B (diffL m l)).2.2 (x.1, x.2.1) : Int) = x.2.2) ∧ ∀ k, (∀ x ∈ l, (x.1, x.2.1) ≠ k) → atM (doAll B (diffL m l)).2.2 k = atM B.2.2 k
 |[], m, B, _, _, _, _ => ⟨by simp, fun _ _ => rfl⟩
 |x :: r, m, B, h0, hp, ha, hok => by
  have hp' := List.pairwise_cons.1 hp
  have e : diffL m (x :: r) = diffX m x ++ diffL m r := rfl
  rw [e, allOk_app] at hok
  have one : (atM (doAll B (diffX m x)).2.2 (x.1, x.2.1) : Int) = x.2.2 ∧ ∀ k, (x.1, x.2.1) ≠ k → atM (doAll B (diffX m x)).2.2 k = atM B.2.2 k := by
   have hx := ha x List.mem_cons_self
   have hx0 := h0 x List.mem_cons_self
   have hok1 := hok.1
   unfold diffX at hok1 ⊢
   split at hok1
   ·rename_i h1
    rw [if_pos h1]
    have hm := at_more hok1.1
    constructor
    ·show (atM (doB B _).2.2 _ : Int) = _
     rw [hm, if_pos rfl]
     omega
    ·intro k hk
     show atM (doB B _).2.2 _ = _
     rw [hm, if_neg (fun e => hk e.symm)]
   ·rename_i h1
    rw [if_neg h1]
    split at hok1
    ·rename_i h2
     rw [if_pos h2]
     have hm := at_less hok1.1
     constructor
     ·show (atM (doB B _).2.2 _ : Int) = _
      rw [hm, if_pos rfl]
      omega
     ·intro k hk
      show atM (doB B _).2.2 _ = _
      rw [hm, if_neg (fun e => hk e.symm)]
    ·rename_i h2
     rw [if_neg h2]
     refine ⟨?_, fun _ _ => rfl⟩
     show (atM B.2.2 _ : Int) = _
     omega
  have hB : ∀ y ∈ r, atM (doAll B (diffX m x)).2.2 (y.1, y.2.1) = atM m (y.1, y.2.1) := fun y hy => (one.2 _ (hp'.1 y hy)).trans (ha y (List.mem_cons_of_mem _ hy))
  obtain ⟨i1, i2⟩ := diff_seen r m (doAll B (diffX m x)) (fun y hy => h0 y (List.mem_cons_of_mem _ hy)) hp'.2 hB hok.2
  have ea : doAll B (diffX m x ++ diffL m r) = doAll (doAll B (diffX m x)) (diffL m r) := by unfold doAll; rw [List.foldl_append]
  rw [e, ea]
  refine ⟨fun y hy => ?_, fun k hk => ?_⟩
  ·rcases List.mem_cons.1 hy with rfl | hy
   ·rw [i2 _ fun z hz e => hp'.1 z hz e.symm]
    exact one.1
   ·exact i1 y hy
  ·rw [i2 k fun z hz => hk z (List.mem_cons_of_mem _ hz), one.2 k (hk x List.mem_cons_self)]
theorem diff_twice {l : List LineV} {m : StkV} (h : ∀ x ∈ l, (atM m (x.1, x.2.1) : Int) = x.2.2) : diffL m l = [] := by
 unfold diffL
 rw [List.flatMap_eq_nil_iff]
 intro x hx
 have := h x hx
 unfold diffX
 rw [if_neg (by omega), if_neg (by omega)]
end Go.Proofs.YtchiojiicehpeaaGreatDoor
