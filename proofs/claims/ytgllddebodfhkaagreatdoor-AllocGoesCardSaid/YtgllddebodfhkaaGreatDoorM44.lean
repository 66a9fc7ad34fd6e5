/- The book, plainly: equal books, what an entry changes; entries replayed; lots of goods. No program in sight. The program's book: Lots. The closed fact of the book's laws: a book of one lot. What walks over a book and its text lean on. -/
import Derived.Test.YtgllddebodfhkaaGreatDoorM08
import Derived.Test.YtgllddebodfhkaaGreatDoorM10
import Derived.Test.YtgllddebodfhkaaGreatDoorM13
import Derived.Test.YtgllddebodfhkaaGreatDoorM21
import Derived.Test.YtgllddebodfhkaaGreatDoorM22
import Derived.Test.YtgllddebodfhkaaGreatDoorM23
import Derived.Test.YtgllddebodfhkaaGreatDoorM24
import Derived.Test.YtgllddebodfhkaaGreatDoorM30
import Derived.Test.YtgllddebodfhkaaGreatDoorM31
import Derived.Test.YtgllddebodfhkaaGreatDoorM43
namespace Go.Proofs.YtgllddebodfhkaaGreatDoor
open Go.RowKit Go.Sort Go.Proofs

/-- Two books have the same. -/
def BkEq (B C : BkV) : Prop := B.1 = C.1 ∧ B.2.1 = C.2.1 ∧ linesM B.2.2 = linesM C.2.2
theorem BkEq.refl (B : BkV) : BkEq B B := ⟨rfl, rfl, rfl⟩
theorem BkEq.symm {B C : BkV} (h : BkEq B C) : BkEq C B := ⟨h.1.symm, h.2.1.symm, h.2.2.symm⟩
theorem BkEq.trans {B C D : BkV} (h : BkEq B C) (k : BkEq C D) : BkEq B D := ⟨h.1.trans k.1, h.2.1.trans k.2.1, h.2.2.trans k.2.2⟩
theorem lines_perm_of {m m' : StkV} (h : linesM m = linesM m') : m.Perm m' := by
  have h1 := (lines_perm m).symm.trans ((show (linesM m).Perm (linesM m') by rw [h]).trans (lines_perm m'))
  have h2 := h1.map fun y : LineV => (((y.1, y.2.1), y.2.2.toNat) : KeyV × Nat)
  have e : ∀ l : StkV, (l.map lineOf).map (fun y : LineV => (((y.1, y.2.1), y.2.2.toNat) : KeyV × Nat)) = l := fun l => by
    rw [List.map_map]
    conv => rhs; rw [← List.map_id l]
    refine List.map_congr_left fun x _ => ?_
    obtain ⟨⟨a, b⟩, c⟩ := x
    simp [lineOf]
  rw [e, e] at h2
  exact h2
theorem BkEq.perm {B C : BkV} (h : BkEq B C) : B.2.2.Perm C.2.2 := lines_perm_of h.2.2
theorem textM_inj {m m' : StkV} (h : StkI m) (h' : StkI m') (ht : textM m = textM m') : linesM m = linesM m' := by
  have h1 := h.read.1
  have h2 := h'.read.1
  rw [ht, h2] at h1
  exact (Sum.inr.inj h1).symm

/-- What holds the same maps, and the same text, is the same. -/
theorem sorted_ext {α : Type} (key : α → List UInt8) {l l' : List α} (hs : l.Pairwise fun x y => ltB (key x) (key y) = true) (hs' : l'.Pairwise fun x y => ltB (key x) (key y) = true)
    (h : ∀ k, l.find? (fun x => decide (key x = k)) = l'.find? (fun x => decide (key x = k))) : l = l' := by
  have hm : ∀ x, x ∈ l ↔ x ∈ l' := fun x => by
    constructor
    · intro hx
      have := find_is key hs hx
      rw [h] at this
      exact (find_mem key this).1
    · intro hx
      have := find_is key hs' hx
      rw [← h] at this
      exact (find_mem key this).1
  have hn : ∀ {l : List α}, (l.Pairwise fun x y => ltB (key x) (key y) = true) → l.Nodup := fun h => h.imp fun {a b} hab e => ltB_ne hab (congrArg key e)
  have hp : l.Perm l' := (List.perm_ext_iff_of_nodup (hn hs) (hn hs')).2 hm
  refine List.Perm.eq_of_pairwise (le := fun x y => ltB (key x) (key y) = true) (fun x y _ _ h1 h2 => ?_) hs hs' hp
  exact absurd h2 (by rw [ltB_asym h1]; simp)
theorem BkI.eq_of {B C : BkV} (h : BkI B) (k : BkI C) (h1 : ∀ i, goodsF B i = goodsF C i) (h2 : ∀ i, lotsF B i = lotsF C i) (h3 : ∀ i, heldF B i = heldF C i) (h4 : ∀ i, sumsF B i = sumsF C i) (h5 : textM B.2.2 = textM C.2.2) : BkEq B C := by
  have e3 : ∀ i, heldOf B i = heldOf C i := fun i => by
    have := congrArg (·.getD 0) (h3 i)
    simp only [heldF_get] at this
    exact this
  have e4 : ∀ i, sumsOf B i = sumsOf C i := fun i => by
    have := congrArg (·.getD zeroSums) (h4 i)
    simp only [sumsF_get] at this
    exact this
  refine ⟨sorted_ext (fun y : GoS => y.1.1) h.gs k.gs fun i => ?_, sorted_ext (fun y : LoH => y.1.1) h.ls k.ls fun i => ?_, textM_inj h.stk k.stk h5⟩
  · have a := h1 i
    have b := e4 i
    show fG B i = fG C i
    unfold goodsF at a
    unfold sumsOf at b
    cases hb : fG B i with
    | none =>
      rw [hb] at a
      cases hc : fG C i with
      | none => rfl
      | some y => rw [hc] at a; cases a
    | some x =>
      rw [hb] at a b
      cases hc : fG C i with
      | none => rw [hc] at a; cases a
      | some y =>
        rw [hc] at a b
        simp only [Option.map_some, Option.some.injEq] at a b
        rw [Prod.ext a b]
  · have a := h2 i
    have b := e3 i
    show fL B i = fL C i
    unfold lotsF at a
    unfold heldOf at b
    cases hb : fL B i with
    | none =>
      rw [hb] at a
      cases hc : fL C i with
      | none => rfl
      | some y => rw [hc] at a; cases a
    | some x =>
      rw [hb] at a b
      cases hc : fL C i with
      | none => rw [hc] at a; cases a
      | some y =>
        rw [hc] at a b
        simp only [Option.map_some, Option.some.injEq] at a b
        rw [Prod.ext a b]
theorem BkEq.maps {B C : BkV} (h : BkEq B C) : (∀ i, goodsF B i = goodsF C i) ∧ (∀ i, lotsF B i = lotsF C i) ∧ (∀ i, heldF B i = heldF C i) ∧ (∀ i, sumsF B i = sumsF C i) ∧ textM B.2.2 = textM C.2.2 := by
  have g : ∀ i, fG B i = fG C i := fun i => by unfold fG; rw [h.1]
  have l : ∀ i, fL B i = fL C i := fun i => by unfold fL; rw [h.2.1]
  have s : ∀ i, sumsOf B i = sumsOf C i := fun i => by unfold sumsOf; rw [g]
  have d : ∀ i, heldOf B i = heldOf C i := fun i => by unfold heldOf; rw [l]
  exact ⟨fun i => by unfold goodsF; rw [g], fun i => by unfold lotsF; rw [l], fun i => by unfold heldF; rw [d], fun i => by unfold sumsF; rw [s], by unfold textM; rw [h.2.2]⟩

/-- Equal books answer alike, and go on alike. -/
theorem actE_perm {m m' : StkV} (h : StkI m) (hp : m.Perm m') (x : EntV) : actE m x = actE m' x := by
  unfold actE
  rw [putE_perm h hp, takeE_perm h hp, moveE_perm h hp]
theorem actM_perm {m m' : StkV} (h : StkI m) (hp : m.Perm m') (x : EntV) : (actM m x).Perm (actM m' x) := by
  unfold actM
  split
  · exact putM_perm h hp _ _ _
  split
  · exact takeM_perm h hp _ _ _
  split
  · exact moveM_perm h hp _ _ _ _
  · exact hp
theorem BkEq.doE {B C : BkV} (h : BkEq B C) (hB : BkI B) (x : EntV) : doE B x = doE C x := by
  have g : ∀ i, fG B i = fG C i := fun i => by unfold fG; rw [h.1]
  have l : ∀ i, fL B i = fL C i := fun i => by unfold fL; rw [h.2.1]
  have s : ∀ i, sumsOf B i = sumsOf C i := fun i => by unfold sumsOf; rw [g]
  have hp := h.perm
  unfold Go.Proofs.YtgllddebodfhkaaGreatDoor.doE pcE
  simp only [g, l, s, h.1, h.2.1, actE_perm hB.stk hp x, ofM_perm (actM_perm hB.stk hp x) x.2.2.1.1]
theorem BkEq.doB {B C : BkV} (h : BkEq B C) (hB : BkI B) (x : EntV) : BkEq (doB B x) (doB C x) := by
  have g : ∀ i, fG B i = fG C i := fun i => by unfold fG; rw [h.1]
  have l : ∀ i, fL B i = fL C i := fun i => by unfold fL; rw [h.2.1]
  have s : ∀ i, sumsOf B i = sumsOf C i := fun i => by unfold sumsOf; rw [g]
  have d : ∀ i, heldOf B i = heldOf C i := fun i => by unfold heldOf; rw [l]
  have c : ∀ i, codeLo B i = codeLo C i := fun i => by unfold codeLo; rw [l]
  have hp := h.perm
  unfold Go.Proofs.YtgllddebodfhkaaGreatDoor.doB
  rw [h.doE hB x]
  split
  · exact h
  split
  · exact ⟨by show insG _ _ = insG _ _; rw [h.1], h.2.1, h.2.2⟩
  split
  · exact ⟨h.1, by show insLo _ _ = insLo _ _; rw [h.2.1], h.2.2⟩
  · refine ⟨?_, ?_, ?_⟩
    · show setG _ _ _ = setG _ _ _
      rw [c, s, h.1]
    · show setLo _ _ _ = setLo _ _ _
      rw [d, h.2.1]
    · exact lines_permE (hB.stk.act x) (actM_perm hB.stk hp x)
theorem BkEq.all {B C : BkV} (h : BkEq B C) (hB : BkI B) (l : List EntV) : BkEq (doAll B l) (doAll C l) := by
  unfold doAll
  induction l generalizing B C with
  | nil => exact h
  | cons x r ih => exact ih (h.doB hB x) (hB.do_ x)

/-- Entries up to the first with an error. -/
def repl (B : BkV) : List EntV → Nat → BkV ⊕ (Nat × Nat)
  | [], _ => .inl B
  | x :: r, i => if doE B x ≠ 0 then .inr (doE B x, i) else repl (doB B x) r (i + 1)
theorem repl_ok : ∀ (l : List EntV) {B C : BkV} {i : Nat}, repl B l i = .inl C → C = doAll B l
  | [], B, C, i, h => by
    unfold repl at h
    exact (Sum.inl.inj h).symm
  | x :: r, B, C, i, h => by
    unfold repl at h
    split at h
    · cases h
    · exact repl_ok r h
theorem repl_app : ∀ (l r : List EntV) (B : BkV) (i : Nat), repl B (l ++ r) i = match repl B l i with | .inl C => repl C r (i + l.length) | .inr e => .inr e
  | [], r, B, i => by simp [repl]
  | x :: l, r, B, i => by
    rw [List.cons_append, show repl B (x :: (l ++ r)) i = if Go.Proofs.YtgllddebodfhkaaGreatDoor.doE B x ≠ 0 then .inr (Go.Proofs.YtgllddebodfhkaaGreatDoor.doE B x, i) else repl (Go.Proofs.YtgllddebodfhkaaGreatDoor.doB B x) (l ++ r) (i + 1) from rfl, show repl B (x :: l) i = if Go.Proofs.YtgllddebodfhkaaGreatDoor.doE B x ≠ 0 then .inr (Go.Proofs.YtgllddebodfhkaaGreatDoor.doE B x, i) else repl (Go.Proofs.YtgllddebodfhkaaGreatDoor.doB B x) l (i + 1) from rfl]
    split
    · rfl
    · rw [repl_app l r (Go.Proofs.YtgllddebodfhkaaGreatDoor.doB B x) (i + 1), List.length_cons, show i + 1 + l.length = i + (l.length + 1) by omega]

/-- Lots of goods: the soonest first. -/
def lotsB (B : BkV) (c : List UInt8) : List LotV := Stab.srt (ltOf cfLot) ((B.2.1.filter fun x : LoH => decide (x.1.2.1 = c)).map fun x : LoH => x.1)
theorem lotsB_mem {B : BkV} {c : List UInt8} {l : LotV} : l ∈ lotsB B c ↔ l.2.1 = c ∧ ∃ h, (l, h) ∈ B.2.1 := by
  unfold lotsB
  rw [(Stab.srt_perm _ _).mem_iff, List.mem_map]
  constructor
  · rintro ⟨x, hx, rfl⟩
    obtain ⟨h1, h2⟩ := List.mem_filter.1 hx
    exact ⟨by simpa using h2, x.2, h1⟩
  · rintro ⟨h1, h, h2⟩
    exact ⟨(l, h), List.mem_filter.2 ⟨h2, by simpa using h1⟩, rfl⟩
theorem cfLot_zero {x y : LotV} (h : cfLot x y = 0) : x.2.2.1 = y.2.2.1 ∧ x.1 = y.1 := by
  unfold cfLot at h
  simp only [orL] at h
  split at h
  · rename_i h1
    refine ⟨(cmpI_zero _ _).1 h1, ?_⟩
    split at h
    · rename_i h2; exact (cmpB_eq _ _).1 h2
    · rename_i h2; exact absurd h h2
  · rename_i h1; exact absurd h h1
theorem BkI.lot_uniq {B : BkV} (h : BkI B) {x y : LoH} (hx : x ∈ B.2.1) (hy : y ∈ B.2.1) (e : x.1.1 = y.1.1) : x = y := by
  have h1 := h.fL_is hx
  have h2 := h.fL_is hy
  rw [e, h2] at h1
  exact (Option.some.inj h1).symm
theorem ltLot_neither {x y : LotV} (h1 : ltOf cfLot x y = false) (h2 : ltOf cfLot y x = false) : x.1 = y.1 := by
  rw [ltLot, decide_eq_false_iff_not] at h1 h2
  have s := cmpB_swap x.1 y.1
  refine (cmpB_eq _ _).1 ?_
  by_cases e : x.2.2.1 = y.2.2.1
  · have a : ¬ Lib.compareBytes x.1 y.1 < 0 := fun h => h1 (.inr ⟨e, h⟩)
    have b : ¬ Lib.compareBytes y.1 x.1 < 0 := fun h => h2 (.inr ⟨e.symm, h⟩)
    omega
  · exact absurd (by omega : x.2.2.1 < y.2.2.1 ∨ y.2.2.1 < x.2.2.1) (fun h => by rcases h with h | h; exact h1 (.inl h); exact h2 (.inl h))
/-- Each of them is sooner than the next one. -/
theorem BkI.lots_strict {B : BkV} (h : BkI B) (c : List UInt8) : (lotsB B c).Pairwise fun x y => ltOf cfLot x y = true := by
  have hs : Stab.Srt (ltOf cfLot) (lotsB B c) := Stab.srt_sorted swoLot _
  have hn : (lotsB B c).Nodup := by
    unfold lotsB
    rw [(Stab.srt_perm _ _).nodup_iff]
    have : (B.2.1.map fun x : LoH => x.1).Nodup := by
      rw [List.Nodup, List.pairwise_map]
      exact h.ls.imp fun {a b} hab e => ltB_ne hab (congrArg (fun z : LotV => z.1) e)
    exact ((List.filter_sublist.map _).nodup this)
  have hp := List.pairwise_and_iff.2 ⟨hs, hn⟩
  refine List.Pairwise.imp_of_mem ?_ hp
  intro x y hx hy hxy
  cases hlt : ltOf cfLot x y with
  | true => rfl
  | false =>
    obtain ⟨_, u, hu⟩ := lotsB_mem.1 hx
    obtain ⟨_, v, hv⟩ := lotsB_mem.1 hy
    have e := ltLot_neither hlt hxy.1
    have := h.lot_uniq hu hv e
    exact absurd (congrArg (fun z : LoH => z.1) this) hxy.2
/-- Put in behind all that are sooner. -/
def insS (x : LotV) (l : List LotV) : List LotV := l.takeWhile (fun y => ltOf cfLot y x) ++ x :: l.dropWhile (fun y => ltOf cfLot y x)
theorem insS_perm (x : LotV) (l : List LotV) : (insS x l).Perm (x :: l) := by
  unfold insS
  refine List.perm_middle.trans ?_
  rw [List.takeWhile_append_dropWhile]
theorem insS_sorted (x : LotV) : ∀ {l : List LotV}, Stab.Srt (ltOf cfLot) l → Stab.Srt (ltOf cfLot) (insS x l)
  | [], _ => by simp [insS, Stab.Srt]
  | y :: r, h => by
    have h' := List.pairwise_cons.1 h
    unfold insS
    by_cases hl : ltOf cfLot y x = true
    · rw [List.takeWhile_cons_of_pos (p := fun y => ltOf cfLot y x) hl, List.dropWhile_cons_of_pos (p := fun y => ltOf cfLot y x) hl]
      have ih := insS_sorted x h'.2
      refine List.pairwise_cons.2 ⟨fun z hz => ?_, ih⟩
      rcases List.mem_cons.1 ((insS_perm x r).mem_iff.1 hz) with rfl | hz
      · cases h2 : ltOf cfLot z y with
        | false => rfl
        | true => exact absurd (swoLot.trans _ _ _ h2 hl) (by rw [swoLot.irrefl]; simp)
      · exact h'.1 z hz
    · rw [List.takeWhile_cons_of_neg (p := fun y => ltOf cfLot y x) hl, List.dropWhile_cons_of_neg (p := fun y => ltOf cfLot y x) hl]
      refine List.pairwise_cons.2 ⟨fun z hz => ?_, h⟩
      rcases List.mem_cons.1 hz with rfl | hz
      · simpa using hl
      · exact swoLot.ntrans _ _ _ (h'.1 z hz) (by simpa using hl)
def lotsI (l : List LotV) : List LotV := l.foldl (fun out x => insS x out) []
theorem lotsI_snoc (l : List LotV) (x : LotV) : lotsI (l ++ [x]) = insS x (lotsI l) := by simp [lotsI]
theorem lotsI_both (l : List LotV) : (lotsI l).Perm l ∧ Stab.Srt (ltOf cfLot) (lotsI l) := by
  refine Stab.rev_ind (P := fun l => (lotsI l).Perm l ∧ Stab.Srt (ltOf cfLot) (lotsI l)) ⟨List.Perm.refl _, List.Pairwise.nil⟩ (fun l x ih => ?_) l
  rw [lotsI_snoc]
  exact ⟨(insS_perm x _).trans ((ih.1.cons x).trans (List.perm_append_singleton x l).symm), insS_sorted x ih.2⟩
theorem BkI.lots_ins {B : BkV} (h : BkI B) (c : List UInt8) : lotsI ((B.2.1.filter fun x : LoH => decide (x.1.2.1 = c)).map fun x : LoH => x.1) = lotsB B c := by
  obtain ⟨h1, h2⟩ := lotsI_both ((B.2.1.filter fun x : LoH => decide (x.1.2.1 = c)).map fun x : LoH => x.1)
  refine srt_unique (h1.trans (Stab.srt_perm _ _).symm) h2 (Stab.srt_sorted swoLot _) fun x hx y hy h3 h4 => ?_
  obtain ⟨a, ha, rfl⟩ := List.mem_map.1 (h1.mem_iff.1 hx)
  obtain ⟨b, hb, rfl⟩ := List.mem_map.1 (h1.mem_iff.1 hy)
  rw [h.lot_uniq (List.mem_filter.1 ha).1 (List.mem_filter.1 hb).1 (ltLot_neither h3 h4)]

/-! What an entry changes. -/
theorem still_has {B : BkV} (h : BkI B) {x : EntV} (he : doE B x = 0) (hk : x.1 ≠ kIn ∧ x.1 ≠ kOut ∧ x.1 ≠ kMore ∧ x.1 ≠ kLess) {c : List UInt8} (hc : (fG B c).isSome = true) : sumsOf (doB B x) c = sumsOf B c ∧ hasOf (doB B x) c = hasOf B c := by
  obtain ⟨g, hg⟩ := Option.isSome_iff_exists.1 hc
  have hI := h.do_ x
  have hs : sumsOf (doB B x) c = sumsOf B c ∧ (fG (doB B x) c).isSome = true := by
    unfold doB
    rw [if_neg (by simpa using he)]
    have he' := he
    unfold doE at he'
    split at he'
    · rename_i h1; exact absurd he' h1
    rename_i h1
    simp only [ne_eq, Classical.not_not] at h1
    rcases ent_kinds h1 with ⟨k1, _⟩ | ⟨k1, _⟩ | ⟨k1, k2, k3, k4⟩
    · rw [if_pos k1] at he' ⊢
      split at he'
      · cases he'
      rename_i hn
      have hno : fG B x.2.1.1 = none := isSome_none hn
      have e := h.fG_ins (g := x.2.1) hno c
      have hne : x.2.1.1 ≠ c := fun e => by rw [e, hg] at hno; cases hno
      rw [if_neg hne] at e
      constructor
      · unfold sumsOf; rw [e]
      · rw [e, hg]; rfl
    · rw [if_neg (by rw [k1]; decide), if_pos k1]
      exact ⟨rfl, hc⟩
    · rw [if_neg k1, if_neg k2] at he' ⊢
      obtain ⟨y, hf, -⟩ := pc_zero he'
      obtain ⟨e1, e2, g2, e3, e4, e5⟩ := h.lot_goods hf
      have hs : summ (sumsOf B (codeLo B x.2.2.1.1)) x = sumsOf B (codeLo B x.2.2.1.1) := by
        unfold summ
        rw [if_neg hk.1, if_neg hk.2.1, if_neg hk.2.2.1, if_neg hk.2.2.2]
      refine ⟨?_, by rw [fG_doP, hg]; rfl⟩
      rw [sumsOf_doP (g := g2) (by rw [e1]; exact e3), hs]
      split
      · rename_i h2; rw [h2]
      · rfl
  refine ⟨hs.1, ?_⟩
  obtain ⟨g', hg'⟩ := Option.isSome_iff_exists.1 hs.2
  have a := h.pac g (fG_mem hg).1
  have b := hI.pac g' (fG_mem hg').1
  rw [(fG_mem hg).2] at a
  rw [(fG_mem hg').2] at b
  have c1 : sumsOf B c = g.2 := by unfold sumsOf; rw [hg]
  have c2 : sumsOf (doB B x) c = g'.2 := by unfold sumsOf; rw [hg']
  have c3 := hs.1
  rw [c1, c2] at c3
  rw [c3] at b
  omega
/-- An entry with no error changes the book. -/
theorem BkI.changed {B : BkV} (h : BkI B) {x : EntV} (he : doE B x = 0) : ¬ BkEq B (doB B x) := by
  intro hq
  obtain ⟨q1, q2, q3⟩ := hq
  have hp := lines_perm_of q3
  unfold doB at q1 q2 hp
  rw [if_neg (by simpa using he)] at q1 q2 hp
  have he' := he
  unfold doE at he'
  split at he'
  · rename_i h1; exact absurd he' h1
  rename_i h1
  simp only [ne_eq, Classical.not_not] at h1
  rcases ent_kinds h1 with ⟨k1, _⟩ | ⟨k1, _⟩ | ⟨k1, k2, k3, k4⟩
  · rw [if_pos k1] at q1
    have := congrArg List.length q1
    rw [show (insG (x.2.1, zeroSums) B.1).length = B.1.length + 1 from (insK_perm (fun y : GoS => y.1.1) _ _).length_eq] at this
    omega
  · rw [if_neg (by rw [k1]; decide), if_pos k1] at q2
    have := congrArg List.length q2
    rw [show (insLo (x.2.2.1, 0) B.2.1).length = B.2.1.length + 1 from (insK_perm (fun y : LoH => y.1.1) _ _).length_eq] at this
    omega
  · rw [if_neg k1, if_neg k2] at he' q2 hp
    obtain ⟨y, hf, ha, h0, hle, -⟩ := pc_zero he'
    obtain ⟨-, hn, -, hn1, -, -⟩ : True ∧ (nameB x.2.2.1.1 = true) ∧ True ∧ (1 ≤ x.2.2.2.2.2) ∧ True ∧ True := by
      obtain ⟨a1, _, _, a2, _, _⟩ := pieces_zero k4
      exact ⟨trivial, a1, trivial, a2, trivial, trivial⟩
    have hown := act_own h.stk ha (by omega)
    have hper := ofM_perm hp x.2.2.1.1
    have hpm : (doP B x).2.2 = actM B.2.2 x := rfl
    rw [hpm] at hper hp
    have hmv : moreN x = 0 := by omega
    have hheld := heldOf_doP hf x.2.2.1.1
    rw [if_pos rfl] at hheld
    have hh2 : heldOf (doP B x) x.2.2.1.1 = heldOf B x.2.2.1.1 := by
      unfold heldOf fL
      rw [← q2]
    rw [hh2] at hheld
    obtain ⟨-, e2, -⟩ := h.lot_goods hf
    rw [e2] at hheld
    unfold moreN at hmv
    split at hmv
    · omega
    rename_i m1
    split at hmv
    · omega
    rename_i m2
    unfold isP at k3
    simp only [decide_eq_true_eq] at k3
    by_cases m3 : x.1 = kMove
    · have hact : actE B.2.2 x = moveE B.2.2 x.2.2.2.1 x.2.2.2.2.1 x.2.2.1.1 x.2.2.2.2.2 := by unfold actE; rw [if_neg m1, if_neg m2, if_pos m3]
      have hacm : actM B.2.2 x = moveM B.2.2 x.2.2.2.1 x.2.2.2.2.1 x.2.2.1.1 x.2.2.2.2.2 := by unfold actM; rw [if_neg m1, if_neg m2, if_pos m3]
      rw [hact] at ha
      obtain ⟨t1, _, t3, t4, t5⟩ := move_zero ha
      have hat := atM_perm h.stk hp (x.2.2.2.1, x.2.2.1.1)
      rw [hacm, t5, at_put t4, if_neg (fun e => t3 (congrArg Prod.fst e)), at_take t1, if_pos rfl] at hat
      obtain ⟨_, _, t6⟩ := takeE_zero t1
      omega
    · by_cases m4 : x.1 = kHold
      · have : heldN y.2 x = y.2 + x.2.2.2.2.2 := by unfold heldN; rw [if_pos m4]
        omega
      · by_cases m5 : x.1 = kFree
        · have : heldN y.2 x = y.2 - x.2.2.2.2.2 := by unfold heldN; rw [if_neg m4, if_pos m5]
          omega
        · rcases k3 with e | e | e | e | e | e | e
          · exact m1 (.inl e)
          · exact m1 (.inr e)
          · exact m2 (.inl e)
          · exact m2 (.inr e)
          · exact m3 e
          · exact m4 e
          · exact m5 e
end Go.Proofs.YtgllddebodfhkaaGreatDoor
namespace Go.Proofs.YtgllddebodfhkaaGreatDoor
open Go.RowKit Go.Sort Go.Proofs

theorem lots_len {B : BkV} (hI : BkI B) : ∀ x ∈ B.2.1, x.1.1.length ≤ 8 := fun x hx => by
  have h := (hI.lok x hx).1
  unfold lotE at h
  split at h
  · cases h
  · rename_i h2
    cases hn : nameB x.1.1 with
    | true => exact (nameB_len hn).2
    | false => exact absurd (by simp [hn]) h2
theorem filter_take_yes {α : Type} (p : α → Bool) (l : List α) (k : Nat) (h : k < l.length) (hp : p l[k] = true) : (l.take (k + 1)).filter p = (l.take k).filter p ++ [l[k]] := by
  rw [List.take_succ_eq_append_getElem h, List.filter_append, List.filter_cons_of_pos hp]
  rfl
theorem filter_take_no {α : Type} (p : α → Bool) (l : List α) (k : Nat) (h : k < l.length) (hp : p l[k] = false) : (l.take (k + 1)).filter p = (l.take k).filter p := by
  rw [List.take_succ_eq_append_getElem h, List.filter_append, List.filter_cons_of_neg (by simp [hp])]
  simp

set_option maxHeartbeats 1600000 in
set_option maxRecDepth 100000 in
theorem lotsBk_any {p : Nat} {F : List Nat} {B : BkV} {w : World} (H : BookIs w p F B) (hI : BkI B) (code : List UInt8) :
    Calls Tryz.prog 13 #[.pointer (some ⟨p, 0, none⟩), .string ⟨code.toArray⟩] w fun e w' => ∃ A cap, e = .returned (.slice A (lotsB B code).length cap) ∧ RowAt encLot 4 w' A (lotsB B code) ∧ (∀ a, A = some a → w.heap.size ≤ a.block) ∧ Below w.heap.size w w' := by
  obtain ⟨i0, hi, hz0, hz1, hz2⟩ := info_parts lotInfo
  obtain ⟨g, l, h, s, q, c, -, -, hm⟩ := H
  obtain ⟨⟨-, c1, -, -, -⟩, -⟩ := hm.cells
  have HC := Lib.hid (fun W (h : Below w.heap.size w W) => ((BookM.below hm h).cells).1.2.1)
  have HM := Lib.hid (fun W (h : Below w.heap.size w W) k => (hm.lots.below h).look (P := Tryz.prog) (t := 107) (kt := 9) (by kernel_rfl) Tryz.underlying107 (zeroLotE _) k false)
  obtain ⟨m, hM, hget⟩ := hm.lots
  obtain ⟨L, hL⟩ : ∃ L, L = B.2.1.map (·.1) := ⟨_, rfl⟩
  obtain ⟨ks, hks⟩ : ∃ ks, ks = B.2.1.map fun x : LoH => x.1.1 := ⟨_, rfl⟩
  have hl : ks.length = L.length := by rw [hks, hL]; simp
  have HG : Hid (∀ i (h : i < L.length) (h' : i < ks.length), lotsF B ks[i] = some L[i]) := fun i h h' => by
    have hi : i < B.2.1.length := by rw [hL] at h; simpa using h
    have e1 : ks[i] = B.2.1[i].1.1 := by simp [hks]
    have e2 : L[i] = B.2.1[i].1 := by simp [hL]
    rw [e1, e2]
    unfold lotsF
    rw [hI.fL_is (List.getElem_mem hi)]
    rfl
  have hp : (m.map (·.1)).Perm ks := by
    have := (lots_perm hI hM.nodup hget).map (·.1)
    rw [hks]
    rw [List.map_map] at this
    exact this
  have hsrt : ks.Pairwise fun x y => ltB x y = true := by rw [hks, List.pairwise_map]; exact hI.ls
  have hfew : ks.length ≤ 60 := by rw [hks, List.length_map]; exact hI.lfew
  have HK := Lib.hid (keysLots_any hM hp hsrt (fun k hk => by rw [hks] at hk; obtain ⟨x, hx, rfl⟩ := List.mem_map.1 hk; have := lots_len hI x hx; omega) (by omega))
  have HLO : Hid (lotsB B code = Stab.srt (ltOf cfLot) (L.filter fun x => decide (x.2.1 = code))) := by
    show _ = _
    rw [hL, List.filter_map]
    rfl
  obtain ⟨N, hN⟩ : ∃ N, N = ks.length := ⟨_, rfl⟩
  have HN := Lib.hid hN
  have HL : Hid (N = L.length) := hN.trans hl
  rw [← hN] at HK hfew
  have B0 := Lib.hid (below_one w (.cells #[.map (some l)] 107))
  have HFL := Lib.hid (fun k => by
    have h1 := List.length_filter_le (fun x : LotV => decide (x.2.1 = code)) (L.take k)
    have h2 : (L.take k).length ≤ L.length := List.length_take_le' _ _
    have h3 := HL.out
    exact (show ((L.take k).filter fun x => decide (x.2.1 = code)).length ≤ 60 by omega))
  generalize lotsB B code = LO at HLO ⊢
  clear hm hget hp hsrt hl hN hks hL hI hM
  go_enter Tryz.func13, Tryz.ntmps13
  go_wp2_with fail
  refine (mkLots_any _ _).mono ?_
  rintro e w1 ⟨rfl, rfl⟩
  clear c1
  go_wp2_with fail
  refine HK.out.mono ?_
  rintro e w2 ⟨A, cap, rfl, hst, b2⟩
  have B2 := Lib.hid (B0.out.trans (b2.mono B0.out.size))
  have HST := Lib.hid (fun W (h : Below w2.heap.size w2 W) => hst.below h)
  clear hst b2 HK B0
  go_wp2_with fail
  go_loopw [5, 15] (fun v i wr => ∃ k : Nat, k ≤ N ∧ i = .int .i64 k ∧ Hid (((L.take k).filter fun x => decide (x.2.1 = code)) = [] → v = .slice none 0 0) ∧ Hid (wr.ownsRow w2.heap.size 47 4 v ((L.take k).filter fun x => decide (x.2.1 = code)).length (flatL encLot ((L.take k).filter fun x => decide (x.2.1 = code)))) ∧ Hid (Below w2.heap.size w2 wr)) (fun _ i _ => N - (intOf i).toNat)
  case atStart => exact ⟨0, by omega, rfl, fun _ => rfl, World.ownsRow_nil _ _ _ _, Below.refl _ _⟩
  case round =>
    obtain ⟨k, hk, rfl, HZ, HOWN, HB⟩ := hrel
    by_cases hkN : k < N
    · have hkx : k < ks.length := by rw [← HN.out]; exact hkN
      have hkL : k < L.length := by rw [← HL.out]; exact hkN
      have hbw := B2.out.trans (HB.out.mono B2.out.size)
      obtain ⟨bk, o, rfl, lg, cg⟩ := HST.out wr HB.out |>.resolve_left (fun h => by rw [h] at hkx; simp at hkx)
      have ck := cg k hkx
      have hlook := HM.out wr hbw ks[k]
      have c1 := HC.out wr hbw
      rw [HG.out k hkL hkx] at hlook
      have HNY := Lib.hid (filter_take_yes (fun x : LotV => decide (x.2.1 = code)) L k hkL)
      have HNN := Lib.hid (filter_take_no (fun x : LotV => decide (x.2.1 = code)) L k hkL)
      obtain ⟨x, hx⟩ : ∃ x, x = L[k] := ⟨_, rfl⟩
      rw [← hx] at hlook HNY HNN
      have hfl := HFL.out k
      clear hx
      obtain ⟨x1, x2, x3, x4⟩ := x
      simp only [Option.getD_some, eLot, encLot, Bool.false_eq_true, if_false] at hlook
      have hfd : ∀ W : World, (Instr.field 47 (.agg #[.string ⟨x1.toArray⟩, .string ⟨x2.toArray⟩, .int .i64 x3, .int .i64 x4]) 1).run Tryz.prog W = .ok (.string ⟨x2.toArray⟩) W := fun _ => by kernel_rfl
      have hsz := HB.out.size
      generalize ks[k] = kk at ck hlook
      clear hbw cg
      by_cases hc : x2 = code
      · have hcb : (x2 == code) = true := by simpa using hc
        have HNX := Lib.hid (HNY.out (by simpa using hc))
        clear hc HNY HNN
        go_wp2_with (at_builtin; refine wpList_append_rows _ rfl (.tmp 28) (.tmp 35) 35 rfl w2.heap.size 47 i0 _ 48 Tryz.underlying35 hi hz0 hz1 hz2 rfl encLot_len (by decide) encLot_one u5 ((L.take k).filter fun x => decide (x.2.1 = code)).length (flatL encLot ((L.take k).filter fun x => decide (x.2.1 = code))) rfl (own_bl HOWN.out (below_one _ _)) (some ⟨wr.heap.size, 0, none⟩) 1 [(x1, x2, x3, x4)] rfl (row_one (heap_alloc_new _ _)) (by simp; omega) (by decide) (by simp; omega) ?_; intro v3 w3 HO3 hb3; have HB3 := Lib.hid hb3; clear hb3)
        go_roundw
        case rel =>
          refine ⟨k + 1, by omega, by go_num, ?_, ?_, (HB.out.trans ((below_one wr _).mono HB.out.size)).trans HB3.out⟩
          · show _ = _ → _
            rw [HNX.out]
            exact fun h => absurd h (by simp)
          · show World.ownsRow _ _ _ _ _ _ _
            rw [HNX.out, List.length_append, flatL_append]
            exact HO3.out
        case measure => simp [intOf]; omega
      · have hcb : (x2 == code) = false := by simpa using hc
        have HNX := Lib.hid (HNN.out (by simpa using hc))
        clear hc HNY HNN
        go_wp2_with fail
        go_roundw
        case rel =>
          refine ⟨k + 1, by omega, by go_num, ?_, ?_, HB.out⟩
          · show _ = _ → _
            rw [HNX.out]
            exact HZ.out
          · show World.ownsRow _ _ _ _ _ _ _
            rw [HNX.out]
            exact HOWN.out
        case measure => simp [intOf]; omega
    · obtain rfl : k = N := by omega
      have hT : L.take k = L := List.take_of_length_le (by rw [← HL.out]; exact Nat.le_refl _)
      have ho := HOWN.out
      have hz := HZ.out
      have hf := HFL.out k
      rw [hT] at ho hz hf
      generalize (L.filter fun x => decide (x.2.1 = code)) = X at ho hz hf HLO
      clear HFL HOWN HZ hT HST HG HM
      by_cases hX : X = []
      · have hv := hz hX
        subst hv
        have HE : Hid (LO = []) := HLO.out.trans (by rw [hX]; rfl)
        clear hX hz ho hf HLO
        go_wp2_with fail
        refine (sorted_none _).mono ?_
        rintro e w3 ⟨rfl, rfl⟩
        go_wp2_with fail
        go_ret
        rw [HE.out]
        exact ⟨none, 0, rfl, .inl rfl, (fun a ha => by cases ha), B2.out.trans (HB.out.mono B2.out.size)⟩
      · obtain ⟨A', c', rfl, hra, hge⟩ := RowAt.of_own encLot_len ho
        have HSO := Lib.hid (sorted_any A' c' X wr (by omega) hra hX)
        have HLN : Hid (LO.length = X.length) := by
          show _ = _
          rw [HLO.out, Stab.srt_length]
        clear hX hz ho hra hge hf
        go_wp2_with fail
        refine HSO.out.mono ?_
        rintro e w3 ⟨A3, c3, rfl, -, h2, h3, b3⟩
        have H2 := Lib.hid h2
        have H3 := Lib.hid h3
        have B3 := Lib.hid b3
        clear h2 h3 b3
        go_wp2_with fail
        go_ret
        rw [HLN.out]
        refine ⟨A3, c3, rfl, by rw [HLO.out]; exact H2.out, fun a ha => ?_, (B2.out.trans (HB.out.mono B2.out.size)).trans (B3.out.mono (Nat.le_trans B2.out.size HB.out.size))⟩
        have := H3.out a ha
        have := B2.out.size
        have := HB.out.size
        omega
end Go.Proofs.YtgllddebodfhkaaGreatDoor
namespace Go.Proofs.YtgllddebodfhkaaGreatDoor
open Go.RowKit Go.Sort Go.Proofs

def st1 : EntV := (kGoods, ([114, 121, 101], 6), zeroLot, zeroPlace, zeroPlace, 0)
def st2 : EntV := (kLot, zeroGoods, ([108, 49], [114, 121, 101], 9, 2), zeroPlace, zeroPlace, 0)
def st3 : EntV := (kIn, zeroGoods, ([108, 49], [], 0, 0), zeroPlace, ([97], 1, 1), 7)
def sB1 : BkV := doB bk0 st1
def sB2 : BkV := doB sB1 st2
def sB3 : BkV := doB sB2 st3
theorem st_e1 : doE bk0 st1 = 0 := by decide
theorem st_e2 : doE sB1 st2 = 0 := by decide
theorem st_e3 : doE sB2 st3 = 0 := by decide
theorem st_has : hasOf sB3 [114, 121, 101] = 7 := by decide
theorem st_sums : sumsOf sB3 [114, 121, 101] = (7, 0, 0, 0) := by decide

/-- Do, the book's blocks from a bound on. -/
theorem do_from (E : Nat → Addr) {n p : Nat} {B : BkV} (x : EntV) {w : World} (H : ∃ F, BookIs w p F B ∧ ∀ k ∈ F, n ≤ k) (hn : n ≤ w.heap.size) (hI : BkI B) (h1 : x.2.2.1.1.length ≤ 1000000000) (h2 : x.2.2.1.2.1.length ≤ 1000000000) (hG : BkG E w) :
    Calls Tryz.prog 16 #[.pointer (some ⟨p, 0, none⟩), .agg (encEnt x).toArray] w fun e w' => e = .returned (errOf E (doE B x)) ∧ (∃ F, BookIs w' p F (doB B x) ∧ ∀ k ∈ F, n ≤ k) ∧ Below n w w' := by
  obtain ⟨F, h, hF⟩ := H
  refine (do_any E x h hI h1 h2 hG).mono ?_
  rintro e w' ⟨he, ⟨F', h6, h7⟩, h8⟩
  exact ⟨he, ⟨F', h6, fun k hk => (h7 k hk).elim (hF k) (fun h => Nat.le_trans hn h)⟩, h8.below hn hF⟩

set_option maxHeartbeats 1600000 in
set_option maxRecDepth 100000 in
theorem started_any (E : Nat → Addr) (w : World) (hG : BkG E w) :
    Calls Tryz.prog 24 #[] w fun e w' => e = .returned (.bool true) ∧ Below w.heap.size w w' := by
  have HG := Lib.hid (fun W (h : Below w.heap.size w W) => hG.below h)
  have H1 : Hid (∀ p W, Below w.heap.size w W → (∃ F, BookIs W p F bk0 ∧ ∀ k ∈ F, w.heap.size ≤ k) → Calls Tryz.prog 16 #[.pointer (some ⟨p, 0, none⟩), .agg #[.string ⟨#[103, 111, 111, 100, 115]⟩, .string ⟨#[114, 121, 101]⟩, .int .i64 6, .string ⟨#[]⟩, .string ⟨#[]⟩, .int .i64 0, .int .i64 0, .string ⟨#[]⟩, .int .i64 0, .int .i64 0, .string ⟨#[]⟩, .int .i64 0, .int .i64 0, .int .i64 0]] W
      fun e w' => e = .returned (errOf E (doE bk0 st1)) ∧ (∃ F, BookIs w' p F sB1 ∧ ∀ k ∈ F, w.heap.size ≤ k) ∧ Below w.heap.size W w') :=
    fun p W hb H => do_from E st1 H hb.size BkI.nil (by decide) (by decide) (HG.out _ hb)
  have H2 : Hid (∀ p W, Below w.heap.size w W → (∃ F, BookIs W p F sB1 ∧ ∀ k ∈ F, w.heap.size ≤ k) → Calls Tryz.prog 16 #[.pointer (some ⟨p, 0, none⟩), .agg #[.string ⟨#[108, 111, 116]⟩, .string ⟨#[]⟩, .int .i64 0, .string ⟨#[108, 49]⟩, .string ⟨#[114, 121, 101]⟩, .int .i64 9, .int .i64 2, .string ⟨#[]⟩, .int .i64 0, .int .i64 0, .string ⟨#[]⟩, .int .i64 0, .int .i64 0, .int .i64 0]] W
      fun e w' => e = .returned (errOf E (doE sB1 st2)) ∧ (∃ F, BookIs w' p F sB2 ∧ ∀ k ∈ F, w.heap.size ≤ k) ∧ Below w.heap.size W w') :=
    fun p W hb H => do_from E st2 H hb.size (BkI.nil.do_ _) (by decide) (by decide) (HG.out _ hb)
  have H3 : Hid (∀ p W, Below w.heap.size w W → (∃ F, BookIs W p F sB2 ∧ ∀ k ∈ F, w.heap.size ≤ k) → Calls Tryz.prog 16 #[.pointer (some ⟨p, 0, none⟩), .agg #[.string ⟨#[105, 110]⟩, .string ⟨#[]⟩, .int .i64 0, .string ⟨#[108, 49]⟩, .string ⟨#[]⟩, .int .i64 0, .int .i64 0, .string ⟨#[]⟩, .int .i64 0, .int .i64 0, .string ⟨#[97]⟩, .int .i64 1, .int .i64 1, .int .i64 7]] W
      fun e w' => e = .returned (errOf E (doE sB2 st3)) ∧ (∃ F, BookIs w' p F sB3 ∧ ∀ k ∈ F, w.heap.size ≤ k) ∧ Below w.heap.size W w') :=
    fun p W hb H => do_from E st3 H hb.size ((BkI.nil.do_ _).do_ _) (by decide) (by decide) (HG.out _ hb)
  have HI := Lib.hid (show BkI sB3 from ((BkI.nil.do_ _).do_ _).do_ _)
  have H4 : Hid (∀ p W, (∃ F, BookIs W p F sB3 ∧ ∀ k ∈ F, w.heap.size ≤ k) → Calls Tryz.prog 20 #[.pointer (some ⟨p, 0, none⟩), .string ⟨#[114, 121, 101]⟩] W fun e w' => e = .returned (.int .i64 7) ∧ Below W.heap.size W w') := fun p W ⟨F, h, _⟩ => by
    have := hasBk_any h HI.out [114, 121, 101] (by rw [st_has]; decide)
    rw [st_has] at this
    exact this
  have H5 : Hid (∀ p W, (∃ F, BookIs W p F sB3 ∧ ∀ k ∈ F, w.heap.size ≤ k) → Calls Tryz.prog 28 #[.pointer (some ⟨p, 0, none⟩), .string ⟨#[114, 121, 101]⟩] W fun e w' => e = .returned (.agg #[.int .i64 7, .int .i64 0, .int .i64 0, .int .i64 0]) ∧ Below W.heap.size W w') := fun p W ⟨F, h, _⟩ => by
    have := sumsBk_any h [114, 121, 101]
    rw [st_sums] at this
    exact this
  have hq : ∀ W, (binOp .eql 60 (.agg #[.int .i64 7, .int .i64 0, .int .i64 0, .int .i64 0]) (.agg #[.int .i64 7, .int .i64 0, .int .i64 0, .int .i64 0])).run Tryz.prog W = .ok (.bool true) W := fun W => eqSums (7, 0, 0, 0) (7, 0, 0, 0) W
  rw [st_e1] at H1
  rw [st_e2] at H2
  rw [st_e3] at H3
  simp only [errOf_zero] at H1 H2 H3
  clear hG
  go_enter Tryz.func24, Tryz.ntmps24
  go_wp2_with fail
  refine (newBook_any w).mono ?_
  rintro e w1 ⟨p, F, rfl, hb, hF, b1⟩
  have HB1 : Hid (∃ F, BookIs w1 p F bk0 ∧ ∀ k ∈ F, w.heap.size ≤ k) := ⟨F, hb, hF⟩
  have B1 := Lib.hid b1
  clear hb hF b1
  go_wp2_with fail
  refine (H1.out p w1 B1.out HB1.out).mono ?_
  rintro e w2 ⟨rfl, hb2, b2⟩
  have HB2 := Lib.hid hb2
  have B2 := Lib.hid (B1.out.trans b2)
  clear hb2 b2
  go_wp2_with fail
  refine (H2.out p w2 B2.out HB2.out).mono ?_
  rintro e w3 ⟨rfl, hb3, b3⟩
  have HB3 := Lib.hid hb3
  have B3 := Lib.hid (B2.out.trans b3)
  clear hb3 b3
  go_wp2_with fail
  refine (H3.out p w3 B3.out HB3.out).mono ?_
  rintro e w4 ⟨rfl, hb4, b4⟩
  have HB4 := Lib.hid hb4
  have B4 := Lib.hid (B3.out.trans b4)
  clear hb4 b4
  go_wp2_with fail
  refine (H4.out p w4 HB4.out).mono ?_
  rintro e w5 ⟨rfl, b5⟩
  have HB5 : Hid (∃ F, BookIs w5 p F sB3 ∧ ∀ k ∈ F, w.heap.size ≤ k) := by
    obtain ⟨F, h, hF⟩ := HB4.out
    exact ⟨F, h.below b5, hF⟩
  have B5 := Lib.hid (B4.out.trans (b5.mono B4.out.size))
  clear b5
  go_wp2_with fail
  refine (H5.out p w5 HB5.out).mono ?_
  rintro e w6 ⟨rfl, b6⟩
  have B6 := Lib.hid (B5.out.trans (b6.mono B5.out.size))
  clear b6
  go_wp2_with fail
  go_ret
  exact ⟨rfl, B6.out⟩
end Go.Proofs.YtgllddebodfhkaaGreatDoor
namespace Go.Proofs.YtgllddebodfhkaaGreatDoor
open Go.RowKit Go.Sort Go.Proofs

/-- What the law leans on. -/
structure BkTxG (E : Nat → Addr) (w : World) : Prop where
  bk : BkG E w
  tab : TabG w
theorem BkTxG.below {E : Nat → Addr} {w w' : World} (h : BkTxG E w) (hb : Below w.heap.size w w') : BkTxG E w' := ⟨h.bk.below hb, h.tab.below hb⟩
theorem BkTxG.text {E : Nat → Addr} {w : World} (h : BkTxG E w) : PlaceG E w := ⟨h.bk.stk.place.name, h.bk.stk.place.bound, h.tab⟩
end Go.Proofs.YtgllddebodfhkaaGreatDoor
