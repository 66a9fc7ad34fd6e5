/- The book, plainly: what entries keep. No program in sight. The book in memory: five maps of it, by what they answer. -/
import Derived.Test.YteaalifehokgoaaGreatDoorM17
namespace Go.Proofs.YteaalifehokgoaaGreatDoor
open Go.RowKit Go.Sort Go.Proofs
theorem BkI.nil : BkI bk0 := ⟨List.Pairwise.nil, by simp [bk0], by simp [bk0], List.Pairwise.nil, by simp [bk0], by simp [bk0], StkI.nil, by simp [bk0], by simp [bk0]⟩
theorem fG_mem {B : BkV} {c : List UInt8} {x : GoS} (h : fG B c = some x) : x ∈ B.1 ∧ x.1.1 = c := find_mem (fun y : GoS => y.1.1) h
theorem fL_mem {B : BkV} {c : List UInt8} {x : LoH} (h : fL B c = some x) : x ∈ B.2.1 ∧ x.1.1 = c := find_mem (fun y : LoH => y.1.1) h
theorem fG_none {B : BkV} {c : List UInt8} (h : fG B c = none) : ∀ y ∈ B.1, y.1.1 ≠ c := find_none (fun y : GoS => y.1.1) h
theorem fL_none {B : BkV} {c : List UInt8} (h : fL B c = none) : ∀ y ∈ B.2.1, y.1.1 ≠ c := find_none (fun y : LoH => y.1.1) h
theorem BkI.fG_is {B : BkV} (h : BkI B) {x : GoS} (hx : x ∈ B.1) : fG B x.1.1 = some x := find_is (fun y : GoS => y.1.1) h.gs hx
theorem BkI.fL_is {B : BkV} (h : BkI B) {x : LoH} (hx : x ∈ B.2.1) : fL B x.1.1 = some x := find_is (fun y : LoH => y.1.1) h.ls hx
theorem isSome_none {α : Type} {o : Option α} (h : ¬ o.isSome = true) : o = none := by
 cases o with
 |none => rfl
 |some a => simp at h
theorem ofM_zero {m : StkV} {id : List UInt8} (h : ∀ z ∈ m, z.1.2 ≠ id) : ofM m id = 0 := by
 induction m with
 |nil => rfl
 |cons x r ih =>
  rw [ofM_cons, if_neg (h x List.mem_cons_self), ih fun z hz => h z (List.mem_cons_of_mem _ hz)]
theorem mem_mput {κ ν : Type} [DecidableEq κ] {m : List (κ × ν)} {k : κ} {v : ν} {z : κ × ν} (h : z ∈ mput m k v) : z = (k, v) ∨ z ∈ m := by
 induction m with
 |nil => exact .inl (by simpa [mput] using h)
 |cons p r ih =>
  unfold mput at h
  split at h
  ·rcases List.mem_cons.1 h with h | h
   ·exact .inl h
   ·exact .inr (List.mem_cons_of_mem _ h)
  ·rcases List.mem_cons.1 h with h | h
   ·exact .inr (h ▸ List.mem_cons_self)
   ·rcases ih h with h | h
    ·exact .inl h
    ·exact .inr (List.mem_cons_of_mem _ h)
theorem lot_put {m : StkV} {p : PlaceV} {l : List UInt8} {n : Int} {z : KeyV × Nat} (h : z ∈ putM m p l n) : z.1.2 = l ∨ ∃ y ∈ m, y.1.2 = z.1.2 := by
 unfold putM at h
 split at h
 ·rcases mem_mput h with rfl | h
  ·exact .inl rfl
  ·exact .inr ⟨z, h, rfl⟩
 ·exact .inr ⟨z, h, rfl⟩
theorem lot_take {m : StkV} {p : PlaceV} {l : List UInt8} {n : Int} {z : KeyV × Nat} (h : z ∈ takeM m p l n) : z.1.2 = l ∨ ∃ y ∈ m, y.1.2 = z.1.2 := by
 unfold takeM at h
 split at h
 ·split at h
  ·have h := (List.mem_filter.1 h).1
   rcases mem_mput h with rfl | h
   ·exact .inl rfl
   ·exact .inr ⟨z, h, rfl⟩
  ·rcases mem_mput h with rfl | h
   ·exact .inl rfl
   ·exact .inr ⟨z, h, rfl⟩
 ·exact .inr ⟨z, h, rfl⟩
theorem lot_move {m : StkV} {p q : PlaceV} {l : List UInt8} {n : Int} {z : KeyV × Nat} (h : z ∈ moveM m p q l n) : z.1.2 = l ∨ ∃ y ∈ m, y.1.2 = z.1.2 := by
 unfold moveM at h
 split at h
 ·rcases lot_put h with h | ⟨y, hy, h⟩
  ·exact .inl h
  ·rcases lot_take hy with h2 | ⟨u, hu, h2⟩
   ·exact .inl (h.symm.trans h2)
   ·exact .inr ⟨u, hu, h2.trans h⟩
 ·exact .inr ⟨z, h, rfl⟩
theorem lot_act {m : StkV} {x : EntV} {z : KeyV × Nat} (h : z ∈ actM m x) : z.1.2 = x.2.2.1.1 ∨ ∃ y ∈ m, y.1.2 = z.1.2 := by
 unfold actM at h
 split at h
 ·exact lot_put h
 split at h
 ·exact lot_take h
 split at h
 ·exact lot_move h
 ·exact .inr ⟨z, h, rfl⟩
theorem StkI.act {m : StkV} (h : StkI m) (x : EntV) : StkI (actM m x) := by
 unfold actM
 split
 ·exact h.put _ _ _
 split
 ·exact h.take _ _ _
 split
 ·exact h.move _ _ _ _
 ·exact h
theorem of_put_other {m : StkV} {p : PlaceV} {l l2 : List UInt8} {n : Int} (hne : l2 ≠ l) : ofM (putM m p l n) l2 = ofM m l2 := by
 unfold putM
 split
 ·exact ofM_put_other _ _ _ _ _ hne
 ·rfl
theorem ofM_del_other (m : StkV) (p : PlaceV) (l l2 : List UInt8) (hne : l2 ≠ l) : ofM (mdel m (p, l)) l2 = ofM m l2 := by
 unfold mdel
 induction m with
 |nil => rfl
 |cons x r ih =>
  by_cases h : x.1 ≠ (p, l)
  ·rw [List.filter_cons_of_pos (by simpa using h), ofM_cons, ofM_cons, ih]
  ·simp only [ne_eq, Classical.not_not] at h
   rw [List.filter_cons_of_neg (by simp [h]), ofM_cons, ih, if_neg (by rw [h]; exact Ne.symm hne), Nat.zero_add]
theorem of_take_other {m : StkV} {p : PlaceV} {l l2 : List UInt8} {n : Int} (hne : l2 ≠ l) : ofM (takeM m p l n) l2 = ofM m l2 := by
 unfold takeM
 split
 ·split
  ·rw [ofM_del_other _ _ _ _ hne, ofM_put_other _ _ _ _ _ hne]
  ·exact ofM_put_other _ _ _ _ _ hne
 ·rfl
theorem of_move_other {m : StkV} {p q : PlaceV} {l l2 : List UInt8} {n : Int} (hne : l2 ≠ l) : ofM (moveM m p q l n) l2 = ofM m l2 := by
 unfold moveM
 split
 ·rw [of_put_other hne, of_take_other hne]
 ·rfl
theorem of_move {m : StkV} (hI : StkI m) {p q : PlaceV} {l : List UInt8} {n : Int} (h : moveE m p q l n = 0) : ofM (moveM m p q l n) l = ofM m l := by
 obtain ⟨h1, _, _, h4, h5⟩ := move_zero h
 rw [h5, of_put h4, of_take hI h1]
theorem act_other {m : StkV} {x : EntV} {id : List UInt8} (hne : id ≠ x.2.2.1.1) : ofM (actM m x) id = ofM m id := by
 unfold actM
 split
 ·exact of_put_other hne
 split
 ·exact of_take_other hne
 split
 ·exact of_move_other hne
 ·rfl
def moreN (x : EntV) : Int := if x.1 = kIn ∨ x.1 = kMore then x.2.2.2.2.2 else if x.1 = kOut ∨ x.1 = kLess then - x.2.2.2.2.2 else 0
theorem act_own {m : StkV} (hI : StkI m) {x : EntV} (h : actE m x = 0) (hn : 0 ≤ x.2.2.2.2.2) : (ofM (actM m x) x.2.2.1.1 : Int) = ofM m x.2.2.1.1 + moreN x := by
 unfold actE at h
 unfold actM moreN
 split at h
 ·rename_i h1
  rw [if_pos h1, if_pos h1, of_put h]
  omega
 rename_i h1
 rw [if_neg h1, if_neg h1]
 split at h
 ·rename_i h2
  rw [if_pos h2, if_pos h2]
  have := of_take hI h
  omega
 rename_i h2
 rw [if_neg h2, if_neg h2]
 split at h
 ·rename_i h3
  rw [if_pos h3, of_move hI h]
  omega
 ·rename_i h3
  rw [if_neg h3]
  omega
theorem summ_more (s : SumsV) (x : EntV) : (summ s x).1 - (summ s x).2.1 + (summ s x).2.2.1 - (summ s x).2.2.2 = s.1 - s.2.1 + s.2.2.1 - s.2.2.2 + moreN x := by
 unfold summ moreN
 by_cases h1 : x.1 = kIn
 ·rw [if_pos h1, if_pos (.inl h1)]; simp only; omega
 rw [if_neg h1]
 by_cases h2 : x.1 = kOut
 ·rw [if_pos h2, if_neg (by rw [h2]; decide), if_pos (.inl h2)]; simp only; omega
 rw [if_neg h2]
 by_cases h3 : x.1 = kMore
 ·rw [if_pos h3, if_pos (.inr h3)]; simp only; omega
 rw [if_neg h3, if_neg (show ¬ (x.1 = kIn ∨ x.1 = kMore) from fun h => by rcases h with h | h; exact h1 h; exact h3 h)]
 by_cases h4 : x.1 = kLess
 ·rw [if_pos h4, if_pos (.inr h4)]; simp only; omega
 rw [if_neg h4, if_neg (show ¬ (x.1 = kOut ∨ x.1 = kLess) from fun h => by rcases h with h | h; exact h2 h; exact h4 h)]
 omega
theorem summ_ok {s : SumsV} {x : EntV} (h : OkS s) (hn : 0 ≤ x.2.2.2.2.2) (ho : ¬ overS (summ s x) = true) : OkS (summ s x) := by
 have hm : mostS = 65970697666560 := rfl
 unfold overS at ho
 simp only [Bool.or_eq_true, decide_eq_true_eq, not_or] at ho
 obtain ⟨⟨⟨o1, o2⟩, o3⟩, o4⟩ := ho
 obtain ⟨a1, a2, b1, b2, c1, c2, d1, d2⟩ := h
 have hp : 0 ≤ (summ s x).1 ∧ 0 ≤ (summ s x).2.1 ∧ 0 ≤ (summ s x).2.2.1 ∧ 0 ≤ (summ s x).2.2.2 := by
  unfold summ
  split
  ·exact ⟨by simp only; omega, b1, c1, d1⟩
  split
  ·exact ⟨a1, by simp only; omega, c1, d1⟩
  split
  ·exact ⟨a1, b1, by simp only; omega, d1⟩
  split
  ·exact ⟨a1, b1, c1, by simp only; omega⟩
  ·exact ⟨a1, b1, c1, d1⟩
 exact ⟨hp.1, by omega, hp.2.1, by omega, hp.2.2.1, by omega, hp.2.2.2, by omega⟩
theorem hasL_map (f : LoH → LoH) (hf : ∀ y, (f y).1 = y.1) (g : List UInt8 → Nat) (c : List UInt8) (l : List LoH) : (((l.map f).filter fun x => decide (x.1.2.1 = c)).map fun x => g x.1.1).sum = ((l.filter fun x => decide (x.1.2.1 = c)).map fun x => g x.1.1).sum := by
 induction l with
 |nil => rfl
 |cons y r ih =>
  by_cases h : y.1.2.1 = c
  ·rw [List.map_cons, List.filter_cons_of_pos (by rw [hf]; simpa using h), List.filter_cons_of_pos (by simpa using h), List.map_cons, List.map_cons, List.sum_cons, List.sum_cons, ih, hf]
  ·rw [List.map_cons, List.filter_cons_of_neg (by rw [hf]; simpa using h), List.filter_cons_of_neg (by simpa using h), ih]
theorem hasL_other (g g' : List UInt8 → Nat) (c id : List UInt8) (l : List LoH) (hg : ∀ i, i ≠ id → g' i = g i) (hn : ∀ y ∈ l, y.1.1 = id → y.1.2.1 ≠ c) :
  ((l.filter fun x => decide (x.1.2.1 = c)).map fun x => g' x.1.1).sum = ((l.filter fun x => decide (x.1.2.1 = c)).map fun x => g x.1.1).sum := by
 induction l with
 |nil => rfl
 |cons y r ih =>
  have ih' := ih fun z hz => hn z (List.mem_cons_of_mem _ hz)
  by_cases h : y.1.2.1 = c
  ·rw [List.filter_cons_of_pos (by simpa using h), List.map_cons, List.map_cons, List.sum_cons, List.sum_cons, ih', hg _ fun e => hn y List.mem_cons_self e h]
  ·rw [List.filter_cons_of_neg (by simpa using h), ih']
theorem hasL_own (g g' : List UInt8 → Nat) (d : Int) (c id : List UInt8) (l : List LoH) (hs : l.Pairwise fun x y => ltB x.1.1 y.1.1 = true) (hg : ∀ i, i ≠ id → g' i = g i) (hd : (g' id : Int) = g id + d) {y : LoH} (hy : y ∈ l) (hi : y.1.1 = id) (hc : y.1.2.1 = c) :
  ((((l.filter fun x => decide (x.1.2.1 = c)).map fun x => g' x.1.1).sum : Nat) : Int) = (((l.filter fun x => decide (x.1.2.1 = c)).map fun x => g x.1.1).sum : Nat) + d := by
 induction l with
 |nil => simp at hy
 |cons z r ih =>
  have hs' := List.pairwise_cons.1 hs
  rcases List.mem_cons.1 hy with rfl | hy
  ·have ho : ∀ u ∈ r, u.1.1 = id → u.1.2.1 ≠ c := fun u hu e => absurd (hi.trans e.symm) (ltB_ne (hs'.1 u hu))
   rw [List.filter_cons_of_pos (by simpa using hc), List.map_cons, List.map_cons, List.sum_cons, List.sum_cons, hasL_other g g' c id r hg ho, hi]
   omega
  ·have ih' := ih hs'.2 hy
   have hzi : z.1.1 ≠ id := fun e => absurd (e.trans hi.symm) (ltB_ne (hs'.1 y hy))
   by_cases h : z.1.2.1 = c
   ·rw [List.filter_cons_of_pos (by simpa using h), List.map_cons, List.map_cons, List.sum_cons, List.sum_cons, hg _ hzi]
    omega
   ·rw [List.filter_cons_of_neg (by simpa using h)]
    exact ih'
theorem hasL_perm (g : List UInt8 → Nat) (c : List UInt8) {l l' : List LoH} (h : l.Perm l') : ((l.filter fun x => decide (x.1.2.1 = c)).map fun x => g x.1.1).sum = ((l'.filter fun x => decide (x.1.2.1 = c)).map fun x => g x.1.1).sum :=
 ((h.filter _).map _).sum_nat
theorem pc_zero {B : BkV} {x : EntV} (h : pcE B x = 0) : ∃ y, fL B x.2.2.1.1 = some y ∧ actE B.2.2 x = 0 ∧ 0 ≤ heldN y.2 x ∧ heldN y.2 x ≤ (ofM (actM B.2.2 x) x.2.2.1.1 : Int) ∧ ¬ overS (summ (sumsOf B y.1.2.1) x) = true := by
 unfold pcE at h
 cases hf : fL B x.2.2.1.1 with
 |none => rw [hf] at h; cases h
 |some y =>
  rw [hf] at h
  simp only at h
  split at h
  ·rename_i h1; exact absurd h h1
  rename_i h1
  split at h
  ·cases h
  rename_i h2
  split at h
  ·cases h
  rename_i h3
  exact ⟨y, rfl, by omega, by omega, by omega, h3⟩
theorem setG_fst (c : List UInt8) (s : SumsV) (y : GoS) : (if y.1.1 = c then (y.1, s) else y).1 = y.1 := by split <;> rfl
theorem setLo_fst (id : List UInt8) (h : Nat) (y : LoH) : (if y.1.1 = id then (y.1, h) else y).1 = y.1 := by split <;> rfl
theorem ent_kinds {x : EntV} (h : entE x = 0) : (x.1 = kGoods ∧ goodsE x.2.1 = 0) ∨ (x.1 = kLot ∧ lotE x.2.2.1 = 0) ∨ (x.1 ≠ kGoods ∧ x.1 ≠ kLot ∧ isP x.1 = true ∧ piecesE x = 0) := by
 unfold entE at h
 split at h
 ·rename_i h1
  split at h
  ·rename_i h2; exact absurd h h2
  ·rename_i h2; exact .inl ⟨h1, by omega⟩
 rename_i h1
 split at h
 ·rename_i h3
  split at h
  ·rename_i h2; exact absurd h h2
  ·rename_i h2; exact .inr (.inl ⟨h3, by omega⟩)
 rename_i h3
 split at h
 ·rename_i h4; exact .inr (.inr ⟨h1, h3, h4, h⟩)
 ·cases h
theorem BkI.pieces {B : BkV} (h : BkI B) {x : EntV} (hn : 0 ≤ x.2.2.2.2.2) (hp : pcE B x = 0) : BkI (doP B x) := by
 obtain ⟨y, hf, ha, h0, h1, ho⟩ := pc_zero hp
 obtain ⟨hy, hi⟩ := fL_mem hf
 have hcode : codeLo B x.2.2.1.1 = y.1.2.1 := by unfold codeLo; rw [hf]
 have hheld : heldOf B x.2.2.1.1 = y.2 := by unfold heldOf; rw [hf]
 obtain ⟨-, -, hgs⟩ := h.lok y hy
 obtain ⟨g, hg⟩ := Option.isSome_iff_exists.1 hgs
 obtain ⟨hgm, hgc⟩ := fG_mem hg
 have hsums : sumsOf B y.1.2.1 = g.2 := by unfold sumsOf; rw [hg]
 have e1 : (doP B x).1 = B.1.map fun z => if z.1.1 = y.1.2.1 then (z.1, summ g.2 x) else z := by
  unfold doP setG; rw [hcode, hsums]
 have e2 : (doP B x).2.1 = B.2.1.map fun z => if z.1.1 = x.2.2.1.1 then (z.1, (heldN y.2 x).toNat) else z := by
  unfold doP setLo; rw [hheld]
 have e3 : (doP B x).2.2 = actM B.2.2 x := rfl
 have hG : ∀ c, fG (doP B x) c = (fG B c).map fun z => if z.1.1 = y.1.2.1 then (z.1, summ g.2 x) else z := fun c => by
  unfold fG
  rw [e1]
  exact find_map (fun z : GoS => z.1.1) (fun z => by rw [setG_fst]) c
 have hL : ∀ c, fL (doP B x) c = (fL B c).map fun z => if z.1.1 = x.2.2.1.1 then (z.1, (heldN y.2 x).toNat) else z := fun c => by
  unfold fL
  rw [e2]
  exact find_map (fun z : LoH => z.1.1) (fun z => by rw [setLo_fst]) c
 have hown := act_own h.stk ha hn
 refine ⟨?_, ?_, ?_, ?_, ?_, ?_, ?_, ?_, ?_⟩
 ·rw [e1]
  exact sorted_map (fun z : GoS => z.1.1) (fun z => by rw [setG_fst]) h.gs
 ·rw [e1]
  intro z hz
  obtain ⟨u, hu, rfl⟩ := List.mem_map.1 hz
  obtain ⟨k1, k2⟩ := h.gok u hu
  split
  ·refine ⟨k1, ?_⟩
   rw [hsums] at ho
   exact summ_ok (h.gok g hgm).2 hn ho
  ·exact ⟨k1, k2⟩
 ·rw [e1, List.length_map]; exact h.gfew
 ·rw [e2]
  exact sorted_map (fun z : LoH => z.1.1) (fun z => by rw [setLo_fst]) h.ls
 ·rw [e2]
  intro z hz
  obtain ⟨u, hu, rfl⟩ := List.mem_map.1 hz
  obtain ⟨k1, k2, k3⟩ := h.lok u hu
  rw [setLo_fst, hG, e3, Option.isSome_map]
  refine ⟨k1, ?_, k3⟩
  split
  ·rename_i hu2
   show (heldN y.2 x).toNat ≤ _
   rw [hu2]
   omega
  ·rename_i hu2
   rw [act_other hu2]
   exact k2
 ·rw [e2, List.length_map]; exact h.lfew
 ·rw [e3]; exact h.stk.act x
 ·rw [e3]
  intro z hz
  rw [hL, Option.isSome_map]
  rcases lot_act hz with h2 | ⟨u, hu, h2⟩
  ·rw [h2, hf]; rfl
  ·rw [← h2]; exact h.known u hu
 ·rw [e1]
  intro z hz
  obtain ⟨u, hu, rfl⟩ := List.mem_map.1 hz
  have hpac := h.pac u hu
  have hhas : ∀ c, hasOf (doP B x) c = ((B.2.1.filter fun x => decide (x.1.2.1 = c)).map fun z => ofM (actM B.2.2 x) z.1.1).sum := fun c => by
   unfold hasOf
   rw [e2, e3]
   exact hasL_map _ (fun z => setLo_fst _ _ z) (fun i => ofM (actM B.2.2 x) i) c B.2.1
  rw [setG_fst, hhas]
  by_cases hc : u.1.1 = y.1.2.1
  ·rw [if_pos hc]
   have hug : u = g := by
    have := h.fG_is hu
    rw [hc, hg] at this
    exact (Option.some.inj this).symm
   subst hug
   rw [hasL_own (fun i => ofM B.2.2 i) (fun i => ofM (actM B.2.2 x) i) (moreN x) u.1.1 x.2.2.1.1 B.2.1 h.ls (fun i hi => act_other hi) hown hy hi hc.symm, summ_more, ← hpac]
   rfl
  ·rw [if_neg hc, ← hpac]
   refine congrArg Nat.cast (hasL_other (fun i => ofM B.2.2 i) (fun i => ofM (actM B.2.2 x) i) u.1.1 x.2.2.1.1 B.2.1 (fun i hi => act_other hi) fun z hz hzi e => hc ?_)
   have h1 := h.fL_is hz
   rw [hzi, hf] at h1
   rw [← e, ← Option.some.inj h1]
theorem BkI.do_ {B : BkV} (h : BkI B) (x : EntV) : BkI (doB B x) := by
 unfold doB
 by_cases he : doE B x ≠ 0
 ·rw [if_pos he]; exact h
 rw [if_neg he]
 simp only [ne_eq, Classical.not_not] at he
 unfold doE at he
 split at he
 ·rename_i h1; exact absurd he h1
 rename_i h1
 simp only [ne_eq, Classical.not_not] at h1
 rcases ent_kinds h1 with ⟨hk, hok⟩ | ⟨hk, hok⟩ | ⟨hk1, hk2, hk3, hok⟩
 ·rw [if_pos hk] at he ⊢
  split at he
  ·cases he
  rename_i hn
  split at he
  ·cases he
  rename_i hl
  have hno := fG_none (isSome_none hn)
  have hG : ∀ c, fG (insG (x.2.1, zeroSums) B.1, B.2.1, B.2.2) c = if x.2.1.1 = c then some (x.2.1, zeroSums) else fG B c := fun c => find_insK (fun y : GoS => y.1.1) (x.2.1, zeroSums) h.gs hno c
  have hpm := insK_perm (fun y : GoS => y.1.1) (x.2.1, zeroSums) B.1
  refine ⟨insK_sorted (fun y : GoS => y.1.1) _ h.gs hno, ?_, ?_, h.ls, ?_, h.lfew, h.stk, h.known, ?_⟩
  ·intro z hz
   rcases List.mem_cons.1 (hpm.mem_iff.1 hz) with rfl | hz
   ·exact ⟨hok, (show OkS zeroSums by unfold OkS zeroSums mostS; decide)⟩
   ·exact h.gok z hz
  ·show (insK _ _ _).length ≤ 30
   rw [hpm.length_eq, List.length_cons]
   omega
  ·intro z hz
   obtain ⟨k1, k2, k3⟩ := h.lok z hz
   refine ⟨k1, k2, ?_⟩
   rw [hG]
   split
   ·rfl
   ·exact k3
  ·intro z hz
   rcases List.mem_cons.1 (hpm.mem_iff.1 hz) with rfl | hz
   ·have : hasOf (insG (x.2.1, zeroSums) B.1, B.2.1, B.2.2) x.2.1.1 = 0 := by
     unfold hasOf
     rw [List.filter_eq_nil_iff.2 fun u hu => ?_]
     ·rfl
     ·have k3 := (h.lok u hu).2.2
      obtain ⟨v, hv⟩ := Option.isSome_iff_exists.1 k3
      obtain ⟨v1, v2⟩ := fG_mem hv
      simpa using fun e : u.1.2.1 = x.2.1.1 => hno v v1 (v2.trans e)
    rw [show (((x.2.1, zeroSums) : GoS).1.1) = x.2.1.1 from rfl, this]
    rfl
   ·exact h.pac z hz
 ·have hk' : ¬ x.1 = kGoods := by rw [hk]; decide
  rw [if_neg hk', if_pos hk] at he ⊢
  split at he
  ·cases he
  rename_i hn
  split at he
  ·cases he
  rename_i hc
  split at he
  ·cases he
  rename_i hl
  have hno := fL_none (isSome_none hn)
  have hL : ∀ c, fL (B.1, insLo (x.2.2.1, 0) B.2.1, B.2.2) c = if x.2.2.1.1 = c then some (x.2.2.1, 0) else fL B c := fun c => find_insK (fun y : LoH => y.1.1) (x.2.2.1, 0) h.ls hno c
  have hpm := insK_perm (fun y : LoH => y.1.1) (x.2.2.1, 0) B.2.1
  refine ⟨h.gs, h.gok, h.gfew, insK_sorted (fun y : LoH => y.1.1) _ h.ls hno, ?_, ?_, h.stk, ?_, ?_⟩
  ·intro z hz
   rcases List.mem_cons.1 (hpm.mem_iff.1 hz) with rfl | hz
   ·exact ⟨hok, Nat.zero_le _, (show (fG B x.2.2.1.2.1).isSome = true from eq_true_of_ne_false hc)⟩
   ·exact h.lok z hz
  ·show (insK _ _ _).length ≤ 60
   rw [hpm.length_eq, List.length_cons]
   omega
  ·intro z hz
   rw [hL]
   split
   ·rfl
   ·exact h.known z hz
  ·intro z hz
   have hz0 : ofM B.2.2 x.2.2.1.1 = 0 := ofM_zero fun u hu e => by
    obtain ⟨v, hv⟩ := Option.isSome_iff_exists.1 (h.known u hu)
    obtain ⟨v1, v2⟩ := fL_mem hv
    exact hno v v1 (v2.trans e)
   rw [← h.pac z hz]
   refine congrArg Nat.cast ?_
   show ((((insK (fun y : LoH => y.1.1) (x.2.2.1, 0) B.2.1).filter fun u => decide (u.1.2.1 = z.1.1)).map fun u => ofM B.2.2 u.1.1).sum) = _
   rw [hasL_perm (fun i => ofM B.2.2 i) z.1.1 hpm]
   by_cases hcz : x.2.2.1.2.1 = z.1.1
   ·rw [List.filter_cons_of_pos (by simpa using hcz), List.map_cons, List.sum_cons]
    simp only
    rw [hz0, Nat.zero_add]
    rfl
   ·rw [List.filter_cons_of_neg (by simpa using hcz)]
    rfl
 ·rw [if_neg hk1, if_neg hk2] at he ⊢
  obtain ⟨-, -, -, hn, -, -⟩ := pieces_zero hok
  exact h.pieces (by omega) he
theorem BkI.all {B : BkV} (h : BkI B) (l : List EntV) : BkI (doAll B l) := by
 unfold doAll
 induction l generalizing B with
 |nil => exact h
 |cons x r ih => exact ih (h.do_ x)
end Go.Proofs.YteaalifehokgoaaGreatDoor
namespace Go.Proofs.YteaalifehokgoaaGreatDoor
open Go.RowKit Go.Sort Go.Proofs Go.MapKept
section
variable {κ ν : Type} [DecidableEq κ]
theorem perm_mget {m L : List (κ × ν)} (hn : (m.map (·.1)).Nodup) (hL : (L.map (·.1)).Nodup) (h : ∀ k, mget m k = mget L k) : m.Perm L :=
 (List.perm_ext_iff_of_nodup (nodup_of_keys hn) (nodup_of_keys hL)).2 fun ⟨k, v⟩ => by rw [mem_mget hn, mem_mget hL, h]
theorem mget_find {α : Type} (key : α → κ) (val : α → ν) : ∀ (l : List α) (k : κ), mget (l.map fun x => (key x, val x)) k = (l.find? fun x => decide (key x = k)).map val
 |[], _ => rfl
 |x :: r, k => by
  rw [List.map_cons, List.find?_cons]
  unfold mget
  by_cases h : key x = k
  ·rw [if_pos h, decide_eq_true h]; rfl
  ·rw [if_neg h, decide_eq_false h]; exact mget_find key val r k
end
def MapF {ν : Type} (eV : ν → Value) (w : World) (b : Nat) (f : List UInt8 → Option ν) : Prop := ∃ m, MapIs eStr eV w b m ∧ ∀ k, mget m k = f k
section
variable {ν : Type} {eV : ν → Value} {w w' : World} {b : Nat} {f : List UInt8 → Option ν}
theorem MapF.keep (h : MapF eV w b f) (hb : w'.heap[b]? = w.heap[b]?) : MapF eV w' b f := by
 obtain ⟨m, h1, h2⟩ := h
 exact ⟨m, h1.keep hb, h2⟩
theorem MapF.lt (h : MapF eV w b f) : b < w.heap.size := by
 obtain ⟨m, h1, h2⟩ := h
 exact h1.lt
theorem MapF.below (h : MapF eV w b f) (hb : Below w.heap.size w w') : MapF eV w' b f := h.keep (hb.block _ h.lt)
theorem MapF.congr {g : List UInt8 → Option ν} (h : MapF eV w b f) (e : ∀ k, f k = g k) : MapF eV w b g := by
 obtain ⟨m, h1, h2⟩ := h
 exact ⟨m, h1, fun k => (h2 k).trans (e k)⟩
theorem MapF.made (eV : ν → Value) (w : World) : MapF eV (w.alloc (.map #[] 0)) w.heap.size fun _ => none := ⟨[], MapIs.made eStr eV w, fun _ => rfl⟩
theorem MapF.look {P : Program} (h : MapF eV w b f) {t kt e : TypeId} (hk : P.underlying kt = some .string) (ht : P.underlying t = some (.map kt e)) {z : ν} (hz : (zeroValue e).run P w = .ok (eV z) w) (k : List UInt8) (c : Bool) :
  (Instr.lookup t (.map (some b)) (.string ⟨k.toArray⟩) c).run P w = .ok (if c then .tuple #[eV ((f k).getD z), .bool (f k).isSome] else eV ((f k).getD z)) w := by
 obtain ⟨m, h1, h2⟩ := h
 have := h1.look (keyStr hk) ht hz k c
 rw [h2] at this
 exact this
theorem MapF.store {P : Program} (h : MapF eV w b f) {t kt e : TypeId} (hk : P.underlying kt = some .string) (ht : P.underlying t = some (.map kt e)) (k : List UInt8) (v : ν) :
  ∃ w', (Instr.mapUpdate t (.map (some b)) (.string ⟨k.toArray⟩) (eV v)).run P w = .ok () w' ∧ MapF eV w' b (fun i => if i = k then some v else f i) ∧ Turned b w w' := by
 obtain ⟨m, h1, h2⟩ := h
 obtain ⟨w', h3, h4, h5⟩ := h1.store (keyStr hk) ht k v
 refine ⟨w', h3, ⟨_, h4, fun i => ?_⟩, h5⟩
 show _ = if i = k then some v else f i
 by_cases hi : i = k
 ·rw [if_pos hi, hi, mget_put]
 ·rw [if_neg hi, mget_put_other _ _ hi, h2]
theorem MapF.drop {P : Program} (h : MapF eV w b f) {t kt e : TypeId} (hk : P.underlying kt = some .string) (ht : P.underlying t = some (.map kt e)) (k : List UInt8) :
  ∃ w', (∀ ty, (Builtin.delete_ #[t, kt] ty #[.map (some b), .string ⟨k.toArray⟩]).run P w = .ok (.tuple #[]) w') ∧ MapF eV w' b (fun i => if i = k then none else f i) ∧ Turned b w w' := by
 obtain ⟨m, h1, h2⟩ := h
 obtain ⟨w', h3, h4, h5⟩ := h1.drop (keyStr hk) ht k
 refine ⟨w', h3, ⟨_, h4, fun i => ?_⟩, h5⟩
 show _ = if i = k then none else f i
 by_cases hi : i = k
 ·rw [if_pos hi, hi, mget_del]
 ·rw [if_neg hi, mget_del_other _ hi, h2]
end
def encSums (s : SumsV) : List Value := [.int .i64 s.1, .int .i64 s.2.1, .int .i64 s.2.2.1, .int .i64 s.2.2.2]
theorem encSums_one (x : SumsV) : ∀ v ∈ encSums x, v.oneCell' = true := fun v hv => by
 simp [encSums] at hv
 rcases hv with rfl | rfl | rfl | rfl <;> rfl
def eGoods (g : GoodsV) : Value := .agg (encGoods g).toArray
def eLot (l : LotV) : Value := .agg (encLot l).toArray
def eSums (s : SumsV) : Value := .agg (encSums s).toArray
def goodsF (B : BkV) (k : List UInt8) : Option GoodsV := (fG B k).map (·.1)
def lotsF (B : BkV) (k : List UInt8) : Option LotV := (fL B k).map (·.1)
def heldF (B : BkV) (k : List UInt8) : Option Nat := if heldOf B k = 0 then none else some (heldOf B k)
def sumsF (B : BkV) (k : List UInt8) : Option SumsV := if sumsOf B k = zeroSums then none else some (sumsOf B k)
theorem heldF_get (B : BkV) (k : List UInt8) : (heldF B k).getD 0 = heldOf B k := by
 unfold heldF
 split
 ·rename_i h; exact h.symm
 ·rfl
theorem sumsF_get (B : BkV) (k : List UInt8) : (sumsF B k).getD zeroSums = sumsOf B k := by
 unfold sumsF
 split
 ·rename_i h; exact h.symm
 ·rfl
structure BookM (w : World) (p g l h s q c : Nat) (B : BkV) : Prop where
 own : w.heap[p]? = some (.cells #[.map (some g), .map (some l), .map (some h), .map (some s), .pointer (some ⟨q, 0, none⟩)] 106 (0, 0))
 goods : MapF eGoods w g (goodsF B)
 lots : MapF eLot w l (lotsF B)
 held : MapF eNat w h (heldF B)
 sums : MapF eSums w s (sumsF B)
 stk : StkP w q c B.2.2
def BookIs (w : World) (p : Nat) (F : List Nat) (B : BkV) : Prop := ∃ g l h s q c, F = [p, g, l, h, s, q, c] ∧ F.Nodup ∧ BookM w p g l h s q c B
theorem BookM.lt {w : World} {p g l h s q c : Nat} {B : BkV} (H : BookM w p g l h s q c B) : ∀ k ∈ [p, g, l, h, s, q, c], k < w.heap.size := fun k hk => by
 simp only [List.mem_cons, List.not_mem_nil, or_false] at hk
 rcases hk with rfl | rfl | rfl | rfl | rfl | rfl | rfl
 ·exact (Array.getElem?_eq_some_iff.1 H.own).1
 ·exact H.goods.lt
 ·exact H.lots.lt
 ·exact H.held.lt
 ·exact H.sums.lt
 ·exact H.stk.lt.1
 ·exact H.stk.lt.2
theorem BookM.keep {w w' : World} {p g l h s q c : Nat} {B : BkV} (H : BookM w p g l h s q c B) (hk : ∀ k ∈ [p, g, l, h, s, q, c], w'.heap[k]? = w.heap[k]?) : BookM w' p g l h s q c B :=
 ⟨(hk p (by simp)).trans H.own, H.goods.keep (hk g (by simp)), H.lots.keep (hk l (by simp)), H.held.keep (hk h (by simp)), H.sums.keep (hk s (by simp)), H.stk.keep (hk q (by simp)) (hk c (by simp))⟩
theorem BookM.below {w w' : World} {p g l h s q c : Nat} {B : BkV} (H : BookM w p g l h s q c B) (hb : Below w.heap.size w w') : BookM w' p g l h s q c B := H.keep fun k hk => hb.block _ (H.lt k hk)
theorem BookIs.lt {w : World} {p : Nat} {F : List Nat} {B : BkV} (H : BookIs w p F B) : ∀ k ∈ F, k < w.heap.size := by
 obtain ⟨g, l, h, s, q, c, rfl, _, H⟩ := H
 exact H.lt
theorem BookIs.keep {w w' : World} {p : Nat} {F : List Nat} {B : BkV} (H : BookIs w p F B) (hk : ∀ k ∈ F, w'.heap[k]? = w.heap[k]?) : BookIs w' p F B := by
 obtain ⟨g, l, h, s, q, c, rfl, hn, H⟩ := H
 exact ⟨g, l, h, s, q, c, rfl, hn, H.keep hk⟩
theorem BookIs.below {w w' : World} {p : Nat} {F : List Nat} {B : BkV} (H : BookIs w p F B) (hb : Below w.heap.size w w') : BookIs w' p F B := H.keep fun k hk => hb.block _ (H.lt k hk)
theorem BookIs.butF {w w' : World} {p : Nat} {F F' : List Nat} {B : BkV} (H : BookIs w p F B) (hb : ButF F' w w') (hd : ∀ k ∈ F, k ∉ F') : BookIs w' p F B := H.keep fun k hk => hb.block _ (H.lt k hk) (hd k hk)
theorem BookIs.perm {w : World} {p : Nat} {F : List Nat} {B B' : BkV} (H : BookIs w p F B) (h1 : B.1 = B'.1) (h2 : B.2.1 = B'.2.1) (h3 : B.2.2.Perm B'.2.2) : BookIs w p F B' := by
 obtain ⟨g, l, h, s, q, c, rfl, hn, H⟩ := H
 obtain ⟨G, L, m⟩ := B
 obtain ⟨G', L', m'⟩ := B'
 simp only at h1 h2
 subst h1 h2
 exact ⟨g, l, h, s, q, c, rfl, hn, ⟨H.own, H.goods, H.lots, H.held, H.sums, H.stk.perm h3⟩⟩
end Go.Proofs.YteaalifehokgoaaGreatDoor
