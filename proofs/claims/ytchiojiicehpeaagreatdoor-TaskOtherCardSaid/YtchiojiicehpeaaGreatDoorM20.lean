/- The book, plainly: what an entry answers, and makes of it. No program in sight. The book, plainly: what entries keep. No program in sight. -/
import Derived.Test.YtchiojiicehpeaaGreatDoorM14
import Derived.Test.YtchiojiicehpeaaGreatDoorM18
import Derived.Test.YtchiojiicehpeaaGreatDoorM19
namespace Go.Proofs.YtchiojiicehpeaaGreatDoor
open Go.RowKit Go.Sort Go.Proofs
abbrev SumsV := Int × Int × Int × Int
abbrev GoS := GoodsV × SumsV
abbrev LoH := LotV × Nat
abbrev BkV := List GoS × List LoH × StkV
def zeroSums : SumsV := (0, 0, 0, 0)
def bk0 : BkV := ([], [], [])
def mostS : Int := 65970697666560
def fG (B : BkV) (c : List UInt8) : Option GoS := B.1.find? fun x => decide (x.1.1 = c)
def fL (B : BkV) (id : List UInt8) : Option LoH := B.2.1.find? fun x => decide (x.1.1 = id)
def sumsOf (B : BkV) (c : List UInt8) : SumsV := match fG B c with | some x => x.2 | none => zeroSums
def heldOf (B : BkV) (id : List UInt8) : Nat := match fL B id with | some x => x.2 | none => 0
def hasOf (B : BkV) (c : List UInt8) : Nat := ((B.2.1.filter fun x => decide (x.1.2.1 = c)).map fun x => ofM B.2.2 x.1.1).sum
def actE (m : StkV) (x : EntV) : Nat :=
 if x.1 = kIn ∨ x.1 = kMore then putE m x.2.2.2.2.1 x.2.2.1.1 x.2.2.2.2.2 else if x.1 = kOut ∨ x.1 = kLess then takeE m x.2.2.2.1 x.2.2.1.1 x.2.2.2.2.2
 else if x.1 = kMove then moveE m x.2.2.2.1 x.2.2.2.2.1 x.2.2.1.1 x.2.2.2.2.2 else 0
def actM (m : StkV) (x : EntV) : StkV :=
 if x.1 = kIn ∨ x.1 = kMore then putM m x.2.2.2.2.1 x.2.2.1.1 x.2.2.2.2.2 else if x.1 = kOut ∨ x.1 = kLess then takeM m x.2.2.2.1 x.2.2.1.1 x.2.2.2.2.2
 else if x.1 = kMove then moveM m x.2.2.2.1 x.2.2.2.2.1 x.2.2.1.1 x.2.2.2.2.2 else m
def heldN (h : Nat) (x : EntV) : Int := if x.1 = kHold then (h : Int) + x.2.2.2.2.2 else if x.1 = kFree then (h : Int) - x.2.2.2.2.2 else h
def summ (s : SumsV) (x : EntV) : SumsV :=
 if x.1 = kIn then (s.1 + x.2.2.2.2.2, s.2.1, s.2.2.1, s.2.2.2) else if x.1 = kOut then (s.1, s.2.1 + x.2.2.2.2.2, s.2.2.1, s.2.2.2)
 else if x.1 = kMore then (s.1, s.2.1, s.2.2.1 + x.2.2.2.2.2, s.2.2.2) else if x.1 = kLess then (s.1, s.2.1, s.2.2.1, s.2.2.2 + x.2.2.2.2.2) else s
def overS (s : SumsV) : Bool := decide (mostS < s.1) || decide (mostS < s.2.1) || decide (mostS < s.2.2.1) || decide (mostS < s.2.2.2)
def pcE (B : BkV) (x : EntV) : Nat :=
 match fL B x.2.2.1.1 with
 |none => 6
 |some y => if actE B.2.2 x ≠ 0 then actE B.2.2 x else if heldN y.2 x < 0 ∨ (ofM (actM B.2.2 x) x.2.2.1.1 : Int) < heldN y.2 x then 9
  else if overS (summ (sumsOf B y.1.2.1) x) = true then 2 else 0
def doE (B : BkV) (x : EntV) : Nat :=
 if entE x ≠ 0 then entE x
 else if x.1 = kGoods then (if (fG B x.2.1.1).isSome = true then 7 else if 30 ≤ B.1.length then 8 else 0)
 else if x.1 = kLot then (if (fL B x.2.2.1.1).isSome = true then 7 else if (fG B x.2.2.1.2.1).isSome = false then 6 else if 60 ≤ B.2.1.length then 8 else 0)
 else pcE B x
def ltB (a b : List UInt8) : Bool := Op.bytesLess a b
def insG (x : GoS) (l : List GoS) : List GoS := l.takeWhile (fun y => ltB y.1.1 x.1.1) ++ x :: l.dropWhile (fun y => ltB y.1.1 x.1.1)
def insLo (x : LoH) (l : List LoH) : List LoH := l.takeWhile (fun y => ltB y.1.1 x.1.1) ++ x :: l.dropWhile (fun y => ltB y.1.1 x.1.1)
def setG (c : List UInt8) (s : SumsV) (l : List GoS) : List GoS := l.map fun y => if y.1.1 = c then (y.1, s) else y
def setLo (id : List UInt8) (h : Nat) (l : List LoH) : List LoH := l.map fun y => if y.1.1 = id then (y.1, h) else y
def codeLo (B : BkV) (id : List UInt8) : List UInt8 := match fL B id with | some y => y.1.2.1 | none => []
def doP (B : BkV) (x : EntV) : BkV :=
 (setG (codeLo B x.2.2.1.1) (summ (sumsOf B (codeLo B x.2.2.1.1)) x) B.1, setLo x.2.2.1.1 (heldN (heldOf B x.2.2.1.1) x).toNat B.2.1, actM B.2.2 x)
def doB (B : BkV) (x : EntV) : BkV :=
 if doE B x ≠ 0 then B else if x.1 = kGoods then (insG (x.2.1, zeroSums) B.1, B.2.1, B.2.2) else if x.1 = kLot then (B.1, insLo (x.2.2.1, 0) B.2.1, B.2.2) else doP B x
def doAll (B : BkV) (l : List EntV) : BkV := l.foldl doB B
/-! What holds of a book that entries make. -/
def OkS (s : SumsV) : Prop := 0 ≤ s.1 ∧ s.1 ≤ mostS ∧ 0 ≤ s.2.1 ∧ s.2.1 ≤ mostS ∧ 0 ≤ s.2.2.1 ∧ s.2.2.1 ≤ mostS ∧ 0 ≤ s.2.2.2 ∧ s.2.2.2 ≤ mostS
structure BkI (B : BkV) : Prop where
 gs : B.1.Pairwise fun x y => ltB x.1.1 y.1.1 = true
 gok : ∀ x ∈ B.1, goodsE x.1 = 0 ∧ OkS x.2
 gfew : B.1.length ≤ 30
 ls : B.2.1.Pairwise fun x y => ltB x.1.1 y.1.1 = true
 lok : ∀ y ∈ B.2.1, lotE y.1 = 0 ∧ y.2 ≤ ofM B.2.2 y.1.1 ∧ (fG B y.1.2.1).isSome = true
 lfew : B.2.1.length ≤ 60
 stk : StkI B.2.2
 known : ∀ z ∈ B.2.2, (fL B z.1.2).isSome = true
 pac : ∀ x ∈ B.1, (hasOf B x.1.1 : Int) = x.2.1 - x.2.2.1 + x.2.2.2.1 - x.2.2.2.2
theorem ltB_irrefl (a : List UInt8) : ltB a a = false := by
 unfold ltB
 rw [less_cmp, cmpB_refl]
 rfl
theorem ltB_trans {a b c : List UInt8} (h1 : ltB a b = true) (h2 : ltB b c = true) : ltB a c = true := by
 unfold ltB at *
 rw [less_cmp, decide_eq_true_eq] at *
 exact cmpB_trans a b c h1 h2
theorem ltB_asym {a b : List UInt8} (h : ltB a b = true) : ltB b a = false := by
 cases h2 : ltB b a with
 |false => rfl
 |true => exact absurd (ltB_trans h h2) (by rw [ltB_irrefl]; simp)
theorem ltB_ne {a b : List UInt8} (h : ltB a b = true) : a ≠ b := by
 rintro rfl
 rw [ltB_irrefl] at h
 cases h
theorem ltB_total {a b : List UInt8} (h : ltB a b = false) (hne : a ≠ b) : ltB b a = true := by
 unfold ltB at *
 rw [less_cmp] at *
 have h1 := of_decide_eq_false h
 have h2 : Lib.compareBytes a b ≠ 0 := fun e => hne ((cmpB_eq a b).1 e)
 have h3 := cmpB_swap a b
 exact decide_eq_true (by omega)
section
variable {α : Type} (key : α → List UInt8)
theorem find_mem {l : List α} {c : List UInt8} {x : α} (h : l.find? (fun y => decide (key y = c)) = some x) : x ∈ l ∧ key x = c :=
 ⟨List.mem_of_find?_eq_some h, by simpa using List.find?_some h⟩
theorem find_none {l : List α} {c : List UInt8} (h : l.find? (fun y => decide (key y = c)) = none) : ∀ y ∈ l, key y ≠ c := fun y hy => by
 have := List.find?_eq_none.1 h y hy
 simpa using this
theorem find_is {l : List α} (hs : l.Pairwise fun x y => ltB (key x) (key y) = true) {x : α} (hx : x ∈ l) : l.find? (fun y => decide (key y = key x)) = some x := by
 induction l with
 |nil => simp at hx
 |cons y r ih =>
  have h := List.pairwise_cons.1 hs
  rw [List.find?_cons]
  rcases List.mem_cons.1 hx with rfl | hx
  ·simp
  ·rw [decide_eq_false (ltB_ne (h.1 x hx))]
   exact ih h.2 hx
def insK (x : α) (l : List α) : List α := l.takeWhile (fun y => ltB (key y) (key x)) ++ x :: l.dropWhile (fun y => ltB (key y) (key x))
theorem insK_perm (x : α) (l : List α) : (insK key x l).Perm (x :: l) := by
 unfold insK
 refine List.perm_middle.trans ?_
 rw [List.takeWhile_append_dropWhile]
theorem insK_sorted (x : α) {l : List α} (hs : l.Pairwise fun x y => ltB (key x) (key y) = true) (hn : ∀ y ∈ l, key y ≠ key x) : (insK key x l).Pairwise fun x y => ltB (key x) (key y) = true := by
 induction l with
 |nil => simp [insK]
 |cons y r ih =>
  have h := List.pairwise_cons.1 hs
  unfold insK
  by_cases hl : ltB (key y) (key x) = true
  ·rw [List.takeWhile_cons_of_pos (p := fun y => ltB (key y) (key x)) hl, List.dropWhile_cons_of_pos (p := fun y => ltB (key y) (key x)) hl]
   have ih' := ih h.2 fun z hz => hn z (List.mem_cons_of_mem _ hz)
   refine List.pairwise_cons.2 ⟨fun z hz => ?_, ih'⟩
   rcases List.mem_cons.1 ((insK_perm key x r).mem_iff.1 hz) with rfl | hz
   ·exact hl
   ·exact h.1 z hz
  ·rw [List.takeWhile_cons_of_neg (p := fun y => ltB (key y) (key x)) hl, List.dropWhile_cons_of_neg (p := fun y => ltB (key y) (key x)) hl]
   have hxy := ltB_total (by simpa using hl) (hn y List.mem_cons_self)
   refine List.pairwise_cons.2 ⟨fun z hz => ?_, hs⟩
   rcases List.mem_cons.1 hz with rfl | hz
   ·exact hxy
   ·exact ltB_trans hxy (h.1 z hz)
theorem find_insK (x : α) {l : List α} (hs : l.Pairwise fun x y => ltB (key x) (key y) = true) (hn : ∀ y ∈ l, key y ≠ key x) (c : List UInt8) :
  (insK key x l).find? (fun y => decide (key y = c)) = if key x = c then some x else l.find? (fun y => decide (key y = c)) := by
 have hs' := insK_sorted key x hs hn
 by_cases h : key x = c
 ·rw [if_pos h, ← h]
  exact find_is key hs' ((insK_perm key x l).mem_iff.2 List.mem_cons_self)
 ·rw [if_neg h]
  cases hf : l.find? (fun y => decide (key y = c)) with
  |none =>
   refine List.find?_eq_none.2 fun y hy => ?_
   rcases List.mem_cons.1 ((insK_perm key x l).mem_iff.1 hy) with rfl | hy
   ·simpa using h
   ·simpa using find_none key hf y hy
  |some y =>
   obtain ⟨h1, h2⟩ := find_mem key hf
   rw [← h2]
   exact find_is key hs' ((insK_perm key x l).mem_iff.2 (List.mem_cons_of_mem _ h1))
theorem find_map {l : List α} {f : α → α} (hf : ∀ y, key (f y) = key y) (c : List UInt8) : (l.map f).find? (fun y => decide (key y = c)) = (l.find? (fun y => decide (key y = c))).map f := by
 induction l with
 |nil => rfl
 |cons y r ih =>
  rw [List.map_cons, List.find?_cons, List.find?_cons, hf, ih]
  cases decide (key y = c) <;> rfl
theorem sorted_map {l : List α} {f : α → α} (hf : ∀ y, key (f y) = key y) (hs : l.Pairwise fun x y => ltB (key x) (key y) = true) : (l.map f).Pairwise fun x y => ltB (key x) (key y) = true := by
 rw [List.pairwise_map]
 exact hs.imp fun h => by rw [hf, hf]; exact h
end
theorem insG_eq (x : GoS) (l : List GoS) : insG x l = insK (fun y : GoS => y.1.1) x l := rfl
theorem insLo_eq (x : LoH) (l : List LoH) : insLo x l = insK (fun y : LoH => y.1.1) x l := rfl
end Go.Proofs.YtchiojiicehpeaaGreatDoor
namespace Go.Proofs.YtchiojiicehpeaaGreatDoor
open Go.RowKit Go.Sort Go.Proofs
theorem BkI.nil : BkI bk0 := ⟨List.Pairwise.nil, by simp [bk0], by simp [bk0], List.Pairwise.nil, by simp [bk0], by simp [bk0], StkI.nil, by simp [bk0], by simp [bk0]⟩
theorem fG_mem {B : BkV} {c : List UInt8} {x : GoS} (h : fG B c = some x) : x ∈ B.1 ∧ x.1.1 = c := find_mem (fun y : GoS => y.1.1) h
theorem fL_mem {B : BkV} {c : List UInt8} {x : LoH} (h : fL B c = some x) : x ∈ B.2.1 ∧ x.1.1 = c := find_mem (fun y : LoH => y.1.1) h
theorem fG_none {B : BkV} {c : List UInt8} (h : fG B c = none) : ∀ y ∈ B.1, y.1.1 ≠ c := find_none (fun y : GoS => y.1.1) h
theorem fL_none {B : BkV} {c : List UInt8} (h : fL B c = none) : ∀ y ∈ B.2.1, y.1.1 ≠ c := find_none (fun y : LoH => y.1.1) h
theorem BkI.fG_is {B : BkV} (h : BkI B) {x : GoS} (hx : x ∈ B.1) : fG B x.1.1 = some x := find_is (fun y : GoS => y.1.1) h.gs hx
theorem BkI.fL_is {B : BkV} (h : BkI B) {x : LoH} (hx : x ∈ B.2.1) : fL B x.1.1 = some x := find_is (fun y : LoH => y.1.1) h.ls hx
theorem isSome_none {α : Type} {o : Option α} (h : ¬ o.isSome = true) : o = none := by
 cases o with
 |none => rfl
 |some a => simp at h
theorem ofM_zero {m : StkV} {id : List UInt8} (h : ∀ z ∈ m, z.1.2 ≠ id) : ofM m id = 0 := by
 induction m with
 |nil => rfl
 |cons x r ih =>
  rw [ofM_cons, if_neg (h x List.mem_cons_self), ih fun z hz => h z (List.mem_cons_of_mem _ hz)]
theorem mem_mput {κ ν : Type} [DecidableEq κ] {m : List (κ × ν)} {k : κ} {v : ν} {z : κ × ν} (h : z ∈ mput m k v) : z = (k, v) ∨ z ∈ m := by
 induction m with
 |nil => exact .inl (by simpa [mput] using h)
 |cons p r ih =>
  unfold mput at h
  split at h
  ·rcases List.mem_cons.1 h with h | h
   ·exact .inl h
   ·exact .inr (List.mem_cons_of_mem _ h)
  ·rcases List.mem_cons.1 h with h | h
   ·exact .inr (h ▸ List.mem_cons_self)
   ·rcases ih h with h | h
    ·exact .inl h
    ·exact .inr (List.mem_cons_of_mem _ h)
theorem lot_put {m : StkV} {p : PlaceV} {l : List UInt8} {n : Int} {z : KeyV × Nat} (h : z ∈ putM m p l n) : z.1.2 = l ∨ ∃ y ∈ m, y.1.2 = z.1.2 := by
 unfold putM at h
 split at h
 ·rcases mem_mput h with rfl | h
  ·exact .inl rfl
  ·exact .inr ⟨z, h, rfl⟩
 ·exact .inr ⟨z, h, rfl⟩
theorem lot_take {m : StkV} {p : PlaceV} {l : List UInt8} {n : Int} {z : KeyV × Nat} (h : z ∈ takeM m p l n) : z.1.2 = l ∨ ∃ y ∈ m, y.1.2 = z.1.2 := by
 unfold takeM at h
 split at h
 ·split at h
  ·have h := (List.mem_filter.1 h).1
   rcases mem_mput h with rfl | h
   ·exact .inl rfl
   ·exact .inr ⟨z, h, rfl⟩
  ·rcases mem_mput h with rfl | h
   ·exact .inl rfl
   ·exact .inr ⟨z, h, rfl⟩
 ·exact .inr ⟨z, h, rfl⟩
theorem lot_move {m : StkV} {p q : PlaceV} {l : List UInt8} {n : Int} {z : KeyV × Nat} (h : z ∈ moveM m p q l n) : z.1.2 = l ∨ ∃ y ∈ m, y.1.2 = z.1.2 := by
 unfold moveM at h
 split at h
 ·rcases lot_put h with h | ⟨y, hy, h⟩
  ·exact .inl h
  ·rcases lot_take hy with h2 | ⟨u, hu, h2⟩
   ·exact .inl (h.symm.trans h2)
   ·exact .inr ⟨u, hu, h2.trans h⟩
 ·exact .inr ⟨z, h, rfl⟩
theorem lot_act {m : StkV} {x : EntV} {z : KeyV × Nat} (h : z ∈ actM m x) : z.1.2 = x.2.2.1.1 ∨ ∃ y ∈ m, y.1.2 = z.1.2 := by
 unfold actM at h
 split at h
 ·exact lot_put h
 split at h
 ·exact lot_take h
 split at h
 ·exact lot_move h
 ·exact .inr ⟨z, h, rfl⟩
theorem StkI.act {m : StkV} (h : StkI m) (x : EntV) : StkI (actM m x) := by
 unfold actM
 split
 ·exact h.put _ _ _
 split
 ·exact h.take _ _ _
 split
 ·exact h.move _ _ _ _
 ·exact h
theorem of_put_other {m : StkV} {p : PlaceV} {l l2 : List UInt8} {n : Int} (hne : l2 ≠ l) : ofM (putM m p l n) l2 = ofM m l2 := by
 unfold putM
 split
 ·exact ofM_put_other _ _ _ _ _ hne
 ·rfl
theorem ofM_del_other (m : StkV) (p : PlaceV) (l l2 : List UInt8) (hne : l2 ≠ l) : ofM (mdel m (p, l)) l2 = ofM m l2 := by
 unfold mdel
 induction m with
 |nil => rfl
 |cons x r ih =>
  by_cases h : x.1 ≠ (p, l)
  ·rw [List.filter_cons_of_pos (by simpa using h), ofM_cons, ofM_cons, ih]
  ·simp only [ne_eq, Classical.not_not] at h
   rw [List.filter_cons_of_neg (by simp [h]), ofM_cons, ih, if_neg (by rw [h]; exact Ne.symm hne), Nat.zero_add]
theorem of_take_other {m : StkV} {p : PlaceV} {l l2 : List UInt8} {n : Int} (hne : l2 ≠ l) : ofM (takeM m p l n) l2 = ofM m l2 := by
 unfold takeM
 split
 ·split
  ·rw [ofM_del_other _ _ _ _ hne, ofM_put_other _ _ _ _ _ hne]
  ·exact ofM_put_other _ _ _ _ _ hne
 ·rfl
theorem of_move_other {m : StkV} {p q : PlaceV} {l l2 : List UInt8} {n : Int} (hne : l2 ≠ l) : ofM (moveM m p q l n) l2 = ofM m l2 := by
 unfold moveM
 split
 ·rw [of_put_other hne, of_take_other hne]
 ·rfl
theorem of_move {m : StkV} (hI : StkI m) {p q : PlaceV} {l : List UInt8} {n : Int} (h : moveE m p q l n = 0) : ofM (moveM m p q l n) l = ofM m l := by
 obtain ⟨h1, _, _, h4, h5⟩ := move_zero h
 rw [h5, of_put h4, of_take hI h1]
theorem act_other {m : StkV} {x : EntV} {id : List UInt8} (hne : id ≠ x.2.2.1.1) : ofM (actM m x) id = ofM m id := by
 unfold actM
 split
 ·exact of_put_other hne
 split
 ·exact of_take_other hne
 split
 ·exact of_move_other hne
 ·rfl
def moreN (x : EntV) : Int := if x.1 = kIn ∨ x.1 = kMore then x.2.2.2.2.2 else if x.1 = kOut ∨ x.1 = kLess then - x.2.2.2.2.2 else 0
theorem act_own {m : StkV} (hI : StkI m) {x : EntV} (h : actE m x = 0) (hn : 0 ≤ x.2.2.2.2.2) : (ofM (actM m x) x.2.2.1.1 : Int) = ofM m x.2.2.1.1 + moreN x := by
 unfold actE at h
 unfold actM moreN
 split at h
 ·rename_i h1
  rw [if_pos h1, if_pos h1, of_put h]
  omega
 rename_i h1
 rw [if_neg h1, if_neg h1]
 split at h
 ·rename_i h2
  rw [if_pos h2, if_pos h2]
  have := of_take hI h
  omega
 rename_i h2
 rw [if_neg h2, if_neg h2]
 split at h
 ·rename_i h3
  rw [if_pos h3, of_move hI h]
  omega
 ·rename_i h3
  rw [if_neg h3]
  omega
theorem summ_more (s : SumsV) (x : EntV) : (summ s x).1 - (summ s x).2.1 + (summ s x).2.2.1 - (summ s x).2.2.2 = s.1 - s.2.1 + s.2.2.1 - s.2.2.2 + moreN x := by
 unfold summ moreN
 by_cases h1 : x.1 = kIn
 ·rw [if_pos h1, if_pos (.inl h1)]; simp only; omega
 rw [if_neg h1]
 by_cases h2 : x.1 = kOut
 ·rw [if_pos h2, if_neg (by rw [h2]; decide), if_pos (.inl h2)]; simp only; omega
 rw [if_neg h2]
 by_cases h3 : x.1 = kMore
 ·rw [if_pos h3, if_pos (.inr h3)]; simp only; omega
 rw [if_neg h3, if_neg (show ¬ (x.1 = kIn ∨ x.1 = kMore) from fun h => by rcases h with h | h; exact h1 h; exact h3 h)]
 by_cases h4 : x.1 = kLess
 ·rw [if_pos h4, if_pos (.inr h4)]; simp only; omega
 rw [if_neg h4, if_neg (show ¬ (x.1 = kOut ∨ x.1 = kLess) from fun h => by rcases h with h | h; exact h2 h; exact h4 h)]
 omega
theorem summ_ok {s : SumsV} {x : EntV} (h : OkS s) (hn : 0 ≤ x.2.2.2.2.2) (ho : ¬ overS (summ s x) = true) : OkS (summ s x) := by
 have hm : mostS = 65970697666560 := rfl
 unfold overS at ho
 simp only [Bool.or_eq_true, decide_eq_true_eq, not_or] at ho
 obtain ⟨⟨⟨o1, o2⟩, o3⟩, o4⟩ := ho
 obtain ⟨a1, a2, b1, b2, c1, c2, d1, d2⟩ := h
 have hp : 0 ≤ (summ s x).1 ∧ 0 ≤ (summ s x).2.1 ∧ 0 ≤ (summ s x).2.2.1 ∧ 0 ≤ (summ s x).2.2.2 := by
  unfold summ
  split
  ·exact ⟨by simp only; omega, b1, c1, d1⟩
  split
  ·exact ⟨a1, by simp only; omega, c1, d1⟩
  split
  ·exact ⟨a1, b1, by simp only; omega, d1⟩
  split
  ·exact ⟨a1, b1, c1, by simp only; omega⟩
  ·exact ⟨a1, b1, c1, d1⟩
 exact ⟨hp.1, by omega, hp.2.1, by omega, hp.2.2.1, by omega, hp.2.2.2, by omega⟩
theorem hasL_map (f : LoH → LoH) (hf : ∀ y, (f y).1 = y.1) (g : List UInt8 → Nat) (c : List UInt8) (l : List LoH) : (((l.map f).filter fun x => decide (x.1.2.1 = c)).map fun x => g x.1.1).sum = ((l.filter fun x => decide (x.1.2.1 = c)).map fun x => g x.1.1).sum := by
 induction l with
 |nil => rfl
 |cons y r ih =>
  by_cases h : y.1.2.1 = c
  ·rw [List.map_cons, List.filter_cons_of_pos (by rw [hf]; simpa using h), List.filter_cons_of_pos (by simpa using h), List.map_cons, List.map_cons, List.sum_cons, List.sum_cons, ih, hf]
  ·rw [List.map_cons, List.filter_cons_of_neg (by rw [hf]; simpa using h), List.filter_cons_of_neg (by simpa using h), ih]
theorem hasL_other (g g' : List UInt8 → Nat) (c id : List UInt8) (l : List LoH) (hg : ∀ i, i ≠ id → g' i = g i) (hn : ∀ y ∈ l, y.1.1 = id → y.1.2.1 ≠ c) :
  ((l.filter fun x => decide (x.1.2.1 = c)).map fun x => g' x.1.1).sum = ((l.filter fun x => decide (x.1.2.1 = c)).map fun x => g x.1.1).sum := by
 induction l with
 |nil => rfl
 |cons y r ih =>
  have ih' := ih fun z hz => hn z (List.mem_cons_of_mem _ hz)
  by_cases h : y.1.2.1 = c
  ·rw [List.filter_cons_of_pos (by simpa using h), List.map_cons, List.map_cons, List.sum_cons, List.sum_cons, ih', hg _ fun e => hn y List.mem_cons_self e h]
  ·rw [List.filter_cons_of_neg (by simpa using h), ih']
theorem hasL_own (g g' : List UInt8 → Nat) (d : Int) (c id : List UInt8) (l : List LoH) (hs : l.Pairwise fun x y => ltB x.1.1 y.1.1 = true) (hg : ∀ i, i ≠ id → g' i = g i) (hd : (g' id : Int) = g id + d) {y : LoH} (hy : y ∈ l) (hi : y.1.1 = id) (hc : y.1.2.1 = c) :
  ((((l.filter fun x => decide (x.1.2.1 = c)).map fun x => g' x.1.1).sum : Nat) : Int) = (((l.filter fun x => decide (x.1.2.1 = c)).map fun x => g x.1.1).sum : Nat) + d := by
 induction l with
 |nil => simp at hy
 |cons z r ih =>
  have hs' := List.pairwise_cons.1 hs
  rcases List.mem_cons.1 hy with rfl | hy
  ·have ho : ∀ u ∈ r, u.1.1 = id → u.1.2.1 ≠ c := fun u hu e => absurd (hi.trans e.symm) (ltB_ne (hs'.1 u hu))
   rw [List.filter_cons_of_pos (by simpa using hc), List.map_cons, List.map_cons, List.sum_cons, List.sum_cons, hasL_other g g' c id r hg ho, hi]
   omega
  ·have ih' := ih hs'.2 hy
   have hzi : z.1.1 ≠ id := fun e => absurd (e.trans hi.symm) (ltB_ne (hs'.1 y hy))
   by_cases h : z.1.2.1 = c
   ·rw [List.filter_cons_of_pos (by simpa using h), List.map_cons, List.map_cons, List.sum_cons, List.sum_cons, hg _ hzi]
    omega
   ·rw [List.filter_cons_of_neg (by simpa using h)]
    exact ih'
theorem hasL_perm (g : List UInt8 → Nat) (c : List UInt8) {l l' : List LoH} (h : l.Perm l') : ((l.filter fun x => decide (x.1.2.1 = c)).map fun x => g x.1.1).sum = ((l'.filter fun x => decide (x.1.2.1 = c)).map fun x => g x.1.1).sum :=
 ((h.filter _).map _).sum_nat
theorem pc_zero {B : BkV} {x : EntV} (h : pcE B x = 0) : ∃ y, fL B x.2.2.1.1 = some y ∧ actE B.2.2 x = 0 ∧ 0 ≤ heldN y.2 x ∧ heldN y.2 x ≤ (ofM (actM B.2.2 x) x.2.2.1.1 : Int) ∧ ¬ overS (summ (sumsOf B y.1.2.1) x) = true := by
 unfold pcE at h
 cases hf : fL B x.2.2.1.1 with
 |none => rw [hf] at h; cases h
 |some y =>
  rw [hf] at h
  simp only at h
  split at h
  ·rename_i h1; exact absurd h h1
  rename_i h1
  split at h
  ·cases h
  rename_i h2
  split at h
  ·cases h
  rename_i h3
  exact ⟨y, rfl, by omega, by omega, by omega, h3⟩
theorem setG_fst (c : List UInt8) (s : SumsV) (y : GoS) : (if y.1.1 = c then (y.1, s) else y).1 = y.1 := by split <;> rfl
theorem setLo_fst (id : List UInt8) (h : Nat) (y : LoH) : (if y.1.1 = id then (y.1, h) else y).1 = y.1 := by split <;> rfl
theorem ent_kinds {x : EntV} (h : entE x = 0) : (x.1 = kGoods ∧ goodsE x.2.1 = 0) ∨ (x.1 = kLot ∧ lotE x.2.2.1 = 0) ∨ (x.1 ≠ kGoods ∧ x.1 ≠ kLot ∧ isP x.1 = true ∧ piecesE x = 0) := by
 unfold entE at h
 split at h
 ·rename_i h1
  split at h
  ·rename_i h2; exact absurd h h2
  ·rename_i h2; exact .inl ⟨h1, by omega⟩
 rename_i h1
 split at h
 ·rename_i h3
  split at h
  ·rename_i h2; exact absurd h h2
  ·rename_i h2; exact .inr (.inl ⟨h3, by omega⟩)
 rename_i h3
 split at h
 ·rename_i h4; exact .inr (.inr ⟨h1, h3, h4, h⟩)
 ·cases h
theorem BkI.pieces {B : BkV} (h : BkI B) {x : EntV} (hn : 0 ≤ x.2.2.2.2.2) (hp : pcE B x = 0) : BkI (doP B x) := by
 obtain ⟨y, hf, ha, h0, h1, ho⟩ := pc_zero hp
 obtain ⟨hy, hi⟩ := fL_mem hf
 have hcode : codeLo B x.2.2.1.1 = y.1.2.1 := by unfold codeLo; rw [hf]
 have hheld : heldOf B x.2.2.1.1 = y.2 := by unfold heldOf; rw [hf]
 obtain ⟨-, -, hgs⟩ := h.lok y hy
 obtain ⟨g, hg⟩ := Option.isSome_iff_exists.1 hgs
 obtain ⟨hgm, hgc⟩ := fG_mem hg
 have hsums : sumsOf B y.1.2.1 = g.2 := by unfold sumsOf; rw [hg]
 have e1 : (doP B x).1 = B.1.map fun z => if z.1.1 = y.1.2.1 then (z.1, summ g.2 x) else z := by
  unfold doP setG; rw [hcode, hsums]
 have e2 : (doP B x).2.1 = B.2.1.map fun z => if z.1.1 = x.2.2.1.1 then (z.1, (heldN y.2 x).toNat) else z := by
  unfold doP setLo; rw [hheld]
 have e3 : (doP B x).2.2 = actM B.2.2 x := rfl
 have hG : ∀ c, fG (doP B x) c = (fG B c).map fun z => if z.1.1 = y.1.2.1 then (z.1, summ g.2 x) else z := fun c => by
  unfold fG
  rw [e1]
  exact find_map (fun z : GoS => z.1.1) (fun z => by rw [setG_fst]) c
 have hL : ∀ c, fL (doP B x) c = (fL B c).map fun z => if z.1.1 = x.2.2.1.1 then (z.1, (heldN y.2 x).toNat) else z := fun c => by
  unfold fL
  rw [e2]
  exact find_map (fun z : LoH => z.1.1) (fun z => by rw [setLo_fst]) c
 have hown := act_own h.stk ha hn
 refine ⟨?_, ?_, ?_, ?_, ?_, ?_, ?_, ?_, ?_⟩
 ·rw [e1]
  exact sorted_map (fun z : GoS => z.1.1) (fun z => by rw [setG_fst]) h.gs
 ·rw [e1]
  intro z hz
  obtain ⟨u, hu, rfl⟩ := List.mem_map.1 hz
  obtain ⟨k1, k2⟩ := h.gok u hu
  split
  ·refine ⟨k1, ?_⟩
   rw [hsums] at ho
   exact summ_ok (h.gok g hgm).2 hn ho
  ·exact ⟨k1, k2⟩
 ·rw [e1, List.length_map]; exact h.gfew
 ·rw [e2]
  exact sorted_map (fun z : LoH => z.1.1) (fun z => by rw [setLo_fst]) h.ls
 ·rw [e2]
  intro z hz
  obtain ⟨u, hu, rfl⟩ := List.mem_map.1 hz
  obtain ⟨k1, k2, k3⟩ := h.lok u hu
  rw [setLo_fst, hG, e3, Option.isSome_map]
  refine ⟨k1, ?_, k3⟩
  split
  ·rename_i hu2
   show (heldN y.2 x).toNat ≤ _
   rw [hu2]
   omega
  ·rename_i hu2
   rw [act_other hu2]
   exact k2
 ·rw [e2, List.length_map]; exact h.lfew
 ·rw [e3]; exact h.stk.act x
 ·rw [e3]
  intro z hz
  rw [hL, Option.isSome_map]
  rcases lot_act hz with h2 | ⟨u, hu, h2⟩
  ·rw [h2, hf]; rfl
  ·rw [← h2]; exact h.known u hu
 ·rw [e1]
  intro z hz
  obtain ⟨u, hu, rfl⟩ := List.mem_map.1 hz
  have hpac := h.pac u hu
  have hhas : ∀ c, hasOf (doP B x) c = ((B.2.1.filter fun x => decide (x.1.2.1 = c)).map fun z => ofM (actM B.2.2 x) z.1.1).sum := fun c => by
   unfold hasOf
   rw [e2, e3]
   exact hasL_map _ (fun z => setLo_fst _ _ z) (fun i => ofM (actM B.2.2 x) i) c B.2.1
  rw [setG_fst, hhas]
  by_cases hc : u.1.1 = y.1.2.1
  ·rw [if_pos hc]
   have hug : u = g := by
    have := h.fG_is hu
    rw [hc, hg] at this
    exact (Option.some.inj this).symm
   subst hug
   rw [hasL_own (fun i => ofM B.2.2 i) (fun i => ofM (actM B.2.2 x) i) (moreN x) u.1.1 x.2.2.1.1 B.2.1 h.ls (fun i hi => act_other hi) hown hy hi hc.symm, summ_more, ← hpac]
   rfl
  ·rw [if_neg hc, ← hpac]
   refine congrArg Nat.cast (hasL_other (fun i => ofM B.2.2 i) (fun i => ofM (actM B.2.2 x) i) u.1.1 x.2.2.1.1 B.2.1 (fun i hi => act_other hi) fun z hz hzi e => hc ?_)
   have h1 := h.fL_is hz
   rw [hzi, hf] at h1
   rw [← e, ← Option.some.inj h1]
theorem BkI.do_ {B : BkV} (h : BkI B) (x : EntV) : BkI (doB B x) := by
 unfold doB
 by_cases he : doE B x ≠ 0
 ·rw [if_pos he]; exact h
 rw [if_neg he]
 simp only [ne_eq, Classical.not_not] at he
 unfold doE at he
 split at he
 ·rename_i h1; exact absurd he h1
 rename_i h1
 simp only [ne_eq, Classical.not_not] at h1
 rcases ent_kinds h1 with ⟨hk, hok⟩ | ⟨hk, hok⟩ | ⟨hk1, hk2, hk3, hok⟩
 ·rw [if_pos hk] at he ⊢
  split at he
  ·cases he
  rename_i hn
  split at he
  ·cases he
  rename_i hl
  have hno := fG_none (isSome_none hn)
  have hG : ∀ c, fG (insG (x.2.1, zeroSums) B.1, B.2.1, B.2.2) c = if x.2.1.1 = c then some (x.2.1, zeroSums) else fG B c := fun c => find_insK (fun y : GoS => y.1.1) (x.2.1, zeroSums) h.gs hno c
  have hpm := insK_perm (fun y : GoS => y.1.1) (x.2.1, zeroSums) B.1
  refine ⟨insK_sorted (fun y : GoS => y.1.1) _ h.gs hno, ?_, ?_, h.ls, ?_, h.lfew, h.stk, h.known, ?_⟩
  ·intro z hz
   rcases List.mem_cons.1 (hpm.mem_iff.1 hz) with rfl | hz
   ·exact ⟨hok, (show OkS zeroSums by unfold OkS zeroSums mostS; decide)⟩
   ·exact h.gok z hz
  ·show (insK _ _ _).length ≤ 30
   rw [hpm.length_eq, List.length_cons]
   omega
  ·intro z hz
   obtain ⟨k1, k2, k3⟩ := h.lok z hz
   refine ⟨k1, k2, ?_⟩
   rw [hG]
   split
   ·rfl
   ·exact k3
  ·intro z hz
   rcases List.mem_cons.1 (hpm.mem_iff.1 hz) with rfl | hz
   ·have : hasOf (insG (x.2.1, zeroSums) B.1, B.2.1, B.2.2) x.2.1.1 = 0 := by
     unfold hasOf
     rw [List.filter_eq_nil_iff.2 fun u hu => ?_]
     ·rfl
     ·have k3 := (h.lok u hu).2.2
      obtain ⟨v, hv⟩ := Option.isSome_iff_exists.1 k3
      obtain ⟨v1, v2⟩ := fG_mem hv
      simpa using fun e : u.1.2.1 = x.2.1.1 => hno v v1 (v2.trans e)
    rw [show (((x.2.1, zeroSums) : GoS).1.1) = x.2.1.1 from rfl, this]
    rfl
   ·exact h.pac z hz
 ·have hk' : ¬ x.1 = kGoods := by rw [hk]; decide
  rw [if_neg hk', if_pos hk] at he ⊢
  split at he
  ·cases he
  rename_i hn
  split at he
  ·cases he
  rename_i hc
  split at he
  ·cases he
  rename_i hl
  have hno := fL_none (isSome_none hn)
  have hL : ∀ c, fL (B.1, insLo (x.2.2.1, 0) B.2.1, B.2.2) c = if x.2.2.1.1 = c then some (x.2.2.1, 0) else fL B c := fun c => find_insK (fun y : LoH => y.1.1) (x.2.2.1, 0) h.ls hno c
  have hpm := insK_perm (fun y : LoH => y.1.1) (x.2.2.1, 0) B.2.1
  refine ⟨h.gs, h.gok, h.gfew, insK_sorted (fun y : LoH => y.1.1) _ h.ls hno, ?_, ?_, h.stk, ?_, ?_⟩
  ·intro z hz
   rcases List.mem_cons.1 (hpm.mem_iff.1 hz) with rfl | hz
   ·exact ⟨hok, Nat.zero_le _, (show (fG B x.2.2.1.2.1).isSome = true from eq_true_of_ne_false hc)⟩
   ·exact h.lok z hz
  ·show (insK _ _ _).length ≤ 60
   rw [hpm.length_eq, List.length_cons]
   omega
  ·intro z hz
   rw [hL]
   split
   ·rfl
   ·exact h.known z hz
  ·intro z hz
   have hz0 : ofM B.2.2 x.2.2.1.1 = 0 := ofM_zero fun u hu e => by
    obtain ⟨v, hv⟩ := Option.isSome_iff_exists.1 (h.known u hu)
    obtain ⟨v1, v2⟩ := fL_mem hv
    exact hno v v1 (v2.trans e)
   rw [← h.pac z hz]
   refine congrArg Nat.cast ?_
   show ((((insK (fun y : LoH => y.1.1) (x.2.2.1, 0) B.2.1).filter fun u => decide (u.1.2.1 = z.1.1)).map fun u => ofM B.2.2 u.1.1).sum) = _
   rw [hasL_perm (fun i => ofM B.2.2 i) z.1.1 hpm]
   by_cases hcz : x.2.2.1.2.1 = z.1.1
   ·rw [List.filter_cons_of_pos (by simpa using hcz), List.map_cons, List.sum_cons]
    simp only
    rw [hz0, Nat.zero_add]
    rfl
   ·rw [List.filter_cons_of_neg (by simpa using hcz)]
    rfl
 ·rw [if_neg hk1, if_neg hk2] at he ⊢
  obtain ⟨-, -, -, hn, -, -⟩ := pieces_zero hok
  exact h.pieces (by omega) he
theorem BkI.all {B : BkV} (h : BkI B) (l : List EntV) : BkI (doAll B l) := by
 unfold doAll
 induction l generalizing B with
 |nil => exact h
 |cons x r ih => exact ih (h.do_ x)
end Go.Proofs.YtchiojiicehpeaaGreatDoor
