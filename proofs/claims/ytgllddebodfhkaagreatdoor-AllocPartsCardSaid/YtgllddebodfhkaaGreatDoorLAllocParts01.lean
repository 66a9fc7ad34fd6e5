/- Two orders, one behind the other, plainly. No program in sight. What the law on two orders asks, plainly. No program in sight. The program's book: Same of two books that are the same but for the order of their stocks' rows. The law AllocParts, walked. Printed by gen/aparts.py. The twelve sentinels together. -/
import Derived.Test.YtgllddebodfhkaaGreatDoorM39
import Derived.Test.YtgllddebodfhkaaGreatDoorM40
import Derived.Test.YtgllddebodfhkaaGreatDoorM41
import Derived.Test.YtgllddebodfhkaaGreatDoorM44
import Derived.Test.YtgllddebodfhkaaGreatDoorM45
import Derived.Test.YtgllddebodfhkaaGreatDoorM49
import Derived.Test.YtgllddebodfhkaaGreatDoorM50
namespace Go.Proofs.YtgllddebodfhkaaGreatDoor
open Go.RowKit Go.Sort Go.Proofs

/-- Pieces of a lot at places: of lines, of a stock. -/
def lineS (S : PlaceV → Bool) (id : List UInt8) : List LineV → Int
  | [] => 0
  | x :: r => (if x.2.1 = id ∧ S x.1 = true then x.2.2 else 0) + lineS S id r
def stkS (S : PlaceV → Bool) (id : List UInt8) : StkV → Int
  | [] => 0
  | z :: r => (if z.1.2 = id ∧ S z.1.1 = true then (z.2 : Int) else 0) + stkS S id r
theorem lineS_perm (S : PlaceV → Bool) (id : List UInt8) {a b : List LineV} (h : a.Perm b) : lineS S id a = lineS S id b := by
  induction h with
  | nil => rfl
  | cons x _ ih => simp only [lineS]; rw [ih]
  | swap x y l => simp only [lineS]; omega
  | trans _ _ h1 h2 => exact h1.trans h2
theorem stkS_perm (S : PlaceV → Bool) (id : List UInt8) {a b : StkV} (h : a.Perm b) : stkS S id a = stkS S id b := by
  induction h with
  | nil => rfl
  | cons x _ ih => simp only [stkS]; rw [ih]
  | swap x y l => simp only [stkS]; omega
  | trans _ _ h1 h2 => exact h1.trans h2
theorem lineS_stk (S : PlaceV → Bool) (id : List UInt8) (m : StkV) : lineS S id (linesM m) = stkS S id m := by
  rw [lineS_perm S id (lines_perm m)]
  induction m with
  | nil => rfl
  | cons z r ih =>
    rw [List.map_cons]
    simp only [lineS, stkS]
    rw [ih]
    rfl
theorem lineS_zero (S : PlaceV → Bool) (id : List UInt8) : ∀ ls : List LineV, (∀ x ∈ ls, x.2.1 = id → S x.1 = false) → lineS S id ls = 0
  | [], _ => rfl
  | x :: r, h => by
    have h1 := h x List.mem_cons_self
    have h2 := lineS_zero S id r fun y hy => h y (List.mem_cons_of_mem _ hy)
    simp only [lineS]
    rw [h2, if_neg (fun h => by rw [h1 h.1] at h; simp at h)]
    rfl
theorem lineS_nonneg (S : PlaceV → Bool) (id : List UInt8) : ∀ ls : List LineV, (∀ x ∈ ls, 1 ≤ x.2.2) → 0 ≤ lineS S id ls
  | [], _ => Int.le_refl _
  | x :: r, h => by
    have h1 := h x List.mem_cons_self
    have h2 := lineS_nonneg S id r fun y hy => h y (List.mem_cons_of_mem _ hy)
    simp only [lineS]
    split <;> omega
/-- Picks at the first of the lot's places. -/
theorem picks_first (S : PlaceV → Bool) (id : List UInt8) : ∀ (ls : List LineV) (n : Int), (∀ x ∈ ls, 1 ≤ x.2.2) → 0 ≤ n → (ls.Pairwise fun x y => x.2.1 = id → y.2.1 = id → S y.1 = true → S x.1 = true) →
    amtS S id (picksF ls id n).1 = min n (lineS S id ls)
  | [], n, _, hn, _ => by
    show (0 : Int) = min n 0
    omega
  | x :: r, n, h, hn, hs => by
    have hx := h x List.mem_cons_self
    have hr : ∀ y ∈ r, 1 ≤ y.2.2 := fun y hy => h y (List.mem_cons_of_mem _ hy)
    obtain ⟨hs1, hs2⟩ := List.pairwise_cons.1 hs
    have hnn := lineS_nonneg S id r hr
    rw [picksF_cons]
    simp only [lineS]
    by_cases hc : x.2.1 = id
    · by_cases hS : S x.1 = true
      · by_cases hp : 0 < n
        · rw [if_pos ⟨hc, hp⟩, if_pos ⟨hc, hS⟩]
          have := picks_first S id r (n - min n x.2.2) hr (by omega) hs2
          simp only [amtS]
          rw [if_pos ⟨trivial, hS⟩, this]
          omega
        · rw [if_neg (fun h => hp h.2), if_pos ⟨hc, hS⟩, picksF_none _ _ (by omega)]
          show (0 : Int) = _
          omega
      · have hz : ∀ y ∈ r, y.2.1 = id → S y.1 = false := fun y hy he => by
          cases hv : S y.1 with
          | false => rfl
          | true => exact absurd (hs1 y hy hc he hv) hS
        have hpz : amtS S id (picksF (x :: r) id n).1 = 0 := amtS_zero S id _ fun z hz2 he => by
          obtain ⟨-, -, y, hy, h3, h4, -⟩ := picks_mem id (x :: r) _ h z hz2
          rw [← h3]
          rcases List.mem_cons.1 hy with rfl | hy
          · simpa using hS
          · exact hz y hy h4
        rw [picksF_cons] at hpz
        rw [hpz, lineS_zero S id r hz, if_neg (fun h => hS h.2)]
        omega
    · rw [if_neg (fun h => hc h.1), if_neg (fun h => hc h.1)]
      rw [picks_first S id r n hr hn hs2]
      omega
/-- The places ahead of one; those up to it. -/
def aheadS (p : PlaceV) (q : PlaceV) : Bool := ltOf cfPlace q p
def uptoS (p : PlaceV) (q : PlaceV) : Bool := !ltOf cfPlace p q
theorem amtS_upto (p : PlaceV) (id : List UInt8) : ∀ l : List PickV, amtS (uptoS p) id l = amtS (aheadS p) id l + amtS (fun q => decide (q = p)) id l
  | [] => rfl
  | x :: r => by
    have ih := amtS_upto p id r
    simp only [amtS]
    rw [ih]
    have hp : ∀ a b : PlaceV, cfPlace a b = 0 → a = b := fun a b h => ((cfLine_zero (a, [], 0) (b, [], 0)).1 (by
      unfold cfLine orL orL orL
      simp [h, (cmpB_eq [] []).2 rfl])).1
    by_cases hi : x.2.1 = id
    · cases h1 : ltOf cfPlace x.1 p with
      | true =>
        have h2 : ltOf cfPlace p x.1 = false := by
          cases h3 : ltOf cfPlace p x.1 with
          | false => rfl
          | true => exact absurd (likePlace.swo.trans _ _ _ h1 h3) (by rw [likePlace.swo.irrefl]; simp)
        have h4 : ¬ x.1 = p := fun e => by rw [e, likePlace.swo.irrefl] at h1; cases h1
        rw [if_pos ⟨hi, by unfold uptoS; rw [h2]; rfl⟩, if_pos ⟨hi, h1⟩, if_neg (fun h => h4 (of_decide_eq_true h.2))]
        omega
      | false =>
        cases h2 : ltOf cfPlace p x.1 with
        | true =>
          have h4 : ¬ x.1 = p := fun e => by rw [e, likePlace.swo.irrefl] at h2; cases h2
          rw [if_neg (fun h => by have := h.2; unfold uptoS at this; rw [h2] at this; cases this), if_neg (fun h => by have := h.2; unfold aheadS at this; rw [h1] at this; cases this), if_neg (fun h => h4 (of_decide_eq_true h.2))]
          omega
        | false =>
          have h4 : x.1 = p := hp _ _ (ltOf_both likePlace h1 h2)
          rw [if_pos ⟨hi, by unfold uptoS; rw [h2]; rfl⟩, if_neg (fun h => by have := h.2; unfold aheadS at this; rw [h1] at this; cases this), if_pos ⟨hi, decide_eq_true h4⟩]
          omega
    · rw [if_neg (fun h => hi h.1), if_neg (fun h => hi h.1), if_neg (fun h => hi h.1)]
      omega
theorem StkI.downA {m : StkV} (h : StkI m) (id : List UInt8) (p : PlaceV) : (linesM m).Pairwise fun x y => x.2.1 = id → y.2.1 = id → aheadS p y.1 = true → aheadS p x.1 = true :=
  h.strict.imp fun {_ _} hxy e1 e2 hy => likePlace.swo.trans _ _ _ (cfLine_same hxy (e1.trans e2.symm)) hy
theorem StkI.downU {m : StkV} (h : StkI m) (id : List UInt8) (p : PlaceV) : (linesM m).Pairwise fun x y => x.2.1 = id → y.2.1 = id → uptoS p y.1 = true → uptoS p x.1 = true :=
  h.strict.imp fun {x y} hxy e1 e2 hy => by
    unfold uptoS at *
    cases h3 : ltOf cfPlace p x.1 with
    | false => rfl
    | true =>
      rw [likePlace.swo.trans _ _ _ h3 (cfLine_same hxy (e1.trans e2.symm))] at hy
      cases hy

/-! What is taken of a stock. -/
theorem stk_split {m : StkV} (hn : (m.map (·.1)).Nodup) (k : KeyV) (S : PlaceV → Bool) (id : List UInt8) : stkS S id m = (if k.2 = id ∧ S k.1 = true then (atM m k : Int) else 0) + stkS S id (mdel m k) := by
  cases hk : mget m k with
  | none =>
    have h1 : atM m k = 0 := by unfold atM; rw [hk]; rfl
    have h2 : mdel m k = m := by
      unfold mdel
      refine List.filter_eq_self.2 fun z hz => ?_
      have := (mem_mget hn (k := z.1) (v := z.2)).1 hz
      have : z.1 ≠ k := fun e => by rw [e, hk] at this; cases this
      simpa using this
    rw [h1, h2]
    split <;> simp
  | some v =>
    have h1 : atM m k = v := by unfold atM; rw [hk]; rfl
    have hm : (k, v) ∈ m := (mem_mget hn).2 hk
    have hp : m.Perm ((k, v) :: mdel m k) := by
      have h2 := mput_perm k v hn
      have h3 : mput m k v = m := by
        clear h2 hn hm h1
        induction m with
        | nil => simp [mget] at hk
        | cons z r ih =>
          unfold mput
          unfold mget at hk
          by_cases hz : z.1 = k
          · rw [if_pos hz] at hk ⊢
            rw [← hz, ← Option.some.inj hk]
          · rw [if_neg hz] at hk ⊢
            rw [ih hk]
      rwa [h3] at h2
    rw [stkS_perm S id hp]
    simp only [stkS]
    rw [h1]
theorem stk_take {m : StkV} (hI : StkI m) {p : PlaceV} {l : List UInt8} {n : Int} (h : takeE m p l n = 0) (S : PlaceV → Bool) (id : List UInt8) :
    stkS S id (takeM m p l n) = stkS S id m - if l = id ∧ S p = true then n else 0 := by
  obtain ⟨h1, h2, h3⟩ := takeE_zero h
  have h4 := at_take h (p, l)
  rw [if_pos rfl] at h4
  have hn2 := (hI.take p l n).nodup
  rw [stk_split hI.nodup (p, l) S id, stk_split hn2 (p, l) S id, h4]
  have h5 : mdel (takeM m p l n) (p, l) = mdel m (p, l) := by
    unfold takeM
    rw [if_pos h]
    split
    · rw [mdel_put]
      unfold mdel
      rw [List.filter_filter]
      simp
    · exact mdel_put _ _ _
  rw [h5]
  simp only
  split <;> omega
/-- What is taken of the stock at places, as a plan goes. -/
theorem go_stk (code : List UInt8) (S : PlaceV → Bool) (id : List UInt8) : ∀ (p : List PickV) {B : BkV}, BkI B → CanGo B code p → stkS S id (doAll B (p.map goE)).2.2 = stkS S id B.2.2 - amtS S id p
  | [], B, _, _ => by
    show stkS S id B.2.2 = stkS S id B.2.2 - 0
    omega
  | x :: r, B, hI, h => by
    obtain ⟨h1, h2, h3⟩ := h.first hI
    have ih := go_stk code S id r h2.inv (h.next h3 h2)
    have e : (doB B (goE x)).2.2 = takeM B.2.2 x.1 x.2.1 x.2.2 ∧ takeE B.2.2 x.1 x.2.1 x.2.2 = 0 := by
      have hpc : pcE B (goE x) = 0 := by
        unfold doE at h1
        rw [if_neg (show ¬ (goE x).1 = kGoods by show ¬ kOut = kGoods; decide), if_neg (show ¬ (goE x).1 = kLot by show ¬ kOut = kLot; decide)] at h1
        split at h1
        · rename_i h0
          exact absurd h1 h0
        · exact h1
      obtain ⟨y, -, ha, -⟩ := pc_zero hpc
      have hactE : actE B.2.2 (goE x) = takeE B.2.2 x.1 x.2.1 x.2.2 := by
        unfold actE
        rw [if_neg (by show ¬ (kOut = kIn ∨ kOut = kMore); decide), if_pos (show (goE x).1 = kOut ∨ (goE x).1 = kLess from Or.inl rfl)]
        rfl
      rw [hactE] at ha
      refine ⟨?_, ha⟩
      unfold doB
      rw [if_neg (by rw [h1]; simp), if_neg (by show ¬ kOut = kGoods; decide), if_neg (by show ¬ kOut = kLot; decide)]
      show actM B.2.2 (goE x) = _
      unfold actM
      rw [if_neg (by show ¬ (kOut = kIn ∨ kOut = kMore); decide), if_pos (show (goE x).1 = kOut ∨ (goE x).1 = kLess from Or.inl rfl)]
      rfl
    show stkS S id (doAll (doB B (goE x)) (r.map goE)).2.2 = _
    rw [ih, e.1, stk_take hI.stk e.2]
    simp only [amtS]
    omega
/-- Of each lot two orders, one behind the other, take as many as one order of both. -/
theorem parts_lot {B C : BkV} (hI : BkI B) (hC : BkI C) (day : Int) : ∀ (ls : List LotV) (a b : Int), 0 ≤ a → 0 ≤ b → (ls.Pairwise fun a b : LotV => a.1 ≠ b.1) → (∀ l ∈ ls, looseB C l.1 = looseB B l.1 - amtP l.1 (planTo B day a ls).1) →
    ∀ l ∈ ls, amtP l.1 (planTo B day (a + b) ls).1 = amtP l.1 (planTo B day a ls).1 + amtP l.1 (planTo C day b ls).1
  | [], _, _, _, _, _, _, l, hl => by cases hl
  | x :: r, a, b, ha, hb, hd, hc, l, hl => by
    have h1 := hI.loose x.1
    have h2 := hC.loose x.1
    obtain ⟨hd1, hd2⟩ := List.pairwise_cons.1 hd
    have hap : ∀ y ∈ r, y.1 ≠ x.1 := fun y hy => Ne.symm (hd1 y hy)
    have hhead : ∀ {D : BkV} (hD : BkI D) (n : Int), 0 ≤ n → amtP x.1 (planTo D day n (x :: r)).1 = if day ≤ x.2.2.1 then min n (looseB D x.1) else 0 := fun {D} hD n hn => by
      have h1 := hD.loose x.1
      have hm : 0 ≤ (if day ≤ x.2.2.1 then n - min n (looseB D x.1) else n) := by split <;> omega
      unfold amtP
      rw [plan_head hD day n hn (fun _ => true) x r hap fun z hz => by
        obtain ⟨-, -, l', hl', c, -⟩ := plan_mem hD day r _ hm z hz
        exact ⟨l', hl', c⟩]
      split
      · refine (amtP_own x.1 _ fun z hz => (picks_mem x.1 (linesM D.2.2) _ hD.stk.ones z hz).1).trans ?_
        rw [picks_sum, hD.left0 x.1 _ (by omega) (by omega), Int.sub_zero]
      · rfl
    have hx := hc x List.mem_cons_self
    rw [hhead hI a ha] at hx
    rcases List.mem_cons.1 hl with rfl | hl
    · rw [hhead hI _ (by omega), hhead hI _ ha, hhead hC _ hb]
      split
      · rename_i hg
        rw [if_pos hg] at hx
        omega
      · rfl
    · have ht : ∀ {D : BkV} (hD : BkI D) (n : Int), 0 ≤ n → ∀ l ∈ r, amtP l.1 (planTo D day n (x :: r)).1 = amtP l.1 (planTo D day (if day ≤ x.2.2.1 then n - min n (looseB D x.1) else n) r).1 :=
        fun hD n hn l hl => plan_tail hD day n hn _ x r l.1 (hap l hl)
      rw [ht hI _ (by omega) l hl, ht hI _ ha l hl, ht hC _ hb l hl]
      have ih := parts_lot hI hC day r (if day ≤ x.2.2.1 then a - min a (looseB B x.1) else a) (if day ≤ x.2.2.1 then b - min b (looseB C x.1) else b) (by split <;> omega) (by split <;> omega) hd2 (fun l hl => by
        rw [hc l (List.mem_cons_of_mem _ hl), ht hI _ ha l hl]) l hl
      rw [← ih]
      by_cases hg : day ≤ x.2.2.1
      · simp only [if_pos hg] at hx ⊢
        rw [show a + b - min (a + b) (looseB B x.1) = a - min a (looseB B x.1) + (b - min b (looseB C x.1)) by omega]
      · simp only [if_neg hg]
theorem min_two (a b x : Int) (_ha : 0 ≤ a) (hb : 0 ≤ b) (_hx : 0 ≤ x) : min (a + b) x = min a x + min b (x - min a x) := by omega
theorem parts_key {B : BkV} (hI : BkI B) (code : List UInt8) (a b day : Int) (ha : 0 ≤ a) (hb : 0 ≤ b) (hg : CanGo B code (planF B code a day).1) (k : KeyV) :
    amtK k (planF B code (a + b) day).1 = amtK k (planF B code a day).1 + amtK k (planF (doAll B ((planF B code a day).1.map goE)) code b day).1 := by
  obtain ⟨-, hw⟩ := CanGo.all _ hI hg
  have hst := fun S id => go_stk code S id _ hI hg
  obtain ⟨C, hCd⟩ : ∃ C, C = doAll B ((planF B code a day).1.map goE) := ⟨_, rfl⟩
  rw [← hCd] at hw hst ⊢
  have hC := hw.inv
  obtain ⟨-, -, k3, k4⟩ := hw.known
  unfold planF at *
  rw [k3]
  have hap := hI.lots_apart code
  generalize lotsB B code = ls at *
  by_cases hk : ∃ l ∈ ls, l.1 = k.2
  · obtain ⟨l, hl, hlk⟩ := hk
    have hsum := parts_lot hI hC day ls a b ha hb hap (fun l _ => k4 l.1) l hl
    obtain ⟨k0, p0, -, q0, r0⟩ := plan_lot hI day ls (a + b) (by omega) hap l hl
    obtain ⟨k1, p1, -, q1, r1⟩ := plan_lot hI day ls a ha hap l hl
    obtain ⟨k2, p2, -, q2, r2⟩ := plan_lot hC day ls b hb hap l hl
    rw [q0, q1, q2] at hsum
    have hS : ∀ S : PlaceV → Bool, (∀ m : StkV, StkI m → (linesM m).Pairwise fun x y => x.2.1 = l.1 → y.2.1 = l.1 → S y.1 = true → S x.1 = true) →
        amtS S l.1 (planTo B day (a + b) ls).1 = amtS S l.1 (planTo B day a ls).1 + amtS S l.1 (planTo C day b ls).1 := fun S hd => by
      have e0 := picks_first S l.1 (linesM B.2.2) k0 hI.stk.ones p0 (hd _ hI.stk)
      have e1 := picks_first S l.1 (linesM B.2.2) k1 hI.stk.ones p1 (hd _ hI.stk)
      have e2 := picks_first S l.1 (linesM C.2.2) k2 hC.stk.ones p2 (hd _ hC.stk)
      have e3 := hst S l.1
      have n0 := lineS_nonneg S l.1 (linesM B.2.2) hI.stk.ones
      rw [lineS_stk] at e0 e1 e2 n0
      rw [r1, e1] at e3
      rw [r0, r1, r2, e0, e1, e2, e3, hsum]
      exact min_two _ _ _ p1 p2 n0
    have u := hS (uptoS k.1) fun m hm => hm.downU l.1 k.1
    have v := hS (aheadS k.1) fun m hm => hm.downA l.1 k.1
    rw [amtS_upto, amtS_upto, amtS_upto] at u
    unfold amtK
    rw [← hlk]
    omega
  · have hn : ∀ l ∈ ls, l.1 ≠ k.2 := fun l hl e => hk ⟨l, hl, e⟩
    unfold amtK
    rw [plan_none hI day _ (by omega) ls k.2 hn, plan_none hI day _ ha ls k.2 hn, plan_none hC day _ hb ls k.2 hn]
    rfl
/-- The book behind one order of both is that behind the two. -/
theorem parts_plain {B : BkV} (hI : BkI B) (code : List UInt8) (a b day : Int) (ha : 0 ≤ a) (hb : 0 ≤ b) (hg : CanGo B code (planF B code (a + b) day).1) (hg1 : CanGo B code (planF B code a day).1)
    (hg2 : CanGo (doAll B ((planF B code a day).1.map goE)) code (planF (doAll B ((planF B code a day).1.map goE)) code b day).1) (hgs : (fG B code).isSome = true) (hs : allP (planF B code (a + b) day).1 = a + b) (hs1 : allP (planF B code a day).1 = a)
    (hs2 : allP (planF (doAll B ((planF B code a day).1.map goE)) code b day).1 = b) :
    BkEq (doAll B ((planF B code (a + b) day).1.map goE)) (doAll (doAll B ((planF B code a day).1.map goE)) ((planF (doAll B ((planF B code a day).1.map goE)) code b day).1.map goE)) := by
  obtain ⟨-, w0⟩ := CanGo.all _ hI hg
  obtain ⟨-, w1⟩ := CanGo.all _ hI hg1
  obtain ⟨-, w2⟩ := CanGo.all _ w1.inv hg2
  have w := w1.trans hgs w2
  have hk := parts_key hI code a b day ha hb hg1
  rw [hs1, hs2] at w
  rw [hs] at w0
  refine ⟨w0.goods.trans w.goods.symm, w0.lots.trans w.lots.symm, lines_permE w0.inv.stk (perm_ext w0.inv.stk w.inv.stk fun k => ?_)⟩
  have h1 := w0.at_ k
  have h2 := w.at_ k
  unfold amtK at hk h1 h2
  rw [amtS_app] at h2
  have h3 := hk k
  omega
end Go.Proofs.YtgllddebodfhkaaGreatDoor
namespace Go.Proofs.YtgllddebodfhkaaGreatDoor
open Go.RowKit Go.Sort Go.Proofs

theorem BkI.parts_law {B : BkV} (hI : BkI B) {code : List UInt8} {a b day : Int} (ha : 1 ≤ a) (hb : 1 ≤ b) (h : planE B code (a + b) day = 0) (hr : (sumsOf B code).2.1 + (a + b) ≤ mostS) :
    planE B code a day = 0 ∧ planE (doAll B ((planL B code a day).map goE)) code b day = 0 ∧ allOk B ((planL B code (a + b) day).map goE) ∧ allOk B ((planL B code a day).map goE) ∧
    allOk (doAll B ((planL B code a day).map goE)) ((planL (doAll B ((planL B code a day).map goE)) code b day).map goE) ∧ BkI (doAll B ((planL B code a day).map goE)) ∧
    BkEq (doAll B ((planL B code (a + b) day).map goE)) (doAll (doAll B ((planL B code a day).map goE)) ((planL (doAll B ((planL B code a day).map goE)) code b day).map goE)) := by
  obtain ⟨h1, h2, h3, h4, hg, h5⟩ := planE_zero h
  have e1 : planE B code a day = 0 := planE_ok ha (by omega) h3 h4 hg (by omega)
  obtain ⟨c0, o0, w0, f0⟩ := hI.plan_goes h hr
  obtain ⟨c1, o1, w1, f1⟩ := hI.plan_goes e1 (by omega)
  obtain ⟨s1, s2⟩ := sums_setG w1.goods hg
  have e2 : planE (doAll B ((planL B code a day).map goE)) code b day = 0 := planE_ok hb (by omega) h3 h4 s2 (by omega)
  obtain ⟨c2, o2, w2, f2⟩ := w1.inv.plan_goes e2 (by rw [s1]; simp only; omega)
  refine ⟨e1, e2, o0, o1, o2, w1.inv, ?_⟩
  have a0 := hI.plan_adds h
  have a1 := hI.plan_adds e1
  have a2 := w1.inv.plan_adds e2
  rw [planL_is h] at c0 a0 ⊢
  rw [planL_is e2] at c2 a2 ⊢
  rw [planL_is e1] at c1 c2 a1 a2 ⊢
  exact parts_plain hI code a b day (by omega) (by omega) c0 c1 c2 hg a0 a1 a2
end Go.Proofs.YtgllddebodfhkaaGreatDoor
namespace Go.Proofs.YtgllddebodfhkaaGreatDoor
open Go.RowKit Go.Sort Go.Proofs

theorem sameEq_any (E : Nat → Addr) {p p2 : Nat} {F F2 : List Nat} {B C : BkV} {w : World} (H : BookIs w p F B) (H2 : BookIs w p2 F2 C) (hI : BkI B) (hI2 : BkI C) (hq : BkEq B C) (hG : PlaceG E w) :
    Calls Tryz.prog 32 #[.pointer (some ⟨p, 0, none⟩), .pointer (some ⟨p2, 0, none⟩)] w fun e w' => e = .returned (.bool true) ∧ Below w.heap.size w w' := by
  obtain ⟨g, l, h, s, q, c, -, -, hm⟩ := H
  obtain ⟨g2, l2, h2, s2, q2, c2, -, -, hm2⟩ := H2
  obtain ⟨e0, e1, e2, e3, e4⟩ := hq.maps
  exact sameM_any E hm hm2 hI hI2 hG e0 e1 e2 e3 e4
end Go.Proofs.YtgllddebodfhkaaGreatDoor
namespace Go.Proofs.YtgllddebodfhkaaGreatDoor
open Go.RowKit Go.Sort Go.Proofs

set_option maxHeartbeats 1600000 in
set_option maxRecDepth 100000 in
theorem allocParts_out (E : Nat → Addr) (A0 : Option Addr) (cap0 : Nat) (xs0 : List EntV) (code : List UInt8) (a b day : Int) (w : World) (hG : BkG E w) (hX0 : RowAt encEnt 14 w A0 xs0)
    (h : longL xs0 40 = 1 ∨ (longL xs0 40 = 0 ∧ (30 < code.length ∨ (code.length ≤ 30 ∧ (a < 1 ∨ (¬ a < 1 ∧ (b < 1 ∨ (¬ b < 1 ∧ (549755813888 < a ∨ (¬ 549755813888 < a ∧ 549755813888 < b)))))))))) :
    Calls Tryz.prog 5 #[.slice A0 xs0.length cap0, .string ⟨code.toArray⟩, .int .i64 a, .int .i64 b, .int .i64 day] w fun e w' => e = .returned (.bool true) ∧ Below w.heap.size w w' := by
  have HC := Lib.hid (planned_any E w hG)
  have HL := Lib.hid (fun W (hb : Below w.heap.size w W) => longEntries_any A0 cap0 xs0 40 W (by decide) (hX0.below hb))
  clear hG hX0
  rcases h with h | ⟨h, h2⟩
  · rw [h] at HL
    clear h
    go_enter Tryz.func5, Tryz.ntmps5
    go_wp2_with fail
    refine HC.out.mono ?_
    rintro e w1 ⟨rfl, b1⟩
    have B1 := Lib.hid b1
    clear b1
    go_wp2_with fail
    refine (HL.out w1 B1.out).mono ?_
    rintro e w2 ⟨rfl, b2⟩
    have B2 := Lib.hid (B1.out.trans (b2.mono B1.out.size))
    clear b2
    go_wp2_with fail
    go_ret
    exact ⟨rfl, B2.out⟩
  · rw [h] at HL
    clear h
    rcases h2 with hc | ⟨hc, h2⟩
    · have hc1 : (30 : Int) < (code.length : Nat) := by omega
      clear hc
      go_enter Tryz.func5, Tryz.ntmps5
      go_wp2_with fail
      refine HC.out.mono ?_
      rintro e w1 ⟨rfl, b1⟩
      have B1 := Lib.hid b1
      clear b1
      go_wp2_with fail
      refine (HL.out w1 B1.out).mono ?_
      rintro e w2 ⟨rfl, b2⟩
      have B2 := Lib.hid (B1.out.trans (b2.mono B1.out.size))
      clear b2
      go_wp2_with fail
      go_ret
      exact ⟨rfl, B2.out⟩
    · have hc1 : ¬ (30 : Int) < (code.length : Nat) := by omega
      clear hc
      rcases h2 with h2 | ⟨g1, h2 | ⟨g2, h2 | ⟨g3, h2⟩⟩⟩
      all_goals
        go_enter Tryz.func5, Tryz.ntmps5
        go_wp2_with fail
        refine HC.out.mono ?_
        rintro e w1 ⟨rfl, b1⟩
        have B1 := Lib.hid b1
        clear b1
        go_wp2_with fail
        refine (HL.out w1 B1.out).mono ?_
        rintro e w2 ⟨rfl, b2⟩
        have B2 := Lib.hid (B1.out.trans (b2.mono B1.out.size))
        clear b2
        go_wp2_with fail
        go_ret
        exact ⟨rfl, B2.out⟩
set_option maxHeartbeats 6400000 in
set_option maxRecDepth 100000 in
theorem allocParts_in (E : Nat → Addr) (A0 : Option Addr) (cap0 : Nat) (xs0 : List EntV) (code : List UInt8) (a b day : Int) (w : World) (hG : BkTxG E w) (hE : ErrG E w) (hX0 : RowAt encEnt 14 w A0 xs0) (h : longL xs0 40 = 0) (hc : code.length ≤ 30) (ha : 1 ≤ a) (hb : 1 ≤ b) (ha2 : a ≤ 549755813888) (hb2 : b ≤ 549755813888) :
    Calls Tryz.prog 5 #[.slice A0 xs0.length cap0, .string ⟨code.toArray⟩, .int .i64 a, .int .i64 b, .int .i64 day] w fun e w' => e = .returned (.bool true) ∧ Below w.heap.size w w' := by
  have HC := Lib.hid (planned_any E w hG.bk)
  have HL := Lib.hid (fun W (hb : Below w.heap.size w W) => longEntries_any A0 cap0 xs0 40 W (by decide) (hX0.below hb))
  rw [h] at HL
  obtain ⟨s1, s2⟩ := longL_short h
  have hsh : ∀ x ∈ xs0, ShortE x := fun x hx => longN_ShortE (s2 x hx)
  have HBO := Lib.hid (fun W (hb : Below w.heap.size w W) => bookOf_any E A0 cap0 xs0 W (hX0.below hb) (by omega) hsh (hG.bk.below hb) (hE.below hb))
  have hI := BkI.all BkI.nil xs0
  have hroom := outs_all code xs0 BkI.nil
  have hz : (sumsOf bk0 code).2.1 = 0 := rfl
  generalize doAll bk0 xs0 = B at HBO hI hroom
  have hr : (sumsOf B code).2.1 + (a + b) ≤ mostS := by unfold mostS; omega
  have HPA := Lib.hid (fun (h : planE B code (a + b) day = 0) => hI.parts_law ha hb h hr)
  have HSG := Lib.hid (fun (C : BkV) (hI : BkI C) (n : Int) (h : planE C code n day = 0) (hr : (sumsOf C code).2.1 + n ≤ mostS) => short_goE hI (hI.plan_goes h hr).1)
  have HRM := Lib.hid (fun (h : planE B code a day = 0) => show (sumsOf (doAll B ((planL B code a day).map goE)) code).2.1 + b ≤ mostS by
    obtain ⟨-, -, w1, -⟩ := hI.plan_goes h (by omega)
    rw [(sums_setG w1.goods (planE_zero h).2.2.2.2.1).1]
    simp only
    omega)
  have hr1 : (sumsOf B code).2.1 + a ≤ mostS := by omega
  have HRA := Lib.hid hr1
  have HR0 := Lib.hid hr
  have HI := Lib.hid hI
  have HG := Lib.hid (fun W (hb : Below w.heap.size w W) => hG.below hb)
  have HX := Lib.hid (fun p F W (hb : Below w.heap.size w W) (H : BookIs W p F B) => planAl_any E H hI code (a + b) day (hG.bk.below hb))
  have hwr : IntKind.i64.wrap (a + b) = a + b := wrap_small (by omega) (by omega)
  have hc1 : ¬ (30 : Int) < (code.length : Nat) := by omega
  have g1 : ¬ a < 1 := by omega
  have g2 : ¬ b < 1 := by omega
  have g3 : ¬ 549755813888 < a := by omega
  have g4 : ¬ 549755813888 < b := by omega
  clear hG hE hX0 h s1 s2 hsh hI hc hroom hz hr hr1 ha hb ha2 hb2
  go_enter Tryz.func5, Tryz.ntmps5
  go_wp2_with fail
  refine HC.out.mono ?_
  rintro e w1 ⟨rfl, b1⟩
  have B1 := Lib.hid b1
  clear b1 HC
  go_wp2_with fail
  refine (HL.out w1 B1.out).mono ?_
  rintro e w2 ⟨rfl, b2⟩
  have B2 := Lib.hid (B1.out.trans (b2.mono B1.out.size))
  clear b2 HL B1
  go_wp2_with fail
  refine (HBO.out w2 B2.out).mono ?_
  rintro e w3 ⟨p, q, rfl, hbo, b3⟩
  have B3 := Lib.hid (B2.out.trans (b3.mono B2.out.size))
  obtain ⟨F, G, R, hbk, -, hF, -, -⟩ := hbo
  have HBK := Lib.hid hbk
  have HF0 := Lib.hid (fun k (hk : k ∈ F) => And.intro (Nat.le_trans B2.out.size (hF k hk).1) (hbk.lt k hk))
  clear b3 HBO B2 hbk hF hc1 g1 g2 g3 g4
  go_wp2_with fail
  refine (copyBook_any HBK.out).mono ?_
  rintro e w4 ⟨p2, F2, rfl, hc4, hf4, b4⟩
  have B4 := Lib.hid (B3.out.trans (b4.mono B3.out.size))
  have HC4 := Lib.hid hc4
  have HF2 := Lib.hid (fun k (hk : k ∈ F2) => And.intro (hf4 k hk) (hc4.lt k hk))
  have HB4 := Lib.hid (HBK.out.below b4)
  have hs34 := b4.size
  clear b4 HBK hc4 hf4
  go_wp2_with fail
  refine (HX.out p F w4 B4.out HB4.out).mono ?_
  rintro e w5 ⟨A5, c5, rfl, hr5, hf5, b5⟩
  have B5 := Lib.hid (B4.out.trans (b5.mono B4.out.size))
  have HB5 := Lib.hid (HB4.out.below b5)
  have HC5 := Lib.hid (HC4.out.below b5)
  have HR5 := Lib.hid hr5
  have hs45 := b5.size
  clear b5 HB4 HC4 hr5 hf5 HX
  by_cases hpe : planE B code (a + b) day = 0
  case neg =>
    have HPL : Hid (planL B code (a + b) day = []) := by show _ = _; unfold planL; rw [if_neg hpe]
    rw [HPL.out, errOf_pos _ _ hpe]
    clear HPA HSG HRM
    go_wp2_with fail
    go_ret
    exact ⟨rfl, B5.out⟩
  case pos =>
  obtain ⟨e1, e2, o0, o1, o2, hI1, hEq⟩ := HPA.out hpe
  have hsh0 := HSG.out B HI.out (a + b) hpe HR0.out
  have hsh1 := HSG.out B HI.out a e1 HRA.out
  have hsh2 := HSG.out _ hI1 b e2 (HRM.out e1)
  have hln := HI.out.planL_len code (a + b) day
  have hlnA := HI.out.planL_len code a day
  have hlnB := hI1.planL_len code b day
  rw [hpe, errOf_zero]
  obtain ⟨D, hD⟩ : ∃ D : Nat → BkV, D = fun k => if k = 0 then B else if k = 1 then doAll B ((planL B code a day).map goE) else doAll (doAll B ((planL B code a day).map goE)) ((planL (doAll B ((planL B code a day).map goE)) code b day).map goE) := ⟨_, rfl⟩
  obtain ⟨Nn, hNn⟩ : ∃ Nn : Nat → Int, Nn = fun k => if k = 0 then a else b := ⟨_, rfl⟩
  obtain ⟨P, hP⟩ : ∃ P : Nat → List PickV, P = fun k => planL (D k) code (Nn k) day := ⟨_, rfl⟩
  have HD : Hid (∀ k, k < 2 → planE (D k) code (Nn k) day = 0 ∧ D (k + 1) = doAll (D k) ((P k).map goE) ∧ allOk (D k) ((P k).map goE) ∧ BkI (D k) ∧ (∀ x ∈ (P k).map goE, ShortE x) ∧ (P k).length ≤ 12000) := fun k hk => by
    rcases (show k = 0 ∨ k = 1 by omega) with rfl | rfl
    · rw [hP, hD, hNn]
      exact ⟨e1, rfl, o1, HI.out, hsh1, hlnA⟩
    · rw [hP, hD, hNn]
      exact ⟨e2, rfl, o2, hI1, hsh2, hlnB⟩
  have HPD : Hid (∀ k, P k = planL (D k) code (Nn k) day) := fun k => by rw [hP]
  have HD0 : Hid (D 0 = B) := by rw [hD]; rfl
  have HN0 : Hid (Nn 0 = a ∧ Nn 1 = b) := by rw [hNn]; exact ⟨rfl, rfl⟩
  have HEQ : Hid (BkEq (doAll B ((planL B code (a + b) day).map goE)) (D 2) ∧ BkI (doAll B ((planL B code (a + b) day).map goE)) ∧ BkI (D 2)) := by
    refine ⟨?_, HI.out.all _, ?_⟩
    · rw [hD]
      exact hEq
    · rw [hD]
      exact hI1.all _
  have HOK := Lib.hid o0
  have HSH := Lib.hid hsh0
  obtain ⟨L0, hL0⟩ : ∃ L0, L0 = planL B code (a + b) day := ⟨_, rfl⟩
  rw [← hL0] at HR5 HEQ HOK HSH hln ⊢
  clear hpe e1 e2 o0 o1 o2 hI1 hEq hsh0 hsh1 hsh2 hlnA hlnB HPA HSG HRM HR0 HRA hD hNn hP hL0
  go_wp2_with fail
  refine (outAl_any A5 c5 L0 w5 HR5.out (by omega)).mono ?_
  rintro e w6 ⟨A6, c6, rfl, hr6, hf6, b6⟩
  have B6 := Lib.hid (B5.out.trans (b6.mono B5.out.size))
  have HS6 : Hid (Since F w6 p B w6) := Since.start (HB5.out.below b6)
  have HC6 := Lib.hid (HC5.out.below b6)
  have HR6 := Lib.hid hr6
  have HA6 : Hid (∀ a, A6 = some a → a.block ∉ F) := fun a ha hm => by
    have h1 := hf6 a ha
    have h2 := (HF0.out _ hm).2
    omega
  have HF6 : Hid (∀ k ∈ F, w.heap.size ≤ k) := fun k hk => (HF0.out k hk).1
  have hs56 := b6.size
  have HLM : Hid ((L0.map goE).length = L0.length) := List.length_map ..
  obtain ⟨Os, hOs⟩ : ∃ Os, Os = L0.map goE := ⟨_, rfl⟩
  rw [← hOs] at HR6 HOK HSH HEQ HLM
  obtain ⟨N, hN⟩ : ∃ N, N = L0.length := ⟨_, rfl⟩
  rw [← hN] at HLM hln ⊢
  clear b6 hr6 hf6 HB5 HC5 HR5 hOs hN
  go_wp2_with fail
  go_loopw [19] (fun i wr => ∃ k : Nat, k ≤ N ∧ i = .int .i64 k ∧ Hid (Since F w6 p (doAll B (Os.take k)) wr)) (fun i _ => N - (intOf i).toNat)
  case atStart => exact ⟨0, by omega, rfl, HS6.out⟩
  case round =>
    obtain ⟨k, hk, rfl, HS⟩ := hrel
    obtain ⟨wo, rfl⟩ : ∃ wo : World, wo = wr := ⟨_, rfl⟩
    have hlow := HS.out.low B6.out.size HF6.out
    by_cases hkN : k < N
    · have hkx : k < Os.length := by rw [HLM.out]; exact hkN
      obtain ⟨g, o, rfl, lg, cg⟩ := (HR6.out.since HS.out HA6.out).resolve_left (fun h => by rw [h] at hkx; simp at hkx)
      obtain ⟨ok1, ok2⟩ := allOk_at HOK.out k hkx
      have hdo := Since.do_ E Os[k] HS.out (HI.out.all _) (HSH.out _ (List.getElem_mem hkx)) (HG.out wo (B6.out.trans hlow)).bk
      rw [ok1, ← ok2, errOf_zero] at hdo
      have HLZ : Hid (Lies wo g (o + k * 14) (encEnt Os[k])) := fun c v hv => cg k hkx c v hv
      have h14 : (encEnt Os[k]).length = 14 := encEnt_len _
      obtain ⟨LZ, hLZ⟩ : ∃ LZ, LZ = encEnt Os[k] := ⟨_, rfl⟩
      rw [← hLZ] at HLZ h14 hdo
      have HDO := Lib.hid hdo
      have hk0 : (0 : Int) ≤ (k : Nat) := by omega
      have hk1 : ((k : Nat) : Int) < (N : Nat) := by omega
      clear hdo ok1 ok2 cg lg hLZ hlow
      go_wp2_with (refine wpList_load_at rfl 49 _ rfl g (o + k * 14) rfl LZ HLZ.out _ Tryz.underlying49 rfl (by rw [h14]; kernel_rfl) ?_)
      refine HDO.out.mono ?_
      rintro e w7 ⟨rfl, hs7⟩
      have HS7 := Lib.hid hs7
      clear hs7 HDO HLZ
      go_wp2_with fail
      go_roundw
      case rel => exact ⟨k + 1, by omega, by go_num, HS7.out⟩
      case measure => simp [intOf]; omega
    · obtain rfl : k = N := by omega
      have hT : Os.take k = Os := List.take_of_length_le (by rw [HLM.out]; exact Nat.le_refl _)
      have hs := HS.out
      rw [hT] at hs
      have B7 := Lib.hid (B6.out.trans hlow)
      obtain ⟨F7, hb7, hf7, hbut7⟩ := hs
      have hc7 : BookIs wo p2 F2 B := HC6.out.butF hbut7 fun j hj hm => by
        have h1 := (HF2.out j hj).1
        have h2 := (HF0.out j hm).2
        omega
      have hsz7 := hbut7.size
      obtain ⟨w7, hw7⟩ : ∃ w7 : World, w7 = wo := ⟨_, rfl⟩
      rw [← hw7] at B7 hb7 hc7 hsz7 ⊢
      have ba := below_one w7 (.cells #[.int .i64 a, .int .i64 b] 3)
      have HX8 := Lib.hid (hb7.below ba)
      have HS8 : Hid (Since F2 (w7.alloc (.cells #[.int .i64 a, .int .i64 b] 3)) p2 (D 0) (w7.alloc (.cells #[.int .i64 a, .int .i64 b] 3))) := by
        rw [HD0.out]
        exact Since.start (hc7.below ba)
      have HT8 : Hid ((w7.alloc (.cells #[.int .i64 a, .int .i64 b] 3)).heap[w7.heap.size]? = some (.cells #[.int .i64 a, .int .i64 b] 3 (0, 0))) := heap_alloc_new _ _
      have B8 := Lib.hid (B7.out.trans (ba.mono B7.out.size))
      have HF7 : Hid (∀ j ∈ F7, j ∉ F2) := fun j hj hm => by
        have h1 := HF2.out j hm
        rcases hf7 j hj with h | h
        · have := (HF0.out j h).2
          omega
        · omega
      have HF8 : Hid (∀ j ∈ F2, w.heap.size ≤ j) := fun j hj => Nat.le_trans B3.out.size (HF2.out j hj).1
      have HT2 : Hid (w7.heap.size ∉ F2) := fun hm => by
        have := (HF2.out _ hm).2
        omega
      have hs78 := ba.size
      clear hT hlow hb7 hf7 hbut7 hc7 hw7 ba HS HOK HSH HR6 HA6 HS6 HF6 HC6
      go_upto_region 18 with fail
      generalize hW8 : w7.alloc (.cells #[.int .i64 a, .int .i64 b] 3) = W8 at HX8 HS8 HT8 B8 hs78 ⊢
      generalize w7.heap.size = bt at HT8 HT2 hs78 ⊢
      clear hW8
      go_wp2_with fail
      go_loopw [21] (fun i wr => ∃ j : Nat, j ≤ 2 ∧ i = .int .i64 j ∧ Hid (Since F2 W8 p2 (D j) wr)) (fun i _ => 2 - (intOf i).toNat)
      case atStart => exact ⟨0, by omega, rfl, HS8.out⟩
      case round =>
        obtain ⟨j, hj, rfl, HSJ⟩ := hrel
        obtain ⟨wj, hwj⟩ : ∃ wj : World, wj = wr := ⟨_, rfl⟩
        rw [← hwj] at HSJ ⊢
        clear hwj
        have hlow := HSJ.out.low B8.out.size HF8.out
        have BJ := Lib.hid (B8.out.trans hlow)
        by_cases hj2 : j < 2
        · obtain ⟨pe, dn, ok, hIj, hsh, hln⟩ := HD.out j hj2
          obtain ⟨Fj, hbj, hfj, hbutj⟩ := HSJ.out
          have hT9 := (hbutj.block bt (row_lt HT8.out) HT2.out).trans HT8.out
          have cj : wj.cell? ⟨bt, j, none⟩ = some (.int .i64 (Nn j)) := by
            rcases (show j = 0 ∨ j = 1 by omega) with rfl | rfl
            · rw [HN0.out.1]
              exact cell_of_row _ _ _ _ _ _ hT9
            · rw [HN0.out.2]
              exact cell_of_row _ _ _ _ _ _ hT9
          have HBJ := Lib.hid hbj
          have hpl := planAl_any E hbj hIj code (Nn j) day (HG.out wj BJ.out).bk
          rw [pe, ← HPD.out j] at hpl
          have HPLJ := Lib.hid hpl
          have HDN := Lib.hid dn
          have HOK := Lib.hid ok
          have HIJ := Lib.hid hIj
          have HSH := Lib.hid hsh
          have HFJ := Lib.hid (fun k (hk : k ∈ Fj) => hbj.lt k hk)
          have HFJ2 := Lib.hid hfj
          have HBUT := Lib.hid hbutj
          obtain ⟨nj, hnj⟩ : ∃ nj, nj = Nn j := ⟨_, rfl⟩
          rw [← hnj] at cj HPLJ
          have hj0 : (0 : Int) ≤ (j : Nat) := by omega
          have hj1 : ((j : Nat) : Int) < 2 := by omega
          clear hlow hT9 hbj hpl dn ok hIj hsh hfj hbutj hnj pe
          go_wp2_with fail
          refine HPLJ.out.mono ?_
          rintro e w9 ⟨A9, c9, rfl, hr9, -, b9⟩
          rw [errOf_zero]
          have B9 := Lib.hid (BJ.out.trans (b9.mono BJ.out.size))
          have HR9 := Lib.hid hr9
          have HB9 := Lib.hid (HBJ.out.below b9)
          have HBU9 := Lib.hid (HBUT.out.then_below b9)
          have hs9 := b9.size
          clear hr9 b9 HPLJ HBJ HBUT cj
          go_wp2_with fail
          refine (outAl_any A9 c9 (P j) w9 HR9.out (by omega)).mono ?_
          rintro e w10 ⟨A10, c10, rfl, hr10, hf10, b10⟩
          have B10 := Lib.hid (B9.out.trans (b10.mono B9.out.size))
          have HS10 : Hid (Since Fj w10 p2 (D j) w10) := Since.start (HB9.out.below b10)
          have HBU10 := Lib.hid (HBU9.out.then_below b10)
          have HR10 := Lib.hid hr10
          have HA10 : Hid (∀ a, A10 = some a → a.block ∉ Fj) := fun a ha hm => by
            have h1 := hf10 a ha
            have h2 := HFJ.out _ hm
            omega
          have HF10 : Hid (∀ k ∈ Fj, w.heap.size ≤ k) := fun k hk => by
            rcases HFJ2.out k hk with h | h
            · exact HF8.out k h
            · exact Nat.le_trans B8.out.size h
          have HLMJ : Hid (((P j).map goE).length = (P j).length) := List.length_map ..
          obtain ⟨Oj, hOj⟩ : ∃ Oj, Oj = (P j).map goE := ⟨_, rfl⟩
          rw [← hOj] at HR10 HOK HSH HDN HLMJ
          obtain ⟨Nj, hNj⟩ : ∃ Nj, Nj = (P j).length := ⟨_, rfl⟩
          rw [← hNj] at HLMJ hln ⊢
          clear hr10 hf10 b10 HB9 HBU9 HR9 hOj hNj
          go_wp2_with fail
          go_loopw [24] (fun i wr => ∃ m : Nat, m ≤ Nj ∧ i = .int .i64 m ∧ Hid (Since Fj w10 p2 (doAll (D j) (Oj.take m)) wr)) (fun i _ => Nj - (intOf i).toNat)
          case atStart => exact ⟨0, by omega, rfl, HS10.out⟩
          case round =>
            obtain ⟨m, hm, rfl, HSM⟩ := hrel
            obtain ⟨wm, hwm⟩ : ∃ wm : World, wm = wr := ⟨_, rfl⟩
            rw [← hwm] at HSM ⊢
            clear hwm
            have hlow := HSM.out.low B10.out.size HF10.out
            by_cases hmN : m < Nj
            · have hmx : m < Oj.length := by rw [HLMJ.out]; exact hmN
              obtain ⟨g, o, rfl, lg, cg⟩ := (HR10.out.since HSM.out HA10.out).resolve_left (fun h => by rw [h] at hmx; simp at hmx)
              obtain ⟨ok1, ok2⟩ := allOk_at HOK.out m hmx
              have hdo := Since.do_ E Oj[m] HSM.out (HIJ.out.all _) (HSH.out _ (List.getElem_mem hmx)) (HG.out wm (B10.out.trans hlow)).bk
              rw [ok1, ← ok2, errOf_zero] at hdo
              have HLZ : Hid (Lies wm g (o + m * 14) (encEnt Oj[m])) := fun c v hv => cg m hmx c v hv
              have h14 : (encEnt Oj[m]).length = 14 := encEnt_len _
              obtain ⟨LZ, hLZ⟩ : ∃ LZ, LZ = encEnt Oj[m] := ⟨_, rfl⟩
              rw [← hLZ] at HLZ h14 hdo
              have HDO := Lib.hid hdo
              have hm0 : (0 : Int) ≤ (m : Nat) := by omega
              have hm1 : ((m : Nat) : Int) < (Nj : Nat) := by omega
              clear hdo ok1 ok2 cg lg hLZ hlow
              go_wp2_with (refine wpList_load_at rfl 49 _ rfl g (o + m * 14) rfl LZ HLZ.out _ Tryz.underlying49 rfl (by rw [h14]; kernel_rfl) ?_)
              refine HDO.out.mono ?_
              rintro e w11 ⟨rfl, hs11⟩
              have HS11 := Lib.hid hs11
              clear hs11 HDO HLZ
              go_wp2_with fail
              go_roundw
              case rel => exact ⟨m + 1, by omega, by go_num, HS11.out⟩
              case measure => simp [intOf]; omega
            · obtain rfl : m = Nj := by omega
              have hT : Oj.take m = Oj := List.take_of_length_le (by rw [HLMJ.out]; exact Nat.le_refl _)
              have hs := HSM.out
              rw [hT, ← HDN.out] at hs
              have HSN := Lib.hid (hs.trans HBU10.out HFJ2.out)
              clear hT hs hlow HSM
              go_wp2_with fail
              go_roundw
              case rel => exact ⟨j + 1, by omega, by go_num, HSN.out⟩
              case measure => simp [intOf]; omega
        · obtain rfl : j = 2 := by omega
          obtain ⟨Fj, hbj, hfj, hbutj⟩ := HSJ.out
          have hx := HX8.out.butF hbutj HF7.out
          have HSA := Lib.hid (sameEq_any E hx hbj HEQ.out.2.1 HEQ.out.2.2 HEQ.out.1 (HG.out wj BJ.out).text)
          clear hlow hbj hfj hbutj hx
          go_wp2_with fail
          refine HSA.out.mono ?_
          rintro e w12 ⟨rfl, b12⟩
          have B12 := Lib.hid (BJ.out.trans (b12.mono BJ.out.size))
          clear b12
          go_wp2_with fail
          go_ret
          exact ⟨rfl, B12.out⟩
theorem allocParts_walk (E : Nat → Addr) (A0 : Option Addr) (cap0 : Nat) (xs0 : List EntV) (code : List UInt8) (a b day : Int) (w : World) (hG : BkTxG E w) (hE : ErrG E w) (hX0 : RowAt encEnt 14 w A0 xs0) :
    Calls Tryz.prog 5 #[.slice A0 xs0.length cap0, .string ⟨code.toArray⟩, .int .i64 a, .int .i64 b, .int .i64 day] w fun e w' => e = .returned (.bool true) ∧ Below w.heap.size w w' := by
  rcases longL_01 xs0 40 with h | h
  · by_cases hin : code.length ≤ 30 ∧ 1 ≤ a ∧ 1 ≤ b ∧ a ≤ 549755813888 ∧ b ≤ 549755813888
    · exact allocParts_in E A0 cap0 xs0 code a b day w hG hE hX0 h hin.1 hin.2.1 hin.2.2.1 hin.2.2.2.1 hin.2.2.2.2
    · exact allocParts_out E A0 cap0 xs0 code a b day w hG.bk hX0 (.inr ⟨h, by omega⟩)
  · exact allocParts_out E A0 cap0 xs0 code a b day w hG.bk hX0 (.inl h)
theorem allocParts_walkS (E : Nat → Addr) (A0 : Option Addr) (cap0 : Nat) (xs0 : List EntV) (s : ByteArray) (a b day : Int) (w : World) (hG : BkTxG E w) (hE : ErrG E w) (hX0 : RowAt encEnt 14 w A0 xs0) :
    Calls Tryz.prog 5 #[.slice A0 xs0.length cap0, .string s, .int .i64 a, .int .i64 b, .int .i64 day] w fun e w' => e = .returned (.bool true) ∧ Below w.heap.size w w' := by
  have h := allocParts_walk E A0 cap0 xs0 s.data.toList a b day w hG hE hX0
  rw [Array.toArray_toList] at h
  exact h
end Go.Proofs.YtgllddebodfhkaaGreatDoor
namespace Go.Proofs.YtgllddebodfhkaaGreatDoor
open Go.RowKit

/-- The number of a sentinel, by its text. -/
def textNo (l : List UInt8) : Nat :=
  if l = [116, 105, 116, 104, 101, 98, 97, 114, 110, 58, 32, 116, 101, 120, 116] then 1 else
  if l = [116, 105, 116, 104, 101, 98, 97, 114, 110, 58, 32, 98, 111, 117, 110, 100] then 2 else
  if l = [116, 105, 116, 104, 101, 98, 97, 114, 110, 58, 32, 115, 104, 97, 112, 101] then 3 else
  if l = [116, 105, 116, 104, 101, 98, 97, 114, 110, 58, 32, 107, 105, 110, 100] then 4 else
  if l = [116, 105, 116, 104, 101, 98, 97, 114, 110, 58, 32, 110, 97, 109, 101] then 5 else
  if l = [116, 105, 116, 104, 101, 98, 97, 114, 110, 58, 32, 110, 111, 110, 101] then 6 else
  if l = [116, 105, 116, 104, 101, 98, 97, 114, 110, 58, 32, 101, 120, 105, 115, 116] then 7 else
  if l = [116, 105, 116, 104, 101, 98, 97, 114, 110, 58, 32, 102, 117, 108, 108] then 8 else
  if l = [116, 105, 116, 104, 101, 98, 97, 114, 110, 58, 32, 115, 104, 111, 114, 116] then 9 else
  if l = [116, 105, 116, 104, 101, 98, 97, 114, 110, 58, 32, 111, 114, 100, 101, 114] then 10 else
  if l = [116, 105, 116, 104, 101, 98, 97, 114, 110, 58, 32, 115, 116, 97, 116, 101] then 11 else
  if l = [116, 105, 116, 104, 101, 98, 97, 114, 110, 58, 32, 111, 102, 102] then 12 else 0

theorem errG_of {W : World} {a1 a2 a3 a4 a5 a6 a7 a8 a9 a10 a11 a12 : Addr}
    (h1 : Sent 4 a1 [116, 105, 116, 104, 101, 98, 97, 114, 110, 58, 32, 116, 101, 120, 116] W)
    (h2 : Sent 1 a2 [116, 105, 116, 104, 101, 98, 97, 114, 110, 58, 32, 98, 111, 117, 110, 100] W)
    (h3 : Sent 0 a3 [116, 105, 116, 104, 101, 98, 97, 114, 110, 58, 32, 115, 104, 97, 112, 101] W)
    (h4 : Sent 6 a4 [116, 105, 116, 104, 101, 98, 97, 114, 110, 58, 32, 107, 105, 110, 100] W)
    (h5 : Sent 9 a5 [116, 105, 116, 104, 101, 98, 97, 114, 110, 58, 32, 110, 97, 109, 101] W)
    (h6 : Sent 2 a6 [116, 105, 116, 104, 101, 98, 97, 114, 110, 58, 32, 110, 111, 110, 101] W)
    (h7 : Sent 7 a7 [116, 105, 116, 104, 101, 98, 97, 114, 110, 58, 32, 101, 120, 105, 115, 116] W)
    (h8 : Sent 8 a8 [116, 105, 116, 104, 101, 98, 97, 114, 110, 58, 32, 102, 117, 108, 108] W)
    (h9 : Sent 3 a9 [116, 105, 116, 104, 101, 98, 97, 114, 110, 58, 32, 115, 104, 111, 114, 116] W)
    (h10 : Sent 5 a10 [116, 105, 116, 104, 101, 98, 97, 114, 110, 58, 32, 111, 114, 100, 101, 114] W)
    (h11 : Sent 10 a11 [116, 105, 116, 104, 101, 98, 97, 114, 110, 58, 32, 115, 116, 97, 116, 101] W)
    (h12 : Sent 11 a12 [116, 105, 116, 104, 101, 98, 97, 114, 110, 58, 32, 111, 102, 102] W)
    (hty : W.cell? ⟨12, 0, none⟩ = some (.iface 240 (.agg #[.pointer (some ⟨21, 31, none⟩)]))) :
    ErrG (fun k => if k = 1 then a1 else if k = 2 then a2 else if k = 3 then a3 else if k = 4 then a4 else if k = 5 then a5 else if k = 6 then a6 else if k = 7 then a7 else if k = 8 then a8 else if k = 9 then a9 else if k = 10 then a10 else if k = 11 then a11 else a12) W := by
  refine ⟨?_, ?_, ?_, hty⟩
  · intro k k1 k2
    rcases (show k = 1 ∨ k = 2 ∨ k = 3 ∨ k = 4 ∨ k = 5 ∨ k = 6 ∨ k = 7 ∨ k = 8 ∨ k = 9 ∨ k = 10 ∨ k = 11 ∨ k = 12 by omega) with rfl | rfl | rfl | rfl | rfl | rfl | rfl | rfl | rfl | rfl | rfl | rfl
    · exact h1.at_
    · exact h2.at_
    · exact h3.at_
    · exact h4.at_
    · exact h5.at_
    · exact h6.at_
    · exact h7.at_
    · exact h8.at_
    · exact h9.at_
    · exact h10.at_
    · exact h11.at_
    · exact h12.at_
  · intro k k1 k2
    rcases (show k = 1 ∨ k = 2 ∨ k = 3 ∨ k = 4 ∨ k = 5 ∨ k = 6 ∨ k = 7 ∨ k = 8 ∨ k = 9 ∨ k = 10 ∨ k = 11 ∨ k = 12 by omega) with rfl | rfl | rfl | rfl | rfl | rfl | rfl | rfl | rfl | rfl | rfl | rfl
    · exact h1.row
    · exact h2.row
    · exact h3.row
    · exact h4.row
    · exact h5.row
    · exact h6.row
    · exact h7.row
    · exact h8.row
    · exact h9.row
    · exact h10.row
    · exact h11.row
    · exact h12.row
  · have T : ∀ k, 1 ≤ k → k ≤ 12 → ∃ g l, Sent g ((fun k => if k = 1 then a1 else if k = 2 then a2 else if k = 3 then a3 else if k = 4 then a4 else if k = 5 then a5 else if k = 6 then a6 else if k = 7 then a7 else if k = 8 then a8 else if k = 9 then a9 else if k = 10 then a10 else if k = 11 then a11 else a12) k) l W ∧ textNo l = k := by
      intro k k1 k2
      rcases (show k = 1 ∨ k = 2 ∨ k = 3 ∨ k = 4 ∨ k = 5 ∨ k = 6 ∨ k = 7 ∨ k = 8 ∨ k = 9 ∨ k = 10 ∨ k = 11 ∨ k = 12 by omega) with rfl | rfl | rfl | rfl | rfl | rfl | rfl | rfl | rfl | rfl | rfl | rfl
      · exact ⟨_, _, h1, by decide⟩
      · exact ⟨_, _, h2, by decide⟩
      · exact ⟨_, _, h3, by decide⟩
      · exact ⟨_, _, h4, by decide⟩
      · exact ⟨_, _, h5, by decide⟩
      · exact ⟨_, _, h6, by decide⟩
      · exact ⟨_, _, h7, by decide⟩
      · exact ⟨_, _, h8, by decide⟩
      · exact ⟨_, _, h9, by decide⟩
      · exact ⟨_, _, h10, by decide⟩
      · exact ⟨_, _, h11, by decide⟩
      · exact ⟨_, _, h12, by decide⟩
    intro i j i1 i2 j1 j2 he
    obtain ⟨g, l, s, e⟩ := T i i1 i2
    obtain ⟨g', l', s', e'⟩ := T j j1 j2
    rcases Decidable.em (l = l') with hl | hl
    · rw [← e, ← e', hl]
    · exact absurd he (sent_ne s s' hl)
end Go.Proofs.YtgllddebodfhkaaGreatDoor
