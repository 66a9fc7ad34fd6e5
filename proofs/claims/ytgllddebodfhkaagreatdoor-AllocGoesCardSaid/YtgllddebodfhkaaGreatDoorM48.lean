/- Picks in memory. Which pieces, plainly: a lot's picks, a plan, what is free. No program in sight. Which pieces: a lot's picks; loose ones; what is free. -/
import Derived.Test.YtgllddebodfhkaaGreatDoorM07
import Derived.Test.YtgllddebodfhkaaGreatDoorM09
import Derived.Test.YtgllddebodfhkaaGreatDoorM10
import Derived.Test.YtgllddebodfhkaaGreatDoorM13
import Derived.Test.YtgllddebodfhkaaGreatDoorM23
import Derived.Test.YtgllddebodfhkaaGreatDoorM24
import Derived.Test.YtgllddebodfhkaaGreatDoorM32
import Derived.Test.YtgllddebodfhkaaGreatDoorM44
namespace Go.Proofs.YtgllddebodfhkaaGreatDoor
open Go.RowKit Go.Sort Go.Proofs

/-- A pick: its place, its lot, how many pieces. -/
abbrev PickV := PlaceV × List UInt8 × Int
def encPick (x : PickV) : List Value := [.string ⟨x.1.1.toArray⟩, .int .i64 x.1.2.1, .int .i64 x.1.2.2, .string ⟨x.2.1.toArray⟩, .int .i64 x.2.2]
theorem encPick_len (x : PickV) : (encPick x).length = 5 := rfl
theorem encPick_one (x : PickV) : ∀ v ∈ encPick x, v.oneCell' = true := fun v hv => by
  simp [encPick] at hv
  rcases hv with rfl | rfl | rfl | rfl | rfl <;> rfl
end Go.Proofs.YtgllddebodfhkaaGreatDoor
namespace Go.Proofs.YtgllddebodfhkaaGreatDoor
open Go.RowKit Go.Sort Go.Proofs

/-- Picks of a lot out of lines: so many at most; what is left of these. -/
def pickStep (id : List UInt8) (s : List PickV × Int) (x : LineV) : List PickV × Int :=
  if x.2.1 = id ∧ 0 < s.2 then (s.1 ++ [(x.1, id, min s.2 x.2.2)], s.2 - min s.2 x.2.2) else s
def picksF (ls : List LineV) (id : List UInt8) (n : Int) : List PickV × Int := ls.foldl (pickStep id) ([], n)
theorem picksF_take (ls : List LineV) (id : List UInt8) (n : Int) (k : Nat) (h : k < ls.length) : picksF (ls.take (k + 1)) id n = pickStep id (picksF (ls.take k) id n) ls[k] := by
  unfold picksF
  rw [List.take_succ_eq_append_getElem h, List.foldl_append]
  rfl
theorem pickStep_pre (id : List UInt8) (a : List PickV) (s : List PickV × Int) (x : LineV) : pickStep id (a ++ s.1, s.2) x = (a ++ (pickStep id s x).1, (pickStep id s x).2) := by
  unfold pickStep
  split
  · simp only [List.append_assoc]
  · rfl
theorem picks_pre (id : List UInt8) : ∀ (ls : List LineV) (a : List PickV) (s : List PickV × Int), ls.foldl (pickStep id) (a ++ s.1, s.2) = (a ++ (ls.foldl (pickStep id) s).1, (ls.foldl (pickStep id) s).2)
  | [], _, _ => rfl
  | x :: r, a, s => by
    rw [List.foldl_cons, List.foldl_cons, pickStep_pre]
    exact picks_pre id r a (pickStep id s x)
theorem picksF_cons (x : LineV) (ls : List LineV) (id : List UInt8) (n : Int) :
    picksF (x :: ls) id n = if x.2.1 = id ∧ 0 < n then ((x.1, id, min n x.2.2) :: (picksF ls id (n - min n x.2.2)).1, (picksF ls id (n - min n x.2.2)).2) else picksF ls id n := by
  unfold picksF
  rw [List.foldl_cons]
  by_cases h : x.2.1 = id ∧ 0 < n
  · rw [if_pos h, pickStep, if_pos (show x.2.1 = id ∧ 0 < (([], n) : List PickV × Int).2 from h)]
    exact picks_pre id ls [(x.1, id, min n x.2.2)] ([], n - min n x.2.2)
  · rw [if_neg h, pickStep, if_neg (show ¬ (x.2.1 = id ∧ 0 < (([], n) : List PickV × Int).2) from h)]
theorem picks_left (id : List UInt8) : ∀ (ls : List LineV) (n : Int), (∀ x ∈ ls, 0 ≤ x.2.2) → 0 ≤ n → (picksF ls id n).2 = n - min n (ofL ls id) ∧ 0 ≤ ofL ls id
  | [], n, _, hn => by
    show n = n - min n 0 ∧ (0 : Int) ≤ 0
    omega
  | x :: r, n, h, hn => by
    have hx := h x List.mem_cons_self
    have hr : ∀ y ∈ r, 0 ≤ y.2.2 := fun y hy => h y (List.mem_cons_of_mem _ hy)
    rw [picksF_cons]
    simp only [ofL]
    by_cases hc : x.2.1 = id
    · rw [if_pos hc]
      by_cases hp : 0 < n
      · rw [if_pos ⟨hc, hp⟩]
        obtain ⟨h1, h2⟩ := picks_left id r (n - min n x.2.2) hr (by omega)
        simp only
        omega
      · rw [if_neg (fun h => hp h.2)]
        obtain ⟨h1, h2⟩ := picks_left id r n hr hn
        omega
    · rw [if_neg hc, if_neg (fun h => hc h.1)]
      obtain ⟨h1, h2⟩ := picks_left id r n hr hn
      omega
theorem picks_len (id : List UInt8) : ∀ (ls : List LineV) (n : Int), (picksF ls id n).1.length ≤ ls.length
  | [], _ => Nat.le_refl _
  | x :: r, n => by
    rw [picksF_cons]
    split
    · have := picks_len id r (n - min n x.2.2)
      simp only [List.length_cons]
      omega
    · have := picks_len id r n
      simp only [List.length_cons]
      omega
theorem picksF_none (id : List UInt8) (n : Int) (h : n ≤ 0) : ∀ ls : List LineV, picksF ls id n = ([], n)
  | [] => rfl
  | x :: r => by
    rw [picksF_cons, if_neg (fun h' => by omega)]
    exact picksF_none id n h r

/-- Pieces of a lot that are not held. -/
def looseB (B : BkV) (id : List UInt8) : Int := (ofM B.2.2 id : Int) - heldOf B id
theorem BkI.loose {B : BkV} (h : BkI B) (id : List UInt8) : 0 ≤ looseB B id ∧ looseB B id ≤ (ofM B.2.2 id : Int) ∧ (ofM B.2.2 id : Int) ≤ 1099511627776 ∧ (heldOf B id : Int) ≤ (ofM B.2.2 id : Int) := by
  have h0 := h.stk.few id
  have h1 : heldOf B id ≤ ofM B.2.2 id := by
    unfold heldOf
    cases hf : fL B id with
    | none => exact Nat.zero_le _
    | some y =>
      obtain ⟨h1, h2⟩ := fL_mem hf
      have := (h.lok y h1).2.1
      rw [h2] at this
      exact this
  unfold looseB
  omega
/-- A plan: lot by lot. -/
def planStep (B : BkV) (day : Int) (s : List PickV × Int) (l : LotV) : List PickV × Int :=
  if day ≤ l.2.2.1 then (s.1 ++ (picksF (linesM B.2.2) l.1 (min s.2 (looseB B l.1))).1, s.2 - (min s.2 (looseB B l.1) - (picksF (linesM B.2.2) l.1 (min s.2 (looseB B l.1))).2)) else s
def planTo (B : BkV) (day n : Int) (ls : List LotV) : List PickV × Int := ls.foldl (planStep B day) ([], n)
def planF (B : BkV) (code : List UInt8) (n day : Int) : List PickV × Int := planTo B day n (lotsB B code)
theorem planTo_take (B : BkV) (day n : Int) (ls : List LotV) (k : Nat) (h : k < ls.length) : planTo B day n (ls.take (k + 1)) = planStep B day (planTo B day n (ls.take k)) ls[k] := by
  unfold planTo
  rw [List.take_succ_eq_append_getElem h, List.foldl_append]
  rfl
theorem planStep_pre (B : BkV) (day : Int) (a : List PickV) (s : List PickV × Int) (x : LotV) : planStep B day (a ++ s.1, s.2) x = (a ++ (planStep B day s x).1, (planStep B day s x).2) := by
  unfold planStep
  split
  · rw [List.append_assoc]
  · rfl
theorem plan_pre (B : BkV) (day : Int) : ∀ (ls : List LotV) (a : List PickV) (s : List PickV × Int), ls.foldl (planStep B day) (a ++ s.1, s.2) = (a ++ (ls.foldl (planStep B day) s).1, (ls.foldl (planStep B day) s).2)
  | [], _, _ => rfl
  | x :: r, a, s => by
    rw [List.foldl_cons, List.foldl_cons, planStep_pre]
    exact plan_pre B day r a (planStep B day s x)
/-- Of a lot's pieces that are not held none is left behind. -/
theorem BkI.left0 {B : BkV} (h : BkI B) (id : List UInt8) (n : Int) (h0 : 0 ≤ n) (hn : n ≤ looseB B id) : (picksF (linesM B.2.2) id n).2 = 0 := by
  have h1 := (picks_left id (linesM B.2.2) n (lines_pos _) h0).1
  have h2 := h.loose id
  rw [of_lines] at h1
  omega
theorem BkI.step {B : BkV} (h : BkI B) (day : Int) (s : List PickV × Int) (l : LotV) (h0 : 0 ≤ s.2) :
    planStep B day s l = if day ≤ l.2.2.1 then (s.1 ++ (picksF (linesM B.2.2) l.1 (min s.2 (looseB B l.1))).1, s.2 - min s.2 (looseB B l.1)) else s := by
  have h1 := h.loose l.1
  unfold planStep
  split
  · rw [h.left0 l.1 (min s.2 (looseB B l.1)) (by omega) (by omega), Int.sub_zero]
  · rfl
theorem planTo_cons (B : BkV) (hI : BkI B) (day n : Int) (hn : 0 ≤ n) (l : LotV) (ls : List LotV) :
    planTo B day n (l :: ls) = if day ≤ l.2.2.1 then ((picksF (linesM B.2.2) l.1 (min n (looseB B l.1))).1 ++ (planTo B day (n - min n (looseB B l.1)) ls).1, (planTo B day (n - min n (looseB B l.1)) ls).2) else planTo B day n ls := by
  unfold planTo
  rw [List.foldl_cons, hI.step day ([], n) l hn]
  split
  · simp only [List.nil_append]
    have := plan_pre B day ls (picksF (linesM B.2.2) l.1 (min n (looseB B l.1))).1 ([], n - min n (looseB B l.1))
    simpa using this
  · rfl
theorem planTo_in {B : BkV} (hI : BkI B) (day : Int) : ∀ (ls : List LotV) (n : Int), 0 ≤ n → 0 ≤ (planTo B day n ls).2 ∧ (planTo B day n ls).2 ≤ n
  | [], n, hn => ⟨hn, Int.le_refl _⟩
  | x :: r, n, hn => by
    have h1 := hI.loose x.1
    rw [planTo_cons B hI day n hn]
    split
    · have := planTo_in hI day r (n - min n (looseB B x.1)) (by omega)
      simp only
      omega
    · exact planTo_in hI day r n hn
theorem planTo_len {B : BkV} (hI : BkI B) (day : Int) : ∀ (ls : List LotV) (n : Int), 0 ≤ n → (planTo B day n ls).1.length ≤ ls.length * 200
  | [], _, _ => Nat.le_refl _
  | x :: r, n, hn => by
    have h1 := hI.loose x.1
    have h2 := picks_len x.1 (linesM B.2.2) (min n (looseB B x.1))
    have h3 := hI.stk.well.few
    rw [linesM_len] at h2
    rw [planTo_cons B hI day n hn]
    split
    · have := planTo_len hI day r (n - min n (looseB B x.1)) (by omega)
      simp only [List.length_append, List.length_cons]
      omega
    · have := planTo_len hI day r n hn
      simp only [List.length_cons]
      omega
/-- Free pieces of goods, on a day: lot by lot. -/
def freeTo (B : BkV) (day : Int) : List LotV → Int
  | [] => 0
  | l :: r => (if day ≤ l.2.2.1 then looseB B l.1 else 0) + freeTo B day r
def freeB (B : BkV) (code : List UInt8) (day : Int) : Int := freeTo B day (lotsB B code)
theorem freeTo_app (B : BkV) (day : Int) (r : List LotV) : ∀ a : List LotV, freeTo B day (a ++ r) = freeTo B day a + freeTo B day r
  | [] => by simp [freeTo]
  | x :: a => by
    rw [List.cons_append]
    simp only [freeTo]
    rw [freeTo_app B day r a]
    omega
theorem freeTo_take (B : BkV) (day : Int) (ls : List LotV) (k : Nat) (h : k < ls.length) : freeTo B day (ls.take (k + 1)) = freeTo B day (ls.take k) + if day ≤ ls[k].2.2.1 then looseB B ls[k].1 else 0 := by
  rw [List.take_succ_eq_append_getElem h, freeTo_app]
  simp [freeTo]
theorem freeTo_in {B : BkV} (hI : BkI B) (day : Int) : ∀ ls : List LotV, 0 ≤ freeTo B day ls ∧ freeTo B day ls ≤ ls.length * 1099511627776
  | [] => by simp [freeTo]
  | x :: r => by
    have h1 := hI.loose x.1
    have h2 := freeTo_in hI day r
    simp only [freeTo, List.length_cons]
    split <;> omega
theorem freeTo_perm (B : BkV) (day : Int) {a b : List LotV} (h : a.Perm b) : freeTo B day a = freeTo B day b := by
  induction h with
  | nil => rfl
  | cons x _ ih => simp only [freeTo]; rw [ih]
  | swap x y l => simp only [freeTo]; omega
  | trans _ _ h1 h2 => exact h1.trans h2
/-- What is left of an order is what is not free. -/
theorem planTo_left {B : BkV} (hI : BkI B) (day : Int) : ∀ (ls : List LotV) (n : Int), 0 ≤ n → (planTo B day n ls).2 = n - min n (freeTo B day ls)
  | [], n, hn => by
    show n = n - min n 0
    omega
  | x :: r, n, hn => by
    have h1 := hI.loose x.1
    have h2 := freeTo_in hI day r
    rw [planTo_cons B hI day n hn]
    simp only [freeTo]
    split
    · have := planTo_left hI day r (n - min n (looseB B x.1)) (by omega)
      simp only
      omega
    · rw [planTo_left hI day r n hn]
      omega
theorem planTo_done {B : BkV} (hI : BkI B) (day n : Int) (a b : List LotV) (_h0 : 0 ≤ n) (h : (planTo B day n a).2 = 0) : planTo B day n (a ++ b) = planTo B day n a := by
  have h1 : planTo B day n (a ++ b) = b.foldl (planStep B day) (planTo B day n a) := List.foldl_append ..
  rw [h1]
  generalize planTo B day n a = s at h ⊢
  clear h1
  induction b generalizing s with
  | nil => rfl
  | cons x r ih =>
    rw [List.foldl_cons]
    have hs : planStep B day s x = s := by
      have h2 := hI.loose x.1
      rw [hI.step day s x (by omega)]
      split
      · rw [picksF_none _ _ (by omega), List.append_nil, show s.2 - min s.2 (looseB B x.1) = s.2 by omega]
      · rfl
    rw [hs]
    exact ih s h
/-- The error of an order. -/
def planE (B : BkV) (code : List UInt8) (n day : Int) : Nat :=
  if wiB n 1 1099511627776 = false ∨ wiB day 0 100000 = false then 2 else if (fG B code).isSome = false then 6 else if freeB B code day < n then 9 else 0
def planL (B : BkV) (code : List UInt8) (n day : Int) : List PickV := if planE B code n day = 0 then (planF B code n day).1 else []
theorem planE_tw (B : BkV) (code : List UInt8) (n day : Int) : planE B code n day ≤ 12 := by
  unfold planE
  repeat' split
  all_goals omega
theorem BkI.has_most {B : BkV} (hI : BkI B) (c : List UInt8) : hasOf B c ≤ 4611686018427387904 := by
  cases h : fG B c with
  | none =>
    have h0 : hasOf B c = 0 := by
      unfold hasOf
      rw [List.filter_eq_nil_iff.2]
      · rfl
      · intro y hy hc
        have := (hI.lok y hy).2.2
        rw [show y.1.2.1 = c by simpa using hc, h] at this
        cases this
    omega
  | some x =>
    have h1 := hI.pac x (find_mem (fun y : GoS => y.1.1) h).1
    have h2 := (hI.gok x (find_mem (fun y : GoS => y.1.1) h).1).2
    rw [(find_mem (fun y : GoS => y.1.1) h).2] at h1
    unfold OkS mostS at h2
    omega
theorem BkI.lots60 {B : BkV} (h : BkI B) (c : List UInt8) : (lotsB B c).length ≤ 60 := by
  have h1 := List.length_filter_le (fun x : LoH => decide (x.1.2.1 = c)) B.2.1
  have h2 := h.lfew
  unfold lotsB
  rw [(Stab.srt_perm _ _).length_eq, List.length_map]
  omega
theorem planE_zero {B : BkV} {code : List UInt8} {n day : Int} (h : planE B code n day = 0) : 1 ≤ n ∧ n ≤ 1099511627776 ∧ 0 ≤ day ∧ day ≤ 100000 ∧ (fG B code).isSome = true ∧ n ≤ freeB B code day := by
  unfold planE wiB at h
  split at h
  · cases h
  rename_i h1
  split at h
  · cases h
  rename_i h2
  split at h
  · cases h
  rename_i h3
  simp only [decide_eq_false_iff_not] at h1
  exact ⟨by omega, by omega, by omega, by omega, (by cases hv : (fG B code).isSome with | true => rfl | false => exact absurd hv h2), by omega⟩
theorem BkI.planL_len {B : BkV} (hI : BkI B) (code : List UInt8) (n day : Int) : (planL B code n day).length ≤ 12000 := by
  unfold planL
  split
  · rename_i h
    have h1 := planTo_len hI day (lotsB B code) n (by have := planE_zero h; omega)
    have h2 := hI.lots60 code
    unfold planF
    omega
  · exact Nat.zero_le _

/-! The document's plan. -/
def refStep (id : List UInt8) (s : List PickV × Int × Int) (x : LineV) : List PickV × Int × Int :=
  if x.2.1 = id ∧ 0 < min (min x.2.2 s.2.1) s.2.2 then (s.1 ++ [(x.1, id, min (min x.2.2 s.2.1) s.2.2)], s.2.1 - min (min x.2.2 s.2.1) s.2.2, s.2.2 - min (min x.2.2 s.2.1) s.2.2) else s
def refPicks (ls : List LineV) (id : List UInt8) (s : List PickV × Int × Int) : List PickV × Int × Int := ls.foldl (refStep id) s
theorem refPicks_take (ls : List LineV) (id : List UInt8) (s : List PickV × Int × Int) (k : Nat) (h : k < ls.length) : refPicks (ls.take (k + 1)) id s = refStep id (refPicks (ls.take k) id s) ls[k] := by
  unfold refPicks
  rw [List.take_succ_eq_append_getElem h, List.foldl_append]
  rfl
theorem refPicks_is (id : List UInt8) : ∀ (ls : List LineV) (out : List PickV) (may n : Int), (∀ x ∈ ls, 1 ≤ x.2.2) → 0 ≤ may → 0 ≤ n →
    refPicks ls id (out, may, n) = (out ++ (picksF ls id (min n may)).1, may - (min n may - (picksF ls id (min n may)).2), n - (min n may - (picksF ls id (min n may)).2))
  | [], out, may, n, _, _, _ => by
    show (out, may, n) = (out ++ [], may - (min n may - min n may), n - (min n may - min n may))
    rw [List.append_nil, Int.sub_self, Int.sub_zero, Int.sub_zero]
  | x :: r, out, may, n, h, hm, hn => by
    have hx := h x List.mem_cons_self
    have hr : ∀ y ∈ r, 1 ≤ y.2.2 := fun y hy => h y (List.mem_cons_of_mem _ hy)
    show refPicks r id (refStep id (out, may, n) x) = _
    rw [picksF_cons]
    unfold refStep
    by_cases hc : x.2.1 = id ∧ 0 < min n may
    · rw [if_pos hc, if_pos ⟨hc.1, by have := hc.2; simp only; omega⟩]
      have e : min (min x.2.2 may) n = min (min n may) x.2.2 := by omega
      simp only [e]
      rw [refPicks_is id r _ _ _ hr (by omega) (by omega)]
      have e2 : min (n - min (min n may) x.2.2) (may - min (min n may) x.2.2) = min n may - min (min n may) x.2.2 := by omega
      rw [e2]
      refine Prod.ext ?_ (Prod.ext ?_ ?_)
      · simp
      · simp only; omega
      · simp only; omega
    · rw [if_neg hc, if_neg (fun h => hc ⟨h.1, by have := h.2; simp only at this; omega⟩)]
      exact refPicks_is id r out may n hr hm hn
theorem BkI.refStep_plan {B : BkV} (hI : BkI B) (day : Int) (s : List PickV × Int) (l : LotV) (h0 : 0 ≤ s.2) (hd : day ≤ l.2.2.1) :
    planStep B day s l = ((refPicks (linesM B.2.2) l.1 (s.1, looseB B l.1, s.2)).1, (refPicks (linesM B.2.2) l.1 (s.1, looseB B l.1, s.2)).2.2) := by
  have h1 := hI.loose l.1
  rw [refPicks_is l.1 _ _ _ _ (fun x hx => (hI.stk.well.lines x hx).2.2.1) h1.1 h0]
  unfold planStep
  rw [if_pos hd]
theorem refPicks_in (id : List UInt8) : ∀ (ls : List LineV) (s : List PickV × Int × Int), (∀ x ∈ ls, 0 ≤ x.2.2) → 0 ≤ s.2.1 → 0 ≤ s.2.2 →
    0 ≤ (refPicks ls id s).2.1 ∧ (refPicks ls id s).2.1 ≤ s.2.1 ∧ 0 ≤ (refPicks ls id s).2.2 ∧ (refPicks ls id s).2.2 ≤ s.2.2 ∧ (refPicks ls id s).1.length ≤ s.1.length + ls.length
  | [], s, _, h1, h2 => ⟨h1, Int.le_refl _, h2, Int.le_refl _, Nat.le_refl _⟩
  | x :: r, s, h, h1, h2 => by
    have hx := h x List.mem_cons_self
    have hr : ∀ y ∈ r, 0 ≤ y.2.2 := fun y hy => h y (List.mem_cons_of_mem _ hy)
    have hs : 0 ≤ (refStep id s x).2.1 ∧ (refStep id s x).2.1 ≤ s.2.1 ∧ 0 ≤ (refStep id s x).2.2 ∧ (refStep id s x).2.2 ≤ s.2.2 ∧ (refStep id s x).1.length ≤ s.1.length + 1 := by
      unfold refStep
      split
      · simp only [List.length_append, List.length_cons, List.length_nil]
        omega
      · omega
    have := refPicks_in id r (refStep id s x) hr hs.1 hs.2.2.1
    show 0 ≤ (refPicks r id (refStep id s x)).2.1 ∧ (refPicks r id (refStep id s x)).2.1 ≤ s.2.1 ∧ 0 ≤ (refPicks r id (refStep id s x)).2.2 ∧ (refPicks r id (refStep id s x)).2.2 ≤ s.2.2 ∧ (refPicks r id (refStep id s x)).1.length ≤ s.1.length + (x :: r).length
    rw [List.length_cons]
    omega
/-- What is free, lot by lot as the document has them. -/
def freeH (B : BkV) (code : List UInt8) (day : Int) : List LoH → Int
  | [] => 0
  | y :: r => (if y.1.2.1 = code ∧ day ≤ y.1.2.2.1 then (ofM B.2.2 y.1.1 : Int) - y.2 else 0) + freeH B code day r
theorem freeH_app (B : BkV) (code : List UInt8) (day : Int) (r : List LoH) : ∀ a : List LoH, freeH B code day (a ++ r) = freeH B code day a + freeH B code day r
  | [] => by simp [freeH]
  | x :: a => by
    rw [List.cons_append]
    simp only [freeH]
    rw [freeH_app B code day r a]
    omega
theorem freeH_take (B : BkV) (code : List UInt8) (day : Int) (ls : List LoH) (k : Nat) (h : k < ls.length) : freeH B code day (ls.take (k + 1)) = freeH B code day (ls.take k) + if ls[k].1.2.1 = code ∧ day ≤ ls[k].1.2.2.1 then (ofM B.2.2 ls[k].1.1 : Int) - ls[k].2 else 0 := by
  rw [List.take_succ_eq_append_getElem h, freeH_app]
  simp [freeH]
theorem BkI.freeH_is {B : BkV} (h : BkI B) (code : List UInt8) (day : Int) : freeH B code day B.2.1 = freeB B code day := by
  unfold freeB lotsB
  rw [freeTo_perm B day (Stab.srt_perm _ _)]
  have : ∀ l : List LoH, (∀ y ∈ l, y ∈ B.2.1) → freeH B code day l = freeTo B day ((l.filter fun x : LoH => decide (x.1.2.1 = code)).map fun x : LoH => x.1) := by
    intro l
    induction l with
    | nil => intro _; rfl
    | cons y r ih =>
      intro hy
      have ih := ih fun z hz => hy z (List.mem_cons_of_mem _ hz)
      have hf := h.fL_is (hy y List.mem_cons_self)
      simp only [freeH]
      rw [ih]
      by_cases hc : y.1.2.1 = code
      · rw [List.filter_cons_of_pos (by simpa using hc), List.map_cons]
        simp only [freeTo, looseB, heldOf, hf, hc, true_and]
      · rw [List.filter_cons_of_neg (by simpa using hc), if_neg (fun h => hc h.1), Int.zero_add]
  exact this _ fun _ h => h
theorem freeH_in {B : BkV} (code : List UInt8) (day : Int) (hI : BkI B) : ∀ l : List LoH, (∀ y ∈ l, y ∈ B.2.1) → 0 ≤ freeH B code day l ∧ freeH B code day l ≤ l.length * 1099511627776
  | [], _ => by simp [freeH]
  | y :: r, hy => by
    have h1 := freeH_in code day hI r fun z hz => hy z (List.mem_cons_of_mem _ hz)
    have h2 := (hI.lok y (hy y List.mem_cons_self)).2.1
    have h3 := hI.stk.few y.1.1
    simp only [freeH, List.length_cons]
    split <;> omega
end Go.Proofs.YtgllddebodfhkaaGreatDoor
namespace Go.Proofs.YtgllddebodfhkaaGreatDoor
open Go.RowKit Go.Sort Go.Proofs

theorem pickInfo1 : (Tryz.prog.info? 42).map (fun i => (i.zero, i.size, i.bytes)) = some (some (.agg #[.string ⟨#[]⟩, .int .i64 0, .int .i64 0, .string ⟨#[]⟩, .int .i64 0]), 5, 56) := by kernel_rfl
theorem linesStock_P {q c : Nat} {m : StkV} (hI : StkI m) (w : World) (h : StkP w q c m) :
    Calls Tryz.prog 37 #[.pointer (some ⟨q, 0, none⟩)] w fun e w' => ∃ A cap, e = .returned (.slice A m.length cap) ∧ RowAt encLine 5 w' A (linesM m) ∧ (∀ a, A = some a → w.heap.size ≤ a.block) ∧ Below w.heap.size w w' := by
  obtain ⟨m', h1, h2⟩ := h
  have hI' := hI.perm h2.symm
  refine (linesStock_any q c m' w h1 hI'.well.inPs (by have := hI'.well.few; omega)).mono ?_
  rintro e w' ⟨A, cap, he, hr, hf, hb⟩
  exact ⟨A, cap, by rw [he, h2.length_eq], by rw [← lines_permE hI' h2]; exact hr, hf, hb⟩
theorem Lies.head {w : World} {b o : Nat} {a r : List Value} (h : Lies w b o (a ++ r)) : Lies w b o a := fun j v hv => h j v (by rw [List.getElem?_append_left (List.getElem?_eq_some_iff.1 hv).1]; exact hv)
theorem picks_in (id : List UInt8) (ls : List LineV) (n : Int) (h : ∀ x ∈ ls, 0 ≤ x.2.2) (hn : 0 ≤ n) : 0 ≤ (picksF ls id n).2 ∧ (picksF ls id n).2 ≤ n := by
  have h1 := picks_left id ls n h hn
  omega

set_option maxHeartbeats 1600000 in
set_option maxRecDepth 100000 in
theorem picksAl_any {q c : Nat} {m : StkV} (hI : StkI m) (id : List UInt8) (n : Int) (hn : 0 ≤ n) (hn1 : n ≤ 1099511627776) (w : World) (h : StkP w q c m) :
    Calls Tryz.prog 50 #[.pointer (some ⟨q, 0, none⟩), .string ⟨id.toArray⟩, .int .i64 n] w fun e w' => ∃ A cap, e = .returned (.tuple #[.slice A (picksF (linesM m) id n).1.length cap, .int .i64 (picksF (linesM m) id n).2]) ∧ RowAt encPick 5 w' A (picksF (linesM m) id n).1 ∧ (∀ a, A = some a → w.heap.size ≤ a.block) ∧ Below w.heap.size w w' := by
  obtain ⟨i0, hi, hz0, hz1, hz2⟩ := info_parts pickInfo1
  have HL := Lib.hid (linesStock_P hI w h)
  obtain ⟨LL, hLL⟩ : ∃ LL, LL = linesM m := ⟨_, rfl⟩
  have hpos : ∀ x ∈ LL, 1 ≤ x.2.2 ∧ x.2.2 ≤ 1099511627776 := by rw [hLL]; exact fun x hx => ⟨(hI.well.lines x hx).2.2.1, (hI.well.lines x hx).2.2.2⟩
  have hN2 : LL.length = m.length := by rw [hLL, linesM_len]
  have HPIN := Lib.hid (fun k => picks_in id (LL.take k) n (fun x hx => by have := (hpos x (List.mem_of_mem_take hx)).1; omega) hn)
  have HPT := Lib.hid (picksF_take LL id n)
  have HPL := Lib.hid (fun k => Nat.le_trans (picks_len id (LL.take k) n) (List.length_take_le' _ _))
  have HPOS := Lib.hid hpos
  rw [← hLL] at HL ⊢
  obtain ⟨N, hN⟩ : ∃ N, N = LL.length := ⟨_, rfl⟩
  have HN := Lib.hid hN
  have hNf : N ≤ 200 := by rw [hN, hN2]; exact hI.well.few
  rw [← hN2, ← hN] at HL
  rw [← hN] at HPL
  clear hI h hLL hpos hN hN2
  go_enter Tryz.func50, Tryz.ntmps50
  go_wp2_with fail
  refine HL.out.mono ?_
  rintro e w1 ⟨A, cap, rfl, hst, -, b1⟩
  have B1 := Lib.hid b1
  have HST := Lib.hid (fun W (h : Below w1.heap.size w1 W) => hst.below h)
  clear hst b1 HL
  go_wp2_with fail
  go_loopw [2, 8, 15] (fun n' v i wr => ∃ k : Nat, k ≤ N ∧ i = .int .i64 k ∧ n' = .int .i64 (picksF (LL.take k) id n).2 ∧ Hid (wr.ownsRow w1.heap.size 42 5 v (picksF (LL.take k) id n).1.length (flatL encPick (picksF (LL.take k) id n).1)) ∧ Hid (Below w1.heap.size w1 wr)) (fun _ _ i _ => N - (intOf i).toNat)
  case atStart => exact ⟨0, by omega, rfl, rfl, World.ownsRow_nil _ _ _ _, Below.refl _ _⟩
  case round =>
    obtain ⟨k, hk, rfl, rfl, HOW, HB⟩ := hrel
    obtain ⟨wo, rfl⟩ : ∃ wo : World, wo = wr := ⟨_, rfl⟩
    by_cases hkN : k < N
    · have hkx : k < LL.length := by rw [← HN.out]; exact hkN
      obtain ⟨g, o, rfl, lg, cg⟩ := HST.out wo HB.out |>.resolve_left (fun h => by rw [h] at hkx; simp at hkx)
      obtain ⟨x, hx⟩ : ∃ x, x = LL[k] := ⟨_, rfl⟩
      have hxp := HPOS.out x (by rw [hx]; exact List.getElem_mem hkx)
      have hpt := HPT.out k hkx
      rw [← hx] at hpt
      have hly : Lies wo g (o + k * 5) (encLine x) := fun c v hv => cg k hkx c v (by rw [← hx]; exact hv)
      obtain ⟨hp0, hp1⟩ := HPIN.out k
      have hpl := HPL.out k
      have HPT1 := Lib.hid hpt
      obtain ⟨P, hP⟩ : ∃ P, P = picksF (LL.take k) id n := ⟨_, rfl⟩
      rw [← hP] at HPT1 HOW hp0 hp1 hpl ⊢
      obtain ⟨out, s2⟩ := P
      obtain ⟨⟨x1, x2, x3⟩, x4, x5⟩ := x
      simp only at hp0 hp1 hpl hxp
      obtain ⟨hx5, hx5b⟩ := hxp
      have h5 : (encLine ((x1, x2, x3), x4, x5)).length = 5 := rfl
      have HLZ := Lib.hid hly
      have HZ1 := Lib.hid (encLine_one ((x1, x2, x3), x4, x5))
      obtain ⟨LZ, hLZ⟩ : ∃ LZ, LZ = encLine ((x1, x2, x3), x4, x5) := ⟨_, rfl⟩
      have HLE := Lib.hid hLZ
      rw [← hLZ] at h5 HLZ HZ1
      have hk0 : (0 : Int) ≤ (k : Nat) := by omega
      have hk1 : ((k : Nat) : Int) < (N : Nat) := by omega
      have hba := below_one wo (.cells #[.string ⟨#[]⟩, .int .i64 0, .int .i64 0, .string ⟨#[]⟩, .int .i64 0] 82)
      clear hx hP hpt cg hly hLZ
      go_upto_region 5 with (first | (refine wpList_load_at rfl 82 _ rfl g (o + k * 5) rfl LZ HLZ.out _ Tryz.underlying82 rfl (by rw [h5]; kernel_rfl) ?_) | (refine wpList_store_box rfl 82 _ _ rfl wo.heap.size LZ rfl rfl _ [.string ⟨#[]⟩, .int .i64 0, .int .i64 0, .string ⟨#[]⟩, .int .i64 0] (heap_alloc_new wo _) (by rw [h5]; kernel_rfl) (by rw [h5]; rfl) HZ1.out ?_; intro w2 h2 tu2))
      have b2 := hba.trans (tu2.below (Nat.le_refl _))
      have HB2 := Lib.hid (HB.out.trans (b2.mono HB.out.size))
      have HO2 := Lib.hid (own_bl HOW.out b2)
      rw [HLE.out] at h2
      obtain ⟨⟨d0, d1, d2, d3, d4⟩, -⟩ := row5f h2
      have HX2 := Lib.hid h2
      have hzw2 := row_lt h2
      clear tu2 hba b2 h2 HLZ HOW HB
      by_cases hc : x4 = id
      · have hcb : (x4 == id) = true := by simpa using hc
        by_cases hp : 0 < s2
        · obtain ⟨kk, hkk⟩ : ∃ kk, kk = min s2 x5 := ⟨_, rfl⟩
          have hmin : min s2 x5 = kk := hkk.symm
          have hk2 : 1 ≤ kk ∧ kk ≤ s2 := by omega
          have HPN : Hid (picksF (LL.take (k + 1)) id n = (out ++ [((x1, x2, x3), id, kk)], s2 - kk)) := by
            show _ = _
            rw [HPT1.out, pickStep, if_pos ⟨hc, hp⟩, hmin]
          obtain ⟨hk2a, hk2b⟩ := hk2
          clear hkk hc HPT1
          go_wp2_with (first | (refine wpList_load_at rfl 40 _ rfl wo.heap.size 0 rfl [.string ⟨x1.toArray⟩, .int .i64 x2, .int .i64 x3] (Lies.head (r := [.string ⟨x4.toArray⟩, .int .i64 x5]) (Lies.row _ HX2.out)) _ Tryz.underlying40 rfl (by kernel_rfl) ?_) | (at_builtin; refine wpList_append_rows _ rfl (.tmp 31) (.tmp 37) 29 rfl w1.heap.size 42 i0 _ 56 Tryz.underlying29 hi hz0 hz1 hz2 rfl encPick_len (by decide) encPick_one _ out.length (flatL encPick out) rfl (own_bl HO2.out (below_one _ _)) (some ⟨w2.heap.size, 0, none⟩) 1 [((x1, x2, x3), id, kk)] rfl (row_one (heap_alloc_new _ _)) (by simp; omega) (by decide) (by have := HB2.out.size; simp; omega) ?_; intro v3 w3 HO3 hb3; have HB3 := Lib.hid hb3; clear hb3))
          go_roundw
          case rel =>
            refine ⟨k + 1, by omega, by go_num, by rw [HPN.out], ?_, (HB2.out.trans ((below_one w2 _).mono HB2.out.size)).trans HB3.out⟩
            show World.ownsRow _ _ _ _ _ _ _
            rw [HPN.out, List.length_append, flatL_append]
            exact HO3.out
          case measure => simp [intOf]; omega
        · have HPN : Hid (picksF (LL.take (k + 1)) id n = (out, s2)) := by
            show _ = _
            rw [HPT1.out, pickStep, if_neg (fun h => hp h.2)]
          clear hc HPT1
          go_wp2_with fail
          go_roundw
          case rel => exact ⟨k + 1, by omega, by go_num, by rw [HPN.out], by rw [HPN.out]; exact HO2.out, HB2.out⟩
          case measure => simp [intOf]; omega
      · have hcb : (x4 == id) = false := by simpa using hc
        have HPN : Hid (picksF (LL.take (k + 1)) id n = (out, s2)) := by
          show _ = _
          rw [HPT1.out, pickStep, if_neg (fun h => hc h.1)]
        clear hc HPT1
        go_wp2_with fail
        go_roundw
        case rel => exact ⟨k + 1, by omega, by go_num, by rw [HPN.out], by rw [HPN.out]; exact HO2.out, HB2.out⟩
        case measure => simp [intOf]; omega
    · obtain rfl : k = N := by omega
      have hT : LL.take k = LL := List.take_of_length_le (by rw [← HN.out]; exact Nat.le_refl _)
      rw [hT] at HOW ⊢
      obtain ⟨A', c', rfl, hra, hge⟩ := RowAt.of_own encPick_len HOW.out
      have HRA := Lib.hid hra
      have HGE := Lib.hid hge
      clear hT hra hge HOW HPT HPL HPIN
      go_wp2_with fail
      go_ret2
      exact ⟨A', c', rfl, HRA.out, fun a ha => by have := HGE.out a ha; have := B1.out.size; omega, B1.out.trans (HB.out.mono B1.out.size)⟩

set_option maxHeartbeats 400000 in
theorem loose_any {p q c : Nat} {F : List Nat} {B : BkV} {m : StkV} (hm : m = B.2.2) (hI : BkI B) (id : List UInt8) (w : World) (H : BookIs w p F B) (h : StkP w q c m) :
    Calls Tryz.prog 49 #[.pointer (some ⟨p, 0, none⟩), .pointer (some ⟨q, 0, none⟩), .string ⟨id.toArray⟩] w fun e w' => e = .returned (.int .i64 (looseB B id)) ∧ Below w.heap.size w w' := by
  subst hm
  have HO := Lib.hid (ofStock_P hI.stk id w h)
  have HH := Lib.hid (fun W (hb : Below w.heap.size w W) => heldBk_any (H.below hb) id)
  obtain ⟨h1, h2, h3, h4⟩ := hI.loose id
  have HLB : Hid (looseB B id = (ofM B.2.2 id : Int) - heldOf B id) := rfl
  rw [HLB.out] at h1 h2 ⊢
  clear HLB
  generalize ofM B.2.2 id = a at *
  generalize heldOf B id = b at *
  clear hI H h
  go_enter Tryz.func49, Tryz.ntmps49
  go_wp2_with fail
  refine HO.out.mono ?_
  rintro e w1 ⟨rfl, b1⟩
  have HH1 := Lib.hid (HH.out w1 b1)
  have B1 := Lib.hid b1
  clear b1 HH HO
  go_wp2_with fail
  refine HH1.out.mono ?_
  rintro e w2 ⟨rfl, rfl⟩
  clear HH1
  go_wp2_with fail
  go_ret
  exact ⟨rfl, B1.out⟩

theorem free_nil (a : ByteArray) (day : Int) (w : World) : Calls Tryz.prog 12 #[.pointer none, .string a, .int .i64 day] w fun e w' => e = .returned (.int .i64 0) ∧ w = w' := by
  go_enter Tryz.func12, Tryz.ntmps12
  go_wp2_with fail
  go_ret
  exact ⟨rfl, rfl⟩
set_option maxHeartbeats 800000 in
set_option maxRecDepth 100000 in
theorem freeAl_any {p : Nat} {F : List Nat} {B : BkV} {w : World} (H : BookIs w p F B) (hI : BkI B) (code : List UInt8) (day : Int) :
    Calls Tryz.prog 12 #[.pointer (some ⟨p, 0, none⟩), .string ⟨code.toArray⟩, .int .i64 day] w fun e w' => e = .returned (.int .i64 (freeB B code day)) ∧ Below w.heap.size w w' := by
  have HS := Lib.hid (stockBk_any H)
  have HLO := Lib.hid (fun W (hb : Below w.heap.size w W) => lotsBk_any (H.below hb) hI code)
  have HLB := Lib.hid (fun q c W (hb : Below w.heap.size w W) (hs : StkP W q c B.2.2) id => loose_any (q := q) (c := c) rfl hI id W (H.below hb) hs)
  have HLL := Lib.hid hI.loose
  have HFR : Hid (freeB B code day = freeTo B day (lotsB B code)) := rfl
  have hN60 : (lotsB B code).length ≤ 60 := by
    have h := List.length_filter_le (fun x : LoH => decide (x.1.2.1 = code)) B.2.1
    have h2 := hI.lfew
    unfold lotsB
    rw [(Stab.srt_perm _ _).length_eq, List.length_map]
    omega
  rw [HFR.out]
  generalize lotsB B code = LL at *
  have HFT := Lib.hid (freeTo_take B day LL)
  have HFI := Lib.hid (fun k => freeTo_in hI day (LL.take k))
  obtain ⟨N, hN⟩ : ∃ N, N = LL.length := ⟨_, rfl⟩
  have HN := Lib.hid hN
  rw [← hN] at hN60 HLO
  clear HFR hN H hI
  go_enter Tryz.func12, Tryz.ntmps12
  go_wp2_with fail
  refine HS.out.mono ?_
  rintro e w1 ⟨q, c, rfl, -, -, hs, b1⟩
  have B1 := Lib.hid b1
  have HST := Lib.hid hs
  have HLO1 := Lib.hid (HLO.out w1 b1)
  clear b1 hs HS HLO
  go_wp2_with fail
  refine HLO1.out.mono ?_
  rintro e w2 ⟨A, cap, rfl, hr, -, b2⟩
  have B2 := Lib.hid (B1.out.trans (b2.mono B1.out.size))
  have HR := Lib.hid (fun W (h : Below w2.heap.size w2 W) => hr.below h)
  have HS2 := Lib.hid (fun W (h : Below w2.heap.size w2 W) => HST.out.below (b2.trans (h.mono b2.size)))
  clear b2 hr HLO1 HST
  go_wp2_with fail
  go_loopw [8, 19] (fun a i wr => ∃ k : Nat, k ≤ N ∧ i = .int .i64 k ∧ a = .int .i64 (freeTo B day (LL.take k)) ∧ Hid (Below w2.heap.size w2 wr)) (fun _ i _ => N - (intOf i).toNat)
  case atStart => exact ⟨0, by omega, rfl, rfl, Below.refl _ _⟩
  case round =>
    obtain ⟨k, hk, rfl, rfl, HB⟩ := hrel
    obtain ⟨wo, rfl⟩ : ∃ wo : World, wo = wr := ⟨_, rfl⟩
    by_cases hkN : k < N
    · have hkx : k < LL.length := by rw [← HN.out]; exact hkN
      obtain ⟨g, o, rfl, lg, cg⟩ := HR.out wo HB.out |>.resolve_left (fun h => by rw [h] at hkx; simp at hkx)
      obtain ⟨x, hx⟩ : ∃ x, x = LL[k] := ⟨_, rfl⟩
      have hft := HFT.out k hkx
      rw [← hx] at hft
      have hf1 := HFI.out (k + 1)
      rw [hft] at hf1
      have hf0 := HFI.out k
      have hlo := HLL.out x.1
      have hly : Lies wo g (o + k * 4) (encLot x) := fun c v hv => cg k hkx c v (by rw [← hx]; exact hv)
      have hln : (LL.take k).length ≤ 60 := by rw [List.length_take]; omega
      have hln1 : (LL.take (k + 1)).length ≤ 60 := by rw [List.length_take]; omega
      obtain ⟨f0, f1⟩ := hf0
      have f2 : freeTo B day (LL.take k) ≤ 65970697666560 := by omega
      clear f1 hf1 hln hln1
      have HFT1 := Lib.hid hft
      have HLBX := Lib.hid (fun W (hb : Below w.heap.size w W) (hs : StkP W q c B.2.2) => HLB.out q c W hb hs x.1)
      have HGD := Lib.hid (fun W => good_any x day W)
      generalize freeTo B day (LL.take k) = sk at HFT1 f0 f2 ⊢
      generalize looseB B x.1 = lo at HFT1 hlo HLBX
      obtain ⟨l0, l1, l2, -⟩ := hlo
      have l3 : lo ≤ 1099511627776 := by omega
      have h4 : (encLot x).length = 4 := rfl
      have HLZ := Lib.hid hly
      have HZ1 := Lib.hid (encLot_one x)
      have HX0 : Hid ((encLot x)[0]? = some (.string ⟨x.1.toArray⟩)) := rfl
      obtain ⟨LZ, hLZ⟩ : ∃ LZ, LZ = encLot x := ⟨_, rfl⟩
      rw [← hLZ] at h4 HLZ HZ1 HX0 HGD
      have hk0 : (0 : Int) ≤ (k : Nat) := by omega
      have hk1 : ((k : Nat) : Int) < (N : Nat) := by omega
      have hba := below_one wo (.cells #[.string ⟨#[]⟩, .string ⟨#[]⟩, .int .i64 0, .int .i64 0] 47)
      clear hx cg hly hLZ hft l1 l2
      go_upto_region 8 with (first | (refine wpList_load_at rfl 47 _ rfl g (o + k * 4) rfl LZ HLZ.out _ Tryz.underlying47 rfl (by rw [h4]; kernel_rfl) ?_) | (refine wpList_store_box rfl 47 _ _ rfl wo.heap.size LZ rfl rfl _ [.string ⟨#[]⟩, .string ⟨#[]⟩, .int .i64 0, .int .i64 0] (heap_alloc_new wo _) (by rw [h4]; kernel_rfl) (by rw [h4]; rfl) HZ1.out ?_; intro w3 h3 tu3))
      have b3 := hba.trans (tu3.below (Nat.le_refl _))
      have HB3 := Lib.hid (HB.out.trans (b3.mono HB.out.size))
      have HX3 := Lib.hid h3
      have d0 : w3.cell? ⟨wo.heap.size, 0, none⟩ = some (.string ⟨x.1.toArray⟩) := (cell_of_row _ _ _ _ _ _ h3).trans (by simpa using HX0.out)
      have hz3 := row_lt h3
      clear tu3 hba b3 h3 HLZ HB
      go_wp2_with (refine wpList_load_at rfl 47 _ rfl wo.heap.size 0 rfl LZ (Lies.row _ HX3.out) _ Tryz.underlying47 rfl (by rw [h4]; kernel_rfl) ?_)
      refine (HGD.out _).mono ?_
      rintro e w4 ⟨rfl, b4⟩
      have HB4 := Lib.hid (HB3.out.trans (b4.mono HB3.out.size))
      have d04 := (b4.cell (p := ⟨wo.heap.size, 0, none⟩) hz3).trans d0
      clear b4 HGD d0 HX3 hz3
      by_cases hd : day ≤ x.2.2.1
      · have HFN : Hid (freeTo B day (LL.take (k + 1)) = sk + lo) := HFT1.out.trans (by rw [if_pos hd])
        have hdb : decide (day ≤ x.2.2.1) = true := decide_eq_true hd
        rw [hdb]
        have HLB1 := Lib.hid (HLBX.out w4 (B2.out.trans (HB4.out.mono B2.out.size)) (HS2.out w4 HB4.out))
        clear hd hdb HFT1 HLBX
        go_wp2_with fail
        refine HLB1.out.mono ?_
        rintro e w5 ⟨rfl, b5⟩
        have HB5 := Lib.hid (HB4.out.trans (b5.mono HB4.out.size))
        clear b5 HLB1
        go_wp2_with fail
        go_roundw
        case rel => exact ⟨k + 1, by omega, by go_num, by rw [HFN.out], HB5.out⟩
        case measure => simp [intOf]; omega
      · have HFN : Hid (freeTo B day (LL.take (k + 1)) = sk) := HFT1.out.trans (by rw [if_neg hd, Int.add_zero])
        have hdb : decide (day ≤ x.2.2.1) = false := decide_eq_false hd
        rw [hdb]
        clear hd hdb HFT1 HLBX
        go_wp2_with fail
        go_roundw
        case rel => exact ⟨k + 1, by omega, by go_num, by rw [HFN.out], HB4.out⟩
        case measure => simp [intOf]; omega
    · obtain rfl : k = N := by omega
      have hT : LL.take k = LL := List.take_of_length_le (by rw [← HN.out]; exact Nat.le_refl _)
      rw [hT]
      clear hT HFT HFI
      go_wp2_with fail
      go_ret
      exact ⟨rfl, B2.out.trans (HB.out.mono B2.out.size)⟩
end Go.Proofs.YtgllddebodfhkaaGreatDoor
