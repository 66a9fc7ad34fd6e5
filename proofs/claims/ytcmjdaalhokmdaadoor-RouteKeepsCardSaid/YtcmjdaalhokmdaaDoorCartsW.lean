/- route.Carts, walked. -/
import Derived.Test.YtcmjdaalhokmdaaDoorCartsH
namespace Go.Proofs.YtcmjdaalhokmdaaDoor
open Go.RowKit Go.Sort Go.Proofs

def WPk.v (x : WPk) : PickV := x.1
def WPk.of (x : PickV) (h : pickE x = 0) : WPk := ⟨x, h⟩
theorem WPk.ok (x : WPk) : pickE x.v = 0 := x.2
theorem rowAt_val {w : World} {A : Option Addr} (ys : List WPk) : RowAt encWPk 5 w A ys ↔ RowAt encPick 5 w A (ys.map WPk.v) := by
  unfold RowAt
  constructor
  · rintro (h | ⟨b, o, h1, h2, h3⟩)
    · subst h; exact .inl rfl
    · refine .inr ⟨b, o, h1, h2, fun i hi c v hv => ?_⟩
      have hi' : i < ys.length := by simpa using hi
      rw [List.getElem_map] at hv
      exact h3 i hi' c v hv
  · rintro (h | ⟨b, o, h1, h2, h3⟩)
    · exact .inl (List.map_eq_nil_iff.1 h)
    · refine .inr ⟨b, o, h1, h2, fun i hi c v hv => ?_⟩
      refine h3 i (by simpa using hi) c v ?_
      rw [List.getElem_map]
      exact hv
theorem well_list (xs : List PickV) (h : ∀ x ∈ xs, pickE x = 0) : ∃ ys : List WPk, ys.map WPk.v = xs := by
  induction xs with
  | nil => exact ⟨[], rfl⟩
  | cons x r ih =>
    obtain ⟨ys, hy⟩ := ih fun y hy => h y (by simp [hy])
    exact ⟨WPk.of x (h x (by simp)) :: ys, congrArg (x :: ·) hy⟩

/-- The picks as they come on the way. -/
structure Sorted (xs ss : List PickV) : Prop where
  perm : ss.Perm xs
  pos : ∀ x ∈ ss, 1 ≤ x.2.2 ∧ x.2.2 ≤ 1099511627776 ∧ InP x.1
  ord : ∀ i j (hi : i < ss.length) (hj : j < ss.length), i ≤ j → ltOf cfPlace ss[j].1 ss[i].1 = false
theorem sorted_of (ys : List WPk) : Sorted (ys.map WPk.v) ((Stab.srt (ltOf cfWPk) ys).map WPk.v) where
  perm := (Stab.srt_perm _ ys).map _
  pos x hx := by
    obtain ⟨y, _, rfl⟩ := List.mem_map.1 hx
    have := pickE_zero.1 y.ok
    exact ⟨this.2.2.1, this.2.2.2, WPk.inP y⟩
  ord i j hi hj hij := by
    simp only [List.length_map] at hi hj
    simp only [List.getElem_map]
    exact cfPick_place (Stab.srt_le swoWPk (Stab.srt_sorted swoWPk ys) hij hj)

/-- What Carts tells. -/
def CartsEnds (most : Int) (xs : List PickV) (w : World) (e : Ending) (w' : World) : Prop :=
  ((∃ t p, (¬ ((1 ≤ most ∧ most ≤ 1099511627776) ∧ (∀ x ∈ xs, pickE x = 0) ∧ sumN xs ≤ most * 200)) ∧ e = .returned (.tuple #[.slice none 0 0, .iface t p])) ∨
   (1 ≤ most ∧ most ≤ 1099511627776 ∧ (∀ x ∈ xs, pickE x = 0) ∧ ∃ A cap cs, CartsOk most xs cs ∧ e = .returned (.tuple #[.slice A cs.length cap, .nilIface]) ∧ CartsAt w' A cs)) ∧ Below w.heap.size w w'

theorem range5 {w : World} {b o : Nat} {x : PickV} (h : ∀ c v, (encPick x)[c]? = some v → w.cell? ⟨b, o + c, none⟩ = some v) : w.cell? ⟨b, o, none⟩ = some (.string ⟨x.1.1.toArray⟩) ∧ w.cell? ⟨b, o + 1, none⟩ = some (.int .i64 x.1.2.1) ∧ w.cell? ⟨b, o + 2, none⟩ = some (.int .i64 x.1.2.2) ∧ w.cell? ⟨b, o + 3, none⟩ = some (.string ⟨x.2.1.toArray⟩) ∧ w.cell? ⟨b, o + 4, none⟩ = some (.int .i64 x.2.2) :=
  ⟨h 0 _ rfl, h 1 _ rfl, h 2 _ rfl, h 3 _ rfl, h 4 _ rfl⟩

/-- Pieces counted, at most so many. -/
theorem cap_step (s n m : Int) (_hn : 0 ≤ n) : min (min s m + n) m = min (s + n) m := by omega

theorem sum_bound (xs : List PickV) (k : Nat) (hn : xs.length ≤ 30) (hk : k ≤ xs.length) (h : ∀ j (h : j < xs.length), j < k → pickE xs[j] = 0) : 0 ≤ sumN (xs.take k) ∧ sumN (xs.take k) ≤ 32985348833280 := by
  have : 0 ≤ sumN (xs.take k) ∧ sumN (xs.take k) ≤ k * 1099511627776 := by
    induction k with
    | zero => simp [sumN]
    | succ k ih =>
      have h1 := ih (by omega) fun j hj hjk => h j hj (by omega)
      have h2 := (pickE_zero.1 (h k (by omega) (by omega))).2.2
      rw [sumN_take xs k (by omega)]
      omega
  omega
theorem cartInfo : (Tryd.prog.info? 22).map (fun i => (i.zero, i.size, i.bytes)) = some (some (.slice none 0 0), 1, 24) := by kernel_rfl

/-- A pick more in the last cart, at a step of a region that draws. -/
theorem step_append_cart {ops : Array Oper} {o : Oper} {a : Act} {K : Act → World → Prop} {Q : Exit → Act → World → Prop} {F : Prop} (w : World) (hgd : o.guard = none) (s x : Operand)
    (ho : o.op = .call { callee := .builtin .append, args := #[s, x], argTypes := #[22, 22] }) (B g cap pl : Nat) (pre : List (List PickV)) (c : List PickV) (pv : List Value) (v : Value) (q : PickV)
    (H : OutAt w B (.slice (some ⟨g, 0, none⟩) (pl + 1) cap) (pre ++ [c]) (pv ++ [v])) (hpl : pl = pre.length) (hs : a.eval s = v) (ad : Addr) (cp : Nat) (hx : a.eval x = .slice (some ad) 1 cp)
    (hnews : ∀ j u, (encPick q)[j]? = some u → w.cell? (ad.add j) = some u) (hc : c.length ≤ 1000000) (hbase : B ≤ w.heap.size)
    (h : ∀ g' cap' w1, Hid (w1.ownsRow B 33 5 (.slice (some ⟨g', 0, none⟩) (c.length + 1) cap') (c.length + 1) (flatL encPick (c ++ [q])) ∧ w.grownBy w1 v.ownBlock ∧ (v.ownBlock = some g' ∨ g' = w.heap.size)) → w1.cell? ⟨g, pl, none⟩ = some v → w1.frozen? ⟨g, pl, none⟩ = false →
      K (a.put o.dst (.slice (some ⟨g', 0, none⟩) (c.length + 1) cap')) w1) :
    if Region.wanted o (yielded ops a.tmps) = true then Oper.wp Tryd.prog o a w K Q else F := by
  obtain ⟨i0, hi, hz0, hz1, hz2⟩ := info_parts pickInfo
  have hl : pv.length = pre.length := by have := H.len; simp at this; exact this
  have he := H.each pre.length c v (by simp) (by rw [← hl]; simp)
  obtain ⟨g0, cap0, cur, e1, -, e2, e3, e4, -⟩ := H.form (by simp)
  simp only [Value.slice.injEq, Option.some.injEq, Addr.mk.injEq, and_true] at e1
  obtain ⟨rfl, -, -⟩ := e1
  refine step_append_lies w hgd s x 22 ho B 33 i0 _ 5 56 Tryd.underlying22 hi hz0 hz1 hz2 rfl (by decide) v c.length (flatL encPick c) hs he ad 1 cp (encPick q) hx rfl hnews (encPick_one q) (by omega) (by unfold maxLen; omega) (by omega) hbase _ rfl ?_
  intro g' cap' w1 hown hgrow hat _
  have hvg : v.ownBlock ≠ some g := fun e => H.apart v (by simp) g e rfl
  have hb : w1.heap[g]? = w.heap[g]? := hgrow.block g e2 fun e => hvg e.symm
  refine h g' cap' w1 ⟨by rw [flatL_append]; simpa [flatL] using hown, hgrow, hat⟩ ?_ ?_
  · rw [World.cell?_of_block (a := ⟨g, pl, none⟩) hb, hpl]
    exact e4 pre.length v (by rw [← hl]; simp)
  · exact frozen_of_row w1 g pl cur _ (hb.trans e3)

theorem OutAt.far {w w' : World} {B pb : Nat} {out : Value} {cs : List (List PickV)} {vals : List Value} (h : OutAt w B out cs vals) (hk : ∀ a, a ≠ pb → w'.heap[a]? = w.heap[a]?) (h1 : ∀ a, out.ownBlock = some a → a ≠ pb) (h2 : ∀ v ∈ vals, ∀ a, v.ownBlock = some a → a ≠ pb) : OutAt w' B out cs vals where
  len := h.len
  own := own_keep h.own fun a ha => hk a (h1 a ha)
  each j c v q1 q2 := own_keep (h.each j c v q1 q2) fun a ha => hk a (h2 v (List.mem_of_getElem? q2) a ha)
  apart := h.apart
  apart2 := h.apart2
theorem snoc_of {α : Type} {l : List α} (h : l ≠ []) : ∃ a b, l = a ++ [b] := by
  rcases List.eq_nil_or_concat l with h1 | ⟨a, b, h1⟩
  · exact absurd h1 h
  · exact ⟨a, b, by simpa using h1⟩
theorem heap_lt' {w : World} {b : Nat} {o : Obj} (h : w.heap[b]? = some o) : b < w.heap.size := by
  rcases Nat.lt_or_ge b w.heap.size with hl | hl
  · exact hl
  · rw [Array.getElem?_eq_none hl] at h; cases h
/-- A natural number in memory. -/
def cellNat (w : World) (b o : Nat) : Nat := match w.cell? ⟨b, o, none⟩ with | some (.int _ n) => n.toNat | _ => 0

set_option maxHeartbeats 4000000 in
set_option maxRecDepth 100000 in
theorem carts_some (E : Nat → Addr) (A : Option Addr) (cap : Nat) (xs : List PickV) (most : Int) (w : World) (hG : RouteG E w) (hX : RowAt encPick 5 w A xs) (hn : xs.length ≤ 30) (h0 : xs ≠ []) (m1 : 1 ≤ most) (m2 : most ≤ 1099511627776) :
    Calls Tryd.prog 8 #[.slice A xs.length cap, .int .i64 most] w (CartsEnds most xs w) := by
  obtain ⟨i0, hi, hz0, hz1, hz2⟩ := info_parts pickInfo
  obtain ⟨j0, hj, hy0, hy1, hy2⟩ := info_parts cartInfo
  obtain ⟨n, hnn⟩ : ∃ n, n = xs.length := ⟨_, rfl⟩
  have HN := Lib.hid hnn
  have HX := Lib.hid hX
  have HG := Lib.hid hG
  rw [← hnn] at hn ⊢
  obtain ⟨bx, ox, rfl, lx, _⟩ := hX.resolve_left h0
  clear hX hG hnn
  go_enter Tryd.func8, Tryd.ntmps8
  go_wp2_with fail
  refine (within_yes most 1 1099511627776 w m1 m2).mono ?_
  rintro e w1 ⟨rfl, rfl⟩
  go_wp2_with fail
  go_loopw [6, 22] (fun all i wr => ∃ k : Nat, k ≤ n ∧ i = .int .i64 k ∧ all = .int .i64 (min (sumN (xs.take k)) (most * 200 + 1)) ∧ Hid (∀ j (h : j < xs.length), j < k → pickE xs[j] = 0) ∧ Below w.heap.size w wr) (fun _ i _ => n - (intOf i).toNat)
  case atStart => exact ⟨0, by omega, rfl, by simp [sumN]; omega, fun j _ h => by omega, Below.refl _ _⟩
  case round =>
    obtain ⟨k, hk, rfl, rfl, HP, hb⟩ := hrel
    have HB := Lib.hid hb
    clear hb
    have hs0 : Hid (0 ≤ sumN (xs.take k) ∧ sumN (xs.take k) ≤ 32985348833280) := sum_bound xs k (by rw [← HN.out]; exact hn) (by rw [← HN.out]; exact hk) HP.out
    by_cases hkl : k < n
    · have hkx : k < xs.length := by rw [← HN.out]; exact hkl
      have HT := Lib.hid (sumN_take xs k hkx)
      have hrow := HX.out.below HB.out
      obtain ⟨bx', ox', hA, lx', cx⟩ := hrow.resolve_left h0
      simp only [Option.some.injEq, Addr.mk.injEq, and_true] at hA
      obtain ⟨rfl, rfl⟩ := hA
      have r5 := range5 (fun c v hv => cx k hkx c v hv)
      have HCK := Lib.hid (fun W (h : RouteG E W) => checkPick_any E xs[k] W h)
      obtain ⟨x, hx⟩ : ∃ x, x = xs[k] := ⟨_, rfl⟩
      have HXK := Lib.hid hx
      rw [← hx] at r5 HCK HT
      clear hx cx hrow lx'
      obtain ⟨⟨a1, a2, a3⟩, a4, a5⟩ := x
      simp only [encPick] at HCK
      obtain ⟨c0, c1, c2, c3, c4⟩ := r5
      obtain ⟨s, hs⟩ : ∃ s, s = sumN (xs.take k) := ⟨_, rfl⟩
      rw [← hs] at HT hs0 ⊢
      have HSS := Lib.hid hs
      clear hs
      go_wp2_with fail
      have hbw := HB.out.alloc HB.out.size (.cells #[.string ⟨a1.toArray⟩, .int .i64 a2, .int .i64 a3, .string ⟨a4.toArray⟩, .int .i64 a5] 33)
      refine (HCK.out _ (HG.out.below hbw)).mono ?_
      rintro e w2 ⟨rfl, b2⟩
      have lw := heap_two b2
      obtain ⟨hc, -⟩ := bcell b2
      have d4 : w2.cell? ⟨wr.heap.size, 4, none⟩ = some (.int .i64 a5) := by rw [hc _ _ (by simp)]; go_simp
      have B2 := Lib.hid (hbw.trans (b2.mono hbw.size))
      clear b2 hc hbw c0 c1 c2 c3 c4 HCK
      by_cases hp : pickE ((a1, a2, a3), a4, a5) = 0
      · rw [hp, errOf_zero]
        have hpz := pickE_zero.1 hp
        obtain ⟨-, -, z1, z2⟩ := hpz
        simp only at z1 z2
        have hs1 := hs0.out.1
        have hs2 := hs0.out.2
        have HCAP := Lib.hid (cap_step s a5 (most * 200 + 1) (by omega))
        obtain ⟨m, hm⟩ : ∃ m, m = min s (most * 200 + 1) := ⟨_, rfl⟩
        rw [← hm] at HCAP ⊢
        have hmb : 0 ≤ m ∧ m ≤ 32985348833280 := by omega
        obtain ⟨hm1, hm2⟩ := hmb
        clear hm hs1 hs2 hs0
        go_wp2
        go_roundw
        case rel =>
          refine ⟨k + 1, by omega, by go_num, ?_, ?_, B2.out⟩
          · rw [HT.out, ← HCAP.out]
          · intro j hj1 hj2
            rcases Nat.lt_or_ge j k with h | h
            · exact HP.out j hj1 h
            · obtain rfl : j = k := by omega
              rw [← HXK.out]; exact hp
        case measure => simp [intOf]; omega
      · rw [errOf_pos _ _ hp]
        go_wp2
        go_ret2
        exact ⟨.inl ⟨_, _, fun h => hp (h.2.1 _ (by rw [HXK.out]; exact List.getElem_mem hkx)), rfl⟩, B2.out.alloc B2.out.size _⟩
    · obtain rfl : k = n := by omega
      have hall : ∀ x ∈ xs, pickE x = 0 := fun x hx => by
        obtain ⟨j, hj, rfl⟩ := List.getElem_of_mem hx
        exact HP.out j hj (by rw [HN.out]; exact hj)
      rw [List.take_of_length_le (by rw [← HN.out]; exact Nat.le_refl _)] at hs0 ⊢
      obtain ⟨s, hs⟩ : ∃ s, s = sumN xs := ⟨_, rfl⟩
      rw [← hs] at hs0 ⊢
      have hs1 := hs0.out.1
      have hs2 := hs0.out.2
      by_cases hover : most * 200 < s
      · have hmin : min s (most * 200 + 1) = most * 200 + 1 := by omega
        rw [hmin]
        have hfull := (HG.out.below HB.out).full
        unfold ErrAt at hfull
        have HSX := Lib.hid hs
        clear hmin hs1 hs2 hs0 hs
        go_wp2_with fail
        go_quiet (fail)
        go_wp2_with fail
        go_ret2
        exact ⟨.inl ⟨_, _, fun h => by have h1 := h.2.2; rw [← HSX.out] at h1; omega, rfl⟩, below_drewN HB.out _⟩
      · have hmin : min s (most * 200 + 1) = s := by omega
        rw [hmin]
        obtain ⟨ys, hys⟩ := well_list xs hall
        have hyl : ys.length = k := by rw [HN.out, ← hys]; simp
        have hrow : RowAt encWPk 5 wr (some ⟨bx, ox, none⟩) ys := by rw [rowAt_val, hys]; exact HX.out.below HB.out
        have hso := sortP_some (some ⟨bx, ox, none⟩) cap ys wr (by omega) hrow (fun h => h0 (by rw [← hys, h]; rfl))
        have hsd := sorted_of ys
        rw [hyl] at hso
        have HSO := Lib.hid hso
        have HSD := Lib.hid hsd
        have HYS := Lib.hid hys
        have HALL := Lib.hid hall
        have HS0 := Lib.hid (And.intro hs (And.intro hs1 (And.intro hs2 hover)))
        have hS3 : ¬ most * 200 < s := hover
        clear hso hsd hys hall hrow hs hmin hs0
        go_wp2_with fail
        refine HSO.out.mono ?_
        rintro e w2 ⟨A2, cp2, rfl, hR, -, b2⟩
        rw [rowAt_val] at hR
        obtain ⟨ss, hss⟩ : ∃ ss, ss = (Stab.srt (ltOf cfWPk) ys).map WPk.v := ⟨_, rfl⟩
        rw [← hss] at hR HSD
        have HPERM := HSD.out.perm
        rw [HYS.out] at HPERM
        have HPR := Lib.hid HPERM
        have hsl : ss.length = k := by rw [HPERM.length_eq, HN.out]
        have HSL := Lib.hid hsl
        have hne : ss ≠ [] := fun h => h0 (by have := HPERM; rw [h] at this; exact this.symm.eq_nil)
        obtain ⟨bs, os, rfl, lb, cs_⟩ := hR.resolve_left hne
        have HROW := Lib.hid (And.intro lb cs_)
        have HB2 := Lib.hid (HB.out.trans (b2.mono HB.out.size))
        have hst : sumN ss ≤ 200 * most := by rw [sumN_perm HPERM, ← HS0.out.1]; omega
        have HST := Lib.hid hst
        rw [hyl]
        clear hR hss HPERM hsl hne lb cs_ b2 hst HSO hyl HB
        go_wp2_with fail
        go_loopw [10, 11, 53] (fun out room i wv => ∃ (m : Nat) (cs : List (List PickV)) (vals : List Value) (rm : Int), m ≤ k ∧ i = .int .i64 m ∧ room = .int .i64 rm ∧ Hid (CartI most (ss.take m) (ss.drop m) cs rm ∧ rm < most ∧ m ≤ cs.flatten.length ∧ Few m cs rm) ∧ Hid (OutAt wv w2.heap.size out cs vals) ∧ Below w.heap.size w wv ∧ w2.heap.size ≤ wv.heap.size ∧ Below w2.heap.size w2 wv) (fun _ _ i _ => k - (intOf i).toNat)
        case atStart => exact ⟨0, [], [], 0, by omega, rfl, rfl, ⟨CartI.start m1 ss, by omega, by simp, Few.start⟩, OutAt.start _ _, HB2.out, Nat.le_refl _, Below.refl _ _⟩
        case round =>
          obtain ⟨m, cs, vals, rm, hm, rfl, rfl, HI, HO, hb, hsz, hb2⟩ := hrel
          have HB := Lib.hid hb
          have HB22 := Lib.hid hb2
          clear hb hb2
          by_cases hmk : m < k
          · have hms : m < ss.length := by rw [HSL.out]; exact hmk
            obtain ⟨y, hy⟩ : ∃ y, y = ss[m] := ⟨_, rfl⟩
            have r5 := range5 (x := y) (w := wr) (b := bs) (o := os + m * 5) (fun c v hv => (HB22.out.cell (p := ⟨bs, os + m * 5 + c, none⟩) HROW.out.1).trans (HROW.out.2 m hms c v (by rw [← hy]; exact hv)))
            have hyp := HSD.out.pos y (by rw [hy]; exact List.getElem_mem hms)
            have HY := Lib.hid hy
            clear hy
            obtain ⟨⟨a1, a2, a3⟩, a4, a5⟩ := y
            obtain ⟨c0, c1, c2, c3, c4⟩ := r5
            simp only at c0 c1 c2 c3 c4 hyp
            obtain ⟨y1, y2, y3⟩ := hyp
            have Y3 := Lib.hid y3
            have hsum : sumN (ss.take m) + a5 ≤ 200 * most := by
              have e1 := sumN_take ss m hms
              rw [← HY.out] at e1
              have e2 := sumN_take_le (l := ss) (fun x hx => by have := HSD.out.pos x hx; omega) (m + 1)
              have e3 := HST.out
              simp only at e1
              omega
            have HSUM := Lib.hid hsum
            have HFUT : Hid ((∀ x ∈ ss.drop m, ltOf cfPlace x.1 (a1, a2, a3) = false) ∧ ∃ x ∈ ss.drop m, x.1 = (a1, a2, a3)) := by
              refine ⟨fun x hx => ?_, (((a1, a2, a3), a4, a5) : PickV), ?_, rfl⟩
              · obtain ⟨j, hj, rfl⟩ := List.getElem_of_mem hx
                rw [List.getElem_drop]
                have := HSD.out.ord m (m + j) hms (by rw [List.length_drop] at hj; omega) (by omega)
                rwa [← HY.out] at this
              · rw [HY.out, List.drop_eq_getElem_cons hms]
                exact List.mem_cons_self
            clear y3 hsum
            go_wp2_with fail
            obtain ⟨pb, hpb⟩ : ∃ pb, pb = wr.heap.size := ⟨_, rfl⟩
            have hW0 : (wr.alloc (.cells #[.string ⟨a1.toArray⟩, .int .i64 a2, .int .i64 a3, .string ⟨a4.toArray⟩, .int .i64 a5] 33)).heap[pb]? = some (.cells #[.string ⟨a1.toArray⟩, .int .i64 a2, .int .i64 a3, .string ⟨a4.toArray⟩, .int .i64 a5] 33 (0, 0)) := by rw [hpb]; exact heap_alloc_new _ _
            have hO0 : OutAt (wr.alloc (.cells #[.string ⟨a1.toArray⟩, .int .i64 a2, .int .i64 a3, .string ⟨a4.toArray⟩, .int .i64 a5] 33)) w2.heap.size u10 cs vals := HO.out.below (below_one _ _)
            have hap : (∀ a, u10.ownBlock = some a → a ≠ pb) ∧ ∀ v ∈ vals, ∀ a, v.ownBlock = some a → a ≠ pb := by
              refine ⟨fun a ha => ?_, fun v hv a ha => ?_⟩
              · have := (own_blt HO.out.own a ha).2; omega
              · have := (HO.out.lts v hv a ha).2; omega
            have hb0 : Below w.heap.size w (wr.alloc (.cells #[.string ⟨a1.toArray⟩, .int .i64 a2, .int .i64 a3, .string ⟨a4.toArray⟩, .int .i64 a5] 33)) := HB.out.alloc HB.out.size _
            have hb20 : Below w2.heap.size w2 (wr.alloc (.cells #[.string ⟨a1.toArray⟩, .int .i64 a2, .int .i64 a3, .string ⟨a4.toArray⟩, .int .i64 a5] 33)) := HB22.out.alloc hsz _
            have hpl : w2.heap.size ≤ pb := by omega
            rw [← hpb]
            generalize wr.alloc (.cells #[.string ⟨a1.toArray⟩, .int .i64 a2, .int .i64 a3, .string ⟨a4.toArray⟩, .int .i64 a5] 33) = W0 at hW0 hO0 hb0 hb20 ⊢
            have HW0 := Lib.hid hW0
            have HO0 := Lib.hid hO0
            have HAP := Lib.hid hap
            have HB0 := Lib.hid hb0
            have HB20 := Lib.hid hb20
            clear hW0 hO0 hap hb0 hb20 hpb c0 c1 c2 c3 c4 HO HB HB22 hsz
            go_loopw [10, 11] (fun out room wv => ∃ (cs : List (List PickV)) (vals : List Value) (rm r : Int), room = .int .i64 rm ∧ 0 ≤ r ∧ r ≤ a5 ∧ Hid (CartI most (ss.take m ++ [((a1, a2, a3), a4, a5 - r)]) (ss.drop m) cs rm ∧ rm < most ∧ m ≤ cs.flatten.length ∧ (r < a5 → m + 1 ≤ cs.flatten.length) ∧ Few (if r = 0 then m + 1 else m) cs rm) ∧ Hid (OutAt wv w2.heap.size out cs vals) ∧
              Hid (wv.heap[pb]? = some (.cells #[.string ⟨a1.toArray⟩, .int .i64 a2, .int .i64 a3, .string ⟨a4.toArray⟩, .int .i64 r] 33 (0, 0)) ∧ (∀ a, out.ownBlock = some a → a ≠ pb) ∧ ∀ v ∈ vals, ∀ a, v.ownBlock = some a → a ≠ pb) ∧ Below w.heap.size w wv ∧ w2.heap.size ≤ wv.heap.size ∧ Below w2.heap.size w2 wv) (fun _ _ wv => cellNat wv pb 4)
            case atStart =>
              refine ⟨cs, vals, rm, a5, rfl, by omega, Int.le_refl _, ⟨?_, HI.out.2.1, HI.out.2.2.1, fun h => absurd h (Int.lt_irrefl _), ?_⟩, HO0, ⟨HW0.out, HAP.out⟩, HB0.out, HB20.out.size, HB20.out⟩
              · have := HI.out.1.begin (a1, a2, a3) a4
                rwa [show a5 - a5 = 0 by omega]
              · rw [if_neg (by omega)]; exact HI.out.2.2.2
            case round =>
              obtain ⟨cs, vals, rm, r, rfl, hr0, hr1, HI, HO, HPB, hb, hsz, hb2⟩ := hrel
              have HB := Lib.hid hb
              have HB22 := Lib.hid hb2
              have c4 : wr.cell? ⟨pb, 4, none⟩ = some (.int .i64 r) := by rw [cell_of_row _ _ _ _ _ _ HPB.out.1]; rfl
              clear hb hb2
              by_cases hr : 0 < r
              · have hcount := HI.out.1.count m1 (by rw [sumN_append, sumN_one]; have := HSUM.out; show _ + (a5 - r) ≤ _; omega)
                have hfl : cs.flatten.length ≤ m + cs.length := by
                  have := HI.out.2.2.2.2
                  unfold Few at this
                  rw [if_neg (show ¬ r = 0 by omega)] at this
                  omega
                have hfew : Few m cs rm := by
                  have := HI.out.2.2.2.2
                  rwa [if_neg (show ¬ r = 0 by omega)] at this
                have HFEW := Lib.hid hfew
                have hrm0 := HI.out.1.room0
                have hrm1 := HI.out.2.1
                clear hfew
                have HM0 : Hid (cellNat wr pb 4 = r.toNat) := by show _ = _; unfold cellNat; rw [c4]
                rcases Classical.em (rm = 0) with hz | hz
                case' inl =>
                  subst hz
                  obtain ⟨pl, hpl'⟩ : ∃ pl, pl = cs.length := ⟨_, rfl⟩
                  have hown := HO.out.own
                  rw [← hpl'] at hown hcount hfl
                  have HOWN := Lib.hid hown
                  have HPL := Lib.hid hpl'
                  have hpb1 := HPB.out.1
                  have hpbl := heap_lt' hpb1
                  have hpbo := HPB.out.2.1
                  obtain ⟨kk, hkk⟩ : ∃ kk, kk = min most r := ⟨_, rfl⟩
                  have HKK := Lib.hid hkk
                  have hmin : min most r = kk := hkk.symm
                  clear hown hpl' hkk
                  go_wp2_with (at_builtin; refine wpList_append_lies _ rfl (.tmp 62) (.tmp 63) 25 rfl w2.heap.size 22 j0 (.slice none 0 0) 1 24 Tryd.underlying25 hj hy0 hy1 hy2 rfl (by decide) u10 pl vals rfl (HOWN.out.alloc _) _ 1 1 [.slice none 0 0] rfl rfl (World.news_of_block (cs := #[.slice none 0 0]) (t := 22) (fr := (0, 0)) (heap_alloc_new _ _)) (by simp [Value.oneCell']) (by omega) (by unfold maxLen; omega) (by omega) (by simp; omega) _ rfl ?_; intro g cap' w3 hown3 hgrow hat hlt3; have HK := Lib.hid (And.intro hown3 (And.intro hgrow hat)); have hpb3 : w3.heap[pb]? = some (.cells #[.string ⟨a1.toArray⟩, .int .i64 a2, .int .i64 a3, .string ⟨a4.toArray⟩, .int .i64 r] 33 (0, 0)) := (hgrow.block pb (by simp; omega) (fun e => hpbo pb e.symm rfl)).trans ((heap_alloc_old _ _ hpbl).trans hpb1); have d0 : w3.cell? ⟨pb, 0, none⟩ = some (.string ⟨a1.toArray⟩) := cell_of_row _ _ _ _ _ _ hpb3; have d1 : w3.cell? ⟨pb, 1, none⟩ = some (.int .i64 a2) := cell_of_row _ _ _ _ _ _ hpb3; have d2 : w3.cell? ⟨pb, 2, none⟩ = some (.int .i64 a3) := cell_of_row _ _ _ _ _ _ hpb3; have d3 : w3.cell? ⟨pb, 3, none⟩ = some (.string ⟨a4.toArray⟩) := cell_of_row _ _ _ _ _ _ hpb3; have d4 : w3.cell? ⟨pb, 4, none⟩ = some (.int .i64 r) := cell_of_row _ _ _ _ _ _ hpb3; clear hown3 hgrow hat)
                  obtain ⟨RM, hRM⟩ : ∃ RM, RM = most := ⟨_, rfl⟩
                  have REST : ∃ (pre : List (List PickV)) (c : List PickV) (pv : List Value) (v : Value), Hid (OutAt w3 w2.heap.size (.slice (some ⟨g, 0, none⟩) (pl + 1) cap') (pre ++ [c]) (pv ++ [v]) ∧ pl = pre.length ∧ c.length ≤ 1000 ∧ CartI most (ss.take m ++ [((a1, a2, a3), a4, a5 - r)]) (ss.drop m) (pre ++ [c]) RM ∧ m ≤ (pre ++ [c]).flatten.length ∧ (r < a5 → m + 1 ≤ (pre ++ [c]).flatten.length) ∧ Few m (pre ++ [c]) RM ∧ g ≠ pb ∧ (∀ v' ∈ pv ++ [v], ∀ a, v'.ownBlock = some a → a ≠ pb) ∧ Below w.heap.size w w3 ∧ w2.heap.size ≤ w3.heap.size ∧ Below w2.heap.size w2 w3) := by
                    obtain ⟨hown3, hgrow, hat⟩ := HK.out
                    have hgs := hgrow.size
                    simp at hgs
                    have hgp : g ≠ pb := by
                      rcases hat with h | h
                      · exact hpbo g h
                      · rw [h]; simp; omega
                    have hb23 : Below w2.heap.size w2 w3 := (HB22.out.alloc hsz _).grown hgrow (by simp; omega) (fun j hj => (own_blt HO.out.own j hj).1)
                    have hb3 : Below w.heap.size w w3 := HB2.out.trans (hb23.mono HB2.out.size)
                    refine ⟨cs, [], vals, .slice none 0 0, (HO.out.below (below_one _ _)).push (by rw [← HPL.out]; exact hown3) hgrow (fun a ha => ?_), HPL.out, by simp, by rw [hRM]; exact HI.out.1.push m1, by simpa using HI.out.2.2.1, by simpa using HI.out.2.2.2.1, by rw [hRM]; exact HFEW.out.push, hgp, fun v' hv' a ha => ?_, hb3, by omega, hb23⟩
                    · have e : g = a := by simpa [Value.ownBlock] using ha
                      subst e
                      rcases hat with h | h
                      · exact .inl h
                      · exact .inr (by rw [h]; exact Nat.le_refl _)
                    · rcases List.mem_append.1 hv' with hv' | hv'
                      · exact HPB.out.2.2 v' hv' a ha
                      · rw [List.mem_singleton] at hv'
                        subst hv'
                        simp [Value.ownBlock] at ha
                  have hrm2 : 0 < RM ∧ RM ≤ most := by omega
                  have hkr : kk = min RM r := by rw [hRM]; exact HKK.out
                  have HP3 := Lib.hid hpb3
                  clear HK HKK HOWN HPL HO HPB HI HFEW HB HB22 hcount hfl hpbo hpb1 hpb3 hmin d0 d1 d2 d3 d4 c4 hrm0 hrm1
                case' inr =>
                  have hne : cs ≠ [] := fun h => hz (HI.out.1.none h)
                  obtain ⟨g, cap', cur, he, hBg, hgl, hgb, hgc, -⟩ := HO.out.form hne
                  obtain ⟨pre, c, rfl⟩ := snoc_of hne
                  have hvl := HO.out.len
                  obtain ⟨pv, v, rfl⟩ := snoc_of (l := vals) (fun h => by rw [h] at hvl; simp at hvl)
                  obtain ⟨pl, hpl'⟩ : ∃ pl, pl = pre.length := ⟨_, rfl⟩
                  have he' : u10 = .slice (some ⟨g, 0, none⟩) (pl + 1) cap' := by rw [he, hpl']; simp
                  subst he'
                  have hpb3 := HPB.out.1
                  have hgp : g ≠ pb := HPB.out.2.1 g rfl
                  have d0 : wr.cell? ⟨pb, 0, none⟩ = some (.string ⟨a1.toArray⟩) := cell_of_row _ _ _ _ _ _ hpb3
                  have d1 : wr.cell? ⟨pb, 1, none⟩ = some (.int .i64 a2) := cell_of_row _ _ _ _ _ _ hpb3
                  have d2 : wr.cell? ⟨pb, 2, none⟩ = some (.int .i64 a3) := cell_of_row _ _ _ _ _ _ hpb3
                  have d3 : wr.cell? ⟨pb, 3, none⟩ = some (.string ⟨a4.toArray⟩) := cell_of_row _ _ _ _ _ _ hpb3
                  obtain ⟨kk, hkk⟩ : ∃ kk, kk = min rm r := ⟨_, rfl⟩
                  have HKK := Lib.hid hkk
                  have hmin : min rm r = kk := hkk.symm
                  obtain ⟨w3, hw3⟩ : ∃ w3 : World, w3 = wr := ⟨_, rfl⟩
                  have hzb : (rm == 0) = false := by simpa using hz
                  have HE := Lib.hid he
                  have HGC := Lib.hid hgc
                  clear hkk he hgc hgb hne
                  go_wp2_with fail
                  rw [← hw3]
                  obtain ⟨RM, hRM⟩ : ∃ RM, RM = rm := ⟨_, rfl⟩
                  have REST : ∃ (pre : List (List PickV)) (c : List PickV) (pv : List Value) (v : Value), Hid (OutAt w3 w2.heap.size (.slice (some ⟨g, 0, none⟩) (pl + 1) cap') (pre ++ [c]) (pv ++ [v]) ∧ pl = pre.length ∧ c.length ≤ 1000 ∧ CartI most (ss.take m ++ [((a1, a2, a3), a4, a5 - r)]) (ss.drop m) (pre ++ [c]) RM ∧ m ≤ (pre ++ [c]).flatten.length ∧ (r < a5 → m + 1 ≤ (pre ++ [c]).flatten.length) ∧ Few m (pre ++ [c]) RM ∧ g ≠ pb ∧ (∀ v' ∈ pv ++ [v], ∀ a, v'.ownBlock = some a → a ≠ pb) ∧ Below w.heap.size w w3 ∧ w2.heap.size ≤ w3.heap.size ∧ Below w2.heap.size w2 w3) := by
                    rw [hw3, hRM]
                    exact ⟨pre, c, pv, v, HO.out, hpl', by simp at hfl hcount; omega, HI.out.1, HI.out.2.2.1, HI.out.2.2.2.1, HFEW.out, hgp, HPB.out.2.2, HB.out, hsz, HB22.out⟩
                  have hrm2 : 0 < RM ∧ RM ≤ most := by omega
                  have hkr : kk = min RM r := by rw [hRM]; exact HKK.out
                  have HP3 := Lib.hid hpb3
                  rw [← hw3] at HP3
                  clear HKK HO HPB HI HFEW HB HB22 hcount hfl hpb3 hmin d0 d1 d2 d3 c4 hrm0 hrm1 HE HGC hBg hgl hvl hpl' hgp hw3
                all_goals
                  have HRM := Lib.hid hRM
                  have HKR := Lib.hid hkr
                  have hk3 : 1 ≤ kk ∧ kk ≤ RM ∧ kk ≤ r := by omega
                  clear hRM hkr
                  obtain ⟨pre, c, pv, v, HF⟩ := REST
                  have HQ : (w3.alloc (.cells #[.string ⟨a1.toArray⟩, .int .i64 a2, .int .i64 a3, .string ⟨a4.toArray⟩, .int .i64 kk] 33)).heap[w3.heap.size]? = some (.cells #[.string ⟨a1.toArray⟩, .int .i64 a2, .int .i64 a3, .string ⟨a4.toArray⟩, .int .i64 kk] 33 (0, 0)) := heap_alloc_new _ _
                  have hO5 : OutAt (w3.alloc (.cells #[.string ⟨a1.toArray⟩, .int .i64 a2, .int .i64 a3, .string ⟨a4.toArray⟩, .int .i64 kk] 33)) w2.heap.size (.slice (some ⟨g, 0, none⟩) (pl + 1) cap') (pre ++ [c]) (pv ++ [v]) := HF.out.1.below (below_one _ _)
                  have hP5 := (heap_alloc_old w3 (.cells #[.string ⟨a1.toArray⟩, .int .i64 a2, .int .i64 a3, .string ⟨a4.toArray⟩, .int .i64 kk] 33) (heap_lt' HP3.out)).trans HP3.out
                  have hs5 := HF.out.2.2.2.2.2.2.2.2.2.2.1
                  have hb5 := HF.out.2.2.2.2.2.2.2.2.2.2.2.alloc hs5 (.cells #[.string ⟨a1.toArray⟩, .int .i64 a2, .int .i64 a3, .string ⟨a4.toArray⟩, .int .i64 kk] 33)
                  have hs5' : w2.heap.size ≤ (w3.alloc (.cells #[.string ⟨a1.toArray⟩, .int .i64 a2, .int .i64 a3, .string ⟨a4.toArray⟩, .int .i64 kk] 33)).heap.size := by simp; omega
                  obtain ⟨qb, hqb⟩ : ∃ qb, qb = w3.heap.size := ⟨_, rfl⟩
                  rw [← hqb] at HQ ⊢
                  have hHF := Lib.hid (And.intro HF.out.2.1 (And.intro HF.out.2.2.1 (And.intro HF.out.2.2.2.1 (And.intro HF.out.2.2.2.2.1 (And.intro HF.out.2.2.2.2.2.1 (And.intro HF.out.2.2.2.2.2.2.1 (And.intro HF.out.2.2.2.2.2.2.2.1 HF.out.2.2.2.2.2.2.2.2.1)))))))
                  generalize w3.alloc (.cells #[.string ⟨a1.toArray⟩, .int .i64 a2, .int .i64 a3, .string ⟨a4.toArray⟩, .int .i64 kk] 33) = W5 at HQ hO5 hP5 hb5 hs5' ⊢
                  clear hs5 hqb HF HP3
                  have e0 : W5.cell? ⟨qb, 0, none⟩ = some (.string ⟨a1.toArray⟩) := cell_of_row _ _ _ _ _ _ HQ
                  have e1 : W5.cell? ⟨qb, 1, none⟩ = some (.int .i64 a2) := cell_of_row _ _ _ _ _ _ HQ
                  have e2 : W5.cell? ⟨qb, 2, none⟩ = some (.int .i64 a3) := cell_of_row _ _ _ _ _ _ HQ
                  have e3 : W5.cell? ⟨qb, 3, none⟩ = some (.string ⟨a4.toArray⟩) := cell_of_row _ _ _ _ _ _ HQ
                  have e4 : W5.cell? ⟨qb, 4, none⟩ = some (.int .i64 kk) := cell_of_row _ _ _ _ _ _ HQ
                  obtain ⟨g0, cap0, cur, hh1, -, hh2, -, hh4, -⟩ := hO5.form (by simp)
                  simp only [Value.slice.injEq, Option.some.injEq, Addr.mk.injEq, and_true] at hh1
                  obtain ⟨rfl, hh3, rfl⟩ := hh1
                  have eg : W5.cell? ⟨g, pl, none⟩ = some v := hh4 pl v (by have := hO5.len; simp at this; rw [show pl = pv.length by have := hHF.out.1; omega]; simp)
                  have HOD := Lib.hid (hO5.keep (w' := W5.drew) fun _ _ => rfl)
                  have HP5 := Lib.hid hP5
                  have HB5 := Lib.hid hb5
                  have HC1 := hHF.out.2.1
                  have plb : pl ≤ 300 := by have := hHF.out.2.2.1.count m1 (by rw [sumN_append, sumN_one]; have := HSUM.out; show _ + (a5 - r) ≤ _; omega); have := hHF.out.1; simp at *; omega
                  have hix : IntKind.i64.wrap (pl : Int) = (pl : Int) := IntWalk.i64_in _ (by omega)
                  have hix2 : (pl : Int) < (pl : Int) + 1 := by omega
                  have hix3 : (0 : Int) ≤ (pl : Int) := Int.natCast_nonneg pl
                  clear hO5 hP5 hb5 hh2 hh4 hh3 HQ
                  have eg2 : (W5.alloc (.cells #[.string ⟨a1.toArray⟩, .int .i64 a2, .int .i64 a3, .string ⟨a4.toArray⟩, .int .i64 kk] 33)).cell? ⟨g, pl, none⟩ = some v := ((below_one W5 _).cell (p := ⟨g, pl, none⟩) (lt_of_cell eg)).trans eg
                  have hnew : ∀ (j : Nat) (u : Value), (encPick ((a1, a2, a3), a4, kk))[j]? = some u → (W5.drew.alloc (.cells #[.string ⟨a1.toArray⟩, .int .i64 a2, .int .i64 a3, .string ⟨a4.toArray⟩, .int .i64 kk] 33)).cell? ((⟨W5.drew.heap.size, 0, none⟩ : Addr).add j) = some u :=
                    World.news_of_block (cs := #[.string ⟨a1.toArray⟩, .int .i64 a2, .int .i64 a3, .string ⟨a4.toArray⟩, .int .i64 kk]) (t := 33) (fr := (0, 0)) (heap_alloc_new _ _)
                  have htest := fun (ops : Array Oper) (o : Oper) (a : Act) (K : Act → World → Prop) (Q : Exit → Act → World → Prop) (F : Prop) (hgd : o.guard = none) (ho) (hs : a.eval (.tmp 82) = v) (hx : a.eval (.tmp 84) = .slice (some ⟨W5.drew.heap.size, 0, none⟩) 1 1) (h) =>
                    step_append_cart (ops := ops) (o := o) (a := a) (K := K) (Q := Q) (F := F) (W5.drew.alloc (.cells #[.string ⟨a1.toArray⟩, .int .i64 a2, .int .i64 a3, .string ⟨a4.toArray⟩, .int .i64 kk] 33)) hgd (.tmp 82) (.tmp 84) ho w2.heap.size g cap' pl pre c pv v ((a1, a2, a3), a4, kk) (HOD.out.below (below_one _ _)) hHF.out.1 hs ⟨W5.drew.heap.size, 0, none⟩ 1 hx hnew (by omega) (by simp; omega) h
                  have HSTEP := Lib.hid htest
                  clear hnew htest
                  go_region_law (refine HSTEP.out _ _ _ _ _ _ rfl rfl (by simp [Act.eval]) (by simp [Act.eval]) ?_; intro g2 cap2 w6 KK hcg hfg)
                  all_goals
                    have HKK := KK
                    obtain ⟨q1, q2, q3⟩ := HKK.out
                    have hpl2 := hHF.out.1
                    have hap := hHF.out.2.2.2.2.2.2.2
                    have hgp := hHF.out.2.2.2.2.2.2.1
                    have hs7 := q2.size
                    simp at hs7
                    have hpbl := heap_lt' HP5.out
                    have hadd := OutAt.add (q := ((a1, a2, a3), a4, kk)) (by have := HOD.out.below (below_one W5.drew (.cells #[.string ⟨a1.toArray⟩, .int .i64 a2, .int .i64 a3, .string ⟨a4.toArray⟩, .int .i64 kk] 33)); rwa [hpl2] at this) q1 q2 (fun a ha => by
                      have e : g2 = a := by simpa [Value.ownBlock] using ha
                      subst e
                      rcases q3 with h | h
                      · exact .inl h
                      · exact .inr (by rw [h]; exact Nat.le_refl _))
                    rw [← hpl2] at hadd
                    have hp7 : (w6.setCell ⟨g, pl, none⟩ (.slice (some ⟨g2, 0, none⟩) (c.length + 1) cap2)).heap[pb]? = some (.cells #[.string ⟨a1.toArray⟩, .int .i64 a2, .int .i64 a3, .string ⟨a4.toArray⟩, .int .i64 r] 33 (0, 0)) :=
                      (heap_setCell_other _ _ _ _ (fun e => hgp e.symm)).trans ((q2.block pb (by simp; omega) (fun e => hap v (by simp) pb e.symm rfl)).trans ((heap_alloc_old _ _ hpbl).trans HP5.out))
                    have hg2 : g2 ≠ pb := by
                      rcases q3 with h | h
                      · exact hap v (by simp) g2 h
                      · rw [h]; simp; omega
                    have hgB := (own_blt HOD.out.own g rfl).1
                    have hb7 : Below w2.heap.size w2 (w6.setCell ⟨g, pl, none⟩ (.slice (some ⟨g2, 0, none⟩) (c.length + 1) cap2)) := ((HB5.out.drew.alloc hs5' _).grown q2 (by simp; omega) (fun j hj => (HOD.out.lts v (by simp) j hj).1)).setCell (p := ⟨g, pl, none⟩) hgB _
                    have d4 : (w6.setCell ⟨g, pl, none⟩ (.slice (some ⟨g2, 0, none⟩) (c.length + 1) cap2)).cell? ⟨pb, 4, none⟩ = some (.int .i64 r) := cell_of_row _ _ _ _ _ _ hp7
                    have f4 : (w6.setCell ⟨g, pl, none⟩ (.slice (some ⟨g2, 0, none⟩) (c.length + 1) cap2)).frozen? ⟨pb, 4, none⟩ = false := frozen_of_row _ _ _ _ _ hp7
                    have hs8 : w2.heap.size ≤ (w6.setCell ⟨g, pl, none⟩ (.slice (some ⟨g2, 0, none⟩) (c.length + 1) cap2)).heap.size := by simp; omega
                    generalize w6.setCell ⟨g, pl, none⟩ (.slice (some ⟨g2, 0, none⟩) (c.length + 1) cap2) = W7 at hadd hp7 hb7 d4 f4 hs8 ⊢
                    have HADD := Lib.hid hadd
                    have HP7 := Lib.hid hp7
                    have HB7 := Lib.hid hb7
                    have HAP := Lib.hid hap
                    obtain ⟨hk1, hk2, hk4⟩ := hk3
                    clear hadd hp7 hb7 KK HKK q1 q2 q3 hcg hfg e0 e1 e2 e3 e4 eg eg2 HSTEP HOD HP5 HB5 hs7 hpbl hpl2 hap hs5'
                    go_wp2
                    go_roundw
                    case rel =>
                      obtain ⟨n1, n2, n3, n4, n5, n6, -, -⟩ := hHF.out
                      have hpc := n3.piece (k := kk) hk1 hk2 Y3.out HFUT.out.1 HFUT.out.2
                      have hb8 := HB7.out.setCell (p := ⟨pb, 4, none⟩) hpl (.int .i64 (r - kk))
                      have h8 := heap_setCell_same W7 pb 4 _ _ (.int .i64 (r - kk)) HP7.out
                      have hks := HKR.out
                      have hvap : ∀ v' ∈ pv ++ [Value.slice (some ⟨g2, 0, none⟩) (c.length + 1) cap2], ∀ a, v'.ownBlock = some a → a ≠ pb := fun v' hv' a ha => by
                        rcases List.mem_append.1 hv' with hv' | hv'
                        · exact HAP.out v' (List.mem_append_left _ hv') a ha
                        · rw [List.mem_singleton] at hv'
                          subst hv'
                          have e : g2 = a := by simpa [Value.ownBlock] using ha
                          rw [← e]; exact hg2
                      have hoap : ∀ a, (Value.slice (some ⟨g, 0, none⟩) (pl + 1) cap').ownBlock = some a → a ≠ pb := fun a ha => by
                        have e : g = a := by simpa [Value.ownBlock] using ha
                        rw [← e]; exact hgp
                      have hO8 : OutAt (W7.setCell ⟨pb, 4, none⟩ (.int .i64 (r - kk))) w2.heap.size (.slice (some ⟨g, 0, none⟩) (pl + 1) cap') (pre ++ [c ++ [((a1, a2, a3), a4, kk)]]) (pv ++ [Value.slice (some ⟨g2, 0, none⟩) (c.length + 1) cap2]) := HADD.out.far (pb := pb) (fun a ha => heap_setCell_other _ _ _ _ ha) hoap hvap
                      refine ⟨pre ++ [c ++ [((a1, a2, a3), a4, kk)]], pv ++ [Value.slice (some ⟨g2, 0, none⟩) (c.length + 1) cap2], RM - kk, r - kk, (by have h9 := HRM.out; first | (rw [← h9]; done) | (rw [← h9, IntWalk.wrap64_in _ (by omega)])), by omega, by omega, ⟨?_, by omega, ?_, fun _ => ?_, ?_⟩, hO8, ⟨by simpa using h8, hoap, hvap⟩, HB2.out.trans (hb8.mono HB2.out.size), hb8.size, hb8⟩
                      · rwa [show a5 - (r - kk) = a5 - r + kk by omega]
                      · rw [flat_snoc, List.length_append]; omega
                      · rw [flat_snoc, List.length_append, List.length_singleton]; omega
                      · refine n6.piece hrm2.1 hk2 _ ?_
                        split
                        · exact .inl rfl
                        · exact .inr ⟨rfl, by omega⟩
                    case measure =>
                      rw [HM0.out]
                      have h8 := heap_setCell_same W7 pb 4 _ _ (.int .i64 (r - kk)) HP7.out
                      have : cellNat (W7.setCell ⟨pb, 4, none⟩ (.int .i64 (r - kk))) pb 4 = (r - kk).toNat := by
                        unfold cellNat
                        rw [cell_of_row _ _ _ _ _ _ h8]; rfl
                      rw [this]; omega
              · obtain rfl : r = 0 := by omega
                have HI2 := HI
                clear HI
                go_wp2
                go_roundw
                case rel =>
                  obtain ⟨n1, n2, n3, n4, n5⟩ := HI2.out
                  refine ⟨m + 1, cs, vals, rm, by omega, by go_num, rfl, ⟨?_, n2, n4 (by omega), by rwa [if_pos rfl] at n5⟩, HO, HB.out, hsz, HB22.out⟩
                  have h1 := n1.fut (fut' := ss.drop (m + 1)) (fun x hx => by rw [List.drop_eq_getElem_cons hms]; exact List.mem_cons_of_mem _ hx)
                  rw [show a5 - 0 = a5 by omega] at h1
                  rw [List.take_succ_eq_append_getElem hms, ← HY.out]
                  exact h1
                case measure => simp [intOf]; omega
          · obtain rfl : m = k := by omega
            have hat := HO.out.at_
            obtain ⟨AA, cc, hv, hca⟩ := hat
            subst hv
            have HCA := Lib.hid hca
            have HOK : Hid (CartsOk most xs cs) := by
              obtain ⟨n1, n2, n3, n4⟩ := HI.out
              rw [List.take_of_length_le (by rw [HSL.out]; exact Nat.le_refl _), List.drop_of_length_le (by rw [HSL.out]; exact Nat.le_refl _)] at n1
              have hs3 := HS0.out
              exact n1.ok m1 n2 HPR.out (by rw [← hs3.1]; omega) (by rw [← HN.out]; exact n3) (by rw [← HN.out]; exact n4)
            clear hca HI HO
            go_wp2
            go_ret2
            exact ⟨.inr ⟨m1, m2, HALL.out, AA, cc, cs, HOK.out, rfl, HCA.out⟩, HB.out⟩

set_option maxHeartbeats 400000 in
theorem carts_out (E : Nat → Addr) (A : Option Addr) (n cap : Nat) (xs : List PickV) (most : Int) (w : World) (hG : RouteG E w) (h : most < 1 ∨ 1099511627776 < most) :
    Calls Tryd.prog 8 #[.slice A n cap, .int .i64 most] w (CartsEnds most xs w) := by
  have hb := hG.bound
  unfold ErrAt at hb
  clear hG
  go_enter Tryd.func8, Tryd.ntmps8
  go_wp2_with fail
  refine (within_no most 1 1099511627776 w h).mono ?_
  rintro e w1 ⟨rfl, rfl⟩
  go_wp2_with fail
  go_quiet (fail)
  go_wp2_with fail
  go_ret2
  exact ⟨.inl ⟨_, _, fun h => by omega, rfl⟩, below_drewN (Below.refl _ _) _⟩

set_option maxHeartbeats 400000 in
theorem carts_none (most : Int) (w : World) (m1 : 1 ≤ most) (m2 : most ≤ 1099511627776) :
    Calls Tryd.prog 8 #[.slice none 0 0, .int .i64 most] w fun e w' => e = .returned (.tuple #[.slice none 0 0, .nilIface]) ∧ w = w' := by
  have m3 : ¬ most * 200 < 0 := by omega
  go_enter Tryd.func8, Tryd.ntmps8
  go_wp2_with fail
  refine (within_yes most 1 1099511627776 w m1 m2).mono ?_
  rintro e w1 ⟨rfl, rfl⟩
  go_wp2_with fail
  refine wp_loop_rounds 1 ?_
  rw [rounds_succ]
  go_wp2_with fail
  refine (sortP_none _).mono ?_
  rintro e w1 ⟨rfl, rfl⟩
  go_wp2_with fail
  refine wp_loop_rounds 1 ?_
  rw [rounds_succ]
  go_wp2_with fail
  go_ret2
  exact ⟨rfl, rfl⟩
end Go.Proofs.YtcmjdaalhokmdaaDoor
