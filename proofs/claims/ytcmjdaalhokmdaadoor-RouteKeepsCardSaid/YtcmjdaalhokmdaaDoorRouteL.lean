/- The law RouteKeeps, walked. -/
import Derived.Test.YtcmjdaalhokmdaaDoorRoute
import Derived.Test.YtcmjdaalhokmdaaDoorPlaceA
import Derived.Test.YtcmjdaalhokmdaaDoorPlaceE
import Derived.Deep.MidRow
import Derived.Test.YtcmjdaalhokmdaaDoorAppN
namespace Go.Proofs.YtcmjdaalhokmdaaDoor
open Go.RowKit Go.Sort Go.Proofs

theorem sumN_take_ge {l : List PickV} (h : ∀ x ∈ l, 0 ≤ x.2.2) (k : Nat) : 0 ≤ sumN (l.take k) := sumN_nonneg fun x hx => h x (List.mem_of_mem_take hx)
theorem keyN_take_bound (p : PlaceV) (s : List UInt8) {l : List PickV} (h : ∀ x ∈ l, 0 ≤ x.2.2) (k : Nat) : 0 ≤ keyN p s (l.take k) ∧ keyN p s (l.take k) ≤ sumN l := by
  have h1 := keyN_bound p s (l := l.take k) fun x hx => h x (List.mem_of_mem_take hx)
  have h2 := sumN_take_le h k
  omega

set_option maxHeartbeats 4000000 in
set_option maxRecDepth 100000 in
theorem keeps_in (E : Nat → Addr) (A : Option Addr) (cap : Nat) (xs : List PickV) (most : Int) (w : World) (hG : RouteG E w) (hX : RowAt encPick 5 w A xs) (h0 : xs ≠ []) :
    Calls Tryd.prog 3 #[.slice A xs.length cap, .int .i64 most] w fun e w' => e = .returned (.bool true) ∧ Below w.heap.size w w' := by
  obtain ⟨i0, hi, hz0, hz1, hz2⟩ := info_parts pickInfo
  obtain ⟨n, hn⟩ : ∃ n, n = xs.length := ⟨_, rfl⟩
  have HN := Lib.hid hn
  have HX := Lib.hid hX
  have HG := Lib.hid hG
  rw [← hn]
  clear hX hn hG
  go_enter Tryd.func3, Tryd.ntmps3
  go_wp2_with fail
  refine (routed_any E _ HG.out).mono ?_
  rintro e w1 ⟨rfl, b1⟩
  have HX1 := Lib.hid (HX.out.below b1)
  have hlp := longPicks_any A cap xs w1 HX1.out
  rw [← HN.out] at hlp
  have HLP := Lib.hid hlp
  have HB1 := Lib.hid b1
  clear b1 hlp
  go_wp2_with fail
  refine HLP.out.mono ?_
  rintro e w2 ⟨⟨b, rfl, hb30⟩, b2⟩
  have HB2 := Lib.hid (HB1.out.trans (b2.mono HB1.out.size))
  have HX2 := Lib.hid (HX1.out.below b2)
  clear b2 HLP HX1
  cases b with
  | true =>
    go_wp2
    go_ret
    exact ⟨rfl, HB2.out⟩
  | false =>
  have hn30 := hb30 rfl
  clear hb30
  go_wp2_with (at_builtin; refine wpList_append_rows _ rfl (.tmp 27) (.tmp 28) 22 rfl w2.heap.size 33 i0 _ 56 Tryd.underlying22 hi hz0 hz1 hz2 rfl encPick_len (by decide) encPick_one (.slice none 0 0) 0 [] rfl (World.ownsRow_nil _ _ _ _) A cap xs (by rw [← HN.out]; rfl) HX2.out (by rw [← HN.out]; omega) (by decide) (Nat.le_refl _) ?_; intro v1 wa KO ba; have HBA := Lib.hid ba; clear ba)
  have hown := KO.out
  rw [Nat.zero_add, List.nil_append] at hown
  obtain ⟨A1, c1, hv1, hS1, -⟩ := RowAt.of_own encPick_len hown
  rw [← HN.out] at hv1
  subst hv1
  have b3 := HB2.out.trans (HBA.out.mono HB2.out.size)
  have hce : Calls Tryd.prog 8 #[.slice A1 n c1, .int .i64 most] wa (CartsEnds most xs wa) := by
    by_cases hm : most < 1 ∨ 1099511627776 < most
    · exact carts_out E A1 n c1 xs most wa (HG.out.below b3) hm
    · have := carts_some E A1 c1 xs most wa (HG.out.below b3) hS1 (by rw [← HN.out]; exact hn30) h0 (by omega) (by omega)
      rwa [← HN.out] at this
  have HCE := Lib.hid hce
  have HB3 := Lib.hid b3
  clear hce b3 hown KO hS1
  refine HCE.out.mono ?_
  rintro e w3 ⟨(⟨t, p, -, rfl⟩ | ⟨m1, m2, hall, A3, c3, cs, hok, rfl, hat⟩), bb3⟩
  · have HB4 := Lib.hid (HB3.out.trans (bb3.mono HB3.out.size))
    clear bb3
    go_wp2
    go_ret
    exact ⟨rfl, HB4.out⟩
  have HB4 := Lib.hid (HB3.out.trans (bb3.mono HB3.out.size))
  have HXL := Lib.hid (HX2.out.below (HBA.out.trans (bb3.mono HBA.out.size)))
  have HOK := Lib.hid hok
  have HALL := Lib.hid hall
  have hn1 : 0 < n := by rw [HN.out]; exact List.length_pos_iff.2 h0
  have hcs : cs ≠ [] := fun h => by
    have := hok.many
    rw [h, ← HN.out] at this
    simp at this; omega
  obtain ⟨L, hL⟩ : ∃ L, L = cs.length := ⟨_, rfl⟩
  have HL := Lib.hid hL
  have hL1 : L ≤ 201 := by rw [hL]; exact hok.len
  have hL0 : 0 < L := by rw [hL]; exact List.length_pos_iff.2 hcs
  obtain ⟨cb, co, rfl, lcb, hcells⟩ := hat.resolve_left hcs
  have HCC := Lib.hid hcells
  rw [← hL]
  clear hok hall hcells hat hL bb3 HCE HBA HX2 HB3
  go_wp2
  go_loopw [9, 10] (fun all i wr => ∃ (k m : Nat), k ≤ L ∧ i = .int .i64 k ∧ m ≤ 231 ∧ Hid (m = (cs.take k).flatten.length ∧ wr.ownsRow w3.heap.size 33 5 all m (flatL encPick (cs.take k).flatten)) ∧ Below w3.heap.size w3 wr) (fun _ i _ => L - (intOf i).toNat)
  case atStart => exact ⟨0, 0, by omega, rfl, by omega, ⟨by simp, World.ownsRow_nil _ _ _ _⟩, Below.refl _ _⟩
  case round =>
    obtain ⟨k, m, hk, rfl, hm, HO, hb⟩ := hrel
    have HB := Lib.hid hb
    clear hb
    by_cases hkl : k < L
    · have hkx : k < cs.length := by rw [← HL.out]; exact hkl
      obtain ⟨Ak, ck, hcell, hrow⟩ := HCC.out k hkx
      have d0 : wr.cell? ⟨cb, co + k, none⟩ = some (.slice Ak cs[k].length ck) := (HB.out.cell (p := ⟨cb, co + k, none⟩) lcb).trans hcell
      have hsm := HOK.out.sums k hkx
      have hpos : ∀ x ∈ cs[k], 1 ≤ x.2.2 := fun x hx => HOK.out.pos x (List.mem_flatten.2 ⟨cs[k], List.getElem_mem hkx, hx⟩)
      have hflat : (cs.take (k + 1)).flatten = (cs.take k).flatten ++ cs[k] := by rw [List.take_succ_eq_append_getElem hkx, List.flatten_append, List.flatten_cons, List.flatten_nil, List.append_nil]
      have hfl : (cs.take (k + 1)).flatten.length ≤ 231 := by
        have h1 := HOK.out.few
        have h2 : cs.flatten = (cs.take (k + 1)).flatten ++ (cs.drop (k + 1)).flatten := by rw [← List.flatten_append, List.take_append_drop]
        have h3 := congrArg List.length h2
        rw [List.length_append] at h3
        rw [← HN.out] at h1
        omega
      rw [hflat, List.length_append] at hfl
      obtain ⟨c, hc⟩ : ∃ c, c = cs[k] := ⟨_, rfl⟩
      have HCK := Lib.hid hc
      rw [← hc] at d0 hsm hpos hflat hfl hrow
      obtain ⟨lk, hlk⟩ : ∃ lk, lk = c.length := ⟨_, rfl⟩
      have HLK := Lib.hid hlk
      rw [← hlk] at d0 hfl
      have HROW := Lib.hid hrow
      have HCELL := Lib.hid (show w3.cell? ⟨cb, co + k, none⟩ = some (.slice Ak lk ck) by rw [hlk, hc]; exact hcell)
      have HSM := Lib.hid hsm
      have HPOS := Lib.hid hpos
      have HFLAT := Lib.hid hflat
      have hlk1 : lk ≤ 231 := by omega
      have hml : m + lk ≤ 231 := by have := HO.out.1; omega
      clear hcell hrow hsm hpos hflat hc hlk
      go_wp2_with fail
      go_loopw [9, 11, 12] (fun all s j wv => ∃ (q mq : Nat), q ≤ lk ∧ j = .int .i64 q ∧ s = .int .i64 (sumN (c.take q)) ∧ mq = m + q ∧ Hid (wv.ownsRow w3.heap.size 33 5 all mq (flatL encPick ((cs.take k).flatten ++ c.take q))) ∧ Below w3.heap.size w3 wv) (fun _ _ j _ => lk - (intOf j).toNat)
      case atStart => exact ⟨0, m, by omega, rfl, rfl, by omega, by have h := HO.out.2; show World.ownsRow _ _ _ _ _ _ _; rw [List.take_zero, List.append_nil]; exact h, HB.out⟩
      case round =>
        obtain ⟨q, mq, hq, rfl, rfl, hmq, HO2, hb⟩ := hrel
        have HB5 := Lib.hid hb
        have d0 : wr.cell? ⟨cb, co + k, none⟩ = some (.slice Ak lk ck) := (hb.cell (p := ⟨cb, co + k, none⟩) lcb).trans HCELL.out
        clear hb
        by_cases hql : q < lk
        · have hqx : q < c.length := by rw [← HLK.out]; exact hql
          obtain ⟨ba, oa, rfl, la, ca⟩ := HROW.out.resolve_left (fun h => by rw [h] at hqx; simp at hqx)
          obtain ⟨x, hx⟩ : ∃ x, x = c[q] := ⟨_, rfl⟩
          have r5 := range5 (x := x) (w := wr) (b := ba) (o := oa + q * 5) (fun cc v hv => (HB5.out.cell (p := ⟨ba, oa + q * 5 + cc, none⟩) la).trans (ca q hqx cc v (by rw [← hx]; exact hv)))
          have hT := sumN_take c q hqx
          have hge := sumN_take_ge (l := c) (fun y hy => by have := HPOS.out y hy; omega) q
          have hle := sumN_take_le (l := c) (fun y hy => by have := HPOS.out y hy; omega) (q + 1)
          have hx1 := HPOS.out x (by rw [hx]; exact List.getElem_mem hqx)
          have hsm := HSM.out.2.1
          rw [← hx] at hT
          have HX5 := Lib.hid hx
          clear hx ca
          obtain ⟨⟨a1, a2, a3⟩, a4, a5⟩ := x
          obtain ⟨e0, e1, e2, e3, e4⟩ := r5
          simp only at e0 e1 e2 e3 e4 hx1 hT
          obtain ⟨s0, hs0⟩ : ∃ s0, s0 = sumN (c.take q) := ⟨_, rfl⟩
          rw [← hs0] at hT hge ⊢
          have HT := Lib.hid hT
          have hs1 : s0 + a5 ≤ 1099511627776 := by omega
          have hbs := HB5.out.size
          clear hT hs0 hle hsm
          go_wp2_with (at_builtin; refine wpList_append_lies _ rfl (.tmp 66) (.tmp 74) 22 rfl w3.heap.size 33 i0 _ 5 56 Tryd.underlying22 hi hz0 hz1 hz2 rfl (by decide) u9 mq (flatL encPick ((cs.take k).flatten ++ c.take q)) rfl (HO2.out.alloc _) _ 1 1 [.string ⟨a1.toArray⟩, .int .i64 a2, .int .i64 a3, .string ⟨a4.toArray⟩, .int .i64 a5] rfl rfl (World.news_of_block (cs := #[.string ⟨a1.toArray⟩, .int .i64 a2, .int .i64 a3, .string ⟨a4.toArray⟩, .int .i64 a5]) (t := 33) (fr := (0, 0)) (heap_alloc_new _ _)) (by simp [Value.oneCell']) (by omega) (by unfold maxLen; omega) (by omega) (by simp; omega) _ rfl ?_; intro gg cap' w5 hown5 hgrow hat hlt5; have HK := Lib.hid (And.intro hown5 hgrow); clear hown5 hgrow hat)
          have hb6 : Below w3.heap.size w3 w5 := (HB5.out.alloc hbs _).grown HK.out.2 (by simp; omega) (fun j hj => (own_blt HO2.out j hj).1)
          go_roundw
          case rel =>
            refine ⟨q + 1, mq + 1, by omega, by go_num, by rw [HT.out], by omega, ?_, hb6⟩
            have h := HK.out.1
            have e : flatL encPick ((cs.take k).flatten ++ c.take (q + 1)) = flatL encPick ((cs.take k).flatten ++ c.take q) ++ [.string ⟨a1.toArray⟩, .int .i64 a2, .int .i64 a3, .string ⟨a4.toArray⟩, .int .i64 a5] := by
              rw [List.take_succ_eq_append_getElem hqx, ← HX5.out, ← List.append_assoc, flatL_append]
              rfl
            show World.ownsRow _ _ _ _ _ _ _
            rw [hmq] at h ⊢
            rw [e]; exact h
          case measure => simp [intOf]; omega
        · obtain rfl : q = lk := by omega
          have hsm := HSM.out
          have hO2 := HO2.out
          have htk : c.take q = c := List.take_of_length_le (by rw [← HLK.out]; exact Nat.le_refl _)
          rw [htk] at hO2 ⊢
          have HO3 := Lib.hid hO2
          obtain ⟨S, hS⟩ : ∃ S, S = sumN c := ⟨_, rfl⟩
          rw [← hS] at hsm ⊢
          obtain ⟨s1, s2, s3⟩ := hsm
          rw [← HL.out] at s3
          have s4 : ¬ most < S := by omega
          have s5 : ¬ S < 1 := by omega
          clear hO2 HO2 hS
          by_cases hk1 : k + 1 < L
          · have hSm := s3 hk1
            subst hSm
            have s6 : (k : Int) < (L : Int) - 1 := by omega
            clear s3
            go_wp2_with fail
            go_roundw
            case rel => exact ⟨k + 1, mq, by omega, by go_num, by omega, ⟨by rw [HFLAT.out, List.length_append, ← HLK.out, ← HO.out.1]; exact hmq, by rw [HFLAT.out]; exact HO3.out⟩, HB5.out⟩
            case measure => simp [intOf]; omega
          · have s6 : ¬ (k : Int) < (L : Int) - 1 := by omega
            clear s3
            go_wp2_with fail
            go_roundw
            case rel => exact ⟨k + 1, mq, by omega, by go_num, by omega, ⟨by rw [HFLAT.out, List.length_append, ← HLK.out, ← HO.out.1]; exact hmq, by rw [HFLAT.out]; exact HO3.out⟩, HB5.out⟩
            case measure => simp [intOf]; omega
    · obtain rfl : k = L := by omega
      have htk : cs.take k = cs := List.take_of_length_le (by rw [← HL.out]; exact Nat.le_refl _)
      have ho := HO.out
      rw [htk] at ho
      obtain ⟨al, hal⟩ : ∃ al, al = cs.flatten := ⟨_, rfl⟩
      rw [← hal] at ho
      obtain ⟨ho1, ho2⟩ := ho
      rw [ho1] at ho2
      obtain ⟨A9, c9, hv9, hS9, -⟩ := RowAt.of_own encPick_len ho2
      rw [← ho1] at hv9
      subst hv9
      have hmany := HOK.out.many
      rw [← hal, ← ho1, ← HN.out] at hmany
      have HM := Lib.hid ho1
      have HGE := Lib.hid hmany
      have hal0 : al ≠ [] := fun h => by rw [h] at ho1; simp at ho1; omega
      obtain ⟨by_, oy, rfl, lby, hcy⟩ := hS9.resolve_left hal0
      obtain ⟨bx, ox, rfl, lbx, hcx⟩ := (HXL.out.below HB.out).resolve_left h0
      obtain ⟨w9, hw9⟩ : ∃ w9 : World, w9 = wr := ⟨_, rfl⟩
      have CX : Hid (bx < w9.heap.size ∧ ∀ i (h : i < xs.length) c v, (encPick xs[i])[c]? = some v → w9.cell? ⟨bx, ox + i * 5 + c, none⟩ = some v) := by rw [hw9]; exact ⟨lbx, hcx⟩
      have CY : Hid (by_ < w9.heap.size ∧ ∀ i (h : i < al.length) c v, (encPick al[i])[c]? = some v → w9.cell? ⟨by_, oy + i * 5 + c, none⟩ = some v) := by rw [hw9]; exact ⟨lby, hcy⟩
      have HB9 : Hid (Below w.heap.size w w9) := by rw [hw9]; exact HB4.out.trans (HB.out.mono HB4.out.size)
      have HKEY : Hid (∀ p s, keyN p s al = keyN p s xs) := by rw [hal]; exact HOK.out.keys
      have HNX : Hid (∀ x ∈ xs, (0 : Int) ≤ x.2.2) := fun x hx => by have := (pickE_zero.1 (HALL.out x hx)).2.2; omega
      have HNY : Hid (∀ x ∈ al, (0 : Int) ≤ x.2.2) := fun x hx => by rw [hal] at hx; have := HOK.out.pos x hx; omega
      have HWELL : Hid (∀ y ∈ al, InP y.1) := by rw [hal]; exact HOK.out.well
      have HORD : Hid (al.Pairwise fun x y => ltOf cfPlace y.1 x.1 = false) := by rw [hal]; exact HOK.out.ord
      have HSX : Hid (sumN xs ≤ 219902325555200) := by
        have := (sum_bound xs xs.length (by rw [← HN.out]; exact hn30) (Nat.le_refl _) (fun j hj _ => HALL.out _ (List.getElem_mem hj))).2
        rw [List.take_length] at this
        show _ ≤ _
        omega
      have HSY : Hid (sumN al ≤ 219902325555200) := by rw [hal, HOK.out.sum]; exact HSX.out
      rw [← hw9]
      clear ho1 ho2 htk hal hS9 lby hcy lbx hcx hw9 HO HB HXL HB4 HCC lcb hal0 hL1 hL0
      go_wp2_with fail
      go_loopw [13] (fun i wv => ∃ k : Nat, k ≤ n ∧ i = .int .i64 k ∧ Below w9.heap.size w9 wv) (fun i _ => n - (intOf i).toNat)
      case atStart => exact ⟨0, by omega, rfl, Below.refl _ _⟩
      case round =>
        obtain ⟨k, hk, rfl, hb⟩ := hrel
        have HB := Lib.hid hb
        clear hb
        by_cases hkl : k < n
        · have hkx : k < xs.length := by rw [← HN.out]; exact hkl
          obtain ⟨x, hx⟩ : ∃ x, x = xs[k] := ⟨_, rfl⟩
          have XC : Hid (∀ W, Below w9.heap.size w9 W → W.cell? ⟨bx, ox + k * 5, none⟩ = some (.string ⟨x.1.1.toArray⟩) ∧ W.cell? ⟨bx, ox + k * 5 + 1, none⟩ = some (.int .i64 x.1.2.1) ∧ W.cell? ⟨bx, ox + k * 5 + 2, none⟩ = some (.int .i64 x.1.2.2) ∧ W.cell? ⟨bx, ox + k * 5 + 3, none⟩ = some (.string ⟨x.2.1.toArray⟩) ∧ W.cell? ⟨bx, ox + k * 5 + 4, none⟩ = some (.int .i64 x.2.2)) := fun W h =>
            range5 (x := x) (w := W) (b := bx) (o := ox + k * 5) (fun cc v hv => (h.cell (p := ⟨bx, ox + k * 5 + cc, none⟩) CX.out.1).trans (CX.out.2 k hkx cc v (by rw [← hx]; exact hv)))
          clear hx
          obtain ⟨⟨p1, p2, p3⟩, p4, p5⟩ := x
          simp only at XC
          go_wp2_with fail
          go_loopw [14, 16] (fun a j wv => ∃ q : Nat, q ≤ n ∧ j = .int .i64 q ∧ a = .int .i64 (keyN (p1, p2, p3) p4 (xs.take q)) ∧ Below w9.heap.size w9 wv) (fun _ j _ => n - (intOf j).toNat)
          case atStart => exact ⟨0, by omega, rfl, rfl, HB.out⟩
          case round =>
            obtain ⟨q, hq, rfl, rfl, hb⟩ := hrel
            have HB5 := Lib.hid hb
            obtain ⟨x0, x1, x2, x3, x4⟩ := XC.out wr hb
            clear hb
            by_cases hql : q < n
            · have hqx : q < xs.length := by rw [← HN.out]; exact hql
              obtain ⟨y, hy⟩ : ∃ y, y = xs[q] := ⟨_, rfl⟩
              have r5 := range5 (x := y) (w := wr) (b := bx) (o := ox + q * 5) (fun cc v hv => (HB5.out.cell (p := ⟨bx, ox + q * 5 + cc, none⟩) CX.out.1).trans (CX.out.2 q hqx cc v (by rw [← hy]; exact hv)))
              have hT := keyN_take (p1, p2, p3) p4 xs q hqx
              have hbd := keyN_take_bound (p1, p2, p3) p4 (l := xs) HNX.out q
              have hbd2 := keyN_take_bound (p1, p2, p3) p4 (l := xs) HNX.out (q + 1)
              have hsum := HSX.out
              rw [← hy] at hT
              have hyn := HNX.out y (by rw [hy]; exact List.getElem_mem hqx)
              clear hy
              obtain ⟨⟨y1, y2, y3⟩, y4, y5⟩ := y
              obtain ⟨e0, e1, e2, e3, e4⟩ := r5
              simp only at e0 e1 e2 e3 e4 hT hyn
              obtain ⟨s0, hs0⟩ : ∃ s0, s0 = keyN (p1, p2, p3) p4 (xs.take q) := ⟨_, rfl⟩
              rw [← hs0] at hT hbd ⊢
              rw [hT] at hbd2
              have HT := Lib.hid hT
              have q1 : 0 ≤ s0 := hbd.1
              have q2 : s0 ≤ 219902325555200 := by omega
              have heq := fun W => eqPlace (y1, y2, y3) (p1, p2, p3) W
              simp only [encPlace] at heq
              have k0 : (0 : Int) ≤ (q : Int) := Int.natCast_nonneg q
              have k1 : (q : Int) < (n : Int) := Int.ofNat_lt.2 hql
              have k2 := Int.ofNat_lt.2 hkl
              have k3 : (0 : Int) ≤ (k : Int) := Int.natCast_nonneg k
              clear hs0 hT hbd hsum
              by_cases hp : (y1, y2, y3) = (p1, p2, p3)
              · rw [decide_eq_true hp] at heq
                have HP := Lib.hid hp
                clear hp
                by_cases h4 : y4 = p4
                · rw [if_pos ⟨HP.out, h4⟩] at HT hbd2
                  have q3 : s0 + y5 ≤ 219902325555200 := by have := HSX.out; omega
                  subst h4
                  clear hbd2
                  go_wp2_with fail
                  go_quiet (fail)
                  go_wp2_with fail
                  go_roundw
                  case rel => exact ⟨q + 1, by omega, by go_num, by rw [HT.out], below_drewN HB5.out _⟩
                  case measure => simp [intOf]; omega
                · rw [if_neg (fun h => h4 h.2)] at HT
                  have hb4 : (y4 == p4) = false := by simpa using h4
                  clear hbd2 h4
                  go_wp2_with fail
                  go_quiet (fail)
                  go_wp2_with fail
                  go_roundw
                  case rel => exact ⟨q + 1, by omega, by go_num, by rw [HT.out, Int.add_zero], below_drewN HB5.out _⟩
                  case measure => simp [intOf]; omega
              · rw [decide_eq_false hp] at heq
                rw [if_neg (fun h => hp h.1)] at HT
                clear hbd2 hp
                go_wp2_with fail
                go_quiet (fail)
                go_wp2_with fail
                go_roundw
                case rel => exact ⟨q + 1, by omega, by go_num, by rw [HT.out, Int.add_zero], below_drewN HB5.out _⟩
                case measure => simp [intOf]; omega
            · obtain rfl : q = n := by omega
              have htk : xs.take q = xs := List.take_of_length_le (by rw [← HN.out]; exact Nat.le_refl _)
              rw [htk]
              clear htk x0 x1 x2 x3 x4
              go_wp2_with fail
              go_loopw [15, 17] (fun a j wv => ∃ q : Nat, q ≤ m ∧ j = .int .i64 q ∧ a = .int .i64 (keyN (p1, p2, p3) p4 (al.take q)) ∧ Below w9.heap.size w9 wv) (fun _ j _ => m - (intOf j).toNat)
              case atStart => exact ⟨0, by omega, rfl, rfl, HB5.out⟩
              case round =>
                obtain ⟨q, hq, rfl, rfl, hb⟩ := hrel
                have HB5 := Lib.hid hb
                obtain ⟨x0, x1, x2, x3, x4⟩ := XC.out wr hb
                clear hb
                by_cases hql : q < m
                · have hqx : q < al.length := by rw [← HM.out]; exact hql
                  obtain ⟨y, hy⟩ : ∃ y, y = al[q] := ⟨_, rfl⟩
                  have r5 := range5 (x := y) (w := wr) (b := by_) (o := oy + q * 5) (fun cc v hv => (HB5.out.cell (p := ⟨by_, oy + q * 5 + cc, none⟩) CY.out.1).trans (CY.out.2 q hqx cc v (by rw [← hy]; exact hv)))
                  have hT := keyN_take (p1, p2, p3) p4 al q hqx
                  have hbd := keyN_take_bound (p1, p2, p3) p4 (l := al) HNY.out q
                  have hbd2 := keyN_take_bound (p1, p2, p3) p4 (l := al) HNY.out (q + 1)
                  have hsum := HSY.out
                  rw [← hy] at hT
                  have hyn := HNY.out y (by rw [hy]; exact List.getElem_mem hqx)
                  clear hy
                  obtain ⟨⟨y1, y2, y3⟩, y4, y5⟩ := y
                  obtain ⟨e0, e1, e2, e3, e4⟩ := r5
                  simp only at e0 e1 e2 e3 e4 hT hyn
                  obtain ⟨s0, hs0⟩ : ∃ s0, s0 = keyN (p1, p2, p3) p4 (al.take q) := ⟨_, rfl⟩
                  rw [← hs0] at hT hbd ⊢
                  rw [hT] at hbd2
                  have HT := Lib.hid hT
                  have q1 : 0 ≤ s0 := hbd.1
                  have q2 : s0 ≤ 219902325555200 := by omega
                  have heq := fun W => eqPlace (y1, y2, y3) (p1, p2, p3) W
                  simp only [encPlace] at heq
                  have k0 : (0 : Int) ≤ (q : Int) := Int.natCast_nonneg q
                  have k1 : (q : Int) < (m : Int) := Int.ofNat_lt.2 hql
                  have k2 := Int.ofNat_lt.2 hkl
                  have k3 : (0 : Int) ≤ (k : Int) := Int.natCast_nonneg k
                  clear hs0 hT hbd hsum
                  by_cases hp : (y1, y2, y3) = (p1, p2, p3)
                  · rw [decide_eq_true hp] at heq
                    have HP := Lib.hid hp
                    clear hp
                    by_cases h4 : y4 = p4
                    · rw [if_pos ⟨HP.out, h4⟩] at HT hbd2
                      have q3 : s0 + y5 ≤ 219902325555200 := by have := HSY.out; omega
                      subst h4
                      clear hbd2
                      go_wp2_with fail
                      go_quiet (fail)
                      go_wp2_with fail
                      go_roundw
                      case rel => exact ⟨q + 1, by omega, by go_num, by rw [HT.out], below_drewN HB5.out _⟩
                      case measure => simp [intOf]; omega
                    · rw [if_neg (fun h => h4 h.2)] at HT
                      have hb4 : (y4 == p4) = false := by simpa using h4
                      clear hbd2 h4
                      go_wp2_with fail
                      go_quiet (fail)
                      go_wp2_with fail
                      go_roundw
                      case rel => exact ⟨q + 1, by omega, by go_num, by rw [HT.out, Int.add_zero], below_drewN HB5.out _⟩
                      case measure => simp [intOf]; omega
                  · rw [decide_eq_false hp] at heq
                    rw [if_neg (fun h => hp h.1)] at HT
                    clear hbd2 hp
                    go_wp2_with fail
                    go_quiet (fail)
                    go_wp2_with fail
                    go_roundw
                    case rel => exact ⟨q + 1, by omega, by go_num, by rw [HT.out, Int.add_zero], below_drewN HB5.out _⟩
                    case measure => simp [intOf]; omega
                · obtain rfl : q = m := by omega
                  have htk : al.take q = al := List.take_of_length_le (by rw [← HM.out]; exact Nat.le_refl _)
                  rw [htk]
                  clear htk x0 x1 x2 x3 x4
                  rw [HKEY.out]
                  go_wp2_with fail
                  go_roundw
                  case rel => exact ⟨k + 1, by omega, by go_num, HB5.out⟩
                  case measure => simp [intOf]; omega
        · go_wp2_with fail
          go_loopw [18] (fun i wv => ∃ k : Nat, 1 ≤ k ∧ k ≤ m ∧ i = .int .i64 k ∧ Below w9.heap.size w9 wv) (fun i _ => m - (intOf i).toNat)
          case atStart => exact ⟨1, by omega, by omega, rfl, HB.out⟩
          case round =>
            obtain ⟨k, hk0, hk, rfl, hb⟩ := hrel
            have HB := Lib.hid hb
            clear hb
            by_cases hkl : k < m
            · have hkx : k < al.length := by rw [← HM.out]; exact hkl
              have hky : k - 1 < al.length := by omega
              have hah : ltOf cfPlace al[k].1 al[k - 1].1 = false := List.pairwise_iff_getElem.1 HORD.out (k - 1) k hky hkx (by omega)
              have HA := Lib.hid (fun W => ahead_any al[k].1 al[k - 1].1 (HWELL.out _ (List.getElem_mem hkx)) (HWELL.out _ (List.getElem_mem hky)) W)
              rw [hah] at HA
              have HK : Hid (∀ W, Below w9.heap.size w9 W → W.cell? ⟨by_, oy + k * 5, none⟩ = some (.string ⟨al[k].1.1.toArray⟩) ∧ W.cell? ⟨by_, oy + k * 5 + 1, none⟩ = some (.int .i64 al[k].1.2.1) ∧ W.cell? ⟨by_, oy + k * 5 + 2, none⟩ = some (.int .i64 al[k].1.2.2) ∧ W.cell? ⟨by_, oy + (k - 1) * 5, none⟩ = some (.string ⟨al[k - 1].1.1.toArray⟩) ∧ W.cell? ⟨by_, oy + (k - 1) * 5 + 1, none⟩ = some (.int .i64 al[k - 1].1.2.1) ∧ W.cell? ⟨by_, oy + (k - 1) * 5 + 2, none⟩ = some (.int .i64 al[k - 1].1.2.2)) := fun W h => by
                have g := fun (j : Nat) (hj : j < al.length) => range5 (x := al[j]) (w := W) (b := by_) (o := oy + j * 5) (fun cc v hv => (h.cell (p := ⟨by_, oy + j * 5 + cc, none⟩) CY.out.1).trans (CY.out.2 j hj cc v hv))
                have g1 := g k hkx
                have g2 := g (k - 1) hky
                exact ⟨g1.1, g1.2.1, g1.2.2.1, g2.1, g2.2.1, g2.2.2.1⟩
              clear hah
              obtain ⟨x, hx⟩ : ∃ x, x = al[k].1 := ⟨_, rfl⟩
              obtain ⟨y, hy⟩ : ∃ y, y = al[k - 1].1 := ⟨_, rfl⟩
              rw [← hx, ← hy] at HA HK
              clear hx hy
              obtain ⟨x1, x2, x3⟩ := x
              obtain ⟨y1, y2, y3⟩ := y
              simp only [encPlace] at HA HK
              have hd : Below w9.heap.size w9 wr.drew := HB.out.drew
              have K0 := HK.out _ hd
              obtain ⟨z0, z1, z2, z3, z4, z5⟩ := HK.out _ HB.out
              have hg2 : IntKind.i64.wrap ((k : Int) - 1) = (k : Int) - 1 := IntWalk.i64_in _ (by omega)
              have hg3 : ((k : Int) - 1).toNat = k - 1 := by omega
              have hg4 : (0 : Int) ≤ (k : Int) - 1 := by omega
              have hg5 : (k : Int) - 1 < (m : Int) := by omega
              have hg7 : (1 : Int) ≤ (k : Int) := by omega
              have hg8 : (k : Int) ≤ (m : Int) := by omega
              have hg9 : 1 ≤ k := hk0
              have k1 : (k : Int) < (m : Int) := Int.ofNat_lt.2 hkl
              have k3 : (0 : Int) ≤ (k : Int) := Int.natCast_nonneg k
              go_wp2_with fail
              go_region_held3 (fun w5 => w5.cell? ⟨by_, oy + k * 5, none⟩ = some (.string ⟨x1.toArray⟩) ∧ w5.cell? ⟨by_, oy + k * 5 + 1, none⟩ = some (.int .i64 x2) ∧ w5.cell? ⟨by_, oy + k * 5 + 2, none⟩ = some (.int .i64 x3) ∧ w5.cell? ⟨by_, oy + (k - 1) * 5, none⟩ = some (.string ⟨y1.toArray⟩) ∧ w5.cell? ⟨by_, oy + (k - 1) * 5 + 1, none⟩ = some (.int .i64 y2) ∧ w5.cell? ⟨by_, oy + (k - 1) * 5 + 2, none⟩ = some (.int .i64 y3))
                (first | exact K0 | exact K1 | go_keep)
                (first | (go_at_call 9; refine (HA.out _).mono ?_; rintro e w5 ⟨rfl, bb5⟩; have q5 := hd.trans (bb5.mono hd.size); have K1 := HK.out _ q5))
              all_goals
                have Q5 := Lib.hid q5
                clear q5 bb5 K0 K1 hd z0 z1 z2 z3 z4 z5
                go_wp2_with fail
                go_roundw
                case rel => exact ⟨k + 1, by omega, by omega, by go_num, Q5.out⟩
                case measure => simp [intOf]; omega
            · have hge := Int.ofNat_le.2 HGE.out
              go_wp2_with fail
              go_ret
              exact ⟨rfl, HB9.out.trans (HB.out.mono HB9.out.size)⟩

set_option maxHeartbeats 1600000 in
set_option maxRecDepth 100000 in
theorem keeps_none (E : Nat → Addr) (A : Option Addr) (cap : Nat) (most : Int) (w : World) (hG : RouteG E w) :
    Calls Tryd.prog 3 #[.slice A 0 cap, .int .i64 most] w fun e w' => e = .returned (.bool true) ∧ Below w.heap.size w w' := by
  obtain ⟨i0, hi, -, -, -⟩ := info_parts pickInfo
  have HG := Lib.hid hG
  clear hG
  go_enter Tryd.func3, Tryd.ntmps3
  go_wp2_with fail
  refine (routed_any E _ HG.out).mono ?_
  rintro e w1 ⟨rfl, b1⟩
  have HB1 := Lib.hid b1
  clear b1
  go_wp2_with fail
  refine (longPicks_any A cap [] w1 (.inl rfl)).mono ?_
  rintro e w2 ⟨⟨b, rfl, -⟩, b2⟩
  have HB2 := Lib.hid (HB1.out.trans (b2.mono HB1.out.size))
  clear b2
  cases b with
  | true =>
    go_wp2
    go_ret
    exact ⟨rfl, HB2.out⟩
  | false =>
  go_wp2_with (at_builtin; refine wpList_append_nil _ rfl (.tmp 27) (.tmp 28) 22 rfl 33 i0 Tryd.underlying22 hi rfl A cap rfl ?_)
  by_cases hm : most < 1 ∨ 1099511627776 < most
  · refine (carts_out E none 0 0 [] most w2 (HG.out.below HB2.out) hm).mono ?_
    rintro e w3 ⟨(⟨t, p, -, rfl⟩ | ⟨m1, m2, -⟩), bb3⟩
    · have HB4 := Lib.hid (HB2.out.trans (bb3.mono HB2.out.size))
      clear bb3
      go_wp2
      go_ret
      exact ⟨rfl, HB4.out⟩
    · omega
  · refine (carts_none most w2 (by omega) (by omega)).mono ?_
    rintro e w3 ⟨rfl, rfl⟩
    clear hm
    go_wp2_with fail
    refine wp_loop_rounds 1 ?_
    rw [rounds_succ]
    go_wp2_with fail
    refine wp_loop_rounds 1 ?_
    rw [rounds_succ]
    go_wp2_with fail
    refine wp_loop_rounds 1 ?_
    rw [rounds_succ]
    go_wp2_with fail
    go_ret
    exact ⟨rfl, HB2.out⟩

theorem routeKeeps_walk (E : Nat → Addr) (A : Option Addr) (cap : Nat) (xs : List PickV) (most : Int) (w : World) (hG : RouteG E w) (hX : RowAt encPick 5 w A xs) :
    Calls Tryd.prog 3 #[.slice A xs.length cap, .int .i64 most] w fun e w' => e = .returned (.bool true) ∧ Below w.heap.size w w' := by
  by_cases h0 : xs = []
  · subst h0
    exact keeps_none E A cap most w hG
  · exact keeps_in E A cap xs most w hG hX h0
end Go.Proofs.YtcmjdaalhokmdaaDoor
