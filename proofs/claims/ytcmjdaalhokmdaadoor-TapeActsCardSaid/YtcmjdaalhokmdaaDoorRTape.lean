/- The document's ReadTape, walked: it answers as tape.Read. -/
import Derived.Test.YtcmjdaalhokmdaaDoorTread
import Derived.Test.YtcmjdaalhokmdaaDoorRPieceX
namespace Go.Proofs.YtcmjdaalhokmdaaDoor
open Go.RowKit

theorem take_two {c : List UInt8} {v : Nat} (h : v + 2 ≤ c.length) : (c.drop v).take 2 = [c[v]'(by omega), c[v + 1]'(by omega)] := by
  rw [List.drop_eq_getElem_cons (by omega), List.drop_eq_getElem_cons (by omega)]
  rfl

/-- Where a cut lies in a text. -/
structure CutAt (s : ByteArray) (n K : Nat) (a c : List UInt8) : Prop where
  lt : K < s.size
  le : n ≤ K
  len : c.length = s.size - K - 1
  left : s.extract n K = ⟨a.toArray⟩
  at_ : ∀ h : K < s.size, ((s[K].toNat : Int) == 58) = true
  before : ∀ j, n ≤ j → j < K → ∀ h : j < s.size, ((s[j].toNat : Int) == 58) = false
  byte : ∀ v (hv : v < c.length) (h : K + 1 + v < s.size), s[K + 1 + v] = c[v]
  part : ∀ v, v ≤ c.length → s.extract (K + 1) (K + 1 + v) = ⟨(c.take v).toArray⟩
theorem cutAt_of {s : ByteArray} {p r a c : List UInt8} (h : bts s = p ++ r) (hr : r = a ++ 58 :: c) (ha : (58 : UInt8) ∉ a) : CutAt s p.length (p.length + a.length) a c := by
  subst hr
  have hl : s.size = p.length + (a.length + (c.length + 1)) := by rw [← bts_length, h]; simp
  have hd : (bts s).drop p.length = a ++ 58 :: c := by rw [h, List.drop_left]
  have hd2 : (bts s).drop (p.length + a.length) = 58 :: c := by rw [← List.drop_drop, hd, List.drop_left]
  have hd3 : (bts s).drop (p.length + a.length + 1) = c := by rw [← List.drop_drop, hd2]; rfl
  refine ⟨by omega, by omega, by omega, ?_, ?_, ?_, ?_, ?_⟩
  · refine ext_data _ _ ?_
    rw [bts_extract, ← List.drop_take_comm', hd]
    simp
  · intro hk
    have h1 : (bts s)[p.length + a.length]? = some 58 := by
      have := congrArg (·[0]?) hd2
      simpa using this
    rw [List.getElem?_eq_getElem (by rw [bts_length]; exact hk), bts_get s _ hk] at h1
    injection h1 with h1
    rw [h1]; rfl
  · intro j h1 h2 h3
    have h4 : (bts s)[j]? = a[j - p.length]? := by
      have := congrArg (·[j - p.length]?) hd
      simp only [List.getElem?_drop] at this
      rw [show p.length + (j - p.length) = j by omega, List.getElem?_append_left (by omega)] at this
      exact this
    rw [List.getElem?_eq_getElem (by rw [bts_length]; exact h3), bts_get s _ h3, List.getElem?_eq_getElem (by omega)] at h4
    injection h4 with h4
    rw [h4]
    have : a[j - p.length]'(by omega) ≠ 58 := fun e => ha (by rw [← e]; exact List.getElem_mem _)
    have h5 : (a[j - p.length]'(by omega)).toNat ≠ 58 := fun e => this (UInt8.toNat_inj.1 e)
    simpa using by omega
  · intro v hv h3
    have h4 : (bts s)[p.length + a.length + 1 + v]? = c[v]? := by
      have := congrArg (·[v]?) hd3
      simpa using this
    rw [List.getElem?_eq_getElem (by rw [bts_length]; exact h3), bts_get s _ h3, List.getElem?_eq_getElem hv] at h4
    injection h4
  · intro v hv
    refine ext_data _ _ ?_
    rw [bts_extract, ← List.drop_take_comm', hd3, Nat.add_sub_cancel_left]

/-- What the walk ends in where nothing more is read. -/
theorem read_stop {s : ByteArray} {w wr : World} {l : List (List UInt8)} {r : List UInt8} {k n : Nat} {v : Value} (HL : bts s = recsL l ++ r ∧ n = (recsL l).length ∧ k = l.length ∧ (∀ s ∈ l, s.length ≤ 20000)) (HO : wr.ownsRow w.heap.size 9 1 v k (strVals l)) (hb : Below w.heap.size w wr)
    (hno : ∀ s r', ¬ IsRec r s r') : ReadEnds (bts s) w (.returned (.tuple #[v, .int .i64 (n : Nat)])) wr := by
  obtain ⟨e1, e2, e3, e4⟩ := HL
  rw [e3] at HO
  obtain ⟨A, cap, hv, hS, hA'⟩ := StrsAt.of_own HO
  subst hv
  have hr := read_join e4 (ReadIs.stop hno)
  rw [List.append_nil, Nat.add_zero, ← e1, ← e2] at hr
  have hle : n ≤ (bts s).length := by rw [e1, List.length_append]; omega
  have hge := recsL_ge l
  exact ⟨l, n, A, cap, hr, hle, by omega, rfl, hS, hA', hb⟩

set_option maxHeartbeats 4000000 in
set_option maxRecDepth 100000 in
theorem refReadB (s : ByteArray) (hb : s.size ≤ 2000000) (w : World) :
    Calls Tryd.prog 24 #[.string s] w (ReadEnds (bts s) w) := by
  obtain ⟨i0, hi, hz0, hz1, hz2⟩ := info_parts stringInfo1
  have hsl : (bts s).length = s.size := rfl
  go_enter Tryd.func24, Tryd.ntmps24
  go_wp2
  go_loopw [4, 5] (fun out at_ wr => ∃ (l : List (List UInt8)) (r : List UInt8) (k n : Nat), at_ = .int .i64 n ∧ k ≤ n ∧ n ≤ s.size ∧ Hid (bts s = recsL l ++ r ∧ n = (recsL l).length ∧ k = l.length ∧ (∀ s ∈ l, s.length ≤ 20000)) ∧ Hid (wr.ownsRow w.heap.size 9 1 out k (strVals l)) ∧ Below w.heap.size w wr) (fun _ at_ _ => s.size - (intOf at_).toNat)
  case atStart => exact ⟨[], bts s, 0, 0, rfl, by omega, by omega, ⟨by simp [recsL], by simp [recsL], rfl, by simp⟩, World.ownsRow_nil _ _ _ _, Below.refl _ _⟩
  case round =>
    obtain ⟨l, r, k, n, rfl, hkn, hnb, HL, HO, hbel⟩ := hrel
    have HB := Lib.hid hbel
    clear hbel
    have hrl : n + r.length = s.size := by rw [← hsl, HL.out.1, HL.out.2.1]; simp
    obtain ⟨wo, rfl⟩ : ∃ wo : World, wo = wr := ⟨_, rfl⟩
    rcases cut_cases r 58 with ⟨hno, hcut⟩ | ⟨a, c, hr, ha, hcut⟩
    · have HS := Lib.hid (read_stop HL.out HO.out HB.out (no_rec_cut hcut (.inl rfl)))
      have HM : Hid (∀ j, n ≤ j → ∀ h : j < s.size, ((s[j].toNat : Int) == 58) = false) := fun j h1 h2 => by
        have h4 : (bts s)[j]? = r[j - n]? := by
          rw [HL.out.1, HL.out.2.1, List.getElem?_append_right (by rw [← HL.out.2.1]; exact h1)]
        rw [List.getElem?_eq_getElem (by rw [bts_length]; exact h2), bts_get s _ h2, List.getElem?_eq_getElem (by omega)] at h4
        injection h4 with h4
        rw [h4]
        have h5 : (r[j - n]'(by omega)).toNat ≠ 58 := fun e => hno (by
          have : r[j - n]'(by omega) = 58 := UInt8.toNat_inj.1 e
          rw [← this]; exact List.getElem_mem _)
        simpa using by omega
      clear hno hcut
      go_wp2_with fail
      go_loop [6] (fun j => ∃ q : Nat, q ≤ s.size ∧ n ≤ q ∧ j = .int .i64 q) (fun j => s.size - (intOf j).toNat)
      case atStart => exact ⟨n, by omega, by omega, rfl⟩
      case round =>
        obtain ⟨q, hq, hnq, rfl⟩ := hrel
        by_cases hlt : q < s.size
        · have hx := HM.out q hnq hlt
          go_wp2
          go_round
          case rel => exact ⟨q + 1, by omega, by omega, by go_num⟩
          case measure => simp [intOf]; omega
        · obtain rfl : q = s.size := by omega
          go_wp2
          go_ret2
          exact HS.out
    · obtain ⟨p, hp⟩ : ∃ p, p = recsL l := ⟨_, rfl⟩
      have hC := cutAt_of (s := s) (p := recsL l) HL.out.1 hr ha
      rw [← HL.out.2.1] at hC
      obtain ⟨K, hK⟩ : ∃ K, K = n + a.length := ⟨_, rfl⟩
      rw [← hK] at hC
      have HC := Lib.hid hC
      have HR := Lib.hid hr
      have HCUT := Lib.hid hcut
      have hlt := hC.lt
      have hle := hC.le
      have hal : a.length ≤ 1000000000 := by omega
      have HN := Lib.hid (fun W => refNumber_any a 9 (by omega) hal W)
      have HKE := Lib.hid hK
      clear hr ha hcut hC hK hp
      go_wp2_with fail
      go_loop [6] (fun j => ∃ q : Nat, q ≤ K ∧ n ≤ q ∧ j = .int .i64 q) (fun j => s.size - (intOf j).toNat)
      case atStart => exact ⟨n, hle, by omega, rfl⟩
      case round =>
        obtain ⟨q, hq, hnq, rfl⟩ := hrel
        have hqs : q < s.size := by omega
        by_cases hlt2 : q < K
        · have hx := HC.out.before q hnq hlt2 hqs
          go_wp2
          go_round
          case rel => exact ⟨q + 1, by omega, by omega, by go_num⟩
          case measure => simp [intOf]; omega
        · obtain rfl : q = K := by omega
          have hx := HC.out.at_ hqs
          have hx1 := HC.out.left
          have hne : ¬ (q : Int) = (s.size : Int) := by omega
          go_wp2_with fail
          refine (HN.out wo).mono ?_
          rintro e w1 ⟨rfl, rfl⟩
          have cl := HC.out.len
          have RL := Lib.hid (And.intro hrl cl)
          clear hx hx1 HN
          cases hq1 : numQ a 9 with
          | none =>
            have HS := Lib.hid (read_stop HL.out HO.out HB.out (no_rec_cut HCUT.out (.inr (.inl fun m hm => numQ_none a 9 hq1 m hm))))
            rw [show refNum a 9 = -1 by rw [refNum_eq a 9 (by omega), hq1]]
            clear hq1 hrl cl
            go_wp2
            go_ret2
            exact HS.out
          | some v =>
            have hNum := (numQ_iff a 9 v).1 hq1
            have hvb : v < 1000000000 := by have := numQ_lt hNum (by omega); omega
            have HNUM := Lib.hid hNum
            rw [show refNum a 9 = (v : Int) by rw [refNum_eq a 9 (by omega), hq1]]
            have v0 : ¬ (v : Int) < 0 := by omega
            clear hq1 hNum
            by_cases h1 : 20000 < v
            · have HS := Lib.hid (read_stop HL.out HO.out HB.out (no_rec_cut HCUT.out (.inr (.inr ⟨v, HNUM.out, .inl h1⟩))))
              have h1' : 20000 < (v : Int) := by omega
              clear hrl cl h1
              go_wp2
              go_ret2
              exact HS.out
            have h1' : ¬ 20000 < (v : Int) := by omega
            by_cases h2 : c.length < v + 2
            · have HS := Lib.hid (read_stop HL.out HO.out HB.out (no_rec_cut HCUT.out (.inr (.inr ⟨v, HNUM.out, .inr (.inl h2)⟩))))
              have h2' : (s.size : Int) - (q : Int) - 1 < (v : Int) + 2 := by omega
              clear hrl cl h1 h2
              go_wp2
              go_ret2
              exact HS.out
            have h2' : ¬ (s.size : Int) - (q : Int) - 1 < (v : Int) + 2 := by omega
            have kv : q + 1 + v + 1 < s.size := by omega
            have b1 := HC.out.byte v (by omega) (by omega)
            have b2 := HC.out.byte (v + 1) (by omega) (by omega)
            have ht := take_two (c := c) (v := v) (by omega)
            have hpart := HC.out.part v (by omega)
            have T := Lib.hid ht
            have p1 : IntKind.i64.wrap ((q : Int) + 1) = (q : Int) + 1 := IntWalk.i64_in _ (by omega)
            have p2 : IntKind.i64.wrap ((q : Int) + 1 + (v : Int)) = (q : Int) + 1 + (v : Int) := IntWalk.i64_in _ (by omega)
            have z1 : ((q : Int) + 1 + (v : Int)).toNat = q + 1 + v := by omega
            have z2 : ((q : Int) + 2 + (v : Int)).toNat = q + 1 + (v + 1) := by omega
            have z3 : ((q : Int) + 1).toNat = q + 1 := by omega
            have kv1 : q + 1 + v < s.size := by omega
            have kv2 : q + 1 + (v + 1) < s.size := by omega
            have kv3 : (q : Int) + 1 + (v : Int) < (s.size : Int) := by omega
            have kv4 : (q : Int) + 2 + (v : Int) < (s.size : Int) := by omega
            have kv5 : (q : Int) + 1 + (v : Int) ≤ (s.size : Int) := by omega
            by_cases e1 : (c[v]'(by omega)) = 10
            · have x1 : (s[q + 1 + v].toNat : Int) = 10 := by rw [b1, e1]; rfl
              by_cases e2 : (c[v + 1]'(by omega)) = 46
              · have x2 : (s[q + 1 + (v + 1)].toNat : Int) = 46 := by rw [b2, e2]; rfl
                have HREC := Lib.hid (yes_rec_cut HR.out HNUM.out (by omega) (by omega) (by rw [T.out, e1, e2]))
                have hcv : (c.take v).length = v := by rw [List.length_take]; omega
                obtain ⟨x, hxd⟩ : ∃ x, x = c.take v := ⟨_, rfl⟩
                have HXL := Lib.hid (show x.length = v by rw [hxd]; exact hcv)
                rw [← hxd] at hpart HREC
                have KV := Lib.hid (And.intro kv (And.intro hkn hnb))
                have hks : k ≤ 2000000 := by omega
                have hwb := HB.out.size
                clear hxd hcv b1 b2 e1 e2 ht
                go_wp2_with (at_builtin; refine wpList_append_lies _ rfl (.tmp 77) (.tmp 79) 50 rfl w.heap.size 9 i0 (.string ⟨#[]⟩) 1 16 Tryd.underlying50 hi hz0 hz1 hz2 rfl (by decide) u4 k (strVals l) rfl (HO.out.alloc _) _ 1 1 [.string ⟨x.toArray⟩] rfl rfl (World.news_of_block (cs := #[.string ⟨x.toArray⟩]) (t := 9) (fr := (0, 0)) (heap_alloc_new _ _)) (by simp [Value.oneCell']) (by omega) (by unfold maxLen; omega) (by omega) (by simp; omega) _ rfl ?_; intro gg cap' w3 hown3 hgrow hat hlt3; have HK := Lib.hid (And.intro hown3 (And.intro hgrow hat)); clear hown3 hgrow hat)
                have hb3 : Below w.heap.size w w3 := (HB.out.alloc HB.out.size _).grown HK.out.2.1 (by simp; omega) (fun j hj => (HO.out.lt j hj).1)
                have HB3 := Lib.hid hb3
                clear hb3
                go_wp2
                go_roundw
                case rel =>
                  have hk := KV.out
                  have hql : q = n + a.length := HKE.out
                  have hrx : (recL x).length = a.length + v + 3 := by
                    have hN := HNUM.out.1
                    simp only [recL, List.length_append, List.length_cons, List.length_nil]
                    rw [HXL.out, ← hN]; omega
                  refine ⟨l ++ [x], c.drop (v + 2), k + 1, q + 3 + v, by go_num, by omega, by omega, ⟨?_, ?_, ?_, ?_⟩, ?_, HB3.out⟩
                  · rw [recsL_snoc, List.append_assoc, ← HREC.out.1]; exact HL.out.1
                  · rw [recsL_snoc, List.length_append, ← HL.out.2.1, hrx]; omega
                  · rw [List.length_append, ← HL.out.2.2.1]; rfl
                  · intro y hy
                    rcases List.mem_append.1 hy with hy | hy
                    · exact HL.out.2.2.2 y hy
                    · simp at hy; subst hy; rw [HXL.out]; omega
                  · have e : strVals (l ++ [x]) = strVals l ++ [.string ⟨x.toArray⟩] := by simp [strVals]
                    rw [e]; exact HK.out.1
                case measure => have hk := KV.out; simp [intOf]; omega
              · have HS := Lib.hid (read_stop HL.out HO.out HB.out (no_rec_cut HCUT.out (.inr (.inr ⟨v, HNUM.out, .inr (.inr (by rw [T.out]; simp [e2]))⟩))))
                have x2 : ((s[q + 1 + (v + 1)].toNat : Int) == 46) = false := by
                  rw [b2]
                  have : (c[v + 1]'(by omega)).toNat ≠ 46 := fun e => e2 (UInt8.toNat_inj.1 e)
                  simpa using by omega
                have x2' : ¬ (s[q + 1 + (v + 1)].toNat : Int) = 46 := by simpa using x2
                clear b1 b2 e1 e2 ht
                go_wp2
                go_ret2
                exact HS.out
            · have HS := Lib.hid (read_stop HL.out HO.out HB.out (no_rec_cut HCUT.out (.inr (.inr ⟨v, HNUM.out, .inr (.inr (by rw [T.out]; simp [e1]))⟩))))
              have x1 : ((s[q + 1 + v].toNat : Int) == 10) = false := by
                rw [b1]
                have : (c[v]'(by omega)).toNat ≠ 10 := fun e => e1 (UInt8.toNat_inj.1 e)
                simpa using by omega
              have x1' : ¬ (s[q + 1 + v].toNat : Int) = 10 := by simpa using x1
              clear b1 b2 e1 ht
              go_wp2
              go_ret2
              exact HS.out
end Go.Proofs.YtcmjdaalhokmdaaDoor
