/- The document's ReadPieces, walked: it answers as goods.Read. Printed by gen/rpieces.py. -/
import Derived.Test.YtchamhjckindiaaGreatDoorRNumber
import Derived.Test.YtchamhjckindiaaGreatDoorGoodsLaw
namespace Go.Proofs.YtchamhjckindiaaGreatDoor
open Go.RowKit

theorem refNum_none {l : List UInt8} (h : numQ l 13 = none) : refNum l 13 = -1 := by rw [refNum_eq l 13 (by omega), h]
theorem refNum_some {l : List UInt8} {n : Nat} (h : numQ l 13 = some n) : refNum l 13 = n := by rw [refNum_eq l 13 (by omega), h]
theorem numQ_big {l : List UInt8} {n : Nat} (h : numQ l 13 = some n) : n < 10000000000000 := by
  have := numQ_lt ((numQ_iff l 13 n).1 h) (by omega)
  omega

set_option maxHeartbeats 400000 in
theorem pieces_pack (s : ByteArray) (pack : Int) (w : World) (h : pack < 1 ∨ 1000 < pack) :
    Calls Tryz.prog 12 #[.string s, .int .i64 pack] w fun e w' => e = .returned (.tuple #[.int .i64 0, .int .i64 2]) ∧ w = w' := by
  rcases h with h | h
  · go_enter Tryz.func12, Tryz.ntmps12
    go_wp2
    go_ret2
    exact ⟨rfl, rfl⟩
  · have h' : ¬ pack < 1 := by omega
    go_enter Tryz.func12, Tryz.ntmps12
    go_wp2
    go_ret2
    exact ⟨rfl, rfl⟩

/-- What is answered, as a value. -/
def outP (x : Nat × Nat) : Ending := .returned (.tuple #[.int .i64 x.1, .int .i64 x.2])

theorem ext_data (s : ByteArray) (l : List UInt8) (h : bts s = l) : s = ⟨l.toArray⟩ := by
  apply ByteArray.ext
  rw [← h]
  simp [bts]
theorem bts_extract (s : ByteArray) (i j : Nat) : bts (s.extract i j) = ((bts s).take j).drop i := by
  show (s.extract i j).data.toList = _
  rw [ByteArray.data_extract, Array.toList_extract, List.extract_eq_take_drop, List.drop_take]
  rfl
theorem mem_get {s : ByteArray} {c : UInt8} (h : c ∉ bts s) (k : Nat) (hk : k < s.size) : ((s[k].toNat : Int) == (c.toNat : Int)) = false := by
  have : s[k] ≠ c := fun e => h (by rw [← e, ← bts_get s k hk]; exact List.getElem_mem _)
  have : s[k].toNat ≠ c.toNat := fun e => this (UInt8.toNat_inj.1 e)
  simpa using by omega

set_option maxHeartbeats 2000000 in
theorem pieces_plain (s : ByteArray) (pack : Nat) (w : World) (hp : 1 ≤ pack) (hp2 : pack ≤ 1000) (hs : s.size ≤ 1000000) (hc : (99 : UInt8) ∉ bts s) :
    Calls Tryz.prog 12 #[.string s, .int .i64 pack] w fun e w' => e = outP (readQ (bts s) (bts s) false pack) ∧ w = w' := by
  have HM := Lib.hid (fun k hk => mem_get hc k hk)
  have HN := Lib.hid (fun W => refNumberB s 13 (by omega) (by omega) W)
  clear hc
  go_enter Tryz.func12, Tryz.ntmps12
  go_wp2
  go_loop [6] (fun i => ∃ k : Nat, k ≤ s.size ∧ i = .int .i64 k) (fun i => s.size - (intOf i).toNat)
  case atStart => exact ⟨0, by omega, rfl⟩
  case round =>
    obtain ⟨k, hk, rfl⟩ := hrel
    by_cases hlt : k < s.size
    · have hb : ((s[k].toNat : Int) == 99) = false := HM.out k hlt
      go_wp2
      go_round
      case rel => exact ⟨k + 1, by omega, by go_num⟩
      case measure => simp [intOf]; omega
    · obtain rfl : k = s.size := by omega
      go_wp2_with fail
      refine (HN.out _).mono ?_
      rintro e w1 ⟨rfl, rfl⟩
      cases hq : numQ (bts s) 13 with
      | none =>
        have HV : Hid (readQ (bts s) (bts s) false pack = (0, 1)) := by
          show _ = _
          unfold readQ
          rw [if_neg (by simp), num_zero]
          simp only [Bool.false_eq_true, false_and, if_false]
          split
          · rfl
          · rw [hq]
        rw [refNum_none hq]
        clear hq
        go_wp2
        go_ret2
        exact ⟨by rw [HV.out]; rfl, rfl⟩
      | some n =>
        have hne : bts s ≠ [] := fun e => by
          have := ((numQ_iff _ _ _).1 hq).1
          rw [e] at this
          exact dec_ne_nil n this.symm
        have HV : Hid (readQ (bts s) (bts s) false pack = finQ 0 n pack) := by
          show _ = _
          unfold readQ
          rw [if_neg (by simp), num_zero]
          simp only [Bool.false_eq_true, false_and, if_false]
          rw [if_neg hne, hq]
        rw [refNum_some hq]
        have hbig := numQ_big hq
        clear hq hne
        by_cases f2 : 1099511627776 < n
        · have HF := Lib.hid (show finQ 0 n pack = (0, 2) by unfold finQ; rw [if_pos (.inr (.inl f2))])
          have f2' : 1099511627776 < (n : Int) := by omega
          go_wp2
          go_ret2
          exact ⟨by rw [HV.out, HF.out]; rfl, rfl⟩
        · have HF := Lib.hid (show finQ 0 n pack = (n, 0) by unfold finQ; rw [if_neg (by omega)]; simp)
          have f2' : ¬ 1099511627776 < (n : Int) := by omega
          go_wp2
          go_ret2
          exact ⟨by rw [HV.out, HF.out]; rfl, rfl⟩

set_option maxHeartbeats 4000000 in
theorem pieces_cut (s : ByteArray) (a b : List UInt8) (pack : Nat) (w : World) (hp : 1 ≤ pack) (hp2 : pack ≤ 1000) (hs : s.size ≤ 1000000) (hab : bts s = a ++ 99 :: b) (hc : (99 : UInt8) ∉ a) :
    Calls Tryz.prog 12 #[.string s, .int .i64 pack] w fun e w' => e = outP (readQ a b true pack) ∧ w = w' := by
  have hal : a.length < s.size := by
    rw [← bts_length, hab]; simp
  have hbl : b.length ≤ 1000000 := by
    have : (bts s).length = a.length + (b.length + 1) := by rw [hab]; simp
    rw [bts_length] at this; omega
  have e1 : s.extract 0 a.length = ⟨a.toArray⟩ := ext_data _ _ (by rw [bts_extract, hab]; simp)
  have e2 : s.extract (a.length + 1) s.size = ⟨b.toArray⟩ := ext_data _ _ (by
    rw [bts_extract, bts_all, hab, show a ++ 99 :: b = (a ++ [99]) ++ b by simp, show a.length + 1 = (a ++ [99]).length by simp, List.drop_left])
  have HM : Hid (∀ k (hk : k < a.length), ((s[k]'(by omega)).toNat : Int) ≠ 99) := fun k hk => by
    have h1 : (bts s)[k]'(by rw [bts_length]; omega) = a[k] := by
      simp only [hab]
      exact List.getElem_append_left hk
    rw [bts_get s k (by omega)] at h1
    rw [h1]
    intro h
    have h' : a[k].toNat = (99 : UInt8).toNat := by
      show a[k].toNat = 99
      omega
    have h2 : a[k] = 99 := UInt8.toNat_inj.1 h'
    exact hc (by rw [← h2]; exact List.getElem_mem hk)
  have hat : ((s[a.length].toNat : Int) == 99) = true := by
    have h1 : (bts s)[a.length]'(by rw [bts_length]; omega) = 99 := by
      simp only [hab]
      simp
    rw [bts_get s a.length hal] at h1
    rw [h1]; rfl
  have HAT := Lib.hid hat
  have HA := Lib.hid (fun W => refNumber_any a 13 (by omega) (by omega) W)
  have HB := Lib.hid (fun W => refNumber_any b 13 (by omega) (by omega) W)
  have E1 := Lib.hid e1
  have E2 := Lib.hid e2
  have HMA := Lib.hid (show ∀ k, k < a.length → ∀ h : k < s.size, ((s[k].toNat : Int) == 99) = false from fun k hk h => by simpa using HM.out k hk)
  clear HM
  have hat' : ∀ h : a.length < s.size, ((s[a.length].toNat : Int) == 99) = true := fun _ => hat
  have HAT' := Lib.hid hat'
  clear HAT hab hc hat e1 e2 hat'
  generalize a.length = na at hal HMA HAT' E1 E2
  go_enter Tryz.func12, Tryz.ntmps12
  go_wp2
  go_loop [6] (fun i => ∃ k : Nat, k ≤ na ∧ i = .int .i64 k) (fun i => s.size - (intOf i).toNat)
  case atStart => exact ⟨0, by omega, rfl⟩
  case round =>
    obtain ⟨k, hk, rfl⟩ := hrel
    have hks : k < s.size := by omega
    by_cases hlt : k < na
    · have hb : ((s[k].toNat : Int) == 99) = false := HMA.out k hlt hks
      go_wp2
      go_round
      case rel => exact ⟨k + 1, by omega, by go_num⟩
      case measure => simp [intOf]; omega
    · obtain rfl : k = na := by omega
      have hat := HAT'.out hal
      have e1 := E1.out
      have e2 := E2.out
      go_wp2_with fail
      refine (HA.out _).mono ?_
      rintro e w1 ⟨rfl, rfl⟩
      clear HA e1 hat
      cases hq : numQ a 13 with
      | none =>
        have HV : Hid (readQ a b true pack = (0, 1)) := by
          show _ = _
          unfold readQ
          rw [if_pos rfl, hq]
        rw [refNum_none hq]
        clear hq
        go_wp2
        go_ret2
        exact ⟨by rw [HV.out]; rfl, rfl⟩
      | some n =>
        rw [refNum_some hq]
        by_cases h0 : n = 0
        · have HV : Hid (readQ a b true pack = (0, 1)) := by
            show _ = _
            unfold readQ
            rw [if_pos rfl, hq]
            simp only [h0, and_self, if_true]
          subst h0
          clear hq
          go_wp2
          go_ret2
          exact ⟨by rw [HV.out]; rfl, rfl⟩
        · have hbig := numQ_big hq
          have hn1 : ¬ (n : Int) < 1 := by omega
          by_cases hb0 : b = []
          · have HV : Hid (readQ a b true pack = finQ n 0 pack) := by
              show _ = _
              unfold readQ
              rw [if_pos rfl, hq]
              simp only [h0, and_false, if_false]
              rw [if_pos hb0, if_pos trivial]
            subst hb0
            clear hq h0
            by_cases f1 : 1099511627776 < n
            · have HF := Lib.hid (show finQ n 0 pack = (0, 2) by unfold finQ; rw [if_pos (.inl f1)])
              have f1' : 1099511627776 < (n : Int) := by omega
              go_wp2
              go_ret2
              exact ⟨by rw [HV.out, HF.out]; rfl, rfl⟩
            have f1' : ¬ 1099511627776 < (n : Int) := by omega
            have f2' : ¬ 1099511627776 < (0 : Int) := by omega
            have p0 : (0 : Int) ≤ (n : Int) * (pack : Int) := Int.mul_nonneg (by omega) (by omega)
            have e0 : ((n * pack : Nat) : Int) = (n : Int) * (pack : Int) := by simp
            have p1 : (n : Int) * (pack : Int) ≤ 1099511627776000 := by
              have q1 : n * pack ≤ 1099511627776 * 1000 := Nat.mul_le_mul (by omega) hp2
              omega
            by_cases f3 : 1099511627776 < n * pack + 0
            · have HF := Lib.hid (show finQ n 0 pack = (0, 2) by unfold finQ; rw [if_pos (.inr (.inr f3))])
              have f3' : 1099511627776 < (n : Int) * (pack : Int) := by omega
              clear e0 f3
              go_wp2
              go_ret2
              exact ⟨by rw [HV.out, HF.out]; rfl, rfl⟩
            · have HF := Lib.hid (show finQ n 0 pack = (n * pack + 0, 0) by unfold finQ; rw [if_neg (by omega)])
              have f3' : ¬ 1099511627776 < (n : Int) * (pack : Int) := by omega
              clear e0 f3
              go_wp2
              go_ret2
              exact ⟨by rw [HV.out, HF.out]; unfold outP; simp, rfl⟩
          · have hb1 : (b == []) = false := by simpa using hb0
            have hb2 : (!b == []) = true := by simpa using hb0
            have hb3 : b.isEmpty = false := by cases b <;> simp_all
            have hb4 : (!b.isEmpty) = true := by rw [hb3]; rfl
            go_wp2_with fail
            refine (HB.out _).mono ?_
            rintro e w1 ⟨rfl, rfl⟩
            cases hk2 : numQ b 13 with
            | none =>
              have HV : Hid (readQ a b true pack = (0, 1)) := by
                show _ = _
                unfold readQ
                rw [if_pos rfl, hq]
                simp only [h0, and_false, if_false]
                rw [if_neg hb0, hk2]
              rw [refNum_none hk2]
              clear hq hk2
              go_wp2
              go_ret2
              exact ⟨by rw [HV.out]; rfl, rfl⟩
            | some m =>
              rw [refNum_some hk2]
              by_cases hm0 : m = 0
              · have HV : Hid (readQ a b true pack = (0, 1)) := by
                  show _ = _
                  unfold readQ
                  rw [if_pos rfl, hq]
                  simp only [h0, and_false, if_false]
                  rw [if_neg hb0, hk2]
                  simp only [hm0, and_self, if_true]
                subst hm0
                clear hq hk2
                go_wp2
                go_ret2
                exact ⟨by rw [HV.out]; rfl, rfl⟩
              · have HV : Hid (readQ a b true pack = finQ n m pack) := by
                  show _ = _
                  unfold readQ
                  rw [if_pos rfl, hq]
                  simp only [h0, and_false, if_false]
                  rw [if_neg hb0, hk2]
                  simp only [hm0, and_false, if_false]
                have hbig2 := numQ_big hk2
                have hm1 : ¬ (m : Int) < 0 := by omega
                have hm2 : ((m : Int) == 0) = false := by simpa using hm0
                clear hq hk2 h0 hm0
                by_cases f1 : 1099511627776 < n
                · have HF := Lib.hid (show finQ n m pack = (0, 2) by unfold finQ; rw [if_pos (.inl f1)])
                  have f1' : 1099511627776 < (n : Int) := by omega
                  go_wp2
                  go_ret2
                  exact ⟨by rw [HV.out, HF.out]; rfl, rfl⟩
                by_cases f2 : 1099511627776 < m
                · have HF := Lib.hid (show finQ n m pack = (0, 2) by unfold finQ; rw [if_pos (.inr (.inl f2))])
                  have f1' : ¬ 1099511627776 < (n : Int) := by omega
                  have f2' : 1099511627776 < (m : Int) := by omega
                  go_wp2
                  go_ret2
                  exact ⟨by rw [HV.out, HF.out]; rfl, rfl⟩
                have f1' : ¬ 1099511627776 < (n : Int) := by omega
                have f2' : ¬ 1099511627776 < (m : Int) := by omega
                have p0 : (0 : Int) ≤ (n : Int) * (pack : Int) := Int.mul_nonneg (by omega) (by omega)
                have e0 : ((n * pack : Nat) : Int) = (n : Int) * (pack : Int) := by simp
                have p1 : (n : Int) * (pack : Int) ≤ 1099511627776000 := by
                  have q1 : n * pack ≤ 1099511627776 * 1000 := Nat.mul_le_mul (by omega) hp2
                  omega
                by_cases f3 : 1099511627776 < n * pack + m
                · have HF := Lib.hid (show finQ n m pack = (0, 2) by unfold finQ; rw [if_pos (.inr (.inr f3))])
                  have f3' : 1099511627776 < (n : Int) * (pack : Int) + (m : Int) := by omega
                  clear e0 f3
                  go_wp2
                  go_ret2
                  exact ⟨by rw [HV.out, HF.out]; rfl, rfl⟩
                · have HF := Lib.hid (show finQ n m pack = (n * pack + m, 0) by unfold finQ; rw [if_neg (by omega)])
                  have f3' : ¬ 1099511627776 < (n : Int) * (pack : Int) + (m : Int) := by omega
                  clear e0 f3
                  go_wp2
                  go_ret2
                  exact ⟨by rw [HV.out, HF.out]; unfold outP; simp, rfl⟩

theorem pieces_any (s : ByteArray) (pack : Nat) (w : World) (hp : 1 ≤ pack) (hp2 : pack ≤ 1000) (hs : s.size ≤ 1000000) :
    Calls Tryz.prog 12 #[.string s, .int .i64 pack] w fun e w' => e = outP (readS (bts s) pack) ∧ w = w' := by
  rcases cut_cases (bts s) 99 with ⟨h, hc⟩ | ⟨a, b, hl, ha, hc⟩
  · have : readS (bts s) pack = readQ (bts s) (bts s) false pack := by unfold readS; rw [hc]; simp
    rw [this]
    exact pieces_plain s pack w hp hp2 hs h
  · have : readS (bts s) pack = readQ a b true pack := by unfold readS; rw [hc]; simp
    rw [this]
    exact pieces_cut s a b pack w hp hp2 hs hl ha
end Go.Proofs.YtchamhjckindiaaGreatDoor
