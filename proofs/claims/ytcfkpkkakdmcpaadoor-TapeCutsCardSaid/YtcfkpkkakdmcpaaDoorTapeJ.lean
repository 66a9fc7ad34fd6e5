/- The law TapeJoins, walked. -/
import Derived.Test.YtcfkpkkakdmcpaaDoorTaped
import Derived.Test.YtcfkpkkakdmcpaaDoorAppS
namespace Go.Proofs.YtcfkpkkakdmcpaaDoor
open Go.RowKit

theorem recL_le2 (s : List UInt8) (h : s.length ≤ 20000) : (recL s).length ≤ s.length + 8 := by
  have := dec_len_le s.length 5 (by omega) (by omega)
  simp only [recL, List.length_append, List.length_cons, List.length_nil]; omega
theorem recsL_le (l : List (List UInt8)) (h : ∀ s ∈ l, s.length ≤ 200) : (recsL l).length ≤ l.length * 208 := by
  induction l with
  | nil => simp [recsL]
  | cons s r ih =>
    have h1 := ih fun x hx => h x (List.mem_cons_of_mem _ hx)
    have h2 := h s List.mem_cons_self
    have h3 := recL_le2 s (by omega)
    simp only [recsL, List.length_append, List.length_cons]; omega
theorem appD_fits (bs s : List UInt8) (h1 : s.length ≤ 200) (h2 : bs.length ≤ 100000) : appD ⟨bs, false, -1⟩ s = (0, ⟨bs ++ recL s, false, -1⟩) := by
  have h3 := recL_le2 s (by omega)
  unfold appD
  rw [if_neg (by omega), if_neg (by simp only; omega)]
  rfl

set_option maxHeartbeats 800000 in
theorem joins_out (E : Nat → Addr) (A : Option Addr) (len cap : Nat) (b : ByteArray) (w : World) (hG : TapeG E w) (h : 20 < len ∨ 500 < b.size) :
    Calls Tryd.prog 4 #[.slice A len cap, .string b] w fun e w' => e = .returned (.bool true) ∧ Below w.heap.size w w' := by
  by_cases h1 : 20 < len
  · go_enter Tryd.func4, Tryd.ntmps4
    go_wp2_with fail
    refine (taped_any E _ hG).mono ?_
    rintro e w1 ⟨rfl, b1⟩
    go_wp2
    go_ret
    exact ⟨rfl, b1⟩
  · have h2 : 500 < b.size := by omega
    go_enter Tryd.func4, Tryd.ntmps4
    go_wp2_with fail
    refine (taped_any E _ hG).mono ?_
    rintro e w1 ⟨rfl, b1⟩
    go_wp2
    go_ret
    exact ⟨rfl, b1⟩

set_option maxHeartbeats 1600000 in
theorem joins_in (E : Nat → Addr) (A : Option Addr) (cap : Nat) (xs : List (List UInt8)) (b : List UInt8) (w : World) (hG : TapeG E w) (hX : StrsAt w A xs) (h1 : xs.length ≤ 20) (h2 : b.length ≤ 500) :
    Calls Tryd.prog 4 #[.slice A xs.length cap, .string ⟨b.toArray⟩] w fun e w' => e = .returned (.bool true) ∧ Below w.heap.size w w' := by
  have hsb : (⟨b.toArray⟩ : ByteArray).size = b.length := by simp [ByteArray.size]
  obtain ⟨n, hn⟩ : ∃ n, n = xs.length := ⟨_, rfl⟩
  have HX := Lib.hid hX
  have HN := Lib.hid hn
  rw [← hn] at h1 ⊢
  clear hX hn
  go_enter Tryd.func4, Tryd.ntmps4
  go_wp2_with fail
  refine (taped_any E _ hG).mono ?_
  rintro e w1 ⟨rfl, b1⟩
  go_wp2_with fail
  refine (newDisk_any [] (by simp) w1).mono ?_
  rintro e w2 ⟨p, g0, rfl, hD, hp, hg, bb2⟩
  have b2 := b1.trans (bb2.mono b1.size)
  have hp' : w.heap.size ≤ p := Nat.le_trans b1.size hp
  have hg' : w.heap.size ≤ g0 := Nat.le_trans b1.size hg
  have HD := Lib.hid hD
  clear hD bb2 hp hg b1
  have hoff : 3 < w.heap.size := lt_of_cell hG.off
  go_wp2_with fail
  go_loopw [8] (fun i wr => ∃ k g : Nat, k ≤ n ∧ i = .int .i64 k ∧ w.heap.size ≤ g ∧ Hid ((∀ s ∈ xs.take k, s.length ≤ 200) ∧ DiskAt wr p g ⟨recsL (xs.take k), false, -1⟩) ∧ Below w.heap.size w wr) (fun i _ => n - (intOf i).toNat)
  case atStart => exact ⟨0, g0, by omega, rfl, hg', ⟨by simp, by simpa [recsL] using HD.out⟩, b2⟩
  case round =>
    obtain ⟨k, g, hk, rfl, hg2, HR, hb⟩ := hrel
    by_cases hkl : k < n
    · have hkx : k < xs.length := by rw [← HN.out]; exact hkl
      obtain ⟨bx, ox, rfl, lx, cx⟩ := HX.out.resolve_left (fun h => by rw [h] at hkx; simp at hkx)
      have dx : wr.cell? ⟨bx, ox + k, none⟩ = some (.string ⟨xs[k].toArray⟩) := (hb.cell (p := ⟨bx, ox + k, none⟩) lx).trans (cx k hkx)
      obtain ⟨x, hx⟩ : ∃ x, x = xs[k] := ⟨_, rfl⟩
      have HXK := Lib.hid hx
      rw [← hx] at dx
      have hsx : (⟨x.toArray⟩ : ByteArray).size = x.length := by simp [ByteArray.size]
      clear cx hx
      have HB := Lib.hid hb
      clear hb
      by_cases hxl : 200 < x.length
      · go_wp2
        go_ret
        exact ⟨rfl, HB.out⟩
      · have htl : (xs.take k).length ≤ 20 := by rw [List.length_take]; omega
        have hrl : (recsL (xs.take k)).length ≤ 4160 := by have := recsL_le _ HR.out.1; omega
        have hal := append_any p g E _ x wr (hG.below HB.out) (by omega) (by omega) HR.out.2 (by omega) (by show (recsL _).length ≤ _; omega) (by show (-1 : Int) ≤ _; omega)
        rw [appD_fits _ _ (by omega) (by omega)] at hal
        have HAL := Lib.hid hal
        clear hal hrl htl
        go_wp2_with fail
        refine HAL.out.mono ?_
        intro e w3 h3
        obtain ⟨rfl, g3, hD3, ho3, hg3⟩ := h3.err0
        have b3 := ho3.below HB.out hp' hg2 HB.out.size
        have hg3' : w.heap.size ≤ g3 := by have := HB.out.size; omega
        have HD3 := Lib.hid hD3
        clear HAL h3 hD3 ho3 hg3
        go_wp2
        go_roundw
        case rel =>
          refine ⟨k + 1, g3, by omega, by go_num, hg3', ⟨?_, ?_⟩, b3⟩
          · rw [List.take_succ_eq_append_getElem hkx, ← HXK.out]
            intro s hs
            rcases List.mem_append.1 hs with hs | hs
            · exact HR.out.1 s hs
            · simp at hs; subst hs; omega
          · rw [List.take_succ_eq_append_getElem hkx, ← HXK.out, recsL_snoc]; exact HD3.out
        case measure => simp [intOf]; omega
    · obtain rfl : k = n := by omega
      have htk : xs.take k = xs := List.take_of_length_le (by rw [HN.out]; exact Nat.le_refl _)
      have hr0 := HR.out
      rw [htk] at hr0
      have hall : ∀ s ∈ xs, s.length ≤ 20000 := fun s hs => by have := hr0.1 s hs; omega
      have hql : (recsL xs).length ≤ 4160 := by have := recsL_le _ hr0.1; have := HN.out; omega
      have HALL := Lib.hid hall
      have HD0 := Lib.hid hr0.2
      obtain ⟨q, hq⟩ : ∃ q, q = recsL xs := ⟨_, rfl⟩
      have HQ := Lib.hid hq
      rw [← hq] at hql
      have hb0 := HD0.out
      rw [← hq] at hb0
      have HDQ := Lib.hid hb0
      have hG0 := hG.below hb
      clear htk hr0 hall HR hq hb0 HD
      go_wp2_with fail
      refine (bytes_any p g _ wr HDQ.out).mono ?_
      rintro e w3 ⟨rfl, rfl⟩
      go_wp2_with fail
      refine (tread_any q (by omega) wr hG0.tab hG0.atoi hG0.max).mono ?_
      rintro e w3 ⟨l1, n1, A1, c1, hr1, -, -, rfl, hS1, -, bb3⟩
      have hu := read_recs HALL.out
      rw [← HQ.out] at hu
      obtain ⟨rfl, rfl⟩ := hr1.unique hu
      have b3 := hb.trans (bb3.mono hb.size)
      have hD3 := HDQ.out.below bb3
      have HS1 := Lib.hid hS1
      have HD3 := Lib.hid hD3
      clear hu hr1 hS1 hD3 bb3 HDQ HD0
      go_wp2_with fail
      refine (tread_any b (by omega) w3 (hG.below b3).tab (hG.below b3).atoi (hG.below b3).max).mono ?_
      rintro e w4 ⟨y, m, A2, c2, hr2, hm, hy, rfl, hS2, -, bb4⟩
      have b4 := b3.trans (bb4.mono b3.size)
      have HS2 := Lib.hid hS2
      have HR2 := Lib.hid hr2
      have HS1' := Lib.hid (HS1.out.below bb4)
      have HD4 := Lib.hid (HD3.out.below bb4)
      clear hr2 hS2 bb4 HS1 HD3
      go_wp2_with fail
      refine (bytes_any p g _ w4 HD4.out).mono ?_
      rintro e w5 ⟨rfl, rfl⟩
      go_wp2_with fail
      rw [mk_app]
      refine (tread_any (q ++ b) (by rw [List.length_append]; omega) w4 (hG.below b4).tab (hG.below b4).atoi (hG.below b4).max).mono ?_
      rintro e w5 ⟨z, n3, A3, c3, hr3, -, -, rfl, hS3, -, bb5⟩
      have hj := read_join HALL.out HR2.out
      rw [← HQ.out] at hj
      obtain ⟨rfl, rfl⟩ := hr3.unique hj
      have b5 := b4.trans (bb5.mono b4.size)
      have HS3 := Lib.hid hS3
      have HS1 := Lib.hid (HS1'.out.below bb5)
      have HS2' := Lib.hid (HS2.out.below bb5)
      have HD5 := Lib.hid (HD4.out.below bb5)
      have hlx : l1.length ≤ 20 := by rw [← HN.out]; exact h1
      have HB5 := Lib.hid b5
      clear hr3 hj hS3 bb5 HS1' HS2 HD4 b4 b3 hb
      go_wp2_with (first | (at_builtin; refine wpList_append_strs _ rfl (.tmp 78) (.tmp 79) rfl w5.heap.size (.slice none 0 0) 0 [] rfl (World.ownsRow_nil _ _ _ _) A1 c1 l1 rfl HS1.out (by omega) (Nat.le_refl _) ?_; intro v1 wa KO ba) | (at_builtin; refine wpList_append_strs _ rfl (.tmp 81) (.tmp 82) rfl w5.heap.size v1 (0 + l1.length) ([] ++ strVals l1) rfl KO.out A2 c2 y rfl (HS2'.out.below ba) (by omega) ba.size ?_; intro v2 wb KO2 bb))
      have hk' := HN.out
      subst hk'
      have BW := ba.trans bb
      have b6 := HB5.out.trans (BW.mono HB5.out.size)
      have hs1 := sameTexts_any A1 A c1 cap l1 l1 wb (HS1.out.below BW) (HX.out.below b6) (by omega)
      rw [decide_eq_true rfl] at hs1
      have hown : wb.ownsRow w5.heap.size 9 1 v2 (l1 ++ y).length (strVals (l1 ++ y)) := by
        have := KO2.out
        simpa [strVals] using this
      obtain ⟨A4, c4, rfl, hS4, -⟩ := StrsAt.of_own hown
      refine hs1.mono ?_
      rintro e w6 ⟨rfl, bb6⟩
      have b7 := b6.trans (bb6.mono b6.size)
      have hD6 := (HD5.out.below BW).below bb6
      have hS3' := (HS3.out.below BW).below bb6
      have hS4' := hS4.below bb6
      have H3 := Lib.hid hS3'
      have H4 := Lib.hid hS4'
      have HD6 := Lib.hid hD6
      have B7 := Lib.hid b7
      clear hs1 hown hS4 hS3' hS4' hD6 b6 b7 BW ba bb bb6 KO KO2 HS1 HS2' HD5 HB5 HS3
      have hqs : (⟨q.toArray⟩ : ByteArray).size = q.length := by simp [ByteArray.size]
      go_wp2_with fail
      refine (bytes_any p g _ w6 HD6.out).mono ?_
      rintro e w7 ⟨rfl, rfl⟩
      have hs2 := sameTexts_any A3 A4 c3 c4 (l1 ++ y) (l1 ++ y) w6 H3.out H4.out (by rw [List.length_append]; omega)
      rw [decide_eq_true rfl, List.length_append] at hs2
      have HS2 := Lib.hid hs2
      clear hs2
      go_wp2_with fail
      refine HS2.out.mono ?_
      rintro e w7 ⟨rfl, bb8⟩
      have b8 := B7.out.trans (bb8.mono B7.out.size)
      clear bb8 HS2
      go_wp2
      go_ret
      exact ⟨rfl, b8⟩

theorem tapeJoins_walk (E : Nat → Addr) (A : Option Addr) (cap : Nat) (xs : List (List UInt8)) (b : ByteArray) (w : World) (hG : TapeG E w) (hX : StrsAt w A xs) :
    Calls Tryd.prog 4 #[.slice A xs.length cap, .string b] w fun e w' => e = .returned (.bool true) ∧ Below w.heap.size w w' := by
  by_cases h : 20 < xs.length ∨ 500 < b.size
  · exact joins_out E A xs.length cap b w hG h
  · obtain ⟨⟨l⟩⟩ := b
    have e : (ByteArray.mk (Array.mk l)).size = l.length := rfl
    rw [e] at h
    exact joins_in E A cap xs l w hG hX (by omega) (by omega)
end Go.Proofs.YtcfkpkkakdmcpaaDoor
