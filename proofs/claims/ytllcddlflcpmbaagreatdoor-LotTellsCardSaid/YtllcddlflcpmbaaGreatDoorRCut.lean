/- The document's Cut, walked. -/
import Derived.Test.YtllcddlflcpmbaaGreatDoorSplitW
import Derived.Deep.AppendLies
namespace Go.Proofs.YtllcddlflcpmbaaGreatDoor
open Go.RowKit

set_option maxHeartbeats 2000000 in
set_option maxRecDepth 100000 in
theorem refCutB (s : ByteArray) (c : UInt8) (w : World) (hs : s.size ≤ 1000000) :
    Calls Tryz.prog 8 #[.string s, .int .u8 (c.toNat : Nat)] w (TextsEnds (splitL c (bts s)) w) := by
  obtain ⟨i0, hi, hz0, hz1, hz2⟩ := info_parts stringInfo1
  have hc := c.toNat_lt
  go_enter Tryz.func8, Tryz.ntmps8
  go_wp2
  go_loopw [5, 6, 7] (fun out f i wr => ∃ (l : List (List UInt8)) (k n m : Nat), i = .int .i64 n ∧ f = .int .i64 m ∧ m ≤ n ∧ n ≤ s.size ∧ k ≤ n ∧ Hid (k = l.length ∧ splitL c ((bts s).take n) = l ++ [((bts s).take n).drop m]) ∧ Hid (wr.ownsRow w.heap.size 9 1 out k (strVals l)) ∧ Below w.heap.size w wr) (fun _ _ i _ => s.size - (intOf i).toNat)
  case atStart => exact ⟨[], 0, 0, 0, rfl, rfl, by omega, by omega, by omega, ⟨rfl, by simp [splitL]⟩, World.ownsRow_nil _ _ _ _, Below.refl _ _⟩
  case round =>
    obtain ⟨l, k, n, m, rfl, rfl, hmn, hns, hkn, HL, HO, hbel⟩ := hrel
    have HB := Lib.hid hbel
    have hwb := hbel.size
    clear hbel
    have mi : (m : Int) ≤ (n : Int) := by omega
    have ni : (n : Int) ≤ (s.size : Int) := by omega
    have mi0 : (0 : Int) ≤ (m : Int) := Int.natCast_nonneg m
    have e1 : s.extract m n = ⟨(((bts s).take n).drop m).toArray⟩ := ext_data _ _ (by rw [bts_extract])
    obtain ⟨x, hx⟩ : ∃ x, x = ((bts s).take n).drop m := ⟨_, rfl⟩
    rw [← hx] at e1
    have HX := Lib.hid hx
    clear hx
    by_cases hlt : n < s.size
    · have HS := Lib.hid (bts_snoc s n hlt)
      by_cases hcc : s[n] = c
      · have t1 : ((s[n].toNat : Int) == (c.toNat : Int)) = true := by rw [hcc]; simp
        have HSP : Hid (splitL c ((bts s).take (n + 1)) = (l ++ [x]) ++ [((bts s).take (n + 1)).drop (n + 1)]) := by
          show _ = _
          rw [HS.out, hcc, splitL_snoc_sep, HL.out.2, ← HX.out]
          have : ((bts s).take n ++ [c]).drop (n + 1) = [] := List.drop_of_length_le (by rw [List.length_append, List.length_take, List.length_singleton]; omega)
          rw [this]
        clear hcc HS
        go_wp2_with (at_builtin; refine wpList_append_lies _ rfl (.tmp 19) (.tmp 24) 31 rfl w.heap.size 9 i0 (.string ⟨#[]⟩) 1 16 Tryz.underlying31 hi hz0 hz1 hz2 rfl (by decide) u5 k (strVals l) rfl (HO.out.alloc _) _ 1 1 [.string ⟨x.toArray⟩] rfl rfl (World.news_of_block (cs := #[.string ⟨x.toArray⟩]) (t := 9) (fr := (0, 0)) (heap_alloc_new _ _)) (by simp [Value.oneCell']) (by omega) (by unfold maxLen; omega) (by omega) (by simp; omega) _ rfl ?_; intro gg cap' w3 hown3 hgrow hat hlt3; have HK := Lib.hid (And.intro hown3 (And.intro hgrow hat)); clear hown3 hgrow hat)
        have hb3 : Below w.heap.size w w3 := (HB.out.alloc HB.out.size _).grown HK.out.2.1 (by simp; omega) (fun j hj => (HO.out.lt j hj).1)
        go_roundw
        case rel =>
          refine ⟨l ++ [x], k + 1, n + 1, n + 1, by go_num, by go_num, by omega, by omega, by omega, ⟨?_, HSP.out⟩, ?_, hb3⟩
          · rw [List.length_append, ← HL.out.1]; rfl
          · have e : strVals (l ++ [x]) = strVals l ++ [.string ⟨x.toArray⟩] := by simp [strVals]
            rw [e]; exact HK.out.1
        case measure => simp [intOf]; omega
      · have t1 : ((s[n].toNat : Int) == (c.toNat : Int)) = false := by
          have : s[n].toNat ≠ c.toNat := fun e => hcc (UInt8.toNat_inj.1 e)
          simpa using by omega
        have HSP : Hid (splitL c ((bts s).take (n + 1)) = l ++ [((bts s).take (n + 1)).drop m]) := by
          show _ = _
          rw [HS.out, splitL_snoc _ hcc l x (by rw [HL.out.2, ← HX.out])]
          congr 2
          rw [List.drop_append_of_le_length (by rw [List.length_take]; have : (bts s).length = s.size := rfl; omega), ← HX.out]
        clear hcc HS e1
        go_wp2
        go_roundw
        case rel => exact ⟨l, k, n + 1, m, by go_num, rfl, by omega, by omega, by omega, ⟨HL.out.1, HSP.out⟩, HO, HB.out⟩
        case measure => simp [intOf]; omega
    · obtain rfl : n = s.size := by omega
      have hall := HL.out.2
      rw [bts_all] at hall
      have HALL := Lib.hid hall
      have hx2 := HX.out
      rw [bts_all] at hx2
      have HX2 := Lib.hid hx2
      clear hall hx2
      go_wp2_with (at_builtin; refine wpList_append_lies _ rfl (.tmp 28) (.tmp 32) 31 rfl w.heap.size 9 i0 (.string ⟨#[]⟩) 1 16 Tryz.underlying31 hi hz0 hz1 hz2 rfl (by decide) u5 k (strVals l) rfl (HO.out.alloc _) _ 1 1 [.string ⟨x.toArray⟩] rfl rfl (World.news_of_block (cs := #[.string ⟨x.toArray⟩]) (t := 9) (fr := (0, 0)) (heap_alloc_new _ _)) (by simp [Value.oneCell']) (by omega) (by unfold maxLen; omega) (by omega) (by simp; omega) _ rfl ?_; intro gg cap' w3 hown3 hgrow hat hlt3; have HK := Lib.hid (And.intro hown3 (And.intro hgrow hat)); clear hown3 hgrow hat)
      have hb3 : Below w.heap.size w w3 := (HB.out.alloc HB.out.size _).grown HK.out.2.1 (by simp; omega) (fun j hj => (HO.out.lt j hj).1)
      go_ret
      have e : strVals (l ++ [x]) = strVals l ++ [.string ⟨x.toArray⟩] := by simp [strVals]
      have hown := HK.out.1
      rw [← e] at hown
      have hl : k + 1 = (l ++ [x]).length := by rw [List.length_append, ← HL.out.1]; rfl
      rw [hl] at hown
      have hsp : splitL c (bts s) = l ++ [x] := by rw [HALL.out, HX2.out]
      obtain ⟨A, cap, hv, hS, hA⟩ := StrsAt.of_own hown
      rw [hsp]
      exact ⟨A, cap, by rw [← hv, ← hl]; rfl, hS, hA, hb3⟩
end Go.Proofs.YtllcddlflcpmbaaGreatDoor
