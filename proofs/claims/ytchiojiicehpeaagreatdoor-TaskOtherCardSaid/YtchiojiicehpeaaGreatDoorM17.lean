/- The document's Cut, walked. Rows of cells, as walks read them. Places read by the document: ReadPlace. A line's words; a line read by the document: ReadLine. -/
import Derived.Deep.AppendLies
import Derived.Test.YtchiojiicehpeaaGreatDoorM01
import Derived.Test.YtchiojiicehpeaaGreatDoorM05
import Derived.Test.YtchiojiicehpeaaGreatDoorM07
import Derived.Test.YtchiojiicehpeaaGreatDoorM10
import Derived.Test.YtchiojiicehpeaaGreatDoorM15
import Derived.Test.YtchiojiicehpeaaGreatDoorM16
namespace Go.Proofs.YtchiojiicehpeaaGreatDoor
open Go.RowKit
def TextsCap (xs : List (List UInt8)) (w : World) (e : Ending) (w' : World) : Prop :=
 ∃ A cap, e = .returned (.slice A xs.length cap) ∧ StrsAt w' A xs ∧ (∀ a, A = some a → w.heap.size ≤ a.block) ∧ Below w.heap.size w w' ∧ xs.length ≤ cap
theorem own_cap {w : World} {B e size n cap : Nat} {A : Option Addr} {v : Value} {xs : List Value} (h : w.ownsRow B e size v n xs) (hv : v = .slice A n cap) : n ≤ cap := by
 subst hv
 rcases h.2 with ⟨h0, h1⟩ | ⟨g, cap', cur, h1, _, _, h2, _⟩
 ·omega
 ·cases h1
  exact h2
set_option maxHeartbeats 2000000 in
set_option maxRecDepth 100000 in
theorem refCutC (s : ByteArray) (c : UInt8) (w : World) (hs : s.size ≤ 1000000) :
  Calls Tryz.prog 105 #[.string s, .int .u8 (c.toNat : Nat)] w (TextsCap (splitL c (bts s)) w) := by
 obtain ⟨i0, hi, hz0, hz1, hz2⟩ := info_parts stringInfo1
 have hc := c.toNat_lt
 go_enter Tryz.func105, Tryz.ntmps105
 go_wp2
 go_loopw [5, 6, 7] (fun out f i wr => ∃ (l : List (List UInt8)) (k n m : Nat), i = .int .i64 n ∧ f = .int .i64 m ∧ m ≤ n ∧ n ≤ s.size ∧ k ≤ n ∧ Hid (k = l.length ∧ splitL c ((bts s).take n) = l ++ [((bts s).take n).drop m]) ∧ Hid (wr.ownsRow w.heap.size 9 1 out k (strVals l)) ∧ Below w.heap.size w wr) (fun _ _ i _ => s.size - (intOf i).toNat)
 case atStart => exact ⟨[], 0, 0, 0, rfl, rfl, by omega, by omega, by omega, ⟨rfl, by simp [splitL]⟩, World.ownsRow_nil _ _ _ _, Below.refl _ _⟩
 case round =>
  obtain ⟨l, k, n, m, rfl, rfl, hmn, hns, hkn, HL, HO, hbel⟩ := hrel
  have HB := Lib.hid hbel
  have hwb := hbel.size
  clear hbel
  have mi : (m : Int) ≤ (n : Int) := by omega
  have ni : (n : Int) ≤ (s.size : Int) := by omega
  have mi0 : (0 : Int) ≤ (m : Int) := Int.natCast_nonneg m
  have e1 : s.extract m n = ⟨(((bts s).take n).drop m).toArray⟩ := ext_data _ _ (by rw [bts_extract])
  obtain ⟨x, hx⟩ : ∃ x, x = ((bts s).take n).drop m := ⟨_, rfl⟩
  rw [← hx] at e1
  have HX := Lib.hid hx
  clear hx
  by_cases hlt : n < s.size
  ·have HS := Lib.hid (bts_snoc s n hlt)
   by_cases hcc : s[n] = c
   ·have t1 : ((s[n].toNat : Int) == (c.toNat : Int)) = true := by rw [hcc]; simp
    have HSP : Hid (splitL c ((bts s).take (n + 1)) = (l ++ [x]) ++ [((bts s).take (n + 1)).drop (n + 1)]) := by
     show _ = _
     rw [HS.out, hcc, splitL_snoc_sep, HL.out.2, ← HX.out]
     have : ((bts s).take n ++ [c]).drop (n + 1) = [] := List.drop_of_length_le (by rw [List.length_append, List.length_take, List.length_singleton]; omega)
     rw [this]
    clear hcc HS
    go_wp2_with (at_builtin; refine wpList_append_lies _ rfl (.tmp 19) (.tmp 24) 36 rfl w.heap.size 9 i0 (.string ⟨#[]⟩) 1 16 Tryz.underlying36 hi hz0 hz1 hz2 rfl (by decide) u5 k (strVals l) rfl (HO.out.alloc _) _ 1 1 [.string ⟨x.toArray⟩] rfl rfl (World.news_of_block (cs := #[.string ⟨x.toArray⟩]) (t := 9) (fr := (0, 0)) (heap_alloc_new _ _)) (by simp [Value.oneCell']) (by omega) (by unfold maxLen; omega) (by omega) (by simp; omega) _ rfl ?_; intro gg cap' w3 hown3 hgrow hat hlt3; have HK := Lib.hid (And.intro hown3 (And.intro hgrow hat)); clear hown3 hgrow hat)
    have hb3 : Below w.heap.size w w3 := (HB.out.alloc HB.out.size _).grown HK.out.2.1 (by simp; omega) (fun j hj => (HO.out.lt j hj).1)
    go_roundw
    case rel =>
     refine ⟨l ++ [x], k + 1, n + 1, n + 1, by go_num, by go_num, by omega, by omega, by omega, ⟨?_, HSP.out⟩, ?_, hb3⟩
     ·rw [List.length_append, ← HL.out.1]; rfl
     ·have e : strVals (l ++ [x]) = strVals l ++ [.string ⟨x.toArray⟩] := by simp [strVals]
      rw [e]; exact HK.out.1
    case measure => simp [intOf]; omega
   ·have t1 : ((s[n].toNat : Int) == (c.toNat : Int)) = false := by
     have : s[n].toNat ≠ c.toNat := fun e => hcc (UInt8.toNat_inj.1 e)
     simpa using by omega
    have HSP : Hid (splitL c ((bts s).take (n + 1)) = l ++ [((bts s).take (n + 1)).drop m]) := by
     show _ = _
     rw [HS.out, splitL_snoc _ hcc l x (by rw [HL.out.2, ← HX.out])]
     congr 2
     rw [List.drop_append_of_le_length (by rw [List.length_take]; have : (bts s).length = s.size := rfl; omega), ← HX.out]
    clear hcc HS e1
    go_wp2
    go_roundw
    case rel => exact ⟨l, k, n + 1, m, by go_num, rfl, by omega, by omega, by omega, ⟨HL.out.1, HSP.out⟩, HO, HB.out⟩
    case measure => simp [intOf]; omega
  ·obtain rfl : n = s.size := by omega
   have hall := HL.out.2
   rw [bts_all] at hall
   have HALL := Lib.hid hall
   have hx2 := HX.out
   rw [bts_all] at hx2
   have HX2 := Lib.hid hx2
   clear hall hx2
   go_wp2_with (at_builtin; refine wpList_append_lies _ rfl (.tmp 28) (.tmp 32) 36 rfl w.heap.size 9 i0 (.string ⟨#[]⟩) 1 16 Tryz.underlying36 hi hz0 hz1 hz2 rfl (by decide) u5 k (strVals l) rfl (HO.out.alloc _) _ 1 1 [.string ⟨x.toArray⟩] rfl rfl (World.news_of_block (cs := #[.string ⟨x.toArray⟩]) (t := 9) (fr := (0, 0)) (heap_alloc_new _ _)) (by simp [Value.oneCell']) (by omega) (by unfold maxLen; omega) (by omega) (by simp; omega) _ rfl ?_; intro gg cap' w3 hown3 hgrow hat hlt3; have HK := Lib.hid (And.intro hown3 (And.intro hgrow hat)); clear hown3 hgrow hat)
   have hb3 : Below w.heap.size w w3 := (HB.out.alloc HB.out.size _).grown HK.out.2.1 (by simp; omega) (fun j hj => (HO.out.lt j hj).1)
   go_ret
   have e : strVals (l ++ [x]) = strVals l ++ [.string ⟨x.toArray⟩] := by simp [strVals]
   have hown := HK.out.1
   rw [← e] at hown
   have hl : k + 1 = (l ++ [x]).length := by rw [List.length_append, ← HL.out.1]; rfl
   rw [hl] at hown
   have hsp : splitL c (bts s) = l ++ [x] := by rw [HALL.out, HX2.out]
   obtain ⟨A, cap, hv, hS, hA⟩ := StrsAt.of_own hown
   rw [hsp]
   exact ⟨A, cap, by rw [← hv, ← hl]; rfl, hS, hA, hb3, own_cap hown hv⟩
theorem refCutB (s : ByteArray) (c : UInt8) (w : World) (hs : s.size ≤ 1000000) :
  Calls Tryz.prog 105 #[.string s, .int .u8 (c.toNat : Nat)] w (TextsEnds (splitL c (bts s)) w) := by
 refine (refCutC s c w hs).mono ?_
 rintro e w' ⟨A, cap, h1, h2, h3, h4, _⟩
 exact ⟨A, cap, h1, h2, h3, h4⟩
end Go.Proofs.YtchiojiicehpeaaGreatDoor
namespace Go.Proofs.YtchiojiicehpeaaGreatDoor
open Go.RowKit
theorem rowC {w : World} {b : Nat} {cs : Array Value} {t : TypeId} (h : w.heap[b]? = some (.cells cs t (0, 0))) (j : Nat) : w.cell? ⟨b, j, none⟩ = cs[j]? := cell_of_row _ _ _ _ _ _ h
theorem rowF {w : World} {b : Nat} {cs : Array Value} {t : TypeId} (h : w.heap[b]? = some (.cells cs t (0, 0))) (j : Nat) : w.frozen? ⟨b, j, none⟩ = false := frozen_of_row _ _ _ _ _ h
theorem row3f {w : World} {b : Nat} {u v x : Value} {t : TypeId} (h : w.heap[b]? = some (.cells #[u, v, x] t (0, 0))) :
  (w.cell? ⟨b, 0, none⟩ = some u ∧ w.cell? ⟨b, 1, none⟩ = some v ∧ w.cell? ⟨b, 2, none⟩ = some x) ∧ w.frozen? ⟨b, 0, none⟩ = false ∧ w.frozen? ⟨b, 1, none⟩ = false ∧ w.frozen? ⟨b, 2, none⟩ = false :=
 ⟨⟨rowC h 0, rowC h 1, rowC h 2⟩, rowF h 0, rowF h 1, rowF h 2⟩
theorem row5f {w : World} {b : Nat} {u v x y z : Value} {t : TypeId} (h : w.heap[b]? = some (.cells #[u, v, x, y, z] t (0, 0))) :
  (w.cell? ⟨b, 0, none⟩ = some u ∧ w.cell? ⟨b, 1, none⟩ = some v ∧ w.cell? ⟨b, 2, none⟩ = some x ∧ w.cell? ⟨b, 3, none⟩ = some y ∧ w.cell? ⟨b, 4, none⟩ = some z) ∧ w.frozen? ⟨b, 0, none⟩ = false ∧ w.frozen? ⟨b, 1, none⟩ = false ∧ w.frozen? ⟨b, 2, none⟩ = false ∧ w.frozen? ⟨b, 3, none⟩ = false ∧ w.frozen? ⟨b, 4, none⟩ = false :=
 ⟨⟨rowC h 0, rowC h 1, rowC h 2, rowC h 3, rowC h 4⟩, rowF h 0, rowF h 1, rowF h 2, rowF h 3, rowF h 4⟩
theorem wpList_store_box {P : Program} {ops : Array Oper} {rest : List Oper} {o : Oper} {a : Act} {w : World} {Q : Exit → Act → World → Prop} (hgd : o.guard = none) (ty : TypeId) (x y : Operand) (ho : o.op = .store ty x y) (b : Nat) (vs : List Value) (hx : a.eval x = .pointer (some ⟨b, 0, none⟩)) (hy : a.eval y = .agg vs.toArray)
  (t : TypeId) (L : List Value) (hb : w.heap[b]? = some (.cells L.toArray t (0, 0))) (hi : (P.info? ty).map (·.size) = some vs.length) (hl : L.length = vs.length) (h1 : ∀ v ∈ vs, v.oneCell' = true)
  (h : ∀ w', w'.heap[b]? = some (.cells vs.toArray t (0, 0)) → Turned b w w' → wpList P ops Q rest (a.put o.dst undef) w') : wpList P ops Q (o :: rest) a w :=
 wpList_store_at hgd ty x y ho b 0 vs hx hy t L hb hi (by omega) h1 fun w' hr ht => h w' (by rw [hr, Nat.zero_add, List.drop_of_length_le (Nat.le_of_eq hl)]; simp) ht
end Go.Proofs.YtchiojiicehpeaaGreatDoor
namespace Go.Proofs.YtchiojiicehpeaaGreatDoor
open Go.RowKit Go.Sort Go.Proofs
theorem placeWords_cases (a c d : List UInt8) : ((refNum c 4 < 0 ∨ ¬ refNum c 4 < 0 ∧ refNum d 4 < 0) ∧ placeWords [a, c, d] = (zeroPlace, 1)) ∨ (¬ refNum c 4 < 0 ∧ ¬ refNum d 4 < 0 ∧ placeWords [a, c, d] = if placeE (a, refNum c 4, refNum d 4) = 0 then ((a, refNum c 4, refNum d 4), 0) else (zeroPlace, placeE (a, refNum c 4, refNum d 4))) := by
 rw [refNum_eq c 4 (by omega), refNum_eq d 4 (by omega)]
 rw [show placeWords [a, c, d] = match numQ c 4, numQ d 4 with
  |some u, some v => if placeE (a, (u : Int), (v : Int)) = 0 then ((a, (u : Int), (v : Int)), 0) else (zeroPlace, placeE (a, (u : Int), (v : Int)))
  |_, _ => (zeroPlace, 1) from rfl]
 cases numQ c 4 with
 |none => exact .inl ⟨.inl (by simp), rfl⟩
 |some u =>
  cases numQ d 4 with
  |none => exact .inl ⟨.inr ⟨by simp, by simp⟩, rfl⟩
  |some v => exact .inr ⟨by simp, by simp, rfl⟩
set_option maxHeartbeats 1600000 in
theorem refReadPlace_any (s : ByteArray) (hs : s.size ≤ 1000000) (w : World) :
  Calls Tryz.prog 166 #[.string s] w fun e w' => e = .returned (.tuple #[.agg (encPlace (placeWords (splitL 45 (bts s))).1).toArray, .int .i64 ((placeWords (splitL 45 (bts s))).2 : Nat)]) ∧ Below w.heap.size w w' := by
 have HCT := Lib.hid (fun W => refCutB s 45 W hs)
 have hle := fun x (h : x ∈ splitL 45 (bts s)) => splitL_lens h
 generalize splitL 45 (bts s) = ws at HCT hle ⊢
 rw [show (bts s).length = s.size from rfl] at hle
 have b0 := below_one w (.cells #[.string ⟨#[]⟩, .int .i64 0, .int .i64 0] 58)
 have hz0 := heap_alloc_new w (.cells #[.string ⟨#[]⟩, .int .i64 0, .int .i64 0] 58)
 go_enter Tryz.func166, Tryz.ntmps166
 go_wp2_with fail
 obtain ⟨rb, hrb⟩ : ∃ rb, rb = w.heap.size := ⟨_, rfl⟩
 have HRB : Hid (w.heap.size ≤ rb) := by show _ ≤ _; omega
 rw [← hrb] at hz0 ⊢
 generalize w.alloc (.cells #[.string ⟨#[]⟩, .int .i64 0, .int .i64 0] 58) = W0 at b0 hz0 ⊢
 refine (HCT.out W0).mono ?_
 rintro e w1 ⟨A, cap, rfl, hS, -, bb1⟩
 have hz1 := (bb1.block rb (row_lt hz0)).trans hz0
 have B1 := Lib.hid (b0.trans (bb1.mono b0.size))
 clear bb1 hz0 b0 HCT hrb
 by_cases h4 : ws.length = 3
 ·obtain ⟨a, c, d, rfl⟩ := three h4
  have ha := hle a (by simp)
  have hcl := hle c (by simp)
  have hdl := hle d (by simp)
  have HCASE := Lib.hid (placeWords_cases a c d)
  have HN1 := Lib.hid (fun W => refNumber_any c 4 (by omega) (by omega) W)
  have HN2 := Lib.hid (fun W => refNumber_any d 4 (by omega) (by omega) W)
  obtain ⟨bl, o, rfl, hl, p0, p1, p2⟩ := strs3 hS
  generalize refNum c 4 = rc at HN1 HCASE
  generalize refNum d 4 = rd at HN2 HCASE
  rw [show [a, c, d].length = 3 from rfl]
  clear hS hle h4
  go_wp2_with fail
  refine (HN1.out _).mono ?_
  rintro e w2 ⟨rfl, rfl⟩
  go_wp2_with fail
  refine (HN2.out _).mono ?_
  rintro e w2 ⟨rfl, rfl⟩
  obtain ⟨⟨z0, z1, z2⟩, f0, f1, f2⟩ := row3f hz1
  have HZ1 := Lib.hid hz1
  clear hz1
  rcases HCASE.out with ⟨hneg, hw⟩ | ⟨hc, hd, hw⟩
  ·have HW := Lib.hid hw
   clear hw
   rcases hneg with h | ⟨h, h'⟩
   all_goals
    go_wp2_with fail
    have hrow := puts_row [.string ⟨#[]⟩, .int .i64 0, .int .i64 0] HZ1.out rfl
    (try simp only [Exit.inBlock, Exit.then])
    refine bodyPost_ret (results_cell_row2 rfl _ _ rb 58 #[.string ⟨#[]⟩, .int .i64 0, .int .i64 0] (0, 0) _ rfl hrow Tryz.underlying58 rfl (by kernel_rfl)) rfl ?_
    rw [HW.out]
    exact ⟨rfl, puts_below HRB.out [.string ⟨#[]⟩, .int .i64 0, .int .i64 0] _ 0 B1.out⟩
  ·have HW := Lib.hid hw
   have HPE := Lib.hid (fun W => refPlaceE_any (a, rc, rd) (by show a.length ≤ _; omega) W)
   generalize placeE (a, rc, rd) = k at HW HPE
   simp only [encPlace] at HPE
   have hx := heap_alloc_new w1 (.cells #[.string ⟨a.toArray⟩, .int .i64 rc, .int .i64 rd] 58)
   have b2 := below_one w1 (.cells #[.string ⟨a.toArray⟩, .int .i64 rc, .int .i64 rd] 58)
   have hz2 := (b2.block rb (row_lt HZ1.out)).trans HZ1.out
   have B2 := Lib.hid (B1.out.trans (b2.mono B1.out.size))
   clear hw z0 z1 z2 f0 f1 f2 b2
   go_wp2_with fail
   generalize w1.alloc (.cells #[.string ⟨a.toArray⟩, .int .i64 rc, .int .i64 rd] 58) = w2 at *
   generalize w1.heap.size = xb at *
   refine (HPE.out _).mono ?_
   rintro e w3 ⟨rfl, b3⟩
   have hx3 := (b3.block xb (row_lt hx)).trans hx
   have HZ3 := Lib.hid ((b3.block rb (row_lt hz2)).trans hz2)
   have B3 := Lib.hid (B2.out.trans (b3.mono B2.out.size))
   clear b3 hx hz2 hl p0 p1 p2
   obtain ⟨⟨z0, z1, z2⟩, f0, f1, f2⟩ := row3f HZ3.out
   obtain ⟨⟨x0, x1, x2⟩, -⟩ := row3f hx3
   clear hx3
   by_cases h0 : k = 0
   ·subst h0
    go_wp2_with fail
    have hrow := puts_row [.string ⟨a.toArray⟩, .int .i64 rc, .int .i64 rd] HZ3.out rfl
    (try simp only [Exit.inBlock, Exit.then])
    refine bodyPost_ret (results_cell_row2 rfl _ _ rb 58 #[.string ⟨a.toArray⟩, .int .i64 rc, .int .i64 rd] (0, 0) _ rfl hrow Tryz.underlying58 rfl (by kernel_rfl)) rfl ?_
    rw [HW.out]
    exact ⟨rfl, puts_below HRB.out [.string ⟨a.toArray⟩, .int .i64 rc, .int .i64 rd] _ 0 B3.out⟩
   ·have hk : 0 < (k : Int) := by omega
    go_wp2_with fail
    have hrow := puts_row [.string ⟨#[]⟩, .int .i64 0, .int .i64 0] HZ3.out rfl
    (try simp only [Exit.inBlock, Exit.then])
    refine bodyPost_ret (results_cell_row2 rfl _ _ rb 58 #[.string ⟨#[]⟩, .int .i64 0, .int .i64 0] (0, 0) _ rfl hrow Tryz.underlying58 rfl (by kernel_rfl)) rfl ?_
    rw [HW.out, if_neg h0]
    exact ⟨rfl, puts_below HRB.out [.string ⟨#[]⟩, .int .i64 0, .int .i64 0] _ 0 B3.out⟩
 ·have HW := Lib.hid (placeWords_len h4)
  obtain ⟨⟨z0, z1, z2⟩, f0, f1, f2⟩ := row3f hz1
  have HZ1 := Lib.hid hz1
  obtain ⟨n, hn⟩ : ∃ n, n = ws.length := ⟨_, rfl⟩
  rw [← hn] at h4 ⊢
  have h4' : ¬ (n : Int) = 3 := by omega
  clear hn hz1
  go_wp2_with fail
  have hrow := puts_row [.string ⟨#[]⟩, .int .i64 0, .int .i64 0] HZ1.out rfl
  (try simp only [Exit.inBlock, Exit.then])
  refine bodyPost_ret (results_cell_row2 rfl _ _ rb 58 #[.string ⟨#[]⟩, .int .i64 0, .int .i64 0] (0, 0) _ rfl hrow Tryz.underlying58 rfl (by kernel_rfl)) rfl ?_
  rw [HW.out]
  exact ⟨rfl, puts_below HRB.out [.string ⟨#[]⟩, .int .i64 0, .int .i64 0] _ 0 B1.out⟩
end Go.Proofs.YtchiojiicehpeaaGreatDoor
namespace Go.Proofs.YtchiojiicehpeaaGreatDoor
open Go.RowKit Go.Sort Go.Proofs
def zeroLine : LineV := (([], 0, 0), [], 0)
def lineWords (ws : List (List UInt8)) : LineV × Nat :=
 match ws with
 |[a, b, c] => match numQ c 13 with
  |none => (zeroLine, 1)
  |some n => if (placeWords (splitL 45 a)).2 ≠ 0 then (zeroLine, (placeWords (splitL 45 a)).2) else if nameB b = false then (zeroLine, 5) else if wiB (n : Int) 1 1099511627776 = false then (zeroLine, 2) else (((placeWords (splitL 45 a)).1, b, (n : Int)), 0)
 |_ => (zeroLine, 1)
theorem lineWords_len {ws : List (List UInt8)} (h : ws.length ≠ 3) : lineWords ws = (zeroLine, 1) := by
 unfold lineWords
 split
 ·simp at h
 ·rfl
theorem lineWords_le (ws : List (List UInt8)) : (lineWords ws).2 ≤ 12 := by
 unfold lineWords
 split
 ·rename_i a b c
  have := placeWords_le (splitL 45 a)
  split
  ·simp
  ·repeat' split
   all_goals first | exact this | simp
 ·simp
theorem lineWords_none {a b c : List UInt8} (h : numQ c 13 = none) : lineWords [a, b, c] = (zeroLine, 1) := by
 show (match numQ c 13 with | none => (zeroLine, 1) | some n => _) = _
 rw [h]
theorem lineWords_some {a b c : List UInt8} {n : Nat} (h : numQ c 13 = some n) : lineWords [a, b, c] = if (placeWords (splitL 45 a)).2 ≠ 0 then (zeroLine, (placeWords (splitL 45 a)).2) else if nameB b = false then (zeroLine, 5) else if wiB (n : Int) 1 1099511627776 = false then (zeroLine, 2) else (((placeWords (splitL 45 a)).1, b, (n : Int)), 0) := by
 show (match numQ c 13 with | none => (zeroLine, 1) | some n => _) = _
 rw [h]
set_option maxHeartbeats 1600000 in
set_option maxRecDepth 100000 in
theorem refReadLine_any (A : Option Addr) (cap : Nat) (ws : List (List UInt8)) (w : World) (hS : StrsAt w A ws) (hle : ∀ x ∈ ws, x.length ≤ 1000000) :
  Calls Tryz.prog 108 #[.slice A ws.length cap] w fun e w' => e = .returned (.tuple #[.agg (encLine (lineWords ws).1).toArray, .int .i64 ((lineWords ws).2 : Nat)]) ∧ Below w.heap.size w w' := by
 have b0 := below_one w (.cells #[.string ⟨#[]⟩, .int .i64 0, .int .i64 0, .string ⟨#[]⟩, .int .i64 0] 60)
 have hz0 := heap_alloc_new w (.cells #[.string ⟨#[]⟩, .int .i64 0, .int .i64 0, .string ⟨#[]⟩, .int .i64 0] 60)
 have hS0 := hS.below b0
 go_enter Tryz.func108, Tryz.ntmps108
 by_cases h4 : ws.length = 3
 ·obtain ⟨a, b, c, rfl⟩ := three h4
  have ha := hle a (by simp)
  have hb := hle b (by simp)
  have hcl := hle c (by simp)
  have HN1 := Lib.hid (fun W => refNumber_any c 13 (by omega) (by omega) W)
  have e1 := refNum_eq c 13 (by omega)
  have HNM := Lib.hid (fun W => isName_any b (by omega) W)
  have HPL := Lib.hid (fun W => refReadPlace_any ⟨a.toArray⟩ (by show a.toArray.size ≤ _; simp; omega) W)
  have HLE := Lib.hid (placeWords_le (splitL 45 a))
  rw [show bts ⟨a.toArray⟩ = a from rfl] at HPL
  have HL0 := Lib.hid (fun h => lineWords_none (a := a) (b := b) (c := c) h)
  have HL1 := Lib.hid (fun n h => lineWords_some (a := a) (b := b) (c := c) (n := n) h)
  generalize lineWords [a, b, c] = R at HL0 HL1 ⊢
  generalize placeWords (splitL 45 a) = P at HPL HL1 HLE
  generalize nameB b = nb at HNM HL1
  generalize refNum c 13 = rc at HN1 e1
  obtain ⟨bl, o, rfl, hl, p0, p1, p2⟩ := strs3 hS0
  rw [show [a, b, c].length = 3 from rfl]
  have E1 := Lib.hid e1
  clear hS hS0 hle h4 e1
  go_wp2_with fail
  obtain ⟨rb, hrb⟩ : ∃ rb, rb = w.heap.size := ⟨_, rfl⟩
  have HRB : Hid (w.heap.size ≤ rb) := by show _ ≤ _; omega
  rw [← hrb] at hz0 ⊢
  generalize w.alloc (.cells #[.string ⟨#[]⟩, .int .i64 0, .int .i64 0, .string ⟨#[]⟩, .int .i64 0] 60) = w1 at *
  refine (HN1.out _).mono ?_
  rintro e w2 ⟨rfl, rfl⟩
  have HB := Lib.hid b0
  have HZ := Lib.hid hz0
  clear b0 hz0 hrb
  cases hq : numQ c 13 with
  |none =>
   have hr : rc < 0 := by rw [E1.out, hq]; simp
   have HR := Lib.hid (HL0.out hq)
   clear hq HL0 HL1
   go_wp2_with (refine wpList_store_box rfl 60 _ _ rfl rb [.string ⟨#[]⟩, .int .i64 0, .int .i64 0, .string ⟨#[]⟩, .int .i64 0] rfl rfl 60 [.string ⟨#[]⟩, .int .i64 0, .int .i64 0, .string ⟨#[]⟩, .int .i64 0] HZ.out (by kernel_rfl) rfl (encLine_one zeroLine) ?_; intro wf hf tf)
   (try simp only [Exit.inBlock, Exit.then])
   refine bodyPost_ret (results_cell_row2 rfl _ _ rb 60 #[.string ⟨#[]⟩, .int .i64 0, .int .i64 0, .string ⟨#[]⟩, .int .i64 0] (0, 0) _ rfl hf Tryz.underlying60 rfl (by kernel_rfl)) rfl ?_
   rw [HR.out]
   exact ⟨rfl, HB.out.trans (tf.below HRB.out)⟩
  |some n =>
   have hr : rc = (n : Int) := by rw [E1.out, hq]
   have HR := Lib.hid (HL1.out n hq)
   subst hr
   clear hq HL0 HL1 HN1
   go_wp2_with fail
   refine (HPL.out _).mono ?_
   rintro e w3 ⟨rfl, b3⟩
   obtain ⟨⟨q1, q2, q3⟩, pe⟩ := P
   simp only [encPlace]
   have hz3 := (b3.block rb (row_lt HZ.out)).trans HZ.out
   have b3x := below_one w3 (.cells #[.string ⟨q1.toArray⟩, .int .i64 q2, .int .i64 q3] 58)
   have HX := Lib.hid (heap_alloc_new w3 (.cells #[.string ⟨q1.toArray⟩, .int .i64 q2, .int .i64 q3] 58))
   have HZ4 := Lib.hid ((b3x.block rb (row_lt hz3)).trans hz3)
   have HB4 := Lib.hid (HB.out.trans ((b3.trans (b3x.mono b3.size)).mono HB.out.size))
   have up := fun (q : Addr) (v : Value) (h : w1.cell? q = some v) => ((b3.trans (b3x.mono b3.size)).cell (lt_of_cell h)).trans h
   have k1 := up _ _ p1
   clear up p0 p1 p2 b3 b3x hz3 HZ HB HPL hl
   by_cases hpe : pe = 0
   ·subst hpe
    go_wp2_with fail
    generalize w3.alloc (.cells #[.string ⟨q1.toArray⟩, .int .i64 q2, .int .i64 q3] 58) = w4 at *
    generalize w3.heap.size = xb at *
    refine (HNM.out _).mono ?_
    rintro e w5 ⟨rfl, rfl⟩
    cases nb with
    |false =>
     go_wp2_with (refine wpList_store_box rfl 60 _ _ rfl rb [.string ⟨#[]⟩, .int .i64 0, .int .i64 0, .string ⟨#[]⟩, .int .i64 0] rfl rfl 60 [.string ⟨#[]⟩, .int .i64 0, .int .i64 0, .string ⟨#[]⟩, .int .i64 0] HZ4.out (by kernel_rfl) rfl (encLine_one zeroLine) ?_; intro wf hf tf)
     (try simp only [Exit.inBlock, Exit.then])
     refine bodyPost_ret (results_cell_row2 rfl _ _ rb 60 #[.string ⟨#[]⟩, .int .i64 0, .int .i64 0, .string ⟨#[]⟩, .int .i64 0] (0, 0) _ rfl hf Tryz.underlying60 rfl (by kernel_rfl)) rfl ?_
     rw [HR.out, if_neg (by simp), if_pos (by simp)]
     exact ⟨rfl, HB4.out.trans (tf.below HRB.out)⟩
    |true =>
     rcases (show (n : Int) < 1 ∨ (¬ (n : Int) < 1 ∧ 1099511627776 < (n : Int)) ∨ (¬ (n : Int) < 1 ∧ ¬ 1099511627776 < (n : Int)) by omega) with h1 | ⟨h1, h2⟩ | ⟨h1, h2⟩
     ·go_wp2_with (refine wpList_store_box rfl 60 _ _ rfl rb [.string ⟨#[]⟩, .int .i64 0, .int .i64 0, .string ⟨#[]⟩, .int .i64 0] rfl rfl 60 [.string ⟨#[]⟩, .int .i64 0, .int .i64 0, .string ⟨#[]⟩, .int .i64 0] HZ4.out (by kernel_rfl) rfl (encLine_one zeroLine) ?_; intro wf hf tf)
      (try simp only [Exit.inBlock, Exit.then])
      refine bodyPost_ret (results_cell_row2 rfl _ _ rb 60 #[.string ⟨#[]⟩, .int .i64 0, .int .i64 0, .string ⟨#[]⟩, .int .i64 0] (0, 0) _ rfl hf Tryz.underlying60 rfl (by kernel_rfl)) rfl ?_
      rw [HR.out, if_neg (by simp), if_neg (by simp), if_pos (by unfold wiB; simp; omega)]
      exact ⟨rfl, HB4.out.trans (tf.below HRB.out)⟩
     ·go_wp2_with (refine wpList_store_box rfl 60 _ _ rfl rb [.string ⟨#[]⟩, .int .i64 0, .int .i64 0, .string ⟨#[]⟩, .int .i64 0] rfl rfl 60 [.string ⟨#[]⟩, .int .i64 0, .int .i64 0, .string ⟨#[]⟩, .int .i64 0] HZ4.out (by kernel_rfl) rfl (encLine_one zeroLine) ?_; intro wf hf tf)
      (try simp only [Exit.inBlock, Exit.then])
      refine bodyPost_ret (results_cell_row2 rfl _ _ rb 60 #[.string ⟨#[]⟩, .int .i64 0, .int .i64 0, .string ⟨#[]⟩, .int .i64 0] (0, 0) _ rfl hf Tryz.underlying60 rfl (by kernel_rfl)) rfl ?_
      rw [HR.out, if_neg (by simp), if_neg (by simp), if_pos (by unfold wiB; simp; omega)]
      exact ⟨rfl, HB4.out.trans (tf.below HRB.out)⟩
     ·obtain ⟨⟨x0, x1, x2⟩, -⟩ := row3f HX.out
      obtain ⟨⟨z0, z1, z2, z3, z4⟩, f0, f1, f2, f3, f4⟩ := row5f HZ4.out
      go_wp2_with fail
      go_region
      all_goals
       go_wp2_with fail
       (try simp only [Exit.inBlock, Exit.then])
       refine bodyPost_ret (results_cell_row2 rfl _ _ rb 60 #[.string ⟨q1.toArray⟩, .int .i64 q2, .int .i64 q3, .string ⟨b.toArray⟩, .int .i64 (n : Int)] (0, 0) _ rfl (puts_row [.string ⟨q1.toArray⟩, .int .i64 q2, .int .i64 q3, .string ⟨b.toArray⟩, .int .i64 (n : Int)] HZ4.out rfl) Tryz.underlying60 rfl (by kernel_rfl)) rfl ?_
       rw [HR.out, if_neg (by simp), if_neg (by simp), if_neg (by unfold wiB; simp; omega)]
       exact ⟨rfl, (puts_below HRB.out [.string ⟨q1.toArray⟩, .int .i64 q2, .int .i64 q3, .string ⟨b.toArray⟩, .int .i64 (n : Int)] _ 0 HB4.out).drew⟩
   ·have hk : 0 < (pe : Int) := by omega
    go_wp2_with (refine wpList_store_box rfl 60 _ _ rfl rb [.string ⟨#[]⟩, .int .i64 0, .int .i64 0, .string ⟨#[]⟩, .int .i64 0] rfl rfl 60 [.string ⟨#[]⟩, .int .i64 0, .int .i64 0, .string ⟨#[]⟩, .int .i64 0] HZ4.out (by kernel_rfl) rfl (encLine_one zeroLine) ?_; intro wf hf tf)
    (try simp only [Exit.inBlock, Exit.then])
    refine bodyPost_ret (results_cell_row2 rfl _ _ rb 60 #[.string ⟨#[]⟩, .int .i64 0, .int .i64 0, .string ⟨#[]⟩, .int .i64 0] (0, 0) _ rfl hf Tryz.underlying60 rfl (by kernel_rfl)) rfl ?_
    rw [HR.out, if_pos (show pe ≠ 0 from hpe)]
    exact ⟨rfl, HB4.out.trans (tf.below HRB.out)⟩
 ·have HW := Lib.hid (lineWords_len h4)
  obtain ⟨n, hn⟩ : ∃ n, n = ws.length := ⟨_, rfl⟩
  rw [← hn] at h4 ⊢
  have h4' : ¬ (n : Int) = 3 := by omega
  have HB := Lib.hid b0
  have HZ := Lib.hid hz0
  clear hn hz0 b0
  go_wp2_with (refine wpList_store_box rfl 60 _ _ rfl w.heap.size [.string ⟨#[]⟩, .int .i64 0, .int .i64 0, .string ⟨#[]⟩, .int .i64 0] rfl rfl 60 [.string ⟨#[]⟩, .int .i64 0, .int .i64 0, .string ⟨#[]⟩, .int .i64 0] HZ.out (by kernel_rfl) rfl (encLine_one zeroLine) ?_; intro wf hf tf)
  (try simp only [Exit.inBlock, Exit.then])
  refine bodyPost_ret (results_cell_row2 rfl _ _ w.heap.size 60 #[.string ⟨#[]⟩, .int .i64 0, .int .i64 0, .string ⟨#[]⟩, .int .i64 0] (0, 0) _ rfl hf Tryz.underlying60 rfl (by kernel_rfl)) rfl ?_
  rw [HW.out]
  exact ⟨rfl, HB.out.trans (tf.below (Nat.le_refl _))⟩
end Go.Proofs.YtchiojiicehpeaaGreatDoor
