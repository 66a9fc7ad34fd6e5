/- A book read from its text, plainly: what a line makes of what has been read. Snaps: numbers of words. The program's book: Set (sums). Snaps: a reader of lines; goods. -/
import Derived.BigRegion
import Derived.Test.YteaalifehokgoaaGreatDoorM07
import Derived.Test.YteaalifehokgoaaGreatDoorM11
import Derived.Test.YteaalifehokgoaaGreatDoorM15
import Derived.Test.YteaalifehokgoaaGreatDoorM16
import Derived.Test.YteaalifehokgoaaGreatDoorM19
import Derived.Test.YteaalifehokgoaaGreatDoorM20
import Derived.Test.YteaalifehokgoaaGreatDoorM25
import Derived.Test.YteaalifehokgoaaGreatDoorM38
namespace Go.Proofs.YteaalifehokgoaaGreatDoor
open Go.RowKit Go.Sort Go.Proofs
def numsQ : List (List UInt8) → Option (List Int)
 |[] => some []
 |x :: r => match numQ x 15, numsQ r with
  |some n, some l => some ((n : Int) :: l)
  |_, _ => none
theorem numsQ_app (l r : List (List UInt8)) : numsQ (l ++ r) = match numsQ l, numsQ r with
  |some a, some b => some (a ++ b)
  |_, _ => none := by
 induction l with
 |nil => simp only [List.nil_append, numsQ]; cases numsQ r <;> rfl
 |cons x l ih =>
  rw [List.cons_append, numsQ, numsQ, ih]
  cases numQ x 15 <;> cases numsQ l <;> cases numsQ r <;> rfl
theorem numsQ_len {l : List (List UInt8)} {ns : List Int} (h : numsQ l = some ns) : ns.length = l.length := by
 induction l generalizing ns with
 |nil => cases h; rfl
 |cons x l ih =>
  rw [numsQ] at h
  cases hx : numQ x 15 with
  |none => rw [hx] at h; cases h
  |some n =>
   cases hl : numsQ l with
   |none => rw [hx, hl] at h; cases h
   |some a =>
    rw [hx, hl] at h
    cases h
    simp [ih hl]
theorem numsQ_take {l : List (List UInt8)} {k : Nat} (h : k < l.length) {a : List Int} (ha : numsQ (l.take k) = some a) : numsQ (l.take (k + 1)) = match numQ l[k] 15 with | some n => some (a ++ [(n : Int)]) | none => none := by
 rw [List.take_succ_eq_append_getElem h, numsQ_app, ha, numsQ, numsQ]
 cases numQ l[k] 15 <;> rfl
theorem numsQ_none {l : List (List UInt8)} {k : Nat} (h : numsQ (l.take k) = none) : numsQ l = none := by
 have e : l = l.take k ++ l.drop k := (List.take_append_drop k l).symm
 rw [e, numsQ_app, h]
/-! Entries that lines make. -/
def goodsX (c : List UInt8) (n : Int) : EntV := (kGoods, (c, n), ([], [], 0, 0), ([], 0, 0), ([], 0, 0), 0)
def lotX (l : LotV) : EntV := (kLot, ([], 0), l, ([], 0, 0), ([], 0, 0), 0)
def holdX (id : List UInt8) (n : Int) : EntV := (kHold, ([], 0), (id, [], 0, 0), ([], 0, 0), ([], 0, 0), n)
def inX (x : LineV) : EntV := (kIn, ([], 0), (x.2.1, [], 0, 0), ([], 0, 0), x.1, x.2.2)
abbrev RdV := BkV × (List UInt8 → Option SumsV) × List EntV
def rd0 : RdV := (bk0, fun _ => none, [])
def setF (f : List UInt8 → Option SumsV) (c : List UInt8) (s : SumsV) : List UInt8 → Option SumsV := fun i => if i = c then some s else f i
def rdG (S : RdV) : List (List UInt8) → Option RdV
 |[c, x0, x1, x2, x3, x4] => match numsQ [x0, x1, x2, x3, x4] with
  |some [n0, n1, n2, n3, n4] => if doE S.1 (goodsX c n0) = 0 then some (doB S.1 (goodsX c n0), setF S.2.1 c (n1, n2, n3, n4), S.2.2) else none
  |_ => none
 |_ => none
def rdL (S : RdV) : List (List UInt8) → Option RdV
 |[a, b, c, d, e] => if (lotWords [a, b, c, d]).2 = 0 then match numQ e 15 with
   |some n => if doE S.1 (lotX (lotWords [a, b, c, d]).1) = 0 then some (doB S.1 (lotX (lotWords [a, b, c, d]).1), S.2.1, if n = 0 then S.2.2 else S.2.2 ++ [holdX (lotWords [a, b, c, d]).1.1 n]) else none
   |none => none
  else none
 |_ => none
def rdA (S : RdV) (ws : List (List UInt8)) : Option RdV :=
 if (lineWords ws).2 = 0 then (if doE S.1 (inX (lineWords ws).1) = 0 then some (doB S.1 (inX (lineWords ws).1), S.2.1, S.2.2) else none) else none
def kAt : List UInt8 := [97, 116]
def rdLn (S : RdV) (ws : List (List UInt8)) : Option RdV :=
 if ws.head? = some kGoods then rdG S ws.tail else if ws.head? = some kLot then rdL S ws.tail else if ws.head? = some kAt then rdA S ws.tail else none
def rdAll : RdV → List (List UInt8) → Option RdV
 |S, [] => some S
 |S, t :: r => match rdLn S (splitL 32 t) with
  |some S' => rdAll S' r
  |none => none
def rdH : BkV → List EntV → Option BkV
 |B, [] => some B
 |B, x :: r => if doE B x = 0 then rdH (doB B x) r else none
def FitS (B : BkV) (c : List UInt8) (s : SumsV) : Prop := s.1 - s.2.1 + s.2.2.1 - s.2.2.2 = (hasOf B c : Int) ∧ s.1 ≤ mostS ∧ s.2.1 ≤ mostS ∧ s.2.2.1 ≤ mostS ∧ s.2.2.2 ≤ mostS
def RightB (B : BkV) (f : List UInt8 → Option SumsV) : Prop := ∀ c s, f c = some s → FitS B c s
def setAllG (f : List UInt8 → Option SumsV) (l : List GoS) : List GoS := l.map fun x => (x.1, (f x.1.1).getD x.2)
def setAllB (B : BkV) (f : List UInt8 → Option SumsV) : BkV := (setAllG f B.1, B.2.1, B.2.2)
def cutNl (s : List UInt8) : List UInt8 := if s.getLast? = some 10 then s.dropLast else s
def Rest (s : List UInt8) (C : BkV) : Prop := ∃ (S : RdV) (B : BkV), (if s = [] then some rd0 else rdAll rd0 (splitL 10 (cutNl s))) = some S ∧ rdH S.1 S.2.2 = some B ∧ RightB B S.2.1 ∧ C = setAllB B S.2.1 ∧ snapT C = s
theorem rdAll_app : ∀ (a b : List (List UInt8)) (S : RdV), rdAll S (a ++ b) = match rdAll S a with | some S' => rdAll S' b | none => none
 |[], b, S => rfl
 |t :: a, b, S => by
  rw [List.cons_append, rdAll, rdAll]
  cases rdLn S (splitL 32 t) with
  |none => rfl
  |some S' => exact rdAll_app a b S'
end Go.Proofs.YteaalifehokgoaaGreatDoor
namespace Go.Proofs.YteaalifehokgoaaGreatDoor
open Go.RowKit Go.Sort Go.Proofs
theorem encInt_len : ∀ x : Int, (encInt x).length = 1 := fun _ => rfl
theorem encInt_one : ∀ x : Int, ∀ u ∈ encInt x, u.oneCell' = true := fun x u hu => by
 simp [encInt] at hu
 rw [hu]
 rfl
theorem intInfo : (Tryz.prog.info? 3).map (fun i => (i.zero, i.size, i.bytes)) = some (some (.int .i64 0), 1, 8) := by kernel_rfl
def NumsEnds (l : List (List UInt8)) (w : World) (e : Ending) (w' : World) : Prop :=
 (∃ ns A cap, numsQ l = some ns ∧ e = .returned (.tuple #[.slice A ns.length cap, .bool true]) ∧ RowAt encInt 1 w' A ns ∧ (∀ a, A = some a → w.heap.size ≤ a.block) ∧ Below w.heap.size w w') ∨
 (numsQ l = none ∧ e = .returned (.tuple #[.slice none 0 0, .bool false]) ∧ Below w.heap.size w w')
set_option maxHeartbeats 1600000 in
set_option maxRecDepth 100000 in
theorem snNum_any (A : Option Addr) (cap : Nat) (l : List (List UInt8)) (w : World) (hrow : StrsAt w A l) (hl : l.length ≤ 1000) (hx : ∀ x ∈ l, x.length ≤ 1000000000) (hT : TabG w) (hA : AtoiG w) :
  Calls Tryz.prog 143 #[.slice A l.length cap] w (NumsEnds l w) := by
 obtain ⟨i0, hi, hz0, hz1, hz2⟩ := info_parts intInfo
 have HNB := Lib.hid (fun x (h : x ∈ l) W (hb : Below w.heap.size w W) => numb_any x 15 (hx x h) (by omega) W (hT.below hb) (hA.below hb))
 have HR := Lib.hid hrow
 have HTK := Lib.hid (fun k (h : k < l.length) a (ha : numsQ (l.take k) = some a) => numsQ_take h ha)
 have HNO := Lib.hid (fun k (h : numsQ (l.take k) = none) => numsQ_none h)
 obtain ⟨N, hN⟩ : ∃ N, N = l.length := ⟨_, rfl⟩
 have HN := Lib.hid hN
 rw [← hN] at hl ⊢
 clear hrow hx hT hA hN
 go_enter Tryz.func143, Tryz.ntmps143
 go_wp2_with fail
 go_loopw [4, 11] (fun v i wr => ∃ (k : Nat) (a : List Int), k ≤ N ∧ i = .int .i64 k ∧ Hid (numsQ (l.take k) = some a ∧ a.length = k) ∧ Hid (wr.ownsRow w.heap.size 3 1 v k (flatL encInt a)) ∧ Hid (Below w.heap.size w wr)) (fun _ i _ => N - (intOf i).toNat)
 case atStart => exact ⟨0, [], by omega, rfl, ⟨by simp [numsQ], rfl⟩, World.ownsRow_nil _ _ _ _, Below.refl _ _⟩
 case round =>
  obtain ⟨k, a, hk, rfl, HQ, HOWN, HB⟩ := hrel
  by_cases hkN : k < N
  ·have hkx : k < l.length := by rw [← HN.out]; exact hkN
   obtain ⟨g, o, rfl, lg, cg⟩ := HR.out.resolve_left (fun h => by rw [h] at hkx; simp at hkx)
   have hc := (World.cell?_of_block (a := ⟨g, o + k, none⟩) (HB.out.block g lg)).trans (cg k hkx)
   have HNX := Lib.hid (HTK.out k hkx a HQ.out.1)
   have HN1 := Lib.hid (fun W (hb : Below wr.heap.size wr W) => HNB.out l[k] (List.getElem_mem hkx) W (HB.out.trans (hb.mono HB.out.size)))
   have hsz := HB.out.size
   have hk0 : (0 : Int) ≤ (k : Nat) := by omega
   have hk1 : ((k : Nat) : Int) < (N : Nat) := by omega
   generalize l[k] = x at hc HNX HN1
   have hlen := HQ.out.2
   have HLE := Lib.hid hlen
   clear hlen HNB
   cases hq : numQ x 15 with
   |none =>
    rw [hq] at HNX HN1
    go_wp2_with fail
    refine (HN1.out wr (Below.refl _ _)).mono ?_
    rintro e w2 ⟨n, rfl, -, b2⟩
    have B2 := Lib.hid (HB.out.trans (b2.mono HB.out.size))
    clear b2
    go_wp2_with fail
    go_ret2
    exact .inr ⟨HNO.out (k + 1) HNX.out, rfl, B2.out⟩
   |some n =>
    rw [hq] at HNX HN1
    go_wp2_with fail
    refine (HN1.out wr (Below.refl _ _)).mono ?_
    rintro e w2 ⟨m, rfl, hm, b2⟩
    obtain rfl := hm n rfl
    have B2 := Lib.hid (HB.out.trans (b2.mono HB.out.size))
    have HO2 : Hid (w2.ownsRow w.heap.size 3 1 u4 k (flatL encInt a)) := own_bl HOWN.out b2
    have hs2 := B2.out.size
    clear b2 hm HOWN
    go_wp2_with (at_builtin; refine wpList_append_rows _ rfl (.tmp 22) (.tmp 24) 143 rfl w.heap.size 3 i0 _ 8 Tryz.underlying143 hi hz0 hz1 hz2 rfl encInt_len (by decide) encInt_one u4 k (flatL encInt a) rfl (own_bl HO2.out (below_one _ _)) (some ⟨w2.heap.size, 0, none⟩) 1 [(n : Int)] rfl (row_one (heap_alloc_new _ _)) (by simp; omega) (by decide) (by simp; omega) ?_; intro v3 w3 HO3 hb3; have HB3 := Lib.hid hb3; clear hb3)
    go_roundw
    case rel =>
     refine ⟨k + 1, a ++ [(n : Int)], by omega, by go_num, ⟨HNX.out, by rw [List.length_append, HLE.out]; rfl⟩, ?_, (B2.out.trans ((below_one w2 _).mono B2.out.size)).trans HB3.out⟩
     show World.ownsRow _ _ _ _ _ _ _
     rw [flatL_append]
     exact HO3.out
    case measure => simp [intOf]; omega
  ·obtain rfl : k = N := by omega
   have hT : l.take k = l := List.take_of_length_le (by rw [← HN.out]; exact Nat.le_refl _)
   have hq := HQ.out
   rw [hT] at hq
   obtain ⟨hq1, hq2⟩ := hq
   have ho := HOWN.out
   rw [← hq2] at ho
   obtain ⟨A', c', rfl, hra, hge⟩ := RowAt.of_own encInt_len ho
   have HRA := Lib.hid hra
   have HGE := Lib.hid hge
   have HQ1 := Lib.hid hq1
   have HQ2 := Lib.hid hq2
   clear hT hra hge HOWN ho hq1 hq2 HQ
   go_wp2_with fail
   go_ret2
   exact .inl ⟨a, A', c', HQ1.out, rfl, HRA.out, HGE.out, HB.out⟩
end Go.Proofs.YteaalifehokgoaaGreatDoor
namespace Go.Proofs.YteaalifehokgoaaGreatDoor
open Go.RowKit Go.Sort Go.Proofs
set_option maxHeartbeats 800000 in
set_option maxRecDepth 100000 in
theorem setSums_any (p s : Nat) (id : List UInt8) (y : SumsV) (f : List UInt8 → Option SumsV) (w : World) (c0 : w.cell? ⟨p, 3, none⟩ = some (.map (some s))) (hp : p < w.heap.size) (hf : MapF eSums w s f) :
  Calls Tryz.prog 91 #[.pointer (some ⟨p, 0, none⟩), .string ⟨id.toArray⟩, .agg (encSums y).toArray] w fun e w' => e = .returned (.tuple #[]) ∧ MapF eSums w' s (fun i => if i = id then (if y = zeroSums then none else some y) else f i) ∧ ButF [s] w w' := by
 obtain ⟨f', hf'⟩ : ∃ f' : List UInt8 → Option SumsV, f' = fun i => if i = id then (if y = zeroSums then none else some y) else f i := ⟨_, rfl⟩
 rw [← hf']
 have HF' := Lib.hid hf'
 clear hf'
 have hb0 := below_one w (.cells (encSums y).toArray 77)
 have h0 := heap_alloc_new w (.cells (encSums y).toArray 77)
 obtain ⟨W, hW⟩ : ∃ W, W = w.alloc (.cells (encSums y).toArray 77) := ⟨_, rfl⟩
 rw [← hW] at hb0 h0
 have hs := hf.lt
 have hf1 := hf.below hb0
 have c1 : W.cell? ⟨p, 3, none⟩ = some (.map (some s)) := (World.cell?_of_block (hb0.block p hp)).trans c0
 obtain ⟨w1, h1, h2, h3⟩ := hf1.drop (P := Tryz.prog) (t := 93) (kt := 9) (by kernel_rfl) Tryz.underlying93 id
 obtain ⟨w2, h4, h5, h6⟩ := (hf1.below ((Below.refl W.heap.size W).drew)).store (P := Tryz.prog) (t := 93) (kt := 9) (by kernel_rfl) Tryz.underlying93 id y
 have H2 := Lib.hid h2
 have H3 := Lib.hid h3
 have H5 := Lib.hid h5
 have H6 := Lib.hid h6
 have HB0 := Lib.hid hb0
 obtain ⟨y1, y2, y3, y4⟩ := y
 simp only [eSums, encSums] at h4 h0 hW ⊢
 obtain ⟨⟨d0, d1, d2, d3⟩, -⟩ := row4f h0
 clear hf h2 h3 h5 h6 hf1 hb0 h0
 by_cases hn : (y1, y2, y3, y4) = zeroSums
 ·have HN := Lib.hid hn
  obtain ⟨rfl, rfl, rfl, rfl⟩ : y1 = 0 ∧ y2 = 0 ∧ y3 = 0 ∧ y4 = 0 := by
   unfold zeroSums at hn
   simpa using hn
  clear hn
  go_enter Tryz.func91, Tryz.ntmps91
  go_upto_region 1 with fail
  rw [← hW]
  clear hW
  go_wp2_with fail
  refine bodyPost_end (results_none rfl _ _ _) rfl ?_
  refine ⟨rfl, ?_, (ButF.of_below HB0.out).step (ButF.of_turned H3.out (.inl (by simp)))⟩
  refine H2.out.congr fun i => ?_
  rw [HF'.out]
  simp only [if_pos HN.out]
 ·have HN := Lib.hid hn
  have hz : y1 ≠ 0 ∨ (y1 = 0 ∧ y2 ≠ 0) ∨ (y1 = 0 ∧ y2 = 0 ∧ y3 ≠ 0) ∨ (y1 = 0 ∧ y2 = 0 ∧ y3 = 0 ∧ y4 ≠ 0) := by
   unfold zeroSums at hn
   simp only [Prod.mk.injEq] at hn
   omega
  clear hn
  rcases hz with e | ⟨rfl, e⟩ | ⟨rfl, rfl, e⟩ | ⟨rfl, rfl, rfl, e⟩
  all_goals
   go_enter Tryz.func91, Tryz.ntmps91
   go_upto_region 1 with fail
   rw [← hW]
   clear hW
   go_wp2_with fail
   go_region
   all_goals
    refine bodyPost_end (results_none rfl _ _ _) rfl ?_
    refine ⟨rfl, ?_, ((ButF.of_below HB0.out).drew).step (ButF.of_turned H6.out (.inl (by simp)))⟩
    refine H5.out.congr fun i => ?_
    rw [HF'.out]
    simp only [if_neg HN.out]
/-! A book whose sums are set. -/
def setS (B : BkV) (c : List UInt8) (y : SumsV) : BkV := (setG c y B.1, B.2.1, B.2.2)
theorem fG_setS (B : BkV) (c : List UInt8) (y : SumsV) (d : List UInt8) : fG (setS B c y) d = (fG B d).map fun z => if z.1.1 = c then (z.1, y) else z :=
 find_map (fun z : GoS => z.1.1) (fun z => by rw [setG_fst]) d
theorem goodsF_setS (B : BkV) (c : List UInt8) (y : SumsV) (d : List UInt8) : goodsF B d = goodsF (setS B c y) d := by
 unfold goodsF
 rw [fG_setS]
 cases fG B d with
 |none => rfl
 |some z => simp only [Option.map_some, setG_fst]
theorem sumsOf_setS {B : BkV} {c : List UInt8} {y : SumsV} {g : GoS} (hf : fG B c = some g) (d : List UInt8) : sumsOf (setS B c y) d = if d = c then y else sumsOf B d := by
 conv => lhs; unfold sumsOf
 rw [fG_setS]
 by_cases hc : d = c
 ·rw [if_pos hc, hc, hf]
  simp only [Option.map_some]
  rw [if_pos (fG_mem hf).2]
 ·rw [if_neg hc]
  unfold sumsOf
  cases hz : fG B d with
  |none => rfl
  |some z =>
   simp only [Option.map_some]
   rw [if_neg (by rw [(fG_mem hz).2]; exact hc)]
theorem sumsF_setS {B : BkV} {c : List UInt8} {y : SumsV} {g : GoS} (hf : fG B c = some g) (d : List UInt8) : (if d = c then (if y = zeroSums then none else some y) else sumsF B d) = sumsF (setS B c y) d := by
 unfold sumsF
 rw [sumsOf_setS hf]
 by_cases hc : d = c
 ·rw [if_pos hc, if_pos hc]
 ·rw [if_neg hc, if_neg hc]
theorem setBk_any {p : Nat} {F : List Nat} {B : BkV} {w : World} (H : BookIs w p F B) {c : List UInt8} {g : GoS} (hf : fG B c = some g) (y : SumsV) :
  Calls Tryz.prog 91 #[.pointer (some ⟨p, 0, none⟩), .string ⟨c.toArray⟩, .agg (encSums y).toArray] w fun e w' => e = .returned (.tuple #[]) ∧ BookIs w' p F (setS B c y) ∧ ButF F w w' := by
 obtain ⟨g1, l, h, s, q, c1, rfl, hnd, hm⟩ := H
 obtain ⟨⟨-, -, -, c3, -⟩, -⟩ := hm.cells
 have hlt := hm.lt
 refine (setSums_any p s c y (sumsF B) w c3 (hlt p (by simp)) hm.sums).mono ?_
 rintro e w' ⟨rfl, h1, h2⟩
 have hne : ∀ k ∈ [p, g1, l, h, s, q, c1], k ≠ s → w'.heap[k]? = w.heap[k]? := fun k hk hn => h2.block k (hlt k hk) (by simpa using hn)
 have hd : p ≠ s ∧ g1 ≠ s ∧ l ≠ s ∧ h ≠ s ∧ q ≠ s ∧ c1 ≠ s := by
  simp only [List.nodup_cons, List.mem_cons, List.not_mem_nil, or_false, not_or] at hnd
  omega
 obtain ⟨d1, d2, d3, d4, d5, d6⟩ := hd
 refine ⟨rfl, ⟨g1, l, h, s, q, c1, rfl, hnd, ⟨(hne p (by simp) d1).trans hm.own, (hm.goods.keep (hne g1 (by simp) d2)).congr (goodsF_setS B c y), hm.lots.keep (hne l (by simp) d3), hm.held.keep (hne h (by simp) d4), h1.congr (sumsF_setS hf), hm.stk.keep (hne q (by simp) d5) (hne c1 (by simp) d6)⟩⟩, h2.mono fun i hi => .inl ?_⟩
 simp only [List.mem_cons, List.not_mem_nil, or_false] at hi
 simp [hi]
theorem BkI.setS {B : BkV} (hI : BkI B) {c : List UInt8} {y : SumsV} (ho : OkS y) (he : (hasOf B c : Int) = y.1 - y.2.1 + y.2.2.1 - y.2.2.2) : BkI (setS B c y) := by
 have hfst : ∀ z : GoS, (if z.1.1 = c then (z.1, y) else z).1 = z.1 := fun z => by split <;> rfl
 refine ⟨?_, fun x hx => ?_, ?_, hI.ls, fun z hz => ?_, hI.lfew, hI.stk, hI.known, fun x hx => ?_⟩
 ·show (List.map _ B.1).Pairwise _
  rw [List.pairwise_map]
  exact hI.gs.imp fun {a b} hab => by rw [hfst, hfst]; exact hab
 ·obtain ⟨z, hz, rfl⟩ := List.mem_map.1 hx
  rw [hfst]
  refine ⟨(hI.gok z hz).1, ?_⟩
  split
  ·exact ho
  ·exact (hI.gok z hz).2
 ·show (List.map _ B.1).length ≤ 30
  rw [List.length_map]
  exact hI.gfew
 ·obtain ⟨h1, h2, h3⟩ := hI.lok z hz
  refine ⟨h1, h2, ?_⟩
  rw [fG_setS, Option.isSome_map]
  exact h3
 ·obtain ⟨z, hz, rfl⟩ := List.mem_map.1 hx
  rw [hfst]
  show (hasOf B z.1.1 : Int) = _
  split
  ·rename_i h
   rw [h]
   exact he
  ·exact hI.pac z hz
end Go.Proofs.YteaalifehokgoaaGreatDoor
namespace Go.Proofs.YteaalifehokgoaaGreatDoor
open Go.RowKit Go.Sort Go.Proofs
structure RdAt (w : World) (r m p : Nat) (F : List Nat) (B : BkV) (f : List UInt8 → Option SumsV) (v : Value) : Prop where
 box : w.heap[r]? = some (.cells #[.pointer (some ⟨p, 0, none⟩), .map (some m), v] 95 (0, 0))
 book : BookIs w p F B
 sums : MapF eSums w m f
 rF : r ∉ F
 mF : m ∉ F
 rm : r ≠ m
def rdGoodsB (B : BkV) : List (List UInt8) → Bool
 |[_, c, x0, x1, x2, x3, x4] => match numsQ [x0, x1, x2, x3, x4] with
  |some [n0, _, _, _, _] => decide (doE B (goodsX c n0) = 0)
  |_ => false
 |_ => false
theorem rdGoodsB_none {B : BkV} {y0 y1 x0 x1 x2 x3 x4 : List UInt8} (h : numsQ [x0, x1, x2, x3, x4] = none) : rdGoodsB B [y0, y1, x0, x1, x2, x3, x4] = false := by
 simp only [rdGoodsB, h]
theorem rdGoodsB_some {B : BkV} {y0 y1 x0 x1 x2 x3 x4 : List UInt8} {n0 n1 n2 n3 n4 : Int} (h : numsQ [x0, x1, x2, x3, x4] = some [n0, n1, n2, n3, n4]) : rdGoodsB B [y0, y1, x0, x1, x2, x3, x4] = decide (doE B (goodsX y1 n0) = 0) := by
 simp only [rdGoodsB, h]
set_option maxHeartbeats 1600000 in
set_option maxRecDepth 100000 in
theorem rdGoods_no (r cap : Nat) (A : Option Addr) (ws : List (List UInt8)) (w : World) (hl : ws.length ≠ 7) :
  Calls Tryz.prog 87 #[.pointer (some ⟨r, 0, none⟩), .slice A ws.length cap] w fun e w' => e = .returned (.bool false) ∧ Below w.heap.size w w' := by
 generalize ws.length = N at *
 go_enter Tryz.func87, Tryz.ntmps87
 go_wp2_with fail
 go_ret
 exact ⟨rfl, Below.refl _ _⟩
set_option maxHeartbeats 3200000 in
set_option maxRecDepth 100000 in
theorem rdGoods_any (E : Nat → Addr) {r m p : Nat} {F : List Nat} {B : BkV} {f : List UInt8 → Option SumsV} {v : Value} (cap : Nat) (A : Option Addr) (y0 y1 x0 x1 x2 x3 x4 : List UInt8) {w : World} (H : RdAt w r m p F B f v) (hI : BkI B)
  (hrow : StrsAt w A [y0, y1, x0, x1, x2, x3, x4]) (hcap : 7 ≤ cap) (hgm : ∀ a, A = some a → a.block ≠ m ∧ a.block ∉ F) (hlen : ∀ x ∈ [y0, y1, x0, x1, x2, x3, x4], x.length ≤ 1000000000) (hT : TabG w) (hA : AtoiG w) (hG : ∀ W, ButF (m :: F) w W → BkG E W) :
  Calls Tryz.prog 87 #[.pointer (some ⟨r, 0, none⟩), .slice A 7 cap] w fun e w' => e = .returned (.bool (rdGoodsB B [y0, y1, x0, x1, x2, x3, x4])) ∧ ButF (m :: F) w w' ∧
   (rdGoodsB B [y0, y1, x0, x1, x2, x3, x4] = true → ∃ n0 n1 n2 n3 n4 F', numsQ [x0, x1, x2, x3, x4] = some [n0, n1, n2, n3, n4] ∧ RdAt w' r m p F' (doB B (goodsX y1 n0)) (fun i => if i = y1 then some (n1, n2, n3, n4) else f i) v ∧ ∀ k ∈ F', k ∈ F ∨ w.heap.size ≤ k) := by
 obtain ⟨g, o, rfl, lg, cg⟩ := hrow.resolve_left (by simp)
 have hgm' : g ≠ m := (hgm _ rfl).1
 have hgF : g ∉ F := (hgm _ rfl).2
 have c1 : w.cell? ⟨g, o + 1, none⟩ = some (.string ⟨y1.toArray⟩) := cg 1 (by simp)
 have hrow5 : StrsAt w (some ⟨g, o + 2, none⟩) [x0, x1, x2, x3, x4] := .inr ⟨g, o + 2, rfl, lg, fun i hi => by
  have h := cg (i + 2) (by simp at hi ⊢; omega)
  rw [show o + 2 + i = o + (i + 2) by omega]
  exact h⟩
 have HNU := Lib.hid (snNum_any (some ⟨g, o + 2, none⟩) (cap - 2) [x0, x1, x2, x3, x4] w hrow5 (by simp) (fun x hx => hlen x (by simp only [List.mem_cons] at hx ⊢; right; right; exact hx)) hT hA)
 have HH := Lib.hid H
 have HG := Lib.hid hG
 have HI := Lib.hid hI
 have hy1 := hlen y1 (by simp)
 clear hrow hrow5 hlen cg H hT hA hG hgm hI
 cases hq : numsQ [x0, x1, x2, x3, x4] with
 |none =>
  have HF : Hid (rdGoodsB B [y0, y1, x0, x1, x2, x3, x4] = false) := rdGoodsB_none hq
  have HQ := Lib.hid hq
  clear hq
  rw [HF.out]
  go_enter Tryz.func87, Tryz.ntmps87
  go_wp2_with fail
  refine HNU.out.mono ?_
  rintro e w2 (⟨ns, A2, c2, h1, -⟩ | ⟨-, rfl, b2⟩)
  ·rw [HQ.out] at h1
   cases h1
  have B2 := Lib.hid b2
  clear b2
  go_wp2_with fail
  go_ret
  exact ⟨rfl, ButF.of_below B2.out, fun h => by cases h⟩
 |some ns =>
  obtain ⟨n0, n1, n2, n3, n4, rfl⟩ : ∃ n0 n1 n2 n3 n4, ns = [n0, n1, n2, n3, n4] := by
   have h := numsQ_len hq
   match ns, h with
   |[n0, n1, n2, n3, n4], _ => exact ⟨n0, n1, n2, n3, n4, rfl⟩
  have HF : Hid (rdGoodsB B [y0, y1, x0, x1, x2, x3, x4] = decide (doE B (goodsX y1 n0) = 0)) := rdGoodsB_some hq
  have HQ := Lib.hid hq
  clear hq
  rw [HF.out]
  go_enter Tryz.func87, Tryz.ntmps87
  go_wp2_with fail
  refine HNU.out.mono ?_
  rintro e w2 (⟨ns, A2, c2, h1, he, hr2, hge2, b2⟩ | ⟨h1, -, -⟩)
  rotate_left
  ·rw [HQ.out] at h1
   cases h1
  obtain rfl : [n0, n1, n2, n3, n4] = ns := by
   rw [HQ.out] at h1
   injection h1
  rw [show ([n0, n1, n2, n3, n4] : List Int).length = 5 from rfl] at he
  subst he
  obtain ⟨g2, o2, rfl, lg2, cg2⟩ := hr2.resolve_left (by simp)
  have d0 : w2.cell? ⟨g2, o2, none⟩ = some (.int .i64 n0) := by simpa using cg2 0 (by simp) 0 _ rfl
  have d1 : w2.cell? ⟨g2, o2 + 1, none⟩ = some (.int .i64 n1) := by simpa using cg2 1 (by simp) 0 _ rfl
  have d2 : w2.cell? ⟨g2, o2 + 2, none⟩ = some (.int .i64 n2) := by simpa using cg2 2 (by simp) 0 _ rfl
  have d3 : w2.cell? ⟨g2, o2 + 3, none⟩ = some (.int .i64 n3) := by simpa using cg2 3 (by simp) 0 _ rfl
  have d4 : w2.cell? ⟨g2, o2 + 4, none⟩ = some (.int .i64 n4) := by simpa using cg2 4 (by simp) 0 _ rfl
  have c1' : w2.cell? ⟨g, o + 1, none⟩ = some (.string ⟨y1.toArray⟩) := (World.cell?_of_block (b2.block g lg)).trans c1
  have hbox := (b2.block r (row_lt HH.out.box)).trans HH.out.box
  have e0 : w2.cell? ⟨r, 0, none⟩ = some (.pointer (some ⟨p, 0, none⟩)) := (cell_of_row _ _ _ _ _ _ hbox).trans rfl
  have e1 : w2.cell? ⟨r, 1, none⟩ = some (.map (some m)) := (cell_of_row _ _ _ _ _ _ hbox).trans rfl
  have hg2w : w.heap.size ≤ g2 := by
   have := hge2 _ rfl
   simpa using this
  have hg2m : g2 ≠ m := by
   have := HH.out.sums.lt
   omega
  obtain ⟨w3, h3, h4, h5⟩ := ((HH.out.sums.below b2).below ((Below.refl w2.heap.size w2).drew)).store (P := Tryz.prog) (t := 93) (kt := 9) (by kernel_rfl) Tryz.underlying93 y1 (n1, n2, n3, n4)
  simp only [eSums, encSums] at h3
  have H4 := Lib.hid h4
  have H5 := Lib.hid h5
  have B2 := Lib.hid b2
  have HBX := Lib.hid hbox
  clear hr2 hge2 cg2 b2 h4 h5 hbox c1 h1
  go_upto_region 6 with fail
  go_region
  all_goals
   have hk3 : ∀ k, k ≠ m → w3.heap[k]? = w2.heap[k]? := fun k hk => H5.out.block k hk
   have hbx3 : w3.heap[r]? = _ := (hk3 r HH.out.rm).trans HBX.out
   have hF2 : g2 ∉ F := fun h => by have := HH.out.book.lt g2 h; omega
   have hu3 : ButF (m :: F) w w3 := ((ButF.of_below B2.out).drew).step (ButF.of_turned H5.out (.inl (by simp)))
   have hbk3 : BookIs w3 p F B := (HH.out.book.below B2.out).keep fun k hk => hk3 k fun h => HH.out.mF (h ▸ hk)
   have HDO : Hid (∀ W, Below w3.heap.size w3 W → Calls Tryz.prog 12 #[.pointer (some ⟨p, 0, none⟩), .agg #[.string ⟨#[103, 111, 111, 100, 115]⟩, .string ⟨y1.toArray⟩, .int .i64 n0, .string ⟨#[]⟩, .string ⟨#[]⟩, .int .i64 0, .int .i64 0, .string ⟨#[]⟩, .int .i64 0, .int .i64 0, .string ⟨#[]⟩, .int .i64 0, .int .i64 0, .int .i64 0]] W fun e w' => e = .returned (errOf E (doE B (goodsX y1 n0))) ∧ (∃ F', BookIs w' p F' (doB B (goodsX y1 n0)) ∧ ∀ k ∈ F', k ∈ F ∨ W.heap.size ≤ k) ∧ ButF F W w' ∧ Below w3.heap.size w3 W) := fun W hb =>
    (do_any E (goodsX y1 n0) (hbk3.below hb) HI.out (by simp [goodsX]) (by simp [goodsX]) (HG.out W (hu3.then_below hb))).mono fun e w' h => ⟨h.1, h.2.1, h.2.2, hb⟩
   have hr3 := row_lt hbx3
   have hs3 : w2.heap.size ≤ w3.heap.size := Nat.le_of_eq H5.out.size.symm
   have hs2 := B2.out.size
   have HC : Hid (∀ W : World, W.heap[r]? = w3.heap[r]? → W.heap[g]? = w3.heap[g]? → W.heap[g2]? = w3.heap[g2]? → W.cell? ⟨r, 0, none⟩ = some (.pointer (some ⟨p, 0, none⟩)) ∧ W.cell? ⟨g, o + 1, none⟩ = some (.string ⟨y1.toArray⟩) ∧ W.cell? ⟨g2, o2, none⟩ = some (.int .i64 n0)) := fun W q1 q2 q3 =>
    ⟨(World.cell?_of_block (a := ⟨r, 0, none⟩) (q1.trans (hk3 r HH.out.rm))).trans e0, (World.cell?_of_block (a := ⟨g, o + 1, none⟩) (q2.trans (hk3 g hgm'))).trans c1', (World.cell?_of_block (a := ⟨g2, o2, none⟩) (q3.trans (hk3 g2 hg2m))).trans d0⟩
   have HS : Hid (∀ W, Below w3.heap.size w3 W → W.cell? ⟨r, 0, none⟩ = some (.pointer (some ⟨p, 0, none⟩)) ∧ W.cell? ⟨g, o + 1, none⟩ = some (.string ⟨y1.toArray⟩) ∧ W.cell? ⟨g2, o2, none⟩ = some (.int .i64 n0)) := fun W hb =>
    HC.out W (hb.block r hr3) (hb.block g (by omega)) (hb.block g2 (by omega))
   have HSW : Hid (∀ W W', Below w3.heap.size w3 W → ButF F W W' → W'.cell? ⟨r, 0, none⟩ = some (.pointer (some ⟨p, 0, none⟩)) ∧ W'.cell? ⟨g, o + 1, none⟩ = some (.string ⟨y1.toArray⟩) ∧ W'.cell? ⟨g2, o2, none⟩ = some (.int .i64 n0)) := fun W W' hb hu => by
    have h1 := hb.size
    exact HC.out W' ((hu.block r (by omega) HH.out.rF).trans (hb.block r hr3)) ((hu.block g (by omega) hgF).trans (hb.block g (by omega))) ((hu.block g2 (by omega) hF2).trans (hb.block g2 (by omega)))
   have hd0 : Below w3.heap.size w3 w3.drew := (Below.refl _ _).drew
   have hd1 : Below w3.heap.size w3 w3 := Below.refl _ _
   have HU3 := Lib.hid hu3
   have HBX3 := Lib.hid hbx3
   clear hk3 hbx3 hu3 hbk3 HC e0 e1 c1' d0 d1 d2 d3 d4 h3
   by_cases hd : doE B (goodsX y1 n0) = 0
   ·rw [hd] at HDO
    simp only [errOf_zero] at HDO
    have HD := Lib.hid hd
    clear hd
    go_wp2_with fail
    go_region_held3 (fun W => W.cell? ⟨r, 0, none⟩ = some (.pointer (some ⟨p, 0, none⟩)) ∧ W.cell? ⟨g, o + 1, none⟩ = some (.string ⟨y1.toArray⟩) ∧ W.cell? ⟨g2, o2, none⟩ = some (.int .i64 n0))
     (first | exact HSW.out _ _ bb hU | exact HS.out _ hd0 | exact HS.out _ hd1 | go_keep)
     (first | (go_at_call 12; refine (HDO.out _ (by first | exact hd0 | exact hd1)).mono ?_; rintro e v1 ⟨rfl, hX, hU, bb⟩))
    all_goals
     have HX := Lib.hid hX
     have HU := Lib.hid hU
     have BB := Lib.hid bb
     clear hX hU bb HS HSW
     go_wp2_with fail
     go_ret
     rw [decide_eq_true HD.out]
     have hbs := BB.out.size
     have hm3 := H4.out.lt
     refine ⟨rfl, (HU3.out.then_below BB.out).trans HU.out (fun i hi => .inl (by simp [hi])), fun _ => ?_⟩
     obtain ⟨F', hB, hk⟩ := HX.out
     refine ⟨n0, n1, n2, n3, n4, F', rfl, ⟨(HU.out.block r (Nat.lt_of_lt_of_le hr3 hbs) HH.out.rF).trans ((BB.out.block r hr3).trans HBX3.out), hB, (H4.out.below BB.out).keep (HU.out.block m (Nat.lt_of_lt_of_le hm3 hbs) HH.out.mF), fun h => ?_, fun h => ?_, HH.out.rm⟩, fun k h => ?_⟩
     ·rcases hk r h with h | h
      ·exact HH.out.rF h
      ·omega
     ·rcases hk m h with h | h
      ·exact HH.out.mF h
      ·omega
     ·rcases hk k h with h | h
      ·exact .inl h
      ·exact .inr (by omega)
   ·rw [errOf_pos _ _ hd] at HDO
    have HD := Lib.hid hd
    clear hd
    go_wp2_with fail
    go_region_held3 (fun W => W.cell? ⟨r, 0, none⟩ = some (.pointer (some ⟨p, 0, none⟩)) ∧ W.cell? ⟨g, o + 1, none⟩ = some (.string ⟨y1.toArray⟩) ∧ W.cell? ⟨g2, o2, none⟩ = some (.int .i64 n0))
     (first | exact HSW.out _ _ bb hU | exact HS.out _ hd0 | exact HS.out _ hd1 | go_keep)
     (first | (go_at_call 12; refine (HDO.out _ (by first | exact hd0 | exact hd1)).mono ?_; rintro e v1 ⟨rfl, hX, hU, bb⟩))
    all_goals
     have HX := Lib.hid hX
     have HU := Lib.hid hU
     have BB := Lib.hid bb
     clear hX hU bb HS HSW
     go_wp2_with fail
     go_ret
     rw [decide_eq_false HD.out]
     exact ⟨rfl, (HU3.out.then_below BB.out).trans HU.out (fun i hi => .inl (by simp [hi])), fun h => by cases h⟩
end Go.Proofs.YteaalifehokgoaaGreatDoor
