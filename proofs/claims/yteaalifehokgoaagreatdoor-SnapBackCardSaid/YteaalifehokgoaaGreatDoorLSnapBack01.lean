/- Contracts of the library at this translation: laid by the kit's shelf (lay-shelf, lay-plain), those alone that the claim uses. strings.SplitSeq at one byte: what its iterator hands over. A book read from its text, plainly: what is read is good; what is written is read. Snaps: a reader of lines in memory; what a line leaves. Snaps: a reader of lines; lots. Snaps: a reader of lines; a line. -/
import Derived.Shelf.Strings.Search3
import Derived.Shelf.Strings.Prefix
import Derived.Test.YteaalifehokgoaaGreatDoorProg
import Derived.Shelf.Abstract
import Derived.WalkKit
import Derived.OwnWalkIn
import Derived.TacticsInMore
import Derived.LoopNIn
import Derived.LoopIn
import Derived.Maps.AppendAt
import Derived.Deep.RegionHeldLaw
import Derived.Deep.RegionLaw
import Derived.Deep.AppendLies
import Derived.BigQuiet
import Derived.Test.YteaalifehokgoaaGreatDoorM14
import Derived.Test.YteaalifehokgoaaGreatDoorM15
import Derived.Test.YteaalifehokgoaaGreatDoorM16
import Derived.Test.YteaalifehokgoaaGreatDoorM17
import Derived.Test.YteaalifehokgoaaGreatDoorM19
import Derived.Test.YteaalifehokgoaaGreatDoorM42
import Derived.Test.YteaalifehokgoaaGreatDoorM43
namespace Go.Proofs
open Go.Shelf
def Tryz.lays143_ren : Go.Shelf.Ren := ⟨fun | 143 => 140 | 219 => 174 | 217 => 208 | 225 => 209 | 224 => 210 | 267 => 211 | 266 => 232 | 314 => 233 | n => n, fun | 9 => 9 | 3 => 3 | 4 => 4 | 5 => 5 | 46 => 202 | 146 => 298 | 51 => 249 | n => n, fun | 1 => 13 | n => n⟩
theorem Tryz.lays143 : Go.Proofs.Lays.n143 Tryz.prog Tryz.lays143_ren := {
 mixed := by kernel_rfl
 f143 := Tryz.func140.trans (congrArg some (by kernel_rfl))
 f217 := Tryz.func208.trans (congrArg some (by kernel_rfl))
 f219 := Tryz.func174.trans (congrArg some (by kernel_rfl))
 f224 := Tryz.func210.trans (congrArg some (by kernel_rfl))
 f225 := Tryz.func209.trans (congrArg some (by kernel_rfl))
 f266 := Tryz.func232.trans (congrArg some (by kernel_rfl))
 f267 := Tryz.func211.trans (congrArg some (by kernel_rfl))
 f314 := Tryz.func233.trans (congrArg some (by kernel_rfl))
 t3 := Tryz.underlying3
 a3 := Tryz.isAgg3
 z3 := Tryz.sizeOf3
 v3 := Tryz.zeroValue3
 t4 := Tryz.underlying4
 a4 := Tryz.isAgg4
 z4 := Tryz.sizeOf4
 v4 := Tryz.zeroValue4
 t5 := Tryz.underlying5
 a5 := Tryz.isAgg5
 z5 := Tryz.sizeOf5
 v5 := Tryz.zeroValue5
 t9 := Tryz.underlying9
 a9 := Tryz.isAgg9
 z9 := Tryz.sizeOf9
 v9 := Tryz.zeroValue9
 t46 := Tryz.underlying202
 a46 := Tryz.isAgg202
 z46 := Tryz.sizeOf202
 v46 := Tryz.zeroValue202
 t51 := Tryz.underlying249
 a51 := Tryz.isAgg249
 z51 := Tryz.sizeOf249
 v51 := Tryz.zeroValue249
 t146 := Tryz.underlying298
 a146 := Tryz.isAgg298
 z146 := Tryz.sizeOf298
 v146 := Tryz.zeroValue298
 g1 := by kernel_rfl }
open Go.RowKit Go.Lib in
theorem Tryz.strings_Index_one (s : ByteArray) (c : UInt8) (w : World) :
  Calls Tryz.prog 140 #[.string s, .string ⟨#[c]⟩] w fun e w' => e = .returned (.int .i64 (Lib.indexByte s.data.toList c)) ∧ w' = w := Any.strings_Index_one Tryz.lays143 s c w
def Tryz.lays102_ren : Go.Shelf.Ren := ⟨fun | 102 => 37 | 209 => 85 | 207 => 141 | n => n, fun | 9 => 9 | 4 => 4 | 3 => 3 | n => n, fun | n => n⟩
theorem Tryz.lays102 : Go.Proofs.Lays.n102 Tryz.prog Tryz.lays102_ren := {
 mixed := by kernel_rfl
 f102 := Tryz.func37.trans (congrArg some (by kernel_rfl))
 f207 := Tryz.func141.trans (congrArg some (by kernel_rfl))
 f209 := Tryz.func85.trans (congrArg some (by kernel_rfl))
 t3 := Tryz.underlying3
 a3 := Tryz.isAgg3
 z3 := Tryz.sizeOf3
 v3 := Tryz.zeroValue3
 t4 := Tryz.underlying4
 a4 := Tryz.isAgg4
 z4 := Tryz.sizeOf4
 v4 := Tryz.zeroValue4
 t9 := Tryz.underlying9
 a9 := Tryz.isAgg9
 z9 := Tryz.sizeOf9
 v9 := Tryz.zeroValue9 }
open Go.RowKit Go.Lib in
theorem Tryz.strings_TrimSuffix (s p : ByteArray) (w : World) (hs : s.size ≤ 9223372036854775807) :
  Calls Tryz.prog 37 #[.string s, .string p] w fun e w' => e = .returned (.string ⟨(Lib.trimSuffix s.data.toList p.data.toList).toArray⟩) ∧ w' = w := Any.strings_TrimSuffix Tryz.lays102 s p w hs
end Go.Proofs
namespace Go.Proofs.YteaalifehokgoaaGreatDoor
open Go.RowKit Go.Proofs
attribute [local go_sem] Oper.semAt_some
theorem index_split (c : UInt8) : ∀ l : List UInt8, (Lib.indexByte l c = -1 ∧ c ∉ l) ∨ ∃ a r, l = a ++ c :: r ∧ c ∉ a ∧ Lib.indexByte l c = (a.length : Int)
 |[] => .inl ⟨rfl, by simp⟩
 |b :: l => by
  by_cases h : b = c
  ·refine .inr ⟨[], l, by simp [h], by simp, ?_⟩
   simp [Lib.indexByte, h]
  ·rcases index_split c l with ⟨h1, h2⟩ | ⟨a, r, h1, h2, h3⟩
   ·exact .inl ⟨by simp [Lib.indexByte, h, h1], by simp [h2, Ne.symm h]⟩
   ·refine .inr ⟨b :: a, r, by simp [h1], by simp [h2, Ne.symm h], ?_⟩
    rw [Lib.indexByte, if_neg (by simpa using h), h3, if_neg (by rw [beq_iff_eq]; omega)]
    simp
def boxLen (b : Nat) (w : World) : Nat := match w.cell? ⟨b, 0, none⟩ with | some (.string t) => t.size | _ => 0
theorem box_cell {w : World} {b : Nat} {v : Value} {t : TypeId} (h : w.heap[b]? = some (.cells #[v] t (0, 0))) : w.cell? ⟨b, 0, none⟩ = some v ∧ w.frozen? ⟨b, 0, none⟩ = false := by
 constructor <;> simp [World.cell?, World.frozen?, h]
theorem box_set {w : World} {b : Nat} {c : Value} {t : TypeId} (h : w.heap[b]? = some (.cells #[c] t (0, 0))) (v : Value) : (w.setCell ⟨b, 0, none⟩ v).heap[b]? = some (.cells #[v] t (0, 0)) := by
 simp [World.setCell, Array.getElem?_modify, h]
theorem boxLen_is {w : World} {b : Nat} {t : List UInt8} (h : w.cell? ⟨b, 0, none⟩ = some (.string ⟨t.toArray⟩)) : boxLen b w = t.length := by
 unfold boxLen
 rw [h]
 simp [ByteArray.size]
theorem butF_set (w : World) (b : Nat) (v : Value) : ButF [b] w (w.setCell ⟨b, 0, none⟩ v) :=
 ⟨rfl, rfl, rfl, by simp [World.setCell], fun k _ hk => Below.heap_setCell _ _ _ _ (by simpa using hk)⟩
set_option maxHeartbeats 3200000 in
set_option maxRecDepth 100000 in
theorem splitSeq1_x (c : UInt8) (s : List UInt8) (b0 b1 b2 : Nat) (hlen : s.length ≤ 1000000) (hd0 : b0 ≠ b1) (hd2 : b2 ≠ b1) :
  SeqX Tryz.prog 138 #[.pointer (some ⟨b0, 0, none⟩), .pointer (some ⟨b1, 0, none⟩), .pointer (some ⟨b2, 0, none⟩)] (fun x : List UInt8 => #[.string ⟨x.toArray⟩]) (splitL c s) b1 [b0, b1, b2]
   (fun W => W.heap[b0]? = some (.cells #[.string ⟨#[c]⟩] 9 (0, 0)) ∧ W.heap[b1]? = some (.cells #[.string ⟨s.toArray⟩] 9 (0, 0)) ∧ W.heap[b2]? = some (.cells #[.int .i64 0] 3 (0, 0))) := by
 rintro l J Jx W ⟨h0, h1, h2⟩ hJ hlt hY hJ0
 refine callsIn_wide.1 (callsIn_of_wp (n := 2) Tryz.func138 rfl trivial ?_ rfl)
 simp only [Tryz.ntmps138, List.size_toArray, List.length_cons, List.length_nil, Nat.reduceAdd, Nat.reduceSub, Array.replicate_succ, Array.replicate_zero, List.push_toArray, List.append_toArray, List.nil_append, List.cons_append]
 obtain ⟨c0, -⟩ := box_cell h0
 obtain ⟨c1, f1⟩ := box_cell h1
 obtain ⟨c2, -⟩ := box_cell h2
 gi_wp2
 gi_loopw [7, 8] (fun _ _ wr => ∃ (i : Nat) (cur : List UInt8), i < (splitL c s).length ∧ splitL c cur = (splitL c s).drop i ∧ cur.length ≤ s.length ∧ wr.heap[b0]? = some (.cells #[.string ⟨#[c]⟩] 9 (0, 0)) ∧ wr.heap[b1]? = some (.cells #[.string ⟨cur.toArray⟩] 9 (0, 0)) ∧ wr.heap[b2]? = some (.cells #[.int .i64 0] 3 (0, 0)) ∧ J i wr)
  (fun _ _ wr => boxLen b1 wr)
 case atStart =>
  exact ⟨0, s, List.length_pos_iff.2 (splitL_ne c s), rfl, Nat.le_refl _, h0, h1, h2, hJ0⟩
 case round =>
  obtain ⟨i, cur, hi, hcur, hle, k0, k1, k2, hJi⟩ := hrel
  obtain ⟨wo, rfl⟩ : ∃ wo : World, wo = wr := ⟨_, rfl⟩
  obtain ⟨d0, -⟩ := box_cell k0
  obtain ⟨d1, g1⟩ := box_cell k1
  obtain ⟨d2, -⟩ := box_cell k2
  have HIX := Lib.hid (Tryz.strings_Index_one ⟨cur.toArray⟩ c wo)
  have hb : (⟨cur.toArray⟩ : ByteArray).data.toList = cur := rfl
  rw [hb] at HIX
  have hlt' := hlt i wo hJi
  rcases index_split c cur with ⟨e1, e2⟩ | ⟨a, r, e1, e2, e3⟩
  ·rw [e1] at HIX
   have hsp := splitL_none e2
   rw [hsp] at hcur
   have hx : (splitL c s)[i] = cur := by
    have := congrArg List.head? hcur
    rw [List.head?_drop, List.getElem?_eq_getElem hi] at this
    simpa using this.symm
   have hlast : i + 1 = (splitL c s).length := by
    have := congrArg List.length hcur
    rw [List.length_drop] at this
    simp at this
    omega
   obtain ⟨fn, tmps, assign, body, hy, hR⟩ := hY i wo hi hJi
   rw [hx] at hy
   have HR := Lib.hid hR
   have HLA := Lib.hid hlast
   clear hR hcur hsp hx hlast hY
   gi_wp2
   refine ⟨trivial, (callsIn_wide.2 HIX.out).mono ?_⟩
   rintro e w1 ⟨rfl, rfl⟩
   gi_wp2
   refine HR.out.mono ?_
   rintro e w3 (⟨rfl, hJ3, hk3, hs3⟩ | ⟨rfl, hJx3⟩)
   ·gi_wp2
    go_end0
    refine ⟨⟨_, rfl⟩, .inl ?_⟩
    rw [← HLA.out]
    exact hJ3
   ·gi_wp2
    go_end0
    exact ⟨⟨_, rfl⟩, .inr hJx3⟩
  ·rw [e3] at HIX
   have hsp : splitL c cur = a :: splitL c r := by rw [e1, splitL_at _ _ e2]
   rw [hsp] at hcur
   have hx : (splitL c s)[i] = a := by
    have := congrArg List.head? hcur
    rw [List.head?_drop, List.getElem?_eq_getElem hi] at this
    simpa using this.symm
   have hnext : splitL c r = (splitL c s).drop (i + 1) := by
    have := congrArg List.tail hcur
    rw [List.tail_drop] at this
    exact this
   have hi1 : i + 1 < (splitL c s).length := by
    have h1 := congrArg List.length hnext
    rw [List.length_drop] at h1
    have h2 := List.length_pos_iff.2 (splitL_ne c r)
    omega
   have hcl : cur.length = a.length + 1 + r.length := by rw [e1]; simp; omega
   have hs1 : (⟨cur.toArray⟩ : ByteArray).size = cur.length := by simp [ByteArray.size]
   have hcut1 : (⟨cur.toArray⟩ : ByteArray).extract 0 a.length = ⟨a.toArray⟩ := by
    refine ByteArray.ext ?_
    simp [e1]
   have hcut2 : (⟨cur.toArray⟩ : ByteArray).extract (a.length + 1) (a.length + 1 + r.length) = ⟨r.toArray⟩ := by
    refine ByteArray.ext ?_
    simp [e1]
   obtain ⟨fn, tmps, assign, body, hy, hR⟩ := hY i wo hi hJi
   rw [hx] at hy
   have HR := Lib.hid hR
   clear hR hcur hsp hx hY e1 e3
   gi_wp2
   refine ⟨trivial, (callsIn_wide.2 HIX.out).mono ?_⟩
   rintro e w1 ⟨rfl, rfl⟩
   gi_wp2
   refine HR.out.mono ?_
   rintro e w3 (⟨rfl, hJ3, hk3, hs3⟩ | ⟨rfl, hJx3⟩)
   ·have q0 := (hk3 b0 (by simp)).trans k0
    have q1 := (hk3 b1 (by simp)).trans k1
    have q2 := (hk3 b2 (by simp)).trans k2
    obtain ⟨d0, -⟩ := box_cell q0
    obtain ⟨d1, g1⟩ := box_cell q1
    obtain ⟨d2, -⟩ := box_cell q2
    have Q0 := Lib.hid q0
    have Q1 := Lib.hid q1
    have Q2 := Lib.hid q2
    have HK1 := Lib.hid k1
    clear q0 q1 q2 k0 k1 k2 hk3
    gi_wp2
    go_roundw
    case rel =>
     refine ⟨i + 1, r, hi1, hnext, by omega, ?_, box_set Q1.out _, ?_, hJ _ _ _ hJ3 (butF_set _ _ _)⟩
     ·exact (Below.heap_setCell _ _ _ _ hd0).trans Q0.out
     ·exact (Below.heap_setCell _ _ _ _ hd2).trans Q2.out
    case measure =>
     rw [boxLen_is (box_cell (box_set Q1.out _)).1, boxLen_is (box_cell HK1.out).1]
     omega
   ·gi_wp2
    refine bodyPost_ret (results_none rfl _ _ _) rfl ?_
    exact ⟨⟨_, rfl⟩, .inr hJx3⟩
theorem splitSeq_in (c : UInt8) (s : List UInt8) (w : World) :
  Calls Tryz.prog 84 #[.string ⟨s.toArray⟩, .string ⟨#[c]⟩, .int .i64 0] w fun e w' => e = .returned (.func (.func 138) #[] #[.pointer (some ⟨w.heap.size + 1, 0, none⟩), .pointer (some ⟨w.heap.size, 0, none⟩), .pointer (some ⟨w.heap.size + 2, 0, none⟩)]) ∧
   w'.heap[w.heap.size + 1]? = some (.cells #[.string ⟨#[c]⟩] 9 (0, 0)) ∧ w'.heap[w.heap.size]? = some (.cells #[.string ⟨s.toArray⟩] 9 (0, 0)) ∧ w'.heap[w.heap.size + 2]? = some (.cells #[.int .i64 0] 3 (0, 0)) ∧ Below w.heap.size w w' := by
 go_enter Tryz.func84, Tryz.ntmps84
 go_wp2_with fail
 go_ret
 refine ⟨rfl, ?_, ?_, ?_, ((((Below.refl _ w).alloc (Nat.le_refl _) _).alloc (by simp) _).alloc (by simp; omega) _)⟩
 ·refine (Below.heap_alloc _ _ _ (by simp)).trans ?_
  have := World.alloc_heap_new (w.alloc (.cells #[.string ⟨s.toArray⟩] 9)) (.cells #[.string ⟨#[c]⟩] 9)
  rwa [World.size_alloc] at this
 ·exact (Below.heap_alloc _ _ _ (by simp; omega)).trans ((Below.heap_alloc _ _ _ (by simp)).trans (World.alloc_heap_new w _))
 ·have := World.alloc_heap_new ((w.alloc (.cells #[.string ⟨s.toArray⟩] 9)).alloc (.cells #[.string ⟨#[c]⟩] 9)) (.cells #[.int .i64 0] 3)
  rwa [World.size_alloc, World.size_alloc] at this
theorem splitSeq_any (c : UInt8) (s : List UInt8) (w : World) :
  Calls Tryz.prog 36 #[.string ⟨s.toArray⟩, .string ⟨#[c]⟩] w fun e w' => e = .returned (.func (.func 138) #[] #[.pointer (some ⟨w.heap.size + 1, 0, none⟩), .pointer (some ⟨w.heap.size, 0, none⟩), .pointer (some ⟨w.heap.size + 2, 0, none⟩)]) ∧
   w'.heap[w.heap.size + 1]? = some (.cells #[.string ⟨#[c]⟩] 9 (0, 0)) ∧ w'.heap[w.heap.size]? = some (.cells #[.string ⟨s.toArray⟩] 9 (0, 0)) ∧ w'.heap[w.heap.size + 2]? = some (.cells #[.int .i64 0] 3 (0, 0)) ∧ Below w.heap.size w w' := by
 go_enter Tryz.func36, Tryz.ntmps36
 go_wp2_with fail
 refine (splitSeq_in c s w).mono ?_
 rintro e w' ⟨rfl, h⟩
 have H := Lib.hid h
 clear h
 go_wp2_with fail
 go_ret
 exact ⟨rfl, H.out⟩
end Go.Proofs.YteaalifehokgoaaGreatDoor
namespace Go.Proofs.YteaalifehokgoaaGreatDoor
open Go.RowKit Go.Sort Go.Proofs
theorem numsQ_nonneg {l : List (List UInt8)} {ns : List Int} (h : numsQ l = some ns) : ∀ n ∈ ns, 0 ≤ n := by
 induction l generalizing ns with
 |nil => cases h; simp
 |cons x l ih =>
  rw [numsQ] at h
  cases hx : numQ x 15 with
  |none => rw [hx] at h; cases h
  |some n =>
   cases hl : numsQ l with
   |none => rw [hx, hl] at h; cases h
   |some a =>
    rw [hx, hl] at h
    cases h
    intro m hm
    rcases List.mem_cons.1 hm with rfl | hm
    ·omega
    ·exact ih hl m hm
theorem numsQ_most {l : List (List UInt8)} {ns : List Int} (h : numsQ l = some ns) : ∀ n ∈ ns, n ≤ 999999999999999 := by
 induction l generalizing ns with
 |nil => cases h; simp
 |cons x l ih =>
  rw [numsQ] at h
  cases hx : numQ x 15 with
  |none => rw [hx] at h; cases h
  |some n =>
   cases hl : numsQ l with
   |none => rw [hx, hl] at h; cases h
   |some a =>
    rw [hx, hl] at h
    cases h
    intro m hm
    rcases List.mem_cons.1 hm with rfl | hm
    ·have := numQ_lt ((numQ_iff _ _ _).1 hx) (by omega)
     omega
    ·exact ih hl m hm
theorem BkI.setAll {B : BkV} (hI : BkI B) {f : List UInt8 → Option SumsV} (hn : ∀ c s, f c = some s → 0 ≤ s.1 ∧ 0 ≤ s.2.1 ∧ 0 ≤ s.2.2.1 ∧ 0 ≤ s.2.2.2) (hr : RightB B f) : BkI (setAllB B f) := by
 have hG : ∀ c, fG (setAllB B f) c = (fG B c).map fun z => (z.1, (f z.1.1).getD z.2) := fun c => find_map (f := fun z : GoS => (z.1, (f z.1.1).getD z.2)) (fun z : GoS => z.1.1) (fun _ => rfl) c
 refine ⟨?_, fun x hx => ?_, ?_, hI.ls, fun z hz => ?_, hI.lfew, hI.stk, hI.known, fun x hx => ?_⟩
 ·show (List.map _ B.1).Pairwise _
  rw [List.pairwise_map]
  exact hI.gs
 ·obtain ⟨z, hz, rfl⟩ := List.mem_map.1 hx
  refine ⟨(hI.gok z hz).1, ?_⟩
  cases hf : f z.1.1 with
  |none => exact (hI.gok z hz).2
  |some s =>
   obtain ⟨-, a1, a2, a3, a4⟩ := hr _ _ hf
   obtain ⟨b1, b2, b3, b4⟩ := hn _ _ hf
   exact ⟨b1, a1, b2, a2, b3, a3, b4, a4⟩
 ·show (List.map _ B.1).length ≤ 30
  rw [List.length_map]
  exact hI.gfew
 ·obtain ⟨h1, h2, h3⟩ := hI.lok z hz
  refine ⟨h1, h2, ?_⟩
  rw [hG, Option.isSome_map]
  exact h3
 ·obtain ⟨z, hz, rfl⟩ := List.mem_map.1 hx
  show (hasOf B z.1.1 : Int) = _
  cases hf : f z.1.1 with
  |none => exact hI.pac z hz
  |some s =>
   obtain ⟨a1, -⟩ := hr _ _ hf
   simp only [Option.getD_some]
   omega
theorem goods_zero {g : GoodsV} (h : goodsE g = 0) : nameB g.1 = true ∧ 1 ≤ g.2 ∧ g.2 ≤ 1000 := by
 unfold goodsE at h
 split at h
 ·cases h
 rename_i h1
 split at h
 ·cases h
 rename_i h2
 unfold wiB at h2
 simp only [decide_eq_false_iff_not, Classical.not_not] at h2
 exact ⟨by simpa using h1, h2.1, h2.2⟩
theorem lot_zero {l : LotV} (h : lotE l = 0) : nameB l.1 = true ∧ nameB l.2.1 = true ∧ 0 ≤ l.2.2.1 ∧ l.2.2.1 ≤ 100000 ∧ 0 ≤ l.2.2.2 ∧ l.2.2.2 ≤ 1048576 := by
 unfold lotE at h
 split at h
 ·cases h
 rename_i h1
 split at h
 ·cases h
 rename_i h2
 simp only [Bool.not_eq_false, Bool.and_eq_true] at h1
 exact ⟨h1.1, h1.2, by omega, by omega, by omega, by omega⟩
theorem lotWords_ok {ws : List (List UInt8)} (h : (lotWords ws).2 = 0) : lotE (lotWords ws).1 = 0 := by
 unfold lotWords at h ⊢
 split at h
 ·split at h
  ·split at h
   ·rename_i h0; rw [if_pos h0]; exact h0
   ·rename_i h0; exact absurd h h0
  ·cases h
 ·cases h
/-! What is read is a good book. -/
def ShortH (x : EntV) : Prop := x.2.2.1.1.length ≤ 1000000000 ∧ x.2.2.1.2.1.length ≤ 1000000000
structure RdI2 (S : RdV) : Prop where
 book : BkI S.1
 pos : ∀ c s, S.2.1 c = some s → 0 ≤ s.1 ∧ 0 ≤ s.2.1 ∧ 0 ≤ s.2.2.1 ∧ 0 ≤ s.2.2.2
 keys : ∀ c s, S.2.1 c = some s → (fG S.1 c).isSome = true
 most : ∀ c s, S.2.1 c = some s → s.1 ≤ 999999999999999 ∧ s.2.1 ≤ 999999999999999 ∧ s.2.2.1 ≤ 999999999999999 ∧ s.2.2.2 ≤ 999999999999999
 short : ∀ x ∈ S.2.2, ShortH x
theorem RdI2.nil : RdI2 rd0 := ⟨BkI.nil, (fun c s h => by cases h), (fun c s h => by cases h), (fun c s h => by cases h), (fun x h => by cases h)⟩
theorem goods_stay {B : BkV} (h : BkI B) (x : EntV) {c : List UInt8} (hc : (fG B c).isSome = true) : (fG (doB B x) c).isSome = true := by
 unfold doB
 split
 ·exact hc
 rename_i h0
 split
 ·rename_i hk
  have hn : fG B x.2.1.1 = none := by
   simp only [ne_eq, Classical.not_not] at h0
   unfold doE at h0
   split at h0
   ·rename_i h1; exact absurd h0 h1
   split at h0
   ·cases h0
   ·rename_i h2; exact isSome_none h2
  rw [h.fG_ins hn]
  split
  ·rfl
  ·exact hc
 split
 ·exact hc
 ·show (List.find? _ (setG _ _ B.1)).isSome = true
  rw [show (List.find? _ (setG _ _ B.1)) = _ from find_map (fun z : GoS => z.1.1) (fun z => by rw [setG_fst]) c, Option.isSome_map]
  exact hc
theorem doE_goods {B : BkV} (h : BkI B) {c : List UInt8} {n : Int} (h0 : doE B (goodsX c n) = 0) : fG (doB B (goodsX c n)) c = some ((c, n), zeroSums) := by
 have hn : fG B c = none := by
  unfold doE at h0
  split at h0
  ·rename_i h1; exact absurd h0 h1
  rw [if_pos (show (goodsX c n).1 = kGoods from rfl)] at h0
  split at h0
  ·cases h0
  ·rename_i h2; exact isSome_none h2
 have e : doB B (goodsX c n) = (insG ((c, n), zeroSums) B.1, B.2.1, B.2.2) := by
  unfold doB
  rw [if_neg (by simpa using h0), if_pos (show (goodsX c n).1 = kGoods from rfl)]
  rfl
 rw [e, h.fG_ins (g := (c, n)) hn, if_pos rfl]
theorem RdI2.line {S S' : RdV} (h : RdI2 S) {ws : List (List UInt8)} (e : rdLn S ws = some S') : RdI2 S' := by
 unfold rdLn at e
 split at e
 ·unfold rdG at e
  split at e
  ·rename_i c x0 x1 x2 x3 x4 _
   split at e
   ·rename_i n0 n1 n2 n3 n4 hq
    split at e
    ·rename_i h0
     cases e
     refine ⟨h.book.do_ _, fun d s hd => ?_, fun d s hd => ?_, fun d s hd => ?_, h.short⟩
     ·have hd : (if d = c then some (n1, n2, n3, n4) else S.2.1 d) = some s := hd
      split at hd
      ·cases hd
       have := numsQ_nonneg hq
       exact ⟨this n1 (by simp), this n2 (by simp), this n3 (by simp), this n4 (by simp)⟩
      ·exact h.pos d s hd
     ·have hd : (if d = c then some (n1, n2, n3, n4) else S.2.1 d) = some s := hd
      split at hd
      ·rename_i hdc
       rw [hdc]
       show (fG (doB S.1 (goodsX c n0)) c).isSome = true
       rw [doE_goods h.book h0]
       rfl
      ·exact goods_stay h.book _ (h.keys d s hd)
     ·have hd : (if d = c then some (n1, n2, n3, n4) else S.2.1 d) = some s := hd
      split at hd
      ·cases hd
       have := numsQ_most hq
       exact ⟨this n1 (by simp), this n2 (by simp), this n3 (by simp), this n4 (by simp)⟩
      ·exact h.most d s hd
    ·cases e
   ·cases e
  ·cases e
 split at e
 ·unfold rdL at e
  split at e
  ·split at e
   ·split at e
    ·split at e
     ·cases e
      refine ⟨h.book.do_ _, h.pos, fun d s hd => goods_stay h.book _ (h.keys d s hd), h.most, fun x hx => ?_⟩
      have hx : x ∈ (if _ = 0 then S.2.2 else S.2.2 ++ [holdX _ _]) := hx
      split at hx
      ·exact h.short x hx
      ·rcases List.mem_append.1 hx with hx | hx
       ·exact h.short x hx
       ·rw [List.mem_singleton.1 hx]
        have := (nameB_len (lot_zero (lotWords_ok ‹(lotWords _).2 = 0›)).1).2
        exact ⟨Nat.le_trans this (by omega), Nat.zero_le _⟩
     ·cases e
    ·cases e
   ·cases e
  ·cases e
 split at e
 ·unfold rdA at e
  split at e
  ·split at e
   ·cases e
    exact ⟨h.book.do_ _, h.pos, fun d s hd => goods_stay h.book _ (h.keys d s hd), h.most, h.short⟩
   ·cases e
  ·cases e
 ·cases e
theorem RdI2.all : ∀ {ts : List (List UInt8)} {S S' : RdV}, RdI2 S → rdAll S ts = some S' → RdI2 S'
 |[], S, S', h, e => by cases e; exact h
 |t :: r, S, S', h, e => by
  rw [rdAll] at e
  cases hl : rdLn S (splitL 32 t) with
  |none => rw [hl] at e; cases e
  |some S1 =>
   rw [hl] at e
   exact RdI2.all (h.line hl) e
theorem rdH_keep : ∀ {H : List EntV} {B C : BkV}, BkI B → rdH B H = some C → BkI C ∧ ∀ c, (fG B c).isSome = true → (fG C c).isSome = true
 |[], B, C, h, e => by cases e; exact ⟨h, fun c hc => hc⟩
 |x :: r, B, C, h, e => by
  rw [rdH] at e
  split at e
  ·obtain ⟨h1, h2⟩ := rdH_keep (h.do_ x) e
   exact ⟨h1, fun c hc => h2 c (goods_stay h x hc)⟩
  ·cases e
theorem rdH_good {S : RdV} {C : BkV} (h : RdI2 S) (e : rdH S.1 S.2.2 = some C) : RdI2 (C, S.2) :=
 ⟨(rdH_keep h.book e).1, h.pos, fun c s hc => (rdH_keep h.book e).2 c (h.keys c s hc), h.most, h.short⟩
theorem setAll_good {S : RdV} (h : RdI2 S) (hr : RightB S.1 S.2.1) : BkI (setAllB S.1 S.2.1) := h.book.setAll h.pos hr
theorem rdLn_len {S S' : RdV} {ws : List (List UInt8)} (e : rdLn S ws = some S') : S'.2.2.length ≤ S.2.2.length + 1 := by
 unfold rdLn at e
 split at e
 ·unfold rdG at e
  repeat' split at e
  all_goals first | (cases e; done) | (cases e; exact Nat.le_succ _)
 split at e
 ·unfold rdL at e
  repeat' split at e
  all_goals first | (cases e; done) | skip
  all_goals
   cases e
   first | exact Nat.le_succ _ | (rw [List.length_append]; exact Nat.le_refl _)
 split at e
 ·unfold rdA at e
  repeat' split at e
  all_goals first | (cases e; done) | (cases e; exact Nat.le_succ _)
 ·cases e
theorem rest_ok {s : List UInt8} {C : BkV} (h : Rest s C) : BkI C ∧ snapT C = s := by
 obtain ⟨S, B, h1, h2, h3, rfl, h5⟩ := h
 have hS : RdI2 S := by
  split at h1
  ·cases h1; exact RdI2.nil
  ·exact RdI2.nil.all h1
 exact ⟨(rdH_keep hS.book h2).1.setAll hS.pos h3, h5⟩
/-! What is written is read: the lines. -/
def gLine (x : GoS) : List UInt8 := joinL 32 [kGoods, x.1.1, Lib.itoa x.1.2, Lib.itoa x.2.1, Lib.itoa x.2.2.1, Lib.itoa x.2.2.2.1, Lib.itoa x.2.2.2.2]
def lLine (x : LoH) : List UInt8 := joinL 32 [kLot, x.1.1, x.1.2.1, Lib.itoa x.1.2.2.1, Lib.itoa x.1.2.2.2, Lib.itoa (x.2 : Int)]
def aLine (x : LineV) : List UInt8 := joinL 32 [kAt, placeText x.1, x.2.1, Lib.itoa x.2.2]
def linesB (B : BkV) : List (List UInt8) := B.1.map gLine ++ (B.2.1.map lLine ++ (linesM B.2.2).map aLine)
theorem snapG_line (x : GoS) : snapG x = gLine x ++ [10] := by simp [snapG, gLine, joinL, wordsT, kGoods]
theorem snapL_line {x : LoH} (h : lotE x.1 = 0) : snapL x = lLine x ++ [10] := by
 simp [snapL, lLine, joinL, wordsT, kLot, lotText, h]
theorem snapS_line (x : LineV) : snapS x = aLine x ++ [10] := by simp [snapS, aLine, joinL, kAt, lineText]
theorem snapT_lines {B : BkV} (h : BkI B) : snapT B = (linesB B).flatMap fun t => t ++ [10] := by
 have e : ∀ l : List LoH, (∀ x ∈ l, lotE x.1 = 0) → snapLs l = (l.map lLine).flatMap fun t => t ++ [10] := fun l hl => by
  unfold snapLs
  rw [List.flatMap_map]
  induction l with
  |nil => rfl
  |cons x r ih => rw [List.flatMap_cons, List.flatMap_cons, snapL_line (hl x List.mem_cons_self), ih fun y hy => hl y (List.mem_cons_of_mem _ hy)]
 unfold snapT linesB
 rw [e _ fun x hx => (h.lok x hx).1]
 simp only [List.flatMap_append, List.flatMap_map, snapGs, snapSs, List.append_assoc]
 rw [show (fun x : GoS => gLine x ++ [10]) = snapG from funext fun x => (snapG_line x).symm, show (fun x : LineV => aLine x ++ [10]) = snapS from funext fun x => (snapS_line x).symm]
theorem flat_join : ∀ {l : List (List UInt8)}, l ≠ [] → (l.flatMap fun t => t ++ [10]) = joinL 10 l ++ [10]
 |[], h => absurd rfl h
 |[t], _ => by simp [joinL]
 |t :: u :: r, _ => by
  rw [List.flatMap_cons, flat_join (l := u :: r) (by simp), joinL_cons]
  simp
theorem cutNl_app (s : List UInt8) : cutNl (s ++ [10]) = s := by
 unfold cutNl
 rw [if_pos (by simp), List.dropLast_concat]
theorem joinL_not {c d : UInt8} (hcd : d ≠ c) : ∀ {l : List (List UInt8)}, (∀ w ∈ l, d ∉ w) → d ∉ joinL c l
 |[], _ => by simp [joinL]
 |[w], h => h w (by simp)
 |w :: v :: r, h => by
  rw [joinL_cons, List.mem_append, List.mem_cons, not_or, not_or]
  exact ⟨h w (by simp), hcd, joinL_not hcd fun x hx => h x (List.mem_cons_of_mem _ hx)⟩
end Go.Proofs.YteaalifehokgoaaGreatDoor
namespace Go.Proofs.YteaalifehokgoaaGreatDoor
open Go.RowKit Go.Sort Go.Proofs
def ownL (v : Value) : List Nat := v.ownBlock.toList
theorem mem_ownL {v : Value} {k : Nat} : k ∈ ownL v ↔ v.ownBlock = some k := by
 unfold ownL
 cases v.ownBlock with
 |none => simp
 |some g => simp [eq_comm]
theorem own_keptL {w w' : World} {B e size n : Nat} {v : Value} {xs : List Value} (h : w.ownsRow B e size v n xs) (hk : ∀ a ∈ ownL v, w'.heap[a]? = w.heap[a]?) : w'.ownsRow B e size v n xs := by
 refine ⟨h.1, ?_⟩
 rcases h.2 with h0 | ⟨g, cap, cur, h1, h2, h3, h4⟩
 ·exact .inl h0
 ·exact .inr ⟨g, cap, cur, h1, h2, (hk g (mem_ownL.2 (by rw [h1]; rfl))).trans h3, h4⟩
structure RdIn (w : World) (r m p : Nat) (F : List Nat) (v : Value) (S : RdV) : Prop where
 here : RdAt w r m p F S.1 S.2.1 v
 held : w.ownsRow 0 43 14 v S.2.2.length (flatL encEnt S.2.2)
 apart : ∀ g ∈ ownL v, g ≠ r ∧ g ≠ m ∧ g ∉ F
def RdIs (w : World) (r m p : Nat) (X : List Nat) (S : RdV) : Prop := ∃ F v, X = r :: m :: (ownL v ++ F) ∧ RdIn w r m p F v S
theorem RdAt.butF {w w' : World} {r m p : Nat} {F Z : List Nat} {B : BkV} {f : List UInt8 → Option SumsV} {v : Value} (h : RdAt w r m p F B f v) (hb : ButF Z w w') (hr : r ∉ Z) (hm : m ∉ Z) (hF : ∀ k ∈ F, k ∉ Z) : RdAt w' r m p F B f v :=
 ⟨(hb.block r (row_lt h.box) hr).trans h.box, h.book.butF hb hF, h.sums.keep (hb.block m h.sums.lt hm), h.rF, h.mF, h.rm⟩
theorem RdIs.lt {w : World} {r m p : Nat} {X : List Nat} {S : RdV} (h : RdIs w r m p X S) : ∀ k ∈ X, k < w.heap.size := fun k hk => by
 obtain ⟨F, v, rfl, h⟩ := h
 simp only [List.mem_cons, List.mem_append] at hk
 rcases hk with rfl | rfl | hk | hk
 ·exact row_lt h.here.box
 ·exact h.here.sums.lt
 ·exact (h.held.lt k (mem_ownL.1 hk)).2
 ·exact h.here.book.lt k hk
theorem RdIs.butF {w w' : World} {r m p : Nat} {X Z : List Nat} {S : RdV} (h : RdIs w r m p X S) (hb : ButF Z w w') (hX : ∀ k ∈ X, k ∉ Z) : RdIs w' r m p X S := by
 obtain ⟨F, v, rfl, h⟩ := h
 refine ⟨F, v, rfl, h.here.butF hb (hX r (by simp)) (hX m (by simp)) (fun k hk => hX k (by simp [hk])), own_keptL h.held fun a ha => hb.block a (h.held.lt a (mem_ownL.1 ha)).2 (hX a (by simp [ha])), h.apart⟩
theorem RdIs.below {w w' : World} {r m p : Nat} {X : List Nat} {S : RdV} (h : RdIs w r m p X S) (hb : Below w.heap.size w w') : RdIs w' r m p X S := h.butF (Z := []) (ButF.of_below hb) (by simp)
def RdEnds (o : Option RdV) (r m p : Nat) (X : List Nat) (w : World) (e : Ending) (w' : World) : Prop :=
 e = .returned (.bool o.isSome) ∧ ButF X w w' ∧ ∀ S', o = some S' → ∃ X', RdIs w' r m p X' S' ∧ ∀ k ∈ X', k ∈ X ∨ w.heap.size ≤ k
theorem RdEnds.none {r m p : Nat} {X : List Nat} {w w' : World} (h : ButF X w w') : RdEnds none r m p X w (.returned (.bool false)) w' := ⟨rfl, h, (fun S' e => by cases e)⟩
theorem RdEnds.after {o : Option RdV} {r m p : Nat} {X : List Nat} {w0 w w' : World} {e : Ending} (h : RdEnds o r m p X w e w') (hb : Below w0.heap.size w0 w) : RdEnds o r m p X w0 e w' :=
 ⟨h.1, (ButF.of_below hb).step h.2.1, fun S' hs => by
  obtain ⟨X', h1, h2⟩ := h.2.2 S' hs
  exact ⟨X', h1, fun k hk => (h2 k hk).imp_right fun h => Nat.le_trans hb.size h⟩⟩
theorem rdG_len {S : RdV} {ws : List (List UInt8)} (h : ws.length ≠ 6) : rdG S ws = none := by
 unfold rdG
 split
 ·simp at h
 ·rfl
theorem rdGoods_is (E : Nat → Addr) {r m p : Nat} {X : List Nat} {S : RdV} (cap : Nat) (A : Option Addr) (y : List UInt8) (ws : List (List UInt8)) {w : World} (H : RdIs w r m p X S) (hI : BkI S.1)
  (hrow : StrsAt w A (y :: ws)) (hcap : ws.length + 1 ≤ cap) (hgm : ∀ a, A = some a → a.block ∉ X) (hlen : ∀ x ∈ y :: ws, x.length ≤ 1000000000) (hT : TabG w) (hA : AtoiG w) (hG : ∀ W, ButF X w W → BkG E W) :
  Calls Tryz.prog 87 #[.pointer (some ⟨r, 0, none⟩), .slice A (ws.length + 1) cap] w (RdEnds (rdG S ws) r m p X w) := by
 by_cases h6 : ws.length = 6
 ·obtain ⟨c, x0, x1, x2, x3, x4, rfl⟩ : ∃ c x0 x1 x2 x3 x4, ws = [c, x0, x1, x2, x3, x4] := by
   match ws, h6 with
   |[c, x0, x1, x2, x3, x4], _ => exact ⟨c, x0, x1, x2, x3, x4, rfl⟩
  obtain ⟨F, v, rfl, h⟩ := H
  have hsub : ∀ i ∈ m :: F, i ∈ r :: m :: (ownL v ++ F) := fun i hi => by
   rcases List.mem_cons.1 hi with rfl | hi
   ·simp
   ·simp [hi]
  refine (rdGoods_any E cap A y c x0 x1 x2 x3 x4 h.here hI hrow hcap (fun a ha => ⟨fun e => hgm a ha (by simp [e]), fun e => hgm a ha (by simp [e])⟩) hlen hT hA (fun W hb => hG W (hb.mono fun i hi => .inl (hsub i hi)))).mono ?_
  rintro e w' ⟨rfl, hb, hs⟩
  have hb' := hb.mono (F' := r :: m :: (ownL v ++ F)) fun i hi => .inl (hsub i hi)
  cases hq : numsQ [x0, x1, x2, x3, x4] with
  |none =>
   have e1 : rdG S [c, x0, x1, x2, x3, x4] = none := by simp only [rdG, hq]
   rw [rdGoodsB_none hq, e1]
   exact RdEnds.none hb'
  |some ns =>
   obtain ⟨n0, n1, n2, n3, n4, rfl⟩ : ∃ n0 n1 n2 n3 n4, ns = [n0, n1, n2, n3, n4] := by
    have h := numsQ_len hq
    match ns, h with
    |[n0, n1, n2, n3, n4], _ => exact ⟨n0, n1, n2, n3, n4, rfl⟩
   have e0 := rdGoodsB_some (B := S.1) (y0 := y) (y1 := c) hq
   by_cases hd : doE S.1 (goodsX c n0) = 0
   ·have e1 : rdG S [c, x0, x1, x2, x3, x4] = some (doB S.1 (goodsX c n0), setF S.2.1 c (n1, n2, n3, n4), S.2.2) := by simp only [rdG, hq, if_pos hd]
    rw [decide_eq_true hd] at e0
    obtain ⟨k0, k1, k2, k3, k4, F', hk, hR, hF⟩ := hs e0
    rw [hq] at hk
    simp only [Option.some.injEq, List.cons.injEq, and_true] at hk
    obtain ⟨rfl, rfl, rfl, rfl, rfl⟩ := hk
    rw [e0, e1]
    refine ⟨rfl, hb', fun S' hS => ?_⟩
    cases hS
    refine ⟨r :: m :: (ownL v ++ F'), ⟨F', v, rfl, hR, own_keptL h.held fun a ha => hb.block a (h.held.lt a (mem_ownL.1 ha)).2 ?_, fun g hg => ?_⟩, fun k hk => ?_⟩
    ·obtain ⟨a1, a2, a3⟩ := h.apart a ha
     simp [a2, a3]
    ·obtain ⟨a1, a2, a3⟩ := h.apart g hg
     refine ⟨a1, a2, fun e => ?_⟩
     rcases hF g e with e | e
     ·exact a3 e
     ·have := (h.held.lt g (mem_ownL.1 hg)).2
      omega
    ·simp only [List.mem_cons, List.mem_append] at hk ⊢
     rcases hk with rfl | rfl | hk | hk
     ·exact .inl (.inl rfl)
     ·exact .inl (.inr (.inl rfl))
     ·exact .inl (.inr (.inr (.inl hk)))
     ·rcases hF k hk with hk | hk
      ·exact .inl (.inr (.inr (.inr hk)))
      ·exact .inr hk
   ·have e1 : rdG S [c, x0, x1, x2, x3, x4] = none := by simp only [rdG, hq, if_neg hd]
    rw [decide_eq_false hd] at e0
    rw [e0, e1]
    exact RdEnds.none hb'
 ·rw [rdG_len h6]
  refine (rdGoods_no r cap A (y :: ws) w (by simpa using h6)).mono ?_
  rintro e w' ⟨rfl, hb⟩
  exact RdEnds.none (ButF.of_below hb)
end Go.Proofs.YteaalifehokgoaaGreatDoor
namespace Go.Proofs.YteaalifehokgoaaGreatDoor
open Go.RowKit Go.Sort Go.Proofs
structure SnG (E : Nat → Addr) (w : World) : Prop where
 bk : BkG E w
 rd : ReadG E w
theorem SnG.below {E : Nat → Addr} {w w' : World} (h : SnG E w) (hb : Below w.heap.size w w') : SnG E w' := ⟨h.bk.below hb, h.rd.below hb⟩
theorem add_at (b j : Nat) : (⟨b, 0, none⟩ : Addr).add j = ⟨b, 0 + j, none⟩ := by
 unfold Addr.add
 split <;> simp_all
theorem entInfoH : (Tryz.prog.info? 43).map (fun i => (i.zero, i.size, i.bytes)) = some (some (.agg #[.string ⟨#[]⟩, .string ⟨#[]⟩, .int .i64 0, .string ⟨#[]⟩, .string ⟨#[]⟩, .int .i64 0, .int .i64 0, .string ⟨#[]⟩, .int .i64 0, .int .i64 0, .string ⟨#[]⟩, .int .i64 0, .int .i64 0, .int .i64 0]), 14, 160) := by kernel_rfl
theorem rdL_len {S : RdV} {ws : List (List UInt8)} (h : ws.length ≠ 5) : rdL S ws = none := by
 unfold rdL
 split
 ·simp at h
 ·rfl
theorem rdL_bad {S : RdV} {a b c d e : List UInt8} (h : (lotWords [a, b, c, d]).2 ≠ 0) : rdL S [a, b, c, d, e] = none := by
 simp only [rdL, if_neg h]
theorem rdL_none {S : RdV} {a b c d e : List UInt8} (h : numQ e 15 = none) : rdL S [a, b, c, d, e] = none := by
 simp only [rdL, h]
 split <;> rfl
theorem rdL_do {S : RdV} {a b c d e : List UInt8} {l : LotV} {n : Nat} (h : lotWords [a, b, c, d] = (l, 0)) (h2 : numQ e 15 = some n) :
  rdL S [a, b, c, d, e] = if doE S.1 (lotX l) = 0 then some (doB S.1 (lotX l), S.2.1, if n = 0 then S.2.2 else S.2.2 ++ [holdX l.1 n]) else none := by
 simp only [rdL, h, h2, if_pos]
set_option maxHeartbeats 1600000 in
set_option maxRecDepth 100000 in
theorem rdLot_no (r cap : Nat) (A : Option Addr) (N : Nat) (w : World) (hl : N ≠ 6) :
  Calls Tryz.prog 88 #[.pointer (some ⟨r, 0, none⟩), .slice A N cap] w fun e w' => e = .returned (.bool false) ∧ Below w.heap.size w w' := by
 go_enter Tryz.func88, Tryz.ntmps88
 go_wp2_with fail
 go_ret
 exact ⟨rfl, Below.refl _ _⟩
set_option maxHeartbeats 6400000 in
set_option maxRecDepth 100000 in
theorem rdLot_any (E : Nat → Addr) {r m p : Nat} {F : List Nat} {v : Value} {S : RdV} (cap : Nat) (A : Option Addr) (y a b c d e : List UInt8) {w : World} (H : RdIn w r m p F v S) (hI : BkI S.1) (hfew : S.2.2.length ≤ 100000)
  (hrow : StrsAt w A [y, a, b, c, d, e]) (hcap : 6 ≤ cap) (hgm : ∀ q, A = some q → q.block ∉ r :: m :: (ownL v ++ F)) (hlen : ∀ x ∈ [y, a, b, c, d, e], x.length ≤ 20000) (hno : ∀ x ∈ [a, b, c, d], (32 : UInt8) ∉ x)
  (hG : ∀ W, ButF (r :: m :: (ownL v ++ F)) w W → SnG E W) :
  Calls Tryz.prog 88 #[.pointer (some ⟨r, 0, none⟩), .slice A 6 cap] w (RdEnds (rdL S [a, b, c, d, e]) r m p (r :: m :: (ownL v ++ F)) w) := by
 obtain ⟨g, o, rfl, lg, cg⟩ := hrow.resolve_left (by simp)
 have hgX : g ∉ r :: m :: (ownL v ++ F) := hgm _ rfl
 have c5 : w.cell? ⟨g, o + 5, none⟩ = some (.string ⟨e.toArray⟩) := cg 5 (by simp)
 have hrow4 : StrsAt w (some ⟨g, o + 1, none⟩) [a, b, c, d] := .inr ⟨g, o + 1, rfl, lg, fun i hi => by
  match i, hi with
  |0, _ => exact cg 1 (by simp)
  |1, _ => exact cg 2 (by simp)
  |2, _ => exact cg 3 (by simp)
  |3, _ => exact cg 4 (by simp)
  |k + 4, h => exact absurd h (by simp)⟩
 have hjl : (joinL 32 [a, b, c, d]).length ≤ 100000 := by
  have h1 := hlen a (by simp)
  have h2 := hlen b (by simp)
  have h3 := hlen c (by simp)
  have h4 := hlen d (by simp)
  simp only [joinL, List.length_append, List.length_cons]
  omega
 have HJ := Lib.hid (joinLies_any 32 (some ⟨g, o + 1, none⟩) (cap - 1) [a, b, c, d] w hrow4 (by simp; omega) (by simp) (by omega))
 have hsp : splitL 32 (joinL 32 [a, b, c, d]) = [a, b, c, d] := splitL_join 32 _ (by simp) hno
 have HLR := Lib.hid (fun W (h : Below w.heap.size w W) => lotRead_any E ⟨(joinL 32 [a, b, c, d]).toArray⟩ (by simp [ByteArray.size]; omega) W ((hG w (ButF.refl _ _)).rd.below h))
 have hbt : bts ⟨(joinL 32 [a, b, c, d]).toArray⟩ = joinL 32 [a, b, c, d] := rfl
 rw [hbt, hsp] at HLR
 have he := hlen e (by simp)
 have HNU := Lib.hid (fun W (h : Below w.heap.size w W) => show Calls Tryz.prog 145 #[.string ⟨e.toArray⟩, .int .i64 15] W _ from numb_any e 15 (by omega) (by decide) W ((hG w (ButF.refl _ _)).rd.below h).tab ((hG w (ButF.refl _ _)).rd.below h).atoi)
 generalize hjj : joinL 32 [a, b, c, d] = J at HJ HLR
 have HH := Lib.hid H
 have HG := Lib.hid hG
 have HI := Lib.hid hI
 obtain ⟨l, ec, hLW⟩ : ∃ l ec, lotWords [a, b, c, d] = (l, ec) := ⟨_, _, rfl⟩
 rw [hLW] at HLR
 have HLW := Lib.hid hLW
 clear hrow hrow4 hlen cg H hG hgm hI hjl hsp hbt hjj hno hLW
 by_cases hec : ec ≠ 0
 ·have HF : Hid (rdL S [a, b, c, d, e] = none) := rdL_bad (by rw [HLW.out]; exact hec)
  rw [errOf_pos _ _ hec] at HLR
  rw [HF.out]
  obtain ⟨l1, l2, l3, l4⟩ := l
  simp only [encLot] at HLR
  clear HLW HF hec
  go_enter Tryz.func88, Tryz.ntmps88
  go_wp2_with fail
  refine HJ.out.mono ?_
  rintro e1 w1 ⟨rfl, b1⟩
  go_wp2_with fail
  refine (HLR.out w1 b1).mono ?_
  rintro e2 w2 ⟨rfl, b2⟩
  have B2 := Lib.hid (b1.trans (b2.mono b1.size))
  have B3 := Lib.hid (B2.out.trans ((below_one w2 (.cells #[.string ⟨l1.toArray⟩, .string ⟨l2.toArray⟩, .int .i64 l3, .int .i64 l4] 39)).mono B2.out.size))
  have c5' := (World.cell?_of_block (a := ⟨g, o + 5, none⟩) (B3.out.block g lg)).trans c5
  clear b1 b2 c5
  go_wp2_with fail
  refine (HNU.out _ B3.out).mono ?_
  rintro e3 w3 ⟨n, rfl, -, b3⟩
  have B4 := Lib.hid (B3.out.trans (b3.mono B3.out.size))
  clear b3
  go_wp2_with fail
  go_ret
  exact RdEnds.none (ButF.of_below B4.out)
 ·obtain rfl : ec = 0 := by simpa using hec
  rw [errOf_zero] at HLR
  obtain ⟨l1, l2, l3, l4⟩ := l
  simp only [encLot] at HLR
  have hlo := lotWords_ok (ws := [a, b, c, d]) (by rw [HLW.out])
  rw [HLW.out] at hlo
  obtain ⟨hn1, hn2, -⟩ := lot_zero hlo
  have hl1 : l1.length ≤ 1000000000 := Nat.le_trans (nameB_len hn1).2 (by omega)
  have hl2 : l2.length ≤ 1000000000 := Nat.le_trans (nameB_len hn2).2 (by omega)
  clear hlo hn1 hn2
  cases hq : numQ e 15 with
  |none =>
   have HF : Hid (rdL S [a, b, c, d, e] = none) := rdL_none hq
   rw [HF.out]
   rw [hq] at HNU
   simp only [Option.isSome_none] at HNU
   clear HF hq
   go_enter Tryz.func88, Tryz.ntmps88
   go_wp2_with fail
   refine HJ.out.mono ?_
   rintro e1 w1 ⟨rfl, b1⟩
   go_wp2_with fail
   refine (HLR.out w1 b1).mono ?_
   rintro e2 w2 ⟨rfl, b2⟩
   have B2 := Lib.hid (b1.trans (b2.mono b1.size))
   have B3 := Lib.hid (B2.out.trans ((below_one w2 (.cells #[.string ⟨l1.toArray⟩, .string ⟨l2.toArray⟩, .int .i64 l3, .int .i64 l4] 39)).mono B2.out.size))
   have c5' := (World.cell?_of_block (a := ⟨g, o + 5, none⟩) (B3.out.block g lg)).trans c5
   have hq3 := heap_alloc_new w2 (.cells #[.string ⟨l1.toArray⟩, .string ⟨l2.toArray⟩, .int .i64 l3, .int .i64 l4] 39)
   clear b1 b2 c5
   go_wp2_with fail
   refine (HNU.out _ B3.out).mono ?_
   rintro e3 w3 ⟨n, rfl, -, b3⟩
   have B4 := Lib.hid (B3.out.trans (b3.mono B3.out.size))
   clear b3 hq3
   go_wp2_with fail
   go_ret
   exact RdEnds.none (ButF.of_below B4.out)
  |some n =>
   have HF := Lib.hid (rdL_do (S := S) HLW.out hq)
   rw [hq] at HNU
   simp only [Option.isSome_some] at HNU
   clear hq
   go_enter Tryz.func88, Tryz.ntmps88
   go_wp2_with fail
   refine HJ.out.mono ?_
   rintro e1 w1 ⟨rfl, b1⟩
   go_wp2_with fail
   refine (HLR.out w1 b1).mono ?_
   rintro e2 w2 ⟨rfl, b2⟩
   have B2 := Lib.hid (b1.trans (b2.mono b1.size))
   have B3 := Lib.hid (B2.out.trans ((below_one w2 (.cells #[.string ⟨l1.toArray⟩, .string ⟨l2.toArray⟩, .int .i64 l3, .int .i64 l4] 39)).mono B2.out.size))
   have c5' := (World.cell?_of_block (a := ⟨g, o + 5, none⟩) (B3.out.block g lg)).trans c5
   have hq3 := heap_alloc_new w2 (.cells #[.string ⟨l1.toArray⟩, .string ⟨l2.toArray⟩, .int .i64 l3, .int .i64 l4] 39)
   clear b1 b2 c5
   go_wp2_with fail
   refine (HNU.out _ B3.out).mono ?_
   rintro e3 w3 ⟨n', rfl, hn', b3⟩
   obtain rfl : n' = (n : Int) := hn' n rfl
   have B4 := Lib.hid (B3.out.trans (b3.mono B3.out.size))
   have RQ := Lib.hid ((b3.block _ (row_lt hq3)).trans hq3)
   have RB := Lib.hid ((B4.out.block r (row_lt HH.out.here.box)).trans HH.out.here.box)
   clear b3 hq3 hn' c5'
   by_cases hn : n = 0
   ·subst hn
    rw [if_pos rfl] at HF
    have RBX := RB
    have RQX := RQ
    have BKX := Lib.hid (HH.out.here.book.below B4.out)
    have SMX := Lib.hid (HH.out.here.sums.below B4.out)
    have OWX := Lib.hid (own_keptL HH.out.held fun a ha => B4.out.block a (HH.out.held.lt a (mem_ownL.1 ha)).2)
    have APX : Hid (∀ a ∈ ownL v, a ≠ r ∧ a ≠ m ∧ a ∉ F ∧ (a ∈ ownL v ∨ w.heap.size ≤ a)) := fun a ha => ⟨(HH.out.apart a ha).1, (HH.out.apart a ha).2.1, (HH.out.apart a ha).2.2, .inl ha⟩
    have UX := Lib.hid (ButF.of_below (F := r :: m :: (ownL v ++ F)) B4.out)
    clear RB RQ
    have hrx := row_lt RBX.out
    have hqx := row_lt RQX.out
    have hFq : w2.heap.size ∉ F := fun h => by have := HH.out.here.book.lt _ h; have := B2.out.size; omega
    have hd0 : Below w3.heap.size w3 w3.drew := (Below.refl _ _).drew
    have HDO : Hid (∀ W, Below w3.heap.size w3 W → Calls Tryz.prog 12 #[.pointer (some ⟨p, 0, none⟩), .agg #[.string ⟨#[108, 111, 116]⟩, .string ⟨#[]⟩, .int .i64 0, .string ⟨l1.toArray⟩, .string ⟨l2.toArray⟩, .int .i64 l3, .int .i64 l4, .string ⟨#[]⟩, .int .i64 0, .int .i64 0, .string ⟨#[]⟩, .int .i64 0, .int .i64 0, .int .i64 0]] W fun e w' => e = .returned (errOf E (doE S.1 (lotX (l1, l2, l3, l4)))) ∧ (∃ F', BookIs w' p F' (doB S.1 (lotX (l1, l2, l3, l4))) ∧ ∀ k ∈ F', k ∈ F ∨ W.heap.size ≤ k) ∧ ButF F W w') := fun W hb =>
     do_any E (lotX (l1, l2, l3, l4)) (BKX.out.below hb) HI.out hl1 hl2 (HG.out W (UX.out.then_below hb)).bk
    have HC : Hid (∀ W : World, W.heap[r]? = w3.heap[r]? → W.heap[w2.heap.size]? = w3.heap[w2.heap.size]? → W.cell? ⟨r, 0, none⟩ = some (.pointer (some ⟨p, 0, none⟩)) ∧ W.cell? ⟨w2.heap.size, 0, none⟩ = some (.string ⟨l1.toArray⟩) ∧ W.cell? ⟨w2.heap.size, 1, none⟩ = some (.string ⟨l2.toArray⟩) ∧ W.cell? ⟨w2.heap.size, 2, none⟩ = some (.int .i64 l3) ∧ W.cell? ⟨w2.heap.size, 3, none⟩ = some (.int .i64 l4)) := fun W q1 q2 => by
     have t1 := q1.trans RBX.out
     have t2 := q2.trans RQX.out
     exact ⟨(cell_of_row _ _ _ _ _ _ t1).trans rfl, (cell_of_row _ _ _ _ _ _ t2).trans rfl, (cell_of_row _ _ _ _ _ _ t2).trans rfl, (cell_of_row _ _ _ _ _ _ t2).trans rfl, (cell_of_row _ _ _ _ _ _ t2).trans rfl⟩
    have hc0 := HC.out w3.drew rfl rfl
    have HSU : Hid (∀ W : World, ButF F w3.drew W → W.cell? ⟨r, 0, none⟩ = some (.pointer (some ⟨p, 0, none⟩)) ∧ W.cell? ⟨w2.heap.size, 0, none⟩ = some (.string ⟨l1.toArray⟩) ∧ W.cell? ⟨w2.heap.size, 1, none⟩ = some (.string ⟨l2.toArray⟩) ∧ W.cell? ⟨w2.heap.size, 2, none⟩ = some (.int .i64 l3) ∧ W.cell? ⟨w2.heap.size, 3, none⟩ = some (.int .i64 l4)) := fun W hu => HC.out W (hu.block r hrx HH.out.here.rF) (hu.block _ hqx hFq)
    have HFR := Lib.hid hFq
    clear hFq
    by_cases hd : doE S.1 (lotX (l1, l2, l3, l4)) = 0
    ·rw [hd] at HDO
     simp only [errOf_zero] at HDO
     have HD := Lib.hid hd
     clear hd
     go_wp2_with fail
     go_region_held3 (fun W => W.cell? ⟨r, 0, none⟩ = some (.pointer (some ⟨p, 0, none⟩)) ∧ W.cell? ⟨w2.heap.size, 0, none⟩ = some (.string ⟨l1.toArray⟩) ∧ W.cell? ⟨w2.heap.size, 1, none⟩ = some (.string ⟨l2.toArray⟩) ∧ W.cell? ⟨w2.heap.size, 2, none⟩ = some (.int .i64 l3) ∧ W.cell? ⟨w2.heap.size, 3, none⟩ = some (.int .i64 l4))
      (first | exact hc0 | exact HSU.out _ hU | go_keep)
      (first | (go_at_call 12; refine (HDO.out _ hd0).mono ?_; rintro e v1 ⟨rfl, hX, hU⟩))
     all_goals
      have HX := Lib.hid hX
      have HU := Lib.hid hU
      clear hX hU hc0 hd0
      go_wp2_with fail
      go_ret
      rw [HF.out, if_pos HD.out]
      refine ⟨rfl, UX.out.drew.step (HU.out.mono fun i hi => .inl (by simp [hi])), fun S' hS => ?_⟩
      cases hS
      have hb0 := UX.out.size
      obtain ⟨F', hB, hk⟩ := HX.out
      have hk' : ∀ j ∈ F', j ∈ F ∨ w3.heap.size ≤ j := hk
      have hno' : ∀ j, j < w3.heap.size → j ∉ F → j ∉ F' := fun j hj hf h => by
       rcases hk' j h with h | h
       ·exact hf h
       ·omega
      refine ⟨r :: m :: (ownL v ++ F'), ⟨F', v, rfl, ⟨⟨(HU.out.block r hrx HH.out.here.rF).trans RBX.out, hB, SMX.out.keep (HU.out.block m SMX.out.lt HH.out.here.mF), hno' r hrx HH.out.here.rF, hno' m SMX.out.lt HH.out.here.mF, HH.out.here.rm⟩, own_keptL OWX.out fun a ha => HU.out.block a (OWX.out.lt a (mem_ownL.1 ha)).2 (APX.out a ha).2.2.1, fun a ha => ⟨(APX.out a ha).1, (APX.out a ha).2.1, hno' a (OWX.out.lt a (mem_ownL.1 ha)).2 (APX.out a ha).2.2.1⟩⟩⟩, fun k hk => ?_⟩
      simp only [List.mem_cons, List.mem_append] at hk ⊢
      rcases hk with rfl | rfl | hk | hk
      ·exact .inl (.inl rfl)
      ·exact .inl (.inr (.inl rfl))
      ·rcases (APX.out k hk).2.2.2 with h | h
       ·exact .inl (.inr (.inr (.inl h)))
       ·exact .inr h
      ·rcases hk' k hk with h | h
       ·exact .inl (.inr (.inr (.inr h)))
       ·exact .inr (Nat.le_trans hb0 h)
    ·rw [errOf_pos _ _ hd] at HDO
     have HD := Lib.hid hd
     clear hd
     go_wp2_with fail
     go_region_held3 (fun W => W.cell? ⟨r, 0, none⟩ = some (.pointer (some ⟨p, 0, none⟩)) ∧ W.cell? ⟨w2.heap.size, 0, none⟩ = some (.string ⟨l1.toArray⟩) ∧ W.cell? ⟨w2.heap.size, 1, none⟩ = some (.string ⟨l2.toArray⟩) ∧ W.cell? ⟨w2.heap.size, 2, none⟩ = some (.int .i64 l3) ∧ W.cell? ⟨w2.heap.size, 3, none⟩ = some (.int .i64 l4))
      (first | exact hc0 | exact HSU.out _ hU | go_keep)
      (first | (go_at_call 12; refine (HDO.out _ hd0).mono ?_; rintro e v1 ⟨rfl, hX, hU⟩))
     all_goals
      have HU := Lib.hid hU
      clear hX hU hc0 hd0
      go_wp2_with fail
      go_ret
      rw [HF.out, if_neg HD.out]
      exact RdEnds.none (UX.out.drew.step (HU.out.mono fun i hi => .inl (by simp [hi])))
   ·have hn0 : (0 : Int) < (n : Int) := by omega
    rw [if_neg hn] at HF
    obtain ⟨i0, hi, hz0, hz1, hz2⟩ := info_parts entInfoH
    have hrow3 : ((w3.alloc (.cells #[.string ⟨#[104, 111, 108, 100]⟩, .string ⟨#[]⟩, .int .i64 0, .string ⟨l1.toArray⟩, .string ⟨#[]⟩, .int .i64 0, .int .i64 0, .string ⟨#[]⟩, .int .i64 0, .int .i64 0, .string ⟨#[]⟩, .int .i64 0, .int .i64 0, .int .i64 n] 43)).drew).heap[w3.heap.size]? = some (.cells (encEnt (holdX l1 n)).toArray 43 (0, 0)) := heap_alloc_new w3 _
    have hown3 : ((w3.alloc (.cells #[.string ⟨#[104, 111, 108, 100]⟩, .string ⟨#[]⟩, .int .i64 0, .string ⟨l1.toArray⟩, .string ⟨#[]⟩, .int .i64 0, .int .i64 0, .string ⟨#[]⟩, .int .i64 0, .int .i64 0, .string ⟨#[]⟩, .int .i64 0, .int .i64 0, .int .i64 n] 43)).drew).ownsRow 0 43 14 v S.2.2.length (flatL encEnt S.2.2) :=
     own_keptL HH.out.held fun a ha => (Below.heap_alloc _ _ _ (Nat.lt_of_lt_of_le (HH.out.held.lt a (mem_ownL.1 ha)).2 B4.out.size)).trans (B4.out.block a (HH.out.held.lt a (mem_ownL.1 ha)).2)
    have hrv : ∀ a ∈ ownL v, a ≠ r ∧ a ≠ m ∧ a ∉ F := HH.out.apart
    have hvl : ∀ a ∈ ownL v, a < w.heap.size := fun a ha => (HH.out.held.lt a (mem_ownL.1 ha)).2
    have hr3 := row_lt RB.out
    have hq3 := row_lt RQ.out
    have hw2 := B2.out.size
    have hnews : ∀ (j : Nat) u, (encEnt (holdX l1 n))[j]? = some u → ((w3.alloc (.cells #[.string ⟨#[104, 111, 108, 100]⟩, .string ⟨#[]⟩, .int .i64 0, .string ⟨l1.toArray⟩, .string ⟨#[]⟩, .int .i64 0, .int .i64 0, .string ⟨#[]⟩, .int .i64 0, .int .i64 0, .string ⟨#[]⟩, .int .i64 0, .int .i64 0, .int .i64 n] 43)).drew).cell? ((⟨w3.heap.size, 0, none⟩ : Addr).add j) = some u := fun j u hu => by
     rw [add_at]
     exact Lies.row (encEnt (holdX l1 n)) hrow3 j u hu
    have HROW : Hid (∀ W : World, W.heap[r]? = w3.heap[r]? → W.heap[w2.heap.size]? = w3.heap[w2.heap.size]? → W.cell? ⟨r, 2, none⟩ = some v ∧ W.frozen? ⟨r, 2, none⟩ = false ∧ W.cell? ⟨w2.heap.size, 0, none⟩ = some (.string ⟨l1.toArray⟩)) := fun W q1 q2 => by
     have t1 := q1.trans RB.out
     have t2 := q2.trans RQ.out
     exact ⟨(cell_of_row _ _ _ _ _ _ t1).trans rfl, by simp [World.frozen?, t1], (cell_of_row _ _ _ _ _ _ t2).trans rfl⟩
    have hk0 := HROW.out w3.drew rfl rfl
    have HKA : Hid (∀ W : World, ((w3.alloc (.cells #[.string ⟨#[104, 111, 108, 100]⟩, .string ⟨#[]⟩, .int .i64 0, .string ⟨l1.toArray⟩, .string ⟨#[]⟩, .int .i64 0, .int .i64 0, .string ⟨#[]⟩, .int .i64 0, .int .i64 0, .string ⟨#[]⟩, .int .i64 0, .int .i64 0, .int .i64 n] 43)).drew).grownBy W v.ownBlock → W.cell? ⟨r, 2, none⟩ = some v ∧ W.frozen? ⟨r, 2, none⟩ = false ∧ W.cell? ⟨w2.heap.size, 0, none⟩ = some (.string ⟨l1.toArray⟩)) := fun W hg => HROW.out W ((hg.block r (by simp; omega) fun e => (hrv r (mem_ownL.2 e.symm)).1 rfl).trans (Below.heap_alloc _ _ _ hr3)) ((hg.block _ (by simp; omega) fun e => by have := hvl _ (mem_ownL.2 e.symm); omega).trans (Below.heap_alloc _ _ _ hq3))
    have hk1 : ∀ W, W = ((w3.alloc (.cells #[.string ⟨#[104, 111, 108, 100]⟩, .string ⟨#[]⟩, .int .i64 0, .string ⟨l1.toArray⟩, .string ⟨#[]⟩, .int .i64 0, .int .i64 0, .string ⟨#[]⟩, .int .i64 0, .int .i64 0, .string ⟨#[]⟩, .int .i64 0, .int .i64 0, .int .i64 n] 43)).drew) → W.cell? ⟨r, 2, none⟩ = some v ∧ W.frozen? ⟨r, 2, none⟩ = false ∧ W.cell? ⟨w2.heap.size, 0, none⟩ = some (.string ⟨l1.toArray⟩) := fun W hW => by
     rw [hW]
     exact HROW.out _ (Below.heap_alloc _ _ _ hr3) (Below.heap_alloc _ _ _ hq3)
    have HRV := Lib.hid hrv
    have HVL := Lib.hid hvl
    have HK1 := Lib.hid hk1
    clear hrv hvl hk1
    go_upto_region 8 with fail
    obtain ⟨e0, -, e1⟩ := HROW.out w3 rfl rfl
    obtain ⟨e2, -, e3⟩ := HK1.out _ rfl
    go_region_law
     ((refine step_append_lies _ (by rfl) _ _ _ (by rfl) 0 43 i0 _ 14 160 Tryz.underlying22 hi hz0 hz1 hz2 (by rfl) (by decide) v S.2.2.length _ (by rfl) hown3 ⟨w3.heap.size, 0, none⟩ 1 1 (encEnt (holdX l1 n)) (by rfl) (by rfl) hnews (encEnt_one _) (by decide) (by simp only [maxLen]; omega) (by omega) (Nat.zero_le _) (w3.heap.size + 1) (by simp) ?_; intro g2 cap2 w4 hown4 hgrow hat4 hlt4; obtain ⟨j1, j2, j3⟩ := HKA.out _ hgrow))
    all_goals
     have uA : ButF (r :: m :: (ownL v ++ F)) w ((w3.alloc (.cells #[.string ⟨#[104, 111, 108, 100]⟩, .string ⟨#[]⟩, .int .i64 0, .string ⟨l1.toArray⟩, .string ⟨#[]⟩, .int .i64 0, .int .i64 0, .string ⟨#[]⟩, .int .i64 0, .int .i64 0, .string ⟨#[]⟩, .int .i64 0, .int .i64 0, .int .i64 n] 43)).drew) := ((ButF.of_below B4.out).then_below (below_one w3 _)).drew
     have uB : ButF (r :: m :: (ownL v ++ F)) ((w3.alloc (.cells #[.string ⟨#[104, 111, 108, 100]⟩, .string ⟨#[]⟩, .int .i64 0, .string ⟨l1.toArray⟩, .string ⟨#[]⟩, .int .i64 0, .int .i64 0, .string ⟨#[]⟩, .int .i64 0, .int .i64 0, .string ⟨#[]⟩, .int .i64 0, .int .i64 0, .int .i64 n] 43)).drew) w4 := ⟨hgrow.os, hgrow.tape, hgrow.output, hgrow.size, fun k hk hf => hgrow.block k hk fun e => hf (by have := mem_ownL.2 e.symm; simp [this])⟩
     have uC : ButF (r :: m :: (ownL v ++ F)) w4 (w4.setCell ⟨r, 2, none⟩ (.slice (some ⟨g2, 0, none⟩) (S.2.2.length + 1) cap2)) := ⟨rfl, rfl, rfl, by simp [World.setCell], fun k _ hk => Below.heap_setCell _ _ _ _ fun e => hk (by simp [e])⟩
     have UX := Lib.hid ((uA.step uB).step uC)
     have hsz4 : w3.heap.size + 1 ≤ w4.heap.size := by have := hgrow.size; simpa using this
     have k4 : ∀ k, k < w3.heap.size → k ∉ ownL v → w4.heap[k]? = w3.heap[k]? := fun k hk hv => (hgrow.block k (by simp; omega) fun e => hv (mem_ownL.2 e.symm)).trans (Below.heap_alloc _ _ _ hk)
     have kx : ∀ k, k < w3.heap.size → k ∉ ownL v → k ≠ r → (w4.setCell ⟨r, 2, none⟩ (.slice (some ⟨g2, 0, none⟩) (S.2.2.length + 1) cap2)).heap[k]? = w3.heap[k]? := fun k hk hv hr => (Below.heap_setCell _ _ _ _ hr).trans (k4 k hk hv)
     have hFl := HH.out.here.book.lt
     have hb4 := B4.out.size
     have RBX : Hid ((w4.setCell ⟨r, 2, none⟩ (.slice (some ⟨g2, 0, none⟩) (S.2.2.length + 1) cap2)).heap[r]? = some (.cells #[.pointer (some ⟨p, 0, none⟩), .map (some m), (.slice (some ⟨g2, 0, none⟩) (S.2.2.length + 1) cap2)] 95 (0, 0))) := heap_setCell_same w4 r 2 _ _ _ ((k4 r hr3 fun h => (HRV.out r h).1 rfl).trans RB.out)
     have RQX : Hid ((w4.setCell ⟨r, 2, none⟩ (.slice (some ⟨g2, 0, none⟩) (S.2.2.length + 1) cap2)).heap[w2.heap.size]? = some (.cells #[.string ⟨l1.toArray⟩, .string ⟨l2.toArray⟩, .int .i64 l3, .int .i64 l4] 39 (0, 0))) := (kx _ hq3 (fun h => by have := HVL.out _ h; omega) (by have := row_lt HH.out.here.box; omega)).trans RQ.out
     have BKX : Hid (BookIs (w4.setCell ⟨r, 2, none⟩ (.slice (some ⟨g2, 0, none⟩) (S.2.2.length + 1) cap2)) p F S.1) := HH.out.here.book.keep fun k hk => (kx k (Nat.lt_of_lt_of_le (hFl k hk) hb4) (fun h => (HRV.out k h).2.2 hk) (fun e => HH.out.here.rF (e ▸ hk))).trans (B4.out.block k (hFl k hk))
     have SMX : Hid (MapF eSums (w4.setCell ⟨r, 2, none⟩ (.slice (some ⟨g2, 0, none⟩) (S.2.2.length + 1) cap2)) m S.2.1) := HH.out.here.sums.keep ((kx m (Nat.lt_of_lt_of_le HH.out.here.sums.lt hb4) (fun h => (HRV.out m h).2.1 rfl) (Ne.symm HH.out.here.rm)).trans (B4.out.block m HH.out.here.sums.lt))
     have hg2 : g2 ≠ r ∧ g2 ≠ m ∧ g2 ∉ F ∧ (g2 ∈ ownL v ∨ w.heap.size ≤ g2) := by
      have hr0 := row_lt HH.out.here.box
      have hm0 := HH.out.here.sums.lt
      rcases hat4 with h | h
      ·obtain ⟨a1, a2, a3⟩ := HRV.out g2 (mem_ownL.2 h)
       exact ⟨a1, a2, a3, .inl (mem_ownL.2 h)⟩
      ·exact ⟨by omega, by omega, fun hf => by have := hFl g2 hf; omega, .inr (by omega)⟩
     have OWX : Hid ((w4.setCell ⟨r, 2, none⟩ (.slice (some ⟨g2, 0, none⟩) (S.2.2.length + 1) cap2)).ownsRow 0 43 14 (.slice (some ⟨g2, 0, none⟩) (S.2.2.length + 1) cap2) (S.2.2 ++ [holdX l1 n]).length (flatL encEnt (S.2.2 ++ [holdX l1 n]))) := by
      have h := own_keptL (w' := (w4.setCell ⟨r, 2, none⟩ (.slice (some ⟨g2, 0, none⟩) (S.2.2.length + 1) cap2))) hown4 fun a ha => Below.heap_setCell _ _ _ _ (by
       have ha : a = g2 := by simpa [ownL, Value.ownBlock] using ha
       rw [ha]
       exact hg2.1)
      rw [List.length_append, List.length_singleton, flatL_append]
      exact h
     have APX : Hid (∀ a ∈ ownL (.slice (some ⟨g2, 0, none⟩) (S.2.2.length + 1) cap2), a ≠ r ∧ a ≠ m ∧ a ∉ F ∧ (a ∈ ownL v ∨ w.heap.size ≤ a)) := fun a ha => by
      have ha : a = g2 := by simpa [ownL, Value.ownBlock] using ha
      rw [ha]
      exact hg2
     generalize hwx : w4.setCell ⟨r, 2, none⟩ (.slice (some ⟨g2, 0, none⟩) (S.2.2.length + 1) cap2) = wx at UX RBX RQX BKX SMX OWX ⊢
     generalize hvx : Value.slice (some ⟨g2, 0, none⟩) (S.2.2.length + 1) cap2 = vx at RBX OWX APX hwx ⊢
     clear hwx hvx uA uB uC hsz4 k4 kx hFl hb4 hg2 hown4 hgrow hat4 hlt4 j1 j2 j3 e0 e1 e2 e3 hnews hrow3 hown3 hk0 hr3 hq3 hw2 hi hz0 hz1 hz2
     have hrx := row_lt RBX.out
     have hqx := row_lt RQX.out
     have hFq : w2.heap.size ∉ F := fun h => by have := HH.out.here.book.lt _ h; have := B2.out.size; omega
     have hd0 : Below wx.heap.size wx wx.drew := (Below.refl _ _).drew
     have HDO : Hid (∀ W, Below wx.heap.size wx W → Calls Tryz.prog 12 #[.pointer (some ⟨p, 0, none⟩), .agg #[.string ⟨#[108, 111, 116]⟩, .string ⟨#[]⟩, .int .i64 0, .string ⟨l1.toArray⟩, .string ⟨l2.toArray⟩, .int .i64 l3, .int .i64 l4, .string ⟨#[]⟩, .int .i64 0, .int .i64 0, .string ⟨#[]⟩, .int .i64 0, .int .i64 0, .int .i64 0]] W fun e w' => e = .returned (errOf E (doE S.1 (lotX (l1, l2, l3, l4)))) ∧ (∃ F', BookIs w' p F' (doB S.1 (lotX (l1, l2, l3, l4))) ∧ ∀ k ∈ F', k ∈ F ∨ W.heap.size ≤ k) ∧ ButF F W w') := fun W hb =>
      do_any E (lotX (l1, l2, l3, l4)) (BKX.out.below hb) HI.out hl1 hl2 (HG.out W (UX.out.then_below hb)).bk
     have HC : Hid (∀ W : World, W.heap[r]? = wx.heap[r]? → W.heap[w2.heap.size]? = wx.heap[w2.heap.size]? → W.cell? ⟨r, 0, none⟩ = some (.pointer (some ⟨p, 0, none⟩)) ∧ W.cell? ⟨w2.heap.size, 0, none⟩ = some (.string ⟨l1.toArray⟩) ∧ W.cell? ⟨w2.heap.size, 1, none⟩ = some (.string ⟨l2.toArray⟩) ∧ W.cell? ⟨w2.heap.size, 2, none⟩ = some (.int .i64 l3) ∧ W.cell? ⟨w2.heap.size, 3, none⟩ = some (.int .i64 l4)) := fun W q1 q2 => by
      have t1 := q1.trans RBX.out
      have t2 := q2.trans RQX.out
      exact ⟨(cell_of_row _ _ _ _ _ _ t1).trans rfl, (cell_of_row _ _ _ _ _ _ t2).trans rfl, (cell_of_row _ _ _ _ _ _ t2).trans rfl, (cell_of_row _ _ _ _ _ _ t2).trans rfl, (cell_of_row _ _ _ _ _ _ t2).trans rfl⟩
     have hc0 := HC.out wx.drew rfl rfl
     have HSU : Hid (∀ W : World, ButF F wx.drew W → W.cell? ⟨r, 0, none⟩ = some (.pointer (some ⟨p, 0, none⟩)) ∧ W.cell? ⟨w2.heap.size, 0, none⟩ = some (.string ⟨l1.toArray⟩) ∧ W.cell? ⟨w2.heap.size, 1, none⟩ = some (.string ⟨l2.toArray⟩) ∧ W.cell? ⟨w2.heap.size, 2, none⟩ = some (.int .i64 l3) ∧ W.cell? ⟨w2.heap.size, 3, none⟩ = some (.int .i64 l4)) := fun W hu => HC.out W (hu.block r hrx HH.out.here.rF) (hu.block _ hqx hFq)
     have HFR := Lib.hid hFq
     clear hFq
     by_cases hd : doE S.1 (lotX (l1, l2, l3, l4)) = 0
     ·rw [hd] at HDO
      simp only [errOf_zero] at HDO
      have HD := Lib.hid hd
      clear hd
      go_wp2_with fail
      go_region_held3 (fun W => W.cell? ⟨r, 0, none⟩ = some (.pointer (some ⟨p, 0, none⟩)) ∧ W.cell? ⟨w2.heap.size, 0, none⟩ = some (.string ⟨l1.toArray⟩) ∧ W.cell? ⟨w2.heap.size, 1, none⟩ = some (.string ⟨l2.toArray⟩) ∧ W.cell? ⟨w2.heap.size, 2, none⟩ = some (.int .i64 l3) ∧ W.cell? ⟨w2.heap.size, 3, none⟩ = some (.int .i64 l4))
       (first | exact hc0 | exact HSU.out _ hU | go_keep)
       (first | (go_at_call 12; refine (HDO.out _ hd0).mono ?_; rintro e v1 ⟨rfl, hX, hU⟩))
      all_goals
       have HX := Lib.hid hX
       have HU := Lib.hid hU
       clear hX hU hc0 hd0
       go_wp2_with fail
       go_ret
       rw [HF.out, if_pos HD.out]
       refine ⟨rfl, UX.out.drew.step (HU.out.mono fun i hi => .inl (by simp [hi])), fun S' hS => ?_⟩
       cases hS
       have hb0 := UX.out.size
       obtain ⟨F', hB, hk⟩ := HX.out
       have hk' : ∀ j ∈ F', j ∈ F ∨ wx.heap.size ≤ j := hk
       have hno' : ∀ j, j < wx.heap.size → j ∉ F → j ∉ F' := fun j hj hf h => by
        rcases hk' j h with h | h
        ·exact hf h
        ·omega
       refine ⟨r :: m :: (ownL vx ++ F'), ⟨F', vx, rfl, ⟨⟨(HU.out.block r hrx HH.out.here.rF).trans RBX.out, hB, SMX.out.keep (HU.out.block m SMX.out.lt HH.out.here.mF), hno' r hrx HH.out.here.rF, hno' m SMX.out.lt HH.out.here.mF, HH.out.here.rm⟩, own_keptL OWX.out fun a ha => HU.out.block a (OWX.out.lt a (mem_ownL.1 ha)).2 (APX.out a ha).2.2.1, fun a ha => ⟨(APX.out a ha).1, (APX.out a ha).2.1, hno' a (OWX.out.lt a (mem_ownL.1 ha)).2 (APX.out a ha).2.2.1⟩⟩⟩, fun k hk => ?_⟩
       simp only [List.mem_cons, List.mem_append] at hk ⊢
       rcases hk with rfl | rfl | hk | hk
       ·exact .inl (.inl rfl)
       ·exact .inl (.inr (.inl rfl))
       ·rcases (APX.out k hk).2.2.2 with h | h
        ·exact .inl (.inr (.inr (.inl h)))
        ·exact .inr h
       ·rcases hk' k hk with h | h
        ·exact .inl (.inr (.inr (.inr h)))
        ·exact .inr (Nat.le_trans hb0 h)
     ·rw [errOf_pos _ _ hd] at HDO
      have HD := Lib.hid hd
      clear hd
      go_wp2_with fail
      go_region_held3 (fun W => W.cell? ⟨r, 0, none⟩ = some (.pointer (some ⟨p, 0, none⟩)) ∧ W.cell? ⟨w2.heap.size, 0, none⟩ = some (.string ⟨l1.toArray⟩) ∧ W.cell? ⟨w2.heap.size, 1, none⟩ = some (.string ⟨l2.toArray⟩) ∧ W.cell? ⟨w2.heap.size, 2, none⟩ = some (.int .i64 l3) ∧ W.cell? ⟨w2.heap.size, 3, none⟩ = some (.int .i64 l4))
       (first | exact hc0 | exact HSU.out _ hU | go_keep)
       (first | (go_at_call 12; refine (HDO.out _ hd0).mono ?_; rintro e v1 ⟨rfl, hX, hU⟩))
      all_goals
       have HU := Lib.hid hU
       clear hX hU hc0 hd0
       go_wp2_with fail
       go_ret
       rw [HF.out, if_neg HD.out]
       exact RdEnds.none (UX.out.drew.step (HU.out.mono fun i hi => .inl (by simp [hi])))
theorem rdLot_is (E : Nat → Addr) {r m p : Nat} {X : List Nat} {S : RdV} (cap : Nat) (A : Option Addr) (y : List UInt8) (ws : List (List UInt8)) {w : World} (H : RdIs w r m p X S) (hI : BkI S.1) (hfew : S.2.2.length ≤ 100000)
  (hrow : StrsAt w A (y :: ws)) (hcap : ws.length + 1 ≤ cap) (hgm : ∀ a, A = some a → a.block ∉ X) (hlen : ∀ x ∈ y :: ws, x.length ≤ 20000) (hno : ∀ x ∈ ws, (32 : UInt8) ∉ x) (hG : ∀ W, ButF X w W → SnG E W) :
  Calls Tryz.prog 88 #[.pointer (some ⟨r, 0, none⟩), .slice A (ws.length + 1) cap] w (RdEnds (rdL S ws) r m p X w) := by
 by_cases h5 : ws.length = 5
 ·obtain ⟨a, b, c, d, e, rfl⟩ : ∃ a b c d e, ws = [a, b, c, d, e] := by
   match ws, h5 with
   |[a, b, c, d, e], _ => exact ⟨a, b, c, d, e, rfl⟩
  obtain ⟨F, v, rfl, h⟩ := H
  exact rdLot_any E cap A y a b c d e h hI hfew hrow hcap hgm hlen (fun x hx => hno x (by simp only [List.mem_cons, List.not_mem_nil, or_false] at hx ⊢; rcases hx with h | h | h | h <;> simp [h])) hG
 ·rw [rdL_len h5]
  refine (rdLot_no r cap A (ws.length + 1) w (by omega)).mono ?_
  rintro e w' ⟨rfl, hb⟩
  exact RdEnds.none (ButF.of_below hb)
end Go.Proofs.YteaalifehokgoaaGreatDoor
namespace Go.Proofs.YteaalifehokgoaaGreatDoor
open Go.RowKit Go.Sort Go.Proofs
theorem split_cap (s : ByteArray) (c : UInt8) (w : World) (hs : s.size ≤ 1000000000) (hM : MaxG w) :
  Calls Tryz.prog 86 #[.string s, .string ⟨#[c]⟩] w fun e w' => ∃ g, e = .returned (.slice (some ⟨g, 0, none⟩) (splitL c (bts s)).length (splitL c (bts s)).length) ∧ StrsAt w' (some ⟨g, 0, none⟩) (splitL c (bts s)) ∧ w.heap.size ≤ g ∧ Below w.heap.size w w' := by
 obtain ⟨m, hm⟩ := hM
 refine (Tryz.strings_Split s ⟨#[c]⟩ m w (by omega) hm (by show 1 ≤ (#[c] : Array UInt8).size; simp)).mono ?_
 rintro e w' ⟨rfl, rfl⟩
 have hsp := splitB_is s c
 have hl : Lib.countB s ⟨#[c]⟩ + 1 = (splitL c (bts s)).length := by
  rw [← hsp, List.length_map, Lib.splitB_all ⟨#[c]⟩ (by show 1 ≤ (#[c] : Array UInt8).size; simp) 0 _ s rfl]
 refine ⟨w.heap.size, by rw [hl], .inr ⟨w.heap.size, 0, rfl, by simp, fun i hi => ?_⟩, Nat.le_refl _, (Below.refl _ _).alloc (Nat.le_refl _) _⟩
 rw [cell_of_row _ _ _ _ _ _ (heap_alloc_new _ _), Nat.zero_add]
 have h2 : i < (Lib.splitB ⟨#[c]⟩ 0 (Lib.countB s ⟨#[c]⟩) s).length := by rw [← hsp, List.length_map] at hi; exact hi
 simp only [List.getElem?_toArray, List.getElem?_map, List.getElem?_eq_getElem h2, Option.map_some]
 have h3 : (splitL c (bts s))[i] = ((Lib.splitB ⟨#[c]⟩ 0 (Lib.countB s ⟨#[c]⟩) s)[i]).data.toList := by
  simp only [← hsp, List.getElem_map]
 rw [h3]
theorem splitL_not (c : UInt8) : ∀ {l x : List UInt8}, x ∈ splitL c l → c ∉ x
 |[], x, h => by
  have h : x = [] := by simpa [splitL] using h
  rw [h]
  simp
 |y :: r, x, h => by
  have ih := fun {x : List UInt8} => splitL_not c (l := r) (x := x)
  rw [splitL] at h
  by_cases hy : y = c
  ·rw [if_pos hy] at h
   rcases List.mem_cons.1 h with rfl | h
   ·simp
   ·exact ih h
  ·rw [if_neg hy] at h
   cases hs : splitL c r with
   |nil => exact absurd hs (splitL_ne c r)
   |cons p q =>
    rw [hs] at h
    rcases List.mem_cons.1 h with rfl | h
    ·rw [List.mem_cons, not_or]
     exact ⟨Ne.symm hy, ih (by rw [hs]; exact List.mem_cons_self)⟩
    ·exact ih (by rw [hs]; exact List.mem_cons_of_mem _ h)
theorem splitL_cnt {c : UInt8} : ∀ {l : List UInt8}, (splitL c l).length ≤ l.length + 1
 |[] => by simp [splitL]
 |x :: r => by
  have ih := splitL_cnt (c := c) (l := r)
  rw [splitL]
  split
  ·simp only [List.length_cons]; omega
  ·split
   ·simp
   ·rename_i h; rw [h] at ih; simp only [List.length_cons] at ih ⊢; omega
theorem joinL_le (c : UInt8) : ∀ l : List UInt8, ∀ w r, splitL c l = w :: r → (joinL c r).length ≤ l.length := fun l w r h => by
 have e := joinL_split c l
 rw [h] at e
 cases r with
 |nil => simp [joinL]
 |cons v q =>
  rw [joinL_cons] at e
  rw [← e, List.length_append, List.length_cons]
  omega
theorem rdA_words {ws : List (List UInt8)} (h : ∀ x ∈ ws, (32 : UInt8) ∉ x) : lineWords (splitL 32 (joinL 32 ws)) = lineWords ws := by
 by_cases h0 : ws = []
 ·rw [h0]
  rfl
 ·rw [splitL_join 32 ws h0 h]
set_option maxHeartbeats 800000 in
set_option maxRecDepth 100000 in
theorem rdLine_is (E : Nat → Addr) {r m p : Nat} {X : List Nat} {S : RdV} (t : List UInt8) {w : World} (H : RdIs w r m p X S) (hI : BkI S.1) (hl : t.length ≤ 20000) (hfew : S.2.2.length ≤ 20001) (hG : ∀ W, ButF X w W → SnG E W) :
    Calls Tryz.prog 38 #[.pointer (some ⟨r, 0, none⟩), .string ⟨t.toArray⟩] w (RdEnds (rdLn S (splitL 32 t)) r m p X w) := by
  have hbt : bts ⟨t.toArray⟩ = t := rfl
  have HSP := Lib.hid (split_cap ⟨t.toArray⟩ 32 w (by simp [ByteArray.size]; omega) (hG w (ButF.refl _ _)).rd.maxl)
  rw [hbt] at HSP
  obtain ⟨y, ws, hws⟩ : ∃ y ws, splitL 32 t = y :: ws := by
    cases h : splitL 32 t with
    | nil => exact absurd h (splitL_ne 32 t)
    | cons y ws => exact ⟨y, ws, rfl⟩
  have hno : ∀ x ∈ y :: ws, (32 : UInt8) ∉ x := fun x hx => splitL_not 32 (by rw [hws]; exact hx)
  have hlen : ∀ x ∈ y :: ws, x.length ≤ 20000 := fun x hx => Nat.le_trans (splitL_lens (by rw [hws]; exact hx)) hl
  have hcnt : ws.length + 1 ≤ 20001 := by
    have h := splitL_cnt (c := 32) (l := t)
    rw [hws, List.length_cons] at h
    omega
  have hjl := joinL_le 32 t y ws hws
  rw [hws] at HSP ⊢
  have HL := Lib.hid H.lt
  have HH := Lib.hid H
  have HG := Lib.hid hG
  have HI := Lib.hid hI
  have HNO := Lib.hid hno
  have HLEN := Lib.hid hlen
  clear hbt H hG hI hno hlen hws
  go_enter Tryz.func38, Tryz.ntmps38
  go_wp2_with fail
  refine HSP.out.mono ?_
  rintro e w1 ⟨g, rfl, hrow, hge, b1⟩
  have hgX : g ∉ X := fun h => by have := HL.out g h; omega
  have HH1 := Lib.hid (HH.out.below b1)
  have HG1 : Hid (∀ W, ButF X w1 W → SnG E W) := fun W hb => HG.out W ((ButF.of_below b1).step hb)
  have B1 := Lib.hid b1
  have HROW := Lib.hid hrow
  obtain ⟨g', o', hgo, lg, cg⟩ := hrow.resolve_left (by simp)
  obtain ⟨rfl, rfl⟩ : g = g' ∧ 0 = o' := by
    injection hgo with h
    injection h with h1 h2
    exact ⟨h1, h2⟩
  have c0 : w1.cell? ⟨g, 0, none⟩ = some (.string ⟨y.toArray⟩) := cg 0 (by simp)
  have hrowT : StrsAt w1 (some ⟨g, 1, none⟩) ws := .inr ⟨g, 1, rfl, lg, fun i hi => by
    have h := cg (i + 1) (by simpa using hi)
    rw [show 0 + (i + 1) = 1 + i by omega] at h
    exact h⟩
  have HJ := Lib.hid (joinLies_any 32 (some ⟨g, 1, none⟩) ws.length ws w1 hrowT (Nat.le_refl _) (by omega) (by omega))
  have HRL := Lib.hid (fun W (h : Below w1.heap.size w1 W) => lineRead_any E ⟨(joinL 32 ws).toArray⟩ (by simp [ByteArray.size]; omega) W ((HG1.out w1 (ButF.refl _ _)).rd.below h))
  have hbt2 : bts ⟨(joinL 32 ws).toArray⟩ = joinL 32 ws := rfl
  rw [hbt2, rdA_words fun x hx => HNO.out x (List.mem_cons_of_mem _ hx)] at HRL
  rw [List.length_cons]
  obtain ⟨N, hN⟩ : ∃ N, N = ws.length := ⟨_, rfl⟩
  have HNW := Lib.hid hN
  rw [← hN] at HJ hcnt ⊢
  have hN0 : (0 : Int) < ((N + 1 : Nat) : Int) := by omega
  have hN1 : (1 : Int) ≤ ((N + 1 : Nat) : Int) := by omega
  clear hrow cg hge b1 hrowT hbt2 hgo hjl hN
  generalize joinL 32 ws = jl at HJ HRL
  by_cases k1 : (y == [103, 111, 111, 100, 115]) = true
  · have hy : y = kGoods := by simpa [kGoods] using k1
    have HE1 : Hid (rdLn S (y :: ws) = rdG S ws) := by
      show _ = _
      unfold rdLn
      rw [hy]
      exact if_pos rfl
    have HGO := Lib.hid (rdGoods_is E (N + 1) (some ⟨g, 0, none⟩) y ws HH1.out HI.out HROW.out (by rw [HNW.out]; exact Nat.le_refl _) (fun a ha => by cases ha; exact hgX) (fun x hx => Nat.le_trans (HLEN.out x hx) (by omega)) (HG1.out w1 (ButF.refl _ _)).rd.tab (HG1.out w1 (ButF.refl _ _)).rd.atoi fun W hb => (HG1.out W hb).bk)
    rw [← HNW.out] at HGO
    clear hy HJ HRL
    go_wp2_with fail
    refine HGO.out.mono ?_
    rintro e w2 ⟨rfl, h2, h3⟩
    have H2 : Hid (RdEnds (rdG S ws) r m p X w1 (.returned (.bool (rdG S ws).isSome)) w2) := ⟨rfl, h2, h3⟩
    clear h2 h3
    go_wp2_with fail
    go_ret
    rw [HE1.out]
    exact H2.out.after B1.out
  have k1 := Bool.eq_false_iff.2 k1
  by_cases k2 : (y == [108, 111, 116]) = true
  · have hy : y = kLot := by simpa [kLot] using k2
    have HE1 : Hid (rdLn S (y :: ws) = rdL S ws) := by
      show _ = _
      unfold rdLn
      rw [hy, if_neg (show ¬ List.head? (kLot :: ws) = some kGoods by rw [List.head?_cons]; decide)]
      exact if_pos rfl
    have HGO := Lib.hid (rdLot_is E (N + 1) (some ⟨g, 0, none⟩) y ws HH1.out HI.out (by omega) HROW.out (by rw [HNW.out]; exact Nat.le_refl _) (fun a ha => by cases ha; exact hgX) HLEN.out (fun x hx => HNO.out x (List.mem_cons_of_mem _ hx)) HG1.out)
    rw [← HNW.out] at HGO
    clear hy HJ HRL
    go_wp2_with fail
    refine HGO.out.mono ?_
    rintro e w2 ⟨rfl, h2, h3⟩
    have H2 : Hid (RdEnds (rdL S ws) r m p X w1 (.returned (.bool (rdL S ws).isSome)) w2) := ⟨rfl, h2, h3⟩
    clear h2 h3
    go_wp2_with fail
    go_ret
    rw [HE1.out]
    exact H2.out.after B1.out
  have k2 := Bool.eq_false_iff.2 k2
  by_cases k3 : (y == [97, 116]) = true
  · have hy : y = kAt := by simpa [kAt] using k3
    have HE1 : Hid (rdLn S (y :: ws) = rdA S ws) := by
      show _ = _
      unfold rdLn
      rw [hy, if_neg (show ¬ List.head? (kAt :: ws) = some kGoods by rw [List.head?_cons]; decide), if_neg (show ¬ List.head? (kAt :: ws) = some kLot by rw [List.head?_cons]; decide)]
      exact if_pos rfl
    by_cases hz : N = 0
    · subst hz
      have hw0 : ws = [] := List.eq_nil_of_length_eq_zero HNW.out.symm
      have HE3 : Hid (rdLn S (y :: ws) = none) := by
        show _ = _
        rw [HE1.out, hw0]
        unfold rdA
        rw [lineWords_len (ws := []) (by simp)]
        exact if_neg (by decide)
      have HJ0 := Lib.hid (joinLies_any 32 (some ⟨g, 0, none⟩) 0 [] w1 (.inl rfl) (Nat.le_refl _) (by simp) (by simp [joinL]))
      have HRL0 := Lib.hid (fun W (h : Below w1.heap.size w1 W) => lineRead_any E ⟨(joinL 32 []).toArray⟩ (by simp [joinL, ByteArray.size]) W ((HG1.out w1 (ButF.refl _ _)).rd.below h))
      have hbt0 : bts ⟨(joinL 32 []).toArray⟩ = [] := rfl
      have hlw0 : lineWords (splitL 32 []) = (zeroLine, 1) := lineWords_len (by simp [splitL])
      rw [hbt0, hlw0, errOf_pos E 1 (by decide)] at HRL0
      simp only [encLine, zeroLine, joinL] at HRL0
      simp only [joinL, List.length_nil] at HJ0
      clear hw0 hbt0 hlw0 HJ HRL hy
      go_wp2_with fail
      refine HJ0.out.mono ?_
      rintro e w2 ⟨rfl, b2⟩
      go_wp2_with fail
      refine (HRL0.out w2 b2).mono ?_
      rintro e w3 ⟨rfl, b3⟩
      have B3 := Lib.hid (b2.trans (b3.mono b2.size))
      have B4 := Lib.hid (B3.out.trans ((below_one w3 (.cells #[.string ⟨#[]⟩, .int .i64 0, .int .i64 0, .string ⟨#[]⟩, .int .i64 0] 90)).mono B3.out.size))
      clear b2 b3
      go_upto_region 9 with fail
      go_quiet (fail)
      all_goals
        go_wp2_with fail
        go_ret
        rw [HE3.out]
        have hb : ButF X w _ := (ButF.of_below B1.out).step (ButF.of_below B4.out)
        exact RdEnds.none ⟨hb.os, hb.tape, hb.output, hb.size, hb.block⟩
    have hz0 : (0 : Int) < (N : Int) := by omega
    have HE2 : Hid (rdA S ws = if (lineWords ws).2 = 0 then (if doE S.1 (inX (lineWords ws).1) = 0 then some (doB S.1 (inX (lineWords ws).1), S.2.1, S.2.2) else none) else none) := rfl
    have hlw : (lineWords ws).2 = 0 → (lineWords ws).1.2.1.length ≤ 8 := fun h => (nameB_len (lineWords_ok h).2.1).2
    obtain ⟨⟨⟨x1, x2, x3⟩, x4, x5⟩, ec, hLW⟩ : ∃ (x : LineV) (ec : Nat), lineWords ws = (x, ec) := ⟨_, _, rfl⟩
    rw [hLW] at HRL HE2 hlw
    simp only [encLine] at HRL
    clear hLW hy
    go_wp2_with fail
    refine HJ.out.mono ?_
    rintro e w2 ⟨rfl, b2⟩
    go_wp2_with fail
    refine (HRL.out w2 b2).mono ?_
    rintro e w3 ⟨rfl, b3⟩
    have B3 := Lib.hid (b2.trans (b3.mono b2.size))
    have B4 := Lib.hid (B3.out.trans ((below_one w3 (.cells #[.string ⟨x1.toArray⟩, .int .i64 x2, .int .i64 x3, .string ⟨x4.toArray⟩, .int .i64 x5] 90)).mono B3.out.size))
    have RQ := Lib.hid (heap_alloc_new w3 (.cells #[.string ⟨x1.toArray⟩, .int .i64 x2, .int .i64 x3, .string ⟨x4.toArray⟩, .int .i64 x5] 90))
    clear b2 b3 HJ HRL
    by_cases hec : ec = 0
    · subst hec
      rw [errOf_zero]
      rw [if_pos rfl] at HE2
      obtain ⟨F, v, hX, hin⟩ := HH1.out
      have HIN := Lib.hid hin
      have HXE := Lib.hid hX
      clear hX hin
      go_upto_region 9 with fail
      generalize hW4 : w3.alloc (.cells #[.string ⟨x1.toArray⟩, .int .i64 x2, .int .i64 x3, .string ⟨x4.toArray⟩, .int .i64 x5] 90) = w4 at B4 RQ ⊢
      have hs3 : w3.heap.size < w4.heap.size := row_lt RQ.out
      have hrr := row_lt HIN.out.here.box
      have RB := Lib.hid ((B4.out.block r hrr).trans HIN.out.here.box)
      have hFq : w3.heap.size ∉ F := fun h => by have := HIN.out.here.book.lt _ h; have := B3.out.size; omega
      have hd0 : Below w4.heap.size w4 w4.drew := (Below.refl _ _).drew
      have hGD : SnG E w4.drew := HG1.out _ ((ButF.of_below B4.out).drew)
      have HDO : Hid (Calls Tryz.prog 12 #[.pointer (some ⟨p, 0, none⟩), .agg #[.string ⟨#[105, 110]⟩, .string ⟨#[]⟩, .int .i64 0, .string ⟨x4.toArray⟩, .string ⟨#[]⟩, .int .i64 0, .int .i64 0, .string ⟨#[]⟩, .int .i64 0, .int .i64 0, .string ⟨x1.toArray⟩, .int .i64 x2, .int .i64 x3, .int .i64 x5]] w4.drew fun e w' => e = .returned (errOf E (doE S.1 (inX ((x1, x2, x3), x4, x5)))) ∧ (∃ F', BookIs w' p F' (doB S.1 (inX ((x1, x2, x3), x4, x5))) ∧ ∀ k ∈ F', k ∈ F ∨ w4.drew.heap.size ≤ k) ∧ ButF F w4.drew w') :=
        do_any E (inX ((x1, x2, x3), x4, x5)) ((HIN.out.here.book.below B4.out).below hd0) HI.out (Nat.le_trans (hlw trivial) (by omega)) (Nat.zero_le _) hGD.bk
      have HC : Hid (∀ W : World, W.heap[r]? = w4.heap[r]? → W.heap[w3.heap.size]? = w4.heap[w3.heap.size]? → W.cell? ⟨r, 0, none⟩ = some (.pointer (some ⟨p, 0, none⟩)) ∧ W.cell? ⟨w3.heap.size, 0, none⟩ = some (.string ⟨x1.toArray⟩) ∧ W.cell? ⟨w3.heap.size, 1, none⟩ = some (.int .i64 x2) ∧ W.cell? ⟨w3.heap.size, 2, none⟩ = some (.int .i64 x3) ∧ W.cell? ⟨w3.heap.size, 3, none⟩ = some (.string ⟨x4.toArray⟩) ∧ W.cell? ⟨w3.heap.size, 4, none⟩ = some (.int .i64 x5)) := fun W q1 q2 => by
        have t1 := q1.trans RB.out
        have t2 := q2.trans RQ.out
        exact ⟨(cell_of_row _ _ _ _ _ _ t1).trans rfl, (cell_of_row _ _ _ _ _ _ t2).trans rfl, (cell_of_row _ _ _ _ _ _ t2).trans rfl, (cell_of_row _ _ _ _ _ _ t2).trans rfl, (cell_of_row _ _ _ _ _ _ t2).trans rfl, (cell_of_row _ _ _ _ _ _ t2).trans rfl⟩
      have hr4 := row_lt RB.out
      have hc0 := HC.out w4.drew rfl rfl
      have HSU : Hid (∀ W : World, ButF F w4.drew W → W.cell? ⟨r, 0, none⟩ = some (.pointer (some ⟨p, 0, none⟩)) ∧ W.cell? ⟨w3.heap.size, 0, none⟩ = some (.string ⟨x1.toArray⟩) ∧ W.cell? ⟨w3.heap.size, 1, none⟩ = some (.int .i64 x2) ∧ W.cell? ⟨w3.heap.size, 2, none⟩ = some (.int .i64 x3) ∧ W.cell? ⟨w3.heap.size, 3, none⟩ = some (.string ⟨x4.toArray⟩) ∧ W.cell? ⟨w3.heap.size, 4, none⟩ = some (.int .i64 x5)) := fun W hu => HC.out W (hu.block r hr4 HIN.out.here.rF) (hu.block _ hs3 hFq)
      have UX : Hid (ButF X w w4) := (ButF.of_below B1.out).step (ButF.of_below B4.out)
      clear hW4 hFq hlw hGD
      by_cases hd : doE S.1 (inX ((x1, x2, x3), x4, x5)) = 0
      · rw [hd] at HDO
        simp only [errOf_zero] at HDO
        have HD := Lib.hid hd
        clear hd
        go_region_held3 (fun W => W.cell? ⟨r, 0, none⟩ = some (.pointer (some ⟨p, 0, none⟩)) ∧ W.cell? ⟨w3.heap.size, 0, none⟩ = some (.string ⟨x1.toArray⟩) ∧ W.cell? ⟨w3.heap.size, 1, none⟩ = some (.int .i64 x2) ∧ W.cell? ⟨w3.heap.size, 2, none⟩ = some (.int .i64 x3) ∧ W.cell? ⟨w3.heap.size, 3, none⟩ = some (.string ⟨x4.toArray⟩) ∧ W.cell? ⟨w3.heap.size, 4, none⟩ = some (.int .i64 x5))
          (first | exact hc0 | exact HSU.out _ hU | go_keep)
          (first | (go_at_call 12; refine HDO.out.mono ?_; rintro e v1 ⟨rfl, hX, hU⟩))
        all_goals
          have HX := Lib.hid hX
          have HU := Lib.hid hU
          clear hX hU hc0 hd0
          go_wp2_with fail
          go_ret
          rw [HE1.out, HE2.out, if_pos HD.out]
          refine ⟨rfl, UX.out.drew.step (HU.out.mono fun i hi => .inl (by rw [HXE.out]; simp [hi])), fun S' hS => ?_⟩
          cases hS
          have hb0 := UX.out.size
          have hb1 := B4.out.size
          obtain ⟨F', hB, hk⟩ := HX.out
          have hk' : ∀ j ∈ F', j ∈ F ∨ w4.heap.size ≤ j := hk
          have hno' : ∀ j, j < w4.heap.size → j ∉ F → j ∉ F' := fun j hj hf h => by
            rcases hk' j h with h | h
            · exact hf h
            · omega
          have hsm := HIN.out.here.sums.lt
          have hv1 : ∀ j, j < w1.heap.size → j ∉ F → v1.heap[j]? = w1.heap[j]? := fun j hj hf => (HU.out.block j (Nat.lt_of_lt_of_le hj hb1) hf).trans (B4.out.block j hj)
          refine ⟨r :: m :: (ownL v ++ F'), ⟨F', v, rfl, ⟨⟨(hv1 r hrr HIN.out.here.rF).trans HIN.out.here.box, hB, HIN.out.here.sums.keep (hv1 m hsm HIN.out.here.mF), hno' r hr4 HIN.out.here.rF, hno' m (Nat.lt_of_lt_of_le hsm hb1) HIN.out.here.mF, HIN.out.here.rm⟩, own_keptL HIN.out.held fun a ha => hv1 a (HIN.out.held.lt a (mem_ownL.1 ha)).2 (HIN.out.apart a ha).2.2, fun a ha => ⟨(HIN.out.apart a ha).1, (HIN.out.apart a ha).2.1, hno' a (Nat.lt_of_lt_of_le (HIN.out.held.lt a (mem_ownL.1 ha)).2 hb1) (HIN.out.apart a ha).2.2⟩⟩⟩, fun k hk => ?_⟩
          rw [HXE.out]
          simp only [List.mem_cons, List.mem_append] at hk ⊢
          rcases hk with rfl | rfl | hk | hk
          · exact .inl (.inl rfl)
          · exact .inl (.inr (.inl rfl))
          · exact .inl (.inr (.inr (.inl hk)))
          · rcases hk' k hk with h | h
            · exact .inl (.inr (.inr (.inr h)))
            · exact .inr (Nat.le_trans hb0 h)
      · rw [errOf_pos _ _ hd] at HDO
        have HD := Lib.hid hd
        clear hd
        go_region_held3 (fun W => W.cell? ⟨r, 0, none⟩ = some (.pointer (some ⟨p, 0, none⟩)) ∧ W.cell? ⟨w3.heap.size, 0, none⟩ = some (.string ⟨x1.toArray⟩) ∧ W.cell? ⟨w3.heap.size, 1, none⟩ = some (.int .i64 x2) ∧ W.cell? ⟨w3.heap.size, 2, none⟩ = some (.int .i64 x3) ∧ W.cell? ⟨w3.heap.size, 3, none⟩ = some (.string ⟨x4.toArray⟩) ∧ W.cell? ⟨w3.heap.size, 4, none⟩ = some (.int .i64 x5))
          (first | exact hc0 | exact HSU.out _ hU | go_keep)
          (first | (go_at_call 12; refine HDO.out.mono ?_; rintro e v1 ⟨rfl, hX, hU⟩))
        all_goals
          have HU := Lib.hid hU
          clear hX hU hc0 hd0
          go_wp2_with fail
          go_ret
          rw [HE1.out, HE2.out, if_neg HD.out]
          exact RdEnds.none (UX.out.drew.step (HU.out.mono fun i hi => .inl (by rw [HXE.out]; simp [hi])))
    · rw [errOf_pos _ _ hec]
      rw [if_neg hec] at HE2
      clear hec hlw
      go_upto_region 9 with fail
      go_quiet (fail)
      all_goals
        go_wp2_with fail
        go_ret
        rw [HE1.out, HE2.out]
        have hb : ButF X w _ := (ButF.of_below B1.out).step (ButF.of_below B4.out)
        exact RdEnds.none ⟨hb.os, hb.tape, hb.output, hb.size, hb.block⟩
  have k3 := Bool.eq_false_iff.2 k3
  have HE1 : Hid (rdLn S (y :: ws) = none) := by
    show _ = _
    unfold rdLn
    rw [if_neg (fun h => by have h : y = kGoods := by simpa using h
                            rw [h] at k1; simp [kGoods] at k1), if_neg (fun h => by have h : y = kLot := by simpa using h
                                                                                    rw [h] at k2; simp [kLot] at k2), if_neg (fun h => by have h : y = kAt := by simpa using h
                                                                                                                                          rw [h] at k3; simp [kAt] at k3)]
  clear HJ HRL
  go_wp2_with fail
  go_ret
  rw [HE1.out]
  exact RdEnds.none (ButF.of_below B1.out)
end Go.Proofs.YteaalifehokgoaaGreatDoor
