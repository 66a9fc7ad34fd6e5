/- The book in memory: five maps of it, by what they answer. A map's keys, sorted: slices.Sorted of maps.Keys, at maps of goods and of lots. The book, plainly: what its maps answer behind an entry. No program in sight. The program's book: set, and what reads it. entry.formOf, walked. -/
import Derived.Test.YtphgakobfegpcaaGreatDoorM01
import Derived.Test.YtphgakobfegpcaaGreatDoorM05
import Derived.Test.YtphgakobfegpcaaGreatDoorM15
import Derived.Test.YtphgakobfegpcaaGreatDoorM16
import Derived.Test.YtphgakobfegpcaaGreatDoorM17
import Derived.Test.YtphgakobfegpcaaGreatDoorM18
namespace Go.Proofs.YtphgakobfegpcaaGreatDoor
open Go.RowKit Go.Sort Go.Proofs Go.MapKept

section
variable {κ ν : Type} [DecidableEq κ]
theorem perm_mget {m L : List (κ × ν)} (hn : (m.map (·.1)).Nodup) (hL : (L.map (·.1)).Nodup) (h : ∀ k, mget m k = mget L k) : m.Perm L :=
  (List.perm_ext_iff_of_nodup (nodup_of_keys hn) (nodup_of_keys hL)).2 fun ⟨k, v⟩ => by rw [mem_mget hn, mem_mget hL, h]
theorem mget_find {α : Type} (key : α → κ) (val : α → ν) : ∀ (l : List α) (k : κ), mget (l.map fun x => (key x, val x)) k = (l.find? fun x => decide (key x = k)).map val
  | [], _ => rfl
  | x :: r, k => by
    rw [List.map_cons, List.find?_cons]
    unfold mget
    by_cases h : key x = k
    · rw [if_pos h, decide_eq_true h]; rfl
    · rw [if_neg h, decide_eq_false h]; exact mget_find key val r k
end
/-- Block b holds a map that answers as f does. -/
def MapF {ν : Type} (eV : ν → Value) (w : World) (b : Nat) (f : List UInt8 → Option ν) : Prop := ∃ m, MapIs eStr eV w b m ∧ ∀ k, mget m k = f k
section
variable {ν : Type} {eV : ν → Value} {w w' : World} {b : Nat} {f : List UInt8 → Option ν}
theorem MapF.keep (h : MapF eV w b f) (hb : w'.heap[b]? = w.heap[b]?) : MapF eV w' b f := by
  obtain ⟨m, h1, h2⟩ := h
  exact ⟨m, h1.keep hb, h2⟩
theorem MapF.lt (h : MapF eV w b f) : b < w.heap.size := by
  obtain ⟨m, h1, h2⟩ := h
  exact h1.lt
theorem MapF.below (h : MapF eV w b f) (hb : Below w.heap.size w w') : MapF eV w' b f := h.keep (hb.block _ h.lt)
theorem MapF.congr {g : List UInt8 → Option ν} (h : MapF eV w b f) (e : ∀ k, f k = g k) : MapF eV w b g := by
  obtain ⟨m, h1, h2⟩ := h
  exact ⟨m, h1, fun k => (h2 k).trans (e k)⟩
theorem MapF.made (eV : ν → Value) (w : World) : MapF eV (w.alloc (.map #[] 0)) w.heap.size fun _ => none := ⟨[], MapIs.made eStr eV w, fun _ => rfl⟩
theorem MapF.look {P : Program} (h : MapF eV w b f) {t kt e : TypeId} (hk : P.underlying kt = some .string) (ht : P.underlying t = some (.map kt e)) {z : ν} (hz : (zeroValue e).run P w = .ok (eV z) w) (k : List UInt8) (c : Bool) :
    (Instr.lookup t (.map (some b)) (.string ⟨k.toArray⟩) c).run P w = .ok (if c then .tuple #[eV ((f k).getD z), .bool (f k).isSome] else eV ((f k).getD z)) w := by
  obtain ⟨m, h1, h2⟩ := h
  have := h1.look (keyStr hk) ht hz k c
  rw [h2] at this
  exact this
theorem MapF.store {P : Program} (h : MapF eV w b f) {t kt e : TypeId} (hk : P.underlying kt = some .string) (ht : P.underlying t = some (.map kt e)) (k : List UInt8) (v : ν) :
    ∃ w', (Instr.mapUpdate t (.map (some b)) (.string ⟨k.toArray⟩) (eV v)).run P w = .ok () w' ∧ MapF eV w' b (fun i => if i = k then some v else f i) ∧ Turned b w w' := by
  obtain ⟨m, h1, h2⟩ := h
  obtain ⟨w', h3, h4, h5⟩ := h1.store (keyStr hk) ht k v
  refine ⟨w', h3, ⟨_, h4, fun i => ?_⟩, h5⟩
  show _ = if i = k then some v else f i
  by_cases hi : i = k
  · rw [if_pos hi, hi, mget_put]
  · rw [if_neg hi, mget_put_other _ _ hi, h2]
theorem MapF.drop {P : Program} (h : MapF eV w b f) {t kt e : TypeId} (hk : P.underlying kt = some .string) (ht : P.underlying t = some (.map kt e)) (k : List UInt8) :
    ∃ w', (∀ ty, (Builtin.delete_ #[t, kt] ty #[.map (some b), .string ⟨k.toArray⟩]).run P w = .ok (.tuple #[]) w') ∧ MapF eV w' b (fun i => if i = k then none else f i) ∧ Turned b w w' := by
  obtain ⟨m, h1, h2⟩ := h
  obtain ⟨w', h3, h4, h5⟩ := h1.drop (keyStr hk) ht k
  refine ⟨w', h3, ⟨_, h4, fun i => ?_⟩, h5⟩
  show _ = if i = k then none else f i
  by_cases hi : i = k
  · rw [if_pos hi, hi, mget_del]
  · rw [if_neg hi, mget_del_other _ hi, h2]
end

def encSums (s : SumsV) : List Value := [.int .i64 s.1, .int .i64 s.2.1, .int .i64 s.2.2.1, .int .i64 s.2.2.2]
theorem encSums_len (s : SumsV) : (encSums s).length = 4 := rfl
theorem encSums_one (x : SumsV) : ∀ v ∈ encSums x, v.oneCell' = true := fun v hv => by
  simp [encSums] at hv
  rcases hv with rfl | rfl | rfl | rfl <;> rfl
def eGoods (g : GoodsV) : Value := .agg (encGoods g).toArray
def eLot (l : LotV) : Value := .agg (encLot l).toArray
def eSums (s : SumsV) : Value := .agg (encSums s).toArray

/-- What the maps of a book answer. -/
def goodsF (B : BkV) (k : List UInt8) : Option GoodsV := (fG B k).map (·.1)
def lotsF (B : BkV) (k : List UInt8) : Option LotV := (fL B k).map (·.1)
def heldF (B : BkV) (k : List UInt8) : Option Nat := if heldOf B k = 0 then none else some (heldOf B k)
def sumsF (B : BkV) (k : List UInt8) : Option SumsV := if sumsOf B k = zeroSums then none else some (sumsOf B k)
theorem heldF_get (B : BkV) (k : List UInt8) : (heldF B k).getD 0 = heldOf B k := by
  unfold heldF
  split
  · rename_i h; exact h.symm
  · rfl
theorem sumsF_get (B : BkV) (k : List UInt8) : (sumsF B k).getD zeroSums = sumsOf B k := by
  unfold sumsF
  split
  · rename_i h; exact h.symm
  · rfl

structure BookM (w : World) (p g l h s q c : Nat) (B : BkV) : Prop where
  own : w.heap[p]? = some (.cells #[.map (some g), .map (some l), .map (some h), .map (some s), .pointer (some ⟨q, 0, none⟩)] 138 (0, 0))
  goods : MapF eGoods w g (goodsF B)
  lots : MapF eLot w l (lotsF B)
  held : MapF eNat w h (heldF B)
  sums : MapF eSums w s (sumsF B)
  stk : StkP w q c B.2.2
/-- Block p is a book that lives in the blocks F. -/
def BookIs (w : World) (p : Nat) (F : List Nat) (B : BkV) : Prop := ∃ g l h s q c, F = [p, g, l, h, s, q, c] ∧ F.Nodup ∧ BookM w p g l h s q c B
theorem BookM.lt {w : World} {p g l h s q c : Nat} {B : BkV} (H : BookM w p g l h s q c B) : ∀ k ∈ [p, g, l, h, s, q, c], k < w.heap.size := fun k hk => by
  simp only [List.mem_cons, List.not_mem_nil, or_false] at hk
  rcases hk with rfl | rfl | rfl | rfl | rfl | rfl | rfl
  · exact (Array.getElem?_eq_some_iff.1 H.own).1
  · exact H.goods.lt
  · exact H.lots.lt
  · exact H.held.lt
  · exact H.sums.lt
  · exact H.stk.lt.1
  · exact H.stk.lt.2
theorem BookM.keep {w w' : World} {p g l h s q c : Nat} {B : BkV} (H : BookM w p g l h s q c B) (hk : ∀ k ∈ [p, g, l, h, s, q, c], w'.heap[k]? = w.heap[k]?) : BookM w' p g l h s q c B :=
  ⟨(hk p (by simp)).trans H.own, H.goods.keep (hk g (by simp)), H.lots.keep (hk l (by simp)), H.held.keep (hk h (by simp)), H.sums.keep (hk s (by simp)), H.stk.keep (hk q (by simp)) (hk c (by simp))⟩
theorem BookM.below {w w' : World} {p g l h s q c : Nat} {B : BkV} (H : BookM w p g l h s q c B) (hb : Below w.heap.size w w') : BookM w' p g l h s q c B := H.keep fun k hk => hb.block _ (H.lt k hk)
theorem BookIs.lt {w : World} {p : Nat} {F : List Nat} {B : BkV} (H : BookIs w p F B) : ∀ k ∈ F, k < w.heap.size := by
  obtain ⟨g, l, h, s, q, c, rfl, _, H⟩ := H
  exact H.lt
theorem BookIs.keep {w w' : World} {p : Nat} {F : List Nat} {B : BkV} (H : BookIs w p F B) (hk : ∀ k ∈ F, w'.heap[k]? = w.heap[k]?) : BookIs w' p F B := by
  obtain ⟨g, l, h, s, q, c, rfl, hn, H⟩ := H
  exact ⟨g, l, h, s, q, c, rfl, hn, H.keep hk⟩
theorem BookIs.below {w w' : World} {p : Nat} {F : List Nat} {B : BkV} (H : BookIs w p F B) (hb : Below w.heap.size w w') : BookIs w' p F B := H.keep fun k hk => hb.block _ (H.lt k hk)
/-- What turns elsewhere leaves a book. -/
theorem BookIs.butF {w w' : World} {p : Nat} {F F' : List Nat} {B : BkV} (H : BookIs w p F B) (hb : ButF F' w w') (hd : ∀ k ∈ F, k ∉ F') : BookIs w' p F B := H.keep fun k hk => hb.block _ (H.lt k hk) (hd k hk)
theorem BookIs.head {w : World} {p : Nat} {F : List Nat} {B : BkV} (H : BookIs w p F B) : p ∈ F := by
  obtain ⟨g, l, h, s, q, c, rfl, hn, H⟩ := H
  simp
/-- Books that differ in the order of the stock's entries alone. -/
theorem BookIs.perm {w : World} {p : Nat} {F : List Nat} {B B' : BkV} (H : BookIs w p F B) (h1 : B.1 = B'.1) (h2 : B.2.1 = B'.2.1) (h3 : B.2.2.Perm B'.2.2) : BookIs w p F B' := by
  obtain ⟨g, l, h, s, q, c, rfl, hn, H⟩ := H
  obtain ⟨G, L, m⟩ := B
  obtain ⟨G', L', m'⟩ := B'
  simp only at h1 h2
  subst h1 h2
  exact ⟨g, l, h, s, q, c, rfl, hn, ⟨H.own, H.goods, H.lots, H.held, H.sums, H.stk.perm h3⟩⟩
end Go.Proofs.YtphgakobfegpcaaGreatDoor
namespace Go.Proofs.YtphgakobfegpcaaGreatDoor
open Go.RowKit Go.Sort Go.Proofs Go.Maps Go.MapKept

theorem insert_perm {H : Type} (x : Lit × DataW H) : ∀ l : List (Lit × DataW H), (DataW.insert x l).Perm (x :: l)
  | [] => List.Perm.refl _
  | y :: r => by
    unfold DataW.insert
    split
    · exact List.Perm.refl _
    · exact ((insert_perm x r).cons y).trans (List.Perm.swap x y r)
theorem foldr_perm {H : Type} : ∀ l : List (Lit × DataW H), (l.foldr DataW.insert []).Perm l
  | [] => List.Perm.refl _
  | x :: r => (insert_perm x _).trans ((foldr_perm r).cons x)

/-- A map of the book's, as the shelf's contracts read it: of its values nothing is asked. -/
theorem own_of_mapIs {ν : Type} {eV : ν → Value} {w : World} {b : Nat} {m : List (List UInt8 × ν)} (h : MapIs eStr eV w b m) (hk : ∀ p ∈ m, p.1.length ≤ 1000000) (hn : m.length ≤ 1000000) :
    ∃ D0 : DataW Unit, w.ownsMap Tryz.prog 9 (fun _ => some (DataW.nil, [])) b m.length D0 ∧ (strKeys D0).Perm (m.map (·.1)) ∧ Maps.size D0 = m.length := by
  obtain ⟨es, clock, h1, h2, h3⟩ := h
  obtain ⟨hl, hz⟩ := zipped h3
  have hkey : ∀ e ∈ es.toList, ∃ p ∈ m, e.key = eStr p.1 := fun e he => by
    obtain ⟨j, hj, rfl⟩ := List.mem_iff_getElem.1 he
    obtain ⟨p, hp, hq, -⟩ := hz j _ (List.getElem?_eq_getElem hj)
    exact ⟨p, List.mem_of_getElem? hp, hq⟩
  have hrd : ∀ e ∈ es.toList, ∀ p, p.1.length ≤ 1000000 → e.key = eStr p.1 → WideElems.rd (H := Unit) Tryz.prog 9 (fun _ => some (DataW.nil, [])) e = some (Lit.string (p : List UInt8 × ν).1, DataW.nil) := fun e _ p hp hq => by
    unfold WideElems.rd
    rw [hq]
    unfold eStr
    rw [WideMaps.keyOf_string_mk Tryz.underlying9 (by unfold maxLen; simp [ByteArray.size]; omega)]
    rfl
  refine ⟨.map ((es.toList.map (WideElems.rg Tryz.prog 9 (fun _ => some (DataW.nil, [])))).foldr DataW.insert []), ⟨es, clock, h1, ⟨?_, h2, fun e he => ?_⟩, ?_, rfl⟩, ?_, ?_⟩
  · have : es.toList.length = es.size := by simp
    unfold maxLen
    omega
  · obtain ⟨p, hp, hq⟩ := hkey e he
    exact ⟨_, hrd e he p (hk p hp) hq⟩
  · have : es.toList.length = es.size := by simp
    omega
  · unfold strKeys
    refine ((foldr_perm _).map _).trans (List.Perm.of_eq ?_)
    rw [List.map_map]
    refine List.ext_getElem (by simpa using hl) fun i q1 q2 => ?_
    have hi : i < es.toList.length := by simpa using q1
    obtain ⟨p, hp, hq, -⟩ := hz i _ (List.getElem?_eq_getElem hi)
    have hm := List.mem_of_getElem? hp
    rw [List.getElem_map, List.getElem_map]
    obtain ⟨hi', hp'⟩ := List.getElem?_eq_some_iff.1 hp
    rw [hp']
    simp only [Function.comp_apply]
    rw [WideElems.rg_of (hrd _ (List.getElem_mem hi) p (hk p hm) hq)]
    rfl
  · show List.length _ = _
    rw [(foldr_perm _).length_eq, List.length_map]
    exact hl

theorem ltB_lt (a b : List UInt8) : ltB a b = decide (a < b) := bytesLess_eq a b
theorem leL_of_ltB {a b : List UInt8} (h : ltB a b = true) : decide (a ≤ b) = true := by
  have h1 := ltB_asym h
  rw [ltB_lt] at h1
  rw [decide_eq_true_eq, ← List.not_lt]
  simpa using h1
/-- Sorted keys are the keys in order. -/
theorem sort_keys {ss ks : List (List UInt8)} (hp : ss.Perm ks) (hs : ks.Pairwise fun x y => ltB x y = true) : ss.mergeSort (fun x y => decide (x ≤ y)) = ks := by
  have hle : ∀ a b : List UInt8, decide (a ≤ b) = !ltB b a := fun a b => by
    rw [ltB_lt, Bool.eq_iff_iff]
    simp [← List.not_lt]
  refine List.Perm.eq_of_pairwise (le := fun x y => decide (x ≤ y) = true) (fun a b _ _ h1 h2 => ?_) ?_ (hs.imp leL_of_ltB) ((List.mergeSort_perm _ _).trans hp)
  · rw [hle] at h1 h2
    cases hab : ltB a b with
    | true => rw [hab] at h2; cases h2
    | false =>
      by_cases e : a = b
      · exact e
      · have := ltB_total hab e
        rw [this] at h1
        cases h1
  · refine List.pairwise_mergeSort (fun a b c h1 h2 => ?_) (fun a b => ?_) _
    · rw [hle] at *
      cases hca : ltB c a with
      | false => rfl
      | true =>
        by_cases e : a = b
        · subst e; rw [hca] at h2; cases h2
        · have h3 := ltB_total (by simpa using h1) (fun e' => e e'.symm)
          rw [ltB_trans hca h3] at h2
          cases h2
    · rw [hle, hle]
      cases hab : ltB a b with
      | false => simp
      | true => rw [ltB_asym hab]; rfl

section
variable {w : World} {b : Nat} {ks : List (List UInt8)}
theorem keysGoods_any {ν : Type} {eV : ν → Value} {m : List (List UInt8 × ν)} (h : MapIs eStr eV w b m) (hp : (m.map (·.1)).Perm ks) (hs : ks.Pairwise fun x y => ltB x y = true) (hk : ∀ k ∈ ks, k.length ≤ 1000000) (hn : ks.length ≤ 1000000) :
    Calls Tryz.prog 64 #[.func (.func 117) #[] #[.pointer (some ⟨w.heap.size, 0, none⟩)]] (w.alloc (.cells #[.map (some b)] 133)) fun e w' =>
      ∃ A cap, e = .returned (.slice A ks.length cap) ∧ StrsAt w' A ks ∧ Below (w.alloc (.cells #[.map (some b)] 133)).heap.size (w.alloc (.cells #[.map (some b)] 133)) w' := by
  have hl := hp.length_eq
  rw [List.length_map] at hl
  obtain ⟨D0, h1, h2, h3⟩ := own_of_mapIs h (fun p hq => hk p.1 (hp.mem_iff.1 (List.mem_map_of_mem hq))) (by omega)
  refine (callsIn_wide.1 (Tryz.slices_Sorted_keys_64_65 b m.length D0 _ w h1 (by rw [h3]; unfold maxLen; omega) (by rw [h3]; omega))).mono ?_
  rintro e w' ⟨v, ss, rfl, h4, h5, -, h6⟩
  have e1 := sort_keys ((h4.trans h2).trans hp) hs
  have e2 : ss.length = ks.length := ((h4.trans h2).trans hp).length_eq
  rw [e1, e2] at h5
  obtain ⟨A, cap, rfl, h7, -⟩ := StrsAt.of_own h5
  exact ⟨A, cap, rfl, h7, h6⟩
theorem keysLots_any {ν : Type} {eV : ν → Value} {m : List (List UInt8 × ν)} (h : MapIs eStr eV w b m) (hp : (m.map (·.1)).Perm ks) (hs : ks.Pairwise fun x y => ltB x y = true) (hk : ∀ k ∈ ks, k.length ≤ 1000000) (hn : ks.length ≤ 1000000) :
    Calls Tryz.prog 64 #[.func (.func 140) #[] #[.pointer (some ⟨w.heap.size, 0, none⟩)]] (w.alloc (.cells #[.map (some b)] 134)) fun e w' =>
      ∃ A cap, e = .returned (.slice A ks.length cap) ∧ StrsAt w' A ks ∧ Below (w.alloc (.cells #[.map (some b)] 134)).heap.size (w.alloc (.cells #[.map (some b)] 134)) w' := by
  have hl := hp.length_eq
  rw [List.length_map] at hl
  obtain ⟨D0, h1, h2, h3⟩ := own_of_mapIs h (fun p hq => hk p.1 (hp.mem_iff.1 (List.mem_map_of_mem hq))) (by omega)
  refine (callsIn_wide.1 (Tryz.slices_Sorted_keys_64_93 b m.length D0 _ w h1 (by rw [h3]; unfold maxLen; omega) (by rw [h3]; omega))).mono ?_
  rintro e w' ⟨v, ss, rfl, h4, h5, -, h6⟩
  have e1 := sort_keys ((h4.trans h2).trans hp) hs
  have e2 : ss.length = ks.length := ((h4.trans h2).trans hp).length_eq
  rw [e1, e2] at h5
  obtain ⟨A, cap, rfl, h7, -⟩ := StrsAt.of_own h5
  exact ⟨A, cap, rfl, h7, h6⟩
end
theorem mkGoods_any (mb : Option Nat) (W : World) : Calls Tryz.prog 65 #[.map mb] W fun e w' => e = .returned (.func (.func 117) #[] #[.pointer (some ⟨W.heap.size, 0, none⟩)]) ∧ w' = W.alloc (.cells #[.map mb] 133) :=
  callsIn_wide.1 (Tryz.maps_Keys_65 mb W)
theorem mkLots_any (mb : Option Nat) (W : World) : Calls Tryz.prog 93 #[.map mb] W fun e w' => e = .returned (.func (.func 140) #[] #[.pointer (some ⟨W.heap.size, 0, none⟩)]) ∧ w' = W.alloc (.cells #[.map mb] 134) :=
  callsIn_wide.1 (Tryz.maps_Keys_93 mb W)
end Go.Proofs.YtphgakobfegpcaaGreatDoor
namespace Go.Proofs.YtphgakobfegpcaaGreatDoor
open Go.RowKit Go.Sort Go.Proofs

section
variable {B : BkV} (h : BkI B)
include h
theorem BkI.fG_ins {g : GoodsV} (hn : fG B g.1 = none) (c : List UInt8) : fG (insG (g, zeroSums) B.1, B.2.1, B.2.2) c = if g.1 = c then some (g, zeroSums) else fG B c := find_insK (fun y : GoS => y.1.1) (g, zeroSums) h.gs (fG_none hn) c
theorem BkI.fL_ins {l : LotV} (hn : fL B l.1 = none) (c : List UInt8) : fL (B.1, insLo (l, 0) B.2.1, B.2.2) c = if l.1 = c then some (l, 0) else fL B c := find_insK (fun y : LoH => y.1.1) (l, 0) h.ls (fL_none hn) c
theorem BkI.goodsF_ins {g : GoodsV} (hn : fG B g.1 = none) (c : List UInt8) : (if c = g.1 then some g else goodsF B c) = goodsF (insG (g, zeroSums) B.1, B.2.1, B.2.2) c := by
  unfold goodsF
  rw [h.fG_ins hn]
  by_cases hc : c = g.1
  · rw [if_pos hc, if_pos hc.symm]; rfl
  · rw [if_neg hc, if_neg (Ne.symm hc)]
theorem BkI.sumsF_ins {g : GoodsV} (hn : fG B g.1 = none) (c : List UInt8) : sumsF B c = sumsF (insG (g, zeroSums) B.1, B.2.1, B.2.2) c := by
  have e : sumsOf B c = sumsOf (insG (g, zeroSums) B.1, B.2.1, B.2.2) c := by
    unfold sumsOf
    rw [h.fG_ins hn]
    by_cases hc : g.1 = c
    · rw [if_pos hc, ← hc, hn]
    · rw [if_neg hc]
  unfold sumsF
  rw [e]
theorem BkI.lotsF_ins {l : LotV} (hn : fL B l.1 = none) (c : List UInt8) : (if c = l.1 then some l else lotsF B c) = lotsF (B.1, insLo (l, 0) B.2.1, B.2.2) c := by
  unfold lotsF
  rw [h.fL_ins hn]
  by_cases hc : c = l.1
  · rw [if_pos hc, if_pos hc.symm]; rfl
  · rw [if_neg hc, if_neg (Ne.symm hc)]
theorem BkI.heldF_ins {l : LotV} (hn : fL B l.1 = none) (c : List UInt8) : heldF B c = heldF (B.1, insLo (l, 0) B.2.1, B.2.2) c := by
  have e : heldOf B c = heldOf (B.1, insLo (l, 0) B.2.1, B.2.2) c := by
    unfold heldOf
    rw [h.fL_ins hn]
    by_cases hc : l.1 = c
    · rw [if_pos hc, ← hc, hn]
    · rw [if_neg hc]
  unfold heldF
  rw [e]
end

/-- A lot's entry done: the maps. -/
theorem fG_doP (B : BkV) (x : EntV) (c : List UInt8) : fG (doP B x) c = (fG B c).map fun z => if z.1.1 = codeLo B x.2.2.1.1 then (z.1, summ (sumsOf B (codeLo B x.2.2.1.1)) x) else z :=
  find_map (fun z : GoS => z.1.1) (fun z => by rw [setG_fst]) c
theorem fL_doP (B : BkV) (x : EntV) (c : List UInt8) : fL (doP B x) c = (fL B c).map fun z => if z.1.1 = x.2.2.1.1 then (z.1, (heldN (heldOf B x.2.2.1.1) x).toNat) else z :=
  find_map (fun z : LoH => z.1.1) (fun z => by rw [setLo_fst]) c
theorem goodsF_doP (B : BkV) (x : EntV) (c : List UInt8) : goodsF B c = goodsF (doP B x) c := by
  unfold goodsF
  rw [fG_doP]
  cases fG B c with
  | none => rfl
  | some z => simp only [Option.map_some, setG_fst]
theorem lotsF_doP (B : BkV) (x : EntV) (c : List UInt8) : lotsF B c = lotsF (doP B x) c := by
  unfold lotsF
  rw [fL_doP]
  cases fL B c with
  | none => rfl
  | some z => simp only [Option.map_some, setLo_fst]
theorem heldOf_doP {B : BkV} {x : EntV} {y : LoH} (hf : fL B x.2.2.1.1 = some y) (c : List UInt8) : heldOf (doP B x) c = if c = x.2.2.1.1 then (heldN (heldOf B x.2.2.1.1) x).toNat else heldOf B c := by
  conv => lhs; unfold heldOf
  rw [fL_doP]
  by_cases hc : c = x.2.2.1.1
  · rw [if_pos hc, hc, hf]
    simp only [Option.map_some]
    rw [if_pos (fL_mem hf).2]
  · rw [if_neg hc]
    unfold heldOf
    cases hz : fL B c with
    | none => rfl
    | some z =>
      simp only [Option.map_some]
      rw [if_neg (by rw [(fL_mem hz).2]; exact hc)]
theorem sumsOf_doP {B : BkV} {x : EntV} {g : GoS} (hf : fG B (codeLo B x.2.2.1.1) = some g) (c : List UInt8) : sumsOf (doP B x) c = if c = codeLo B x.2.2.1.1 then summ (sumsOf B (codeLo B x.2.2.1.1)) x else sumsOf B c := by
  conv => lhs; unfold sumsOf
  rw [fG_doP]
  by_cases hc : c = codeLo B x.2.2.1.1
  · rw [if_pos hc, hc, hf]
    simp only [Option.map_some]
    rw [if_pos (fG_mem hf).2]
  · rw [if_neg hc]
    unfold sumsOf
    cases hz : fG B c with
    | none => rfl
    | some z =>
      simp only [Option.map_some]
      rw [if_neg (by rw [(fG_mem hz).2]; exact hc)]
theorem heldF_doP {B : BkV} {x : EntV} {y : LoH} (hf : fL B x.2.2.1.1 = some y) (c : List UInt8) :
    (if c = x.2.2.1.1 then (if (heldN (heldOf B x.2.2.1.1) x).toNat = 0 then none else some (heldN (heldOf B x.2.2.1.1) x).toNat) else heldF B c) = heldF (doP B x) c := by
  unfold heldF
  rw [heldOf_doP hf]
  by_cases hc : c = x.2.2.1.1
  · rw [if_pos hc, if_pos hc]
  · rw [if_neg hc, if_neg hc]
theorem sumsF_doP {B : BkV} {x : EntV} {g : GoS} (hf : fG B (codeLo B x.2.2.1.1) = some g) (c : List UInt8) :
    (if c = codeLo B x.2.2.1.1 then (if summ (sumsOf B (codeLo B x.2.2.1.1)) x = zeroSums then none else some (summ (sumsOf B (codeLo B x.2.2.1.1)) x)) else sumsF B c) = sumsF (doP B x) c := by
  unfold sumsF
  rw [sumsOf_doP hf]
  by_cases hc : c = codeLo B x.2.2.1.1
  · rw [if_pos hc, if_pos hc]
  · rw [if_neg hc, if_neg hc]
/-- The lot of an entry, and its goods, are there. -/
theorem BkI.lot_goods {B : BkV} (h : BkI B) {id : List UInt8} {y : LoH} (hf : fL B id = some y) : codeLo B id = y.1.2.1 ∧ heldOf B id = y.2 ∧ ∃ g, fG B y.1.2.1 = some g ∧ sumsOf B y.1.2.1 = g.2 ∧ OkS g.2 := by
  obtain ⟨hy, hi⟩ := fL_mem hf
  obtain ⟨-, -, hgs⟩ := h.lok y hy
  obtain ⟨g, hg⟩ := Option.isSome_iff_exists.1 hgs
  exact ⟨by unfold codeLo; rw [hf], by unfold heldOf; rw [hf], g, hg, by unfold sumsOf; rw [hg], (h.gok g (fG_mem hg).1).2⟩
/-- How many keys a map has. -/
theorem map_count {ν : Type} {m : List (List UInt8 × ν)} (hn : (m.map (·.1)).Nodup) {f : List UInt8 → Option ν} (hf : ∀ k, mget m k = f k) {α : Type} (key : α → List UInt8) (val : α → ν) {l : List α} (hs : l.Pairwise fun x y => ltB (key x) (key y) = true)
    (he : ∀ k, f k = (l.find? fun x => decide (key x = k)).map val) : m.Perm (l.map fun x => (key x, val x)) := by
  refine perm_mget hn ?_ fun k => ?_
  · rw [List.map_map]
    have : ((l.map ((fun x : List UInt8 × ν => x.1) ∘ fun x => (key x, val x)))) = l.map key := rfl
    rw [this, List.Nodup, List.pairwise_map]
    exact hs.imp fun h => ltB_ne h
  · rw [hf, he, mget_find]
end Go.Proofs.YtphgakobfegpcaaGreatDoor
namespace Go.Proofs.YtphgakobfegpcaaGreatDoor
open Go.RowKit Go.Sort Go.Proofs

theorem zeroIntE (w : World) : (zeroValue 3).run Tryz.prog w = .ok (eNat 0) w := by kernel_rfl
/-- The cells of a book. -/
theorem BookM.cells {w : World} {p g l h s q c : Nat} {B : BkV} (H : BookM w p g l h s q c B) : (w.cell? ⟨p, 0, none⟩ = some (.map (some g)) ∧ w.cell? ⟨p, 1, none⟩ = some (.map (some l)) ∧ w.cell? ⟨p, 2, none⟩ = some (.map (some h)) ∧ w.cell? ⟨p, 3, none⟩ = some (.map (some s)) ∧ w.cell? ⟨p, 4, none⟩ = some (.pointer (some ⟨q, 0, none⟩))) ∧
    w.frozen? ⟨p, 0, none⟩ = false ∧ w.frozen? ⟨p, 1, none⟩ = false ∧ w.frozen? ⟨p, 2, none⟩ = false ∧ w.frozen? ⟨p, 3, none⟩ = false ∧ w.frozen? ⟨p, 4, none⟩ = false := row5f H.own

set_option maxHeartbeats 400000 in
set_option maxRecDepth 100000 in
theorem setHeld_any (p h : Nat) (id : List UInt8) (n : Nat) (f : List UInt8 → Option Nat) (w : World) (c0 : w.cell? ⟨p, 2, none⟩ = some (.map (some h))) (hf : MapF eNat w h f) :
    Calls Tryz.prog 137 #[.pointer (some ⟨p, 0, none⟩), .string ⟨id.toArray⟩, .int .i64 (n : Nat)] w fun e w' => e = .returned (.tuple #[]) ∧ MapF eNat w' h (fun i => if i = id then (if n = 0 then none else some n) else f i) ∧ Turned h w w' := by
  obtain ⟨f', hf'⟩ : ∃ f' : List UInt8 → Option Nat, f' = fun i => if i = id then (if n = 0 then none else some n) else f i := ⟨_, rfl⟩
  rw [← hf']
  have HF' := Lib.hid hf'
  clear hf'
  obtain ⟨w1, h1, h2, h3⟩ := hf.drop (P := Tryz.prog) (t := 135) (kt := 9) (by kernel_rfl) Tryz.underlying135 id
  obtain ⟨w2, h4, h5, h6⟩ := hf.store (P := Tryz.prog) (t := 135) (kt := 9) (by kernel_rfl) Tryz.underlying135 id n
  have H2 := Lib.hid h2
  have H3 := Lib.hid h3
  have H5 := Lib.hid h5
  have H6 := Lib.hid h6
  simp only [eNat] at h4
  clear hf h2 h3 h5 h6
  by_cases hn : n = 0
  · have HN := Lib.hid hn
    have hz : ((n : Nat) : Int) = 0 := by omega
    clear hn
    go_enter Tryz.func137, Tryz.ntmps137
    go_wp2_with fail
    refine bodyPost_end (results_none rfl _ _ _) rfl ?_
    refine ⟨rfl, ?_, H3.out⟩
    refine H2.out.congr fun i => ?_
    rw [HF'.out]
    simp only [if_pos HN.out]
  · have HN := Lib.hid hn
    have hz : ¬ ((n : Nat) : Int) = 0 := by omega
    clear hn
    go_enter Tryz.func137, Tryz.ntmps137
    go_wp2_with fail
    refine bodyPost_end (results_none rfl _ _ _) rfl ?_
    refine ⟨rfl, ?_, H6.out⟩
    refine H5.out.congr fun i => ?_
    rw [HF'.out]
    simp only [if_neg HN.out]
end Go.Proofs.YtphgakobfegpcaaGreatDoor
namespace Go.Proofs.YtphgakobfegpcaaGreatDoor
open Go.RowKit Go.Sort Go.Proofs

theorem kind_cases (k : List UInt8) : k = kIn ∨ k = kMore ∨ k = kOut ∨ k = kLess ∨ k = kMove ∨ k = kHold ∨ k = kFree ∨
    ((k == [105, 110]) = false ∧ (k == [109, 111, 114, 101]) = false ∧ (k == [111, 117, 116]) = false ∧ (k == [108, 101, 115, 115]) = false ∧ (k == [109, 111, 118, 101]) = false ∧ (k == [104, 111, 108, 100]) = false ∧ (k == [102, 114, 101, 101]) = false ∧ hasF k = false ∧ hasT k = false ∧ isP k = false) := by
  by_cases h1 : k = kIn
  · exact .inl h1
  by_cases h2 : k = kMore
  · exact .inr (.inl h2)
  by_cases h3 : k = kOut
  · exact .inr (.inr (.inl h3))
  by_cases h4 : k = kLess
  · exact .inr (.inr (.inr (.inl h4)))
  by_cases h5 : k = kMove
  · exact .inr (.inr (.inr (.inr (.inl h5))))
  by_cases h6 : k = kHold
  · exact .inr (.inr (.inr (.inr (.inr (.inl h6)))))
  by_cases h7 : k = kFree
  · exact .inr (.inr (.inr (.inr (.inr (.inr (.inl h7))))))
  refine .inr (.inr (.inr (.inr (.inr (.inr (.inr ⟨?_, ?_, ?_, ?_, ?_, ?_, ?_, ?_, ?_, ?_⟩))))))
  · exact beq_eq_false_iff_ne.2 h1
  · exact beq_eq_false_iff_ne.2 h2
  · exact beq_eq_false_iff_ne.2 h3
  · exact beq_eq_false_iff_ne.2 h4
  · exact beq_eq_false_iff_ne.2 h5
  · exact beq_eq_false_iff_ne.2 h6
  · exact beq_eq_false_iff_ne.2 h7
  · unfold hasF; simp [h3, h4, h5]
  · unfold hasT; simp [h1, h2, h5]
  · unfold isP; simp [h1, h2, h3, h4, h5, h6, h7]

set_option maxHeartbeats 1600000 in
theorem formOf_any (k : List UInt8) (w : World) : Calls Tryz.prog 129 #[.string ⟨k.toArray⟩] w fun e w' => e = .returned (.agg #[.bool (hasF k), .bool (hasT k), .bool (isP k)]) ∧ Below w.heap.size w w' := by
  rcases kind_cases k with rfl | rfl | rfl | rfl | rfl | rfl | rfl | ⟨h1, h2, h3, h4, h5, h6, h7, e1, e2, e3⟩
  case' inr.inr.inr.inr.inr.inr.inr =>
    rw [e1, e2, e3]
    clear e1 e2 e3
  all_goals
    go_enter Tryz.func129, Tryz.ntmps129
    go_wp2
    (try simp only [Exit.inBlock, Exit.then])
    refine bodyPost_ret (results_cell_row rfl _ _ w.heap.size 201 _ (0, 0) _ rfl (heap_alloc_new _ _) Tryz.underlying201 rfl (by kernel_rfl)) rfl ?_
    exact ⟨rfl, below_one _ _⟩
end Go.Proofs.YtphgakobfegpcaaGreatDoor
