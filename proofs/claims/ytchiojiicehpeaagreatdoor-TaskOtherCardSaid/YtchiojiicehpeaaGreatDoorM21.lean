/- The book in memory: five maps of it, by what they answer. The book, plainly: what its maps answer behind an entry. No program in sight. Lots: their compare. -/
import Derived.Test.YtchiojiicehpeaaGreatDoorM14
import Derived.Test.YtchiojiicehpeaaGreatDoorM19
import Derived.Test.YtchiojiicehpeaaGreatDoorM20
namespace Go.Proofs.YtchiojiicehpeaaGreatDoor
open Go.RowKit Go.Sort Go.Proofs Go.MapKept
section
variable {κ ν : Type} [DecidableEq κ]
theorem perm_mget {m L : List (κ × ν)} (hn : (m.map (·.1)).Nodup) (hL : (L.map (·.1)).Nodup) (h : ∀ k, mget m k = mget L k) : m.Perm L :=
 (List.perm_ext_iff_of_nodup (nodup_of_keys hn) (nodup_of_keys hL)).2 fun ⟨k, v⟩ => by rw [mem_mget hn, mem_mget hL, h]
theorem mget_find {α : Type} (key : α → κ) (val : α → ν) : ∀ (l : List α) (k : κ), mget (l.map fun x => (key x, val x)) k = (l.find? fun x => decide (key x = k)).map val
 |[], _ => rfl
 |x :: r, k => by
  rw [List.map_cons, List.find?_cons]
  unfold mget
  by_cases h : key x = k
  ·rw [if_pos h, decide_eq_true h]; rfl
  ·rw [if_neg h, decide_eq_false h]; exact mget_find key val r k
end
def MapF {ν : Type} (eV : ν → Value) (w : World) (b : Nat) (f : List UInt8 → Option ν) : Prop := ∃ m, MapIs eStr eV w b m ∧ ∀ k, mget m k = f k
section
variable {ν : Type} {eV : ν → Value} {w w' : World} {b : Nat} {f : List UInt8 → Option ν}
theorem MapF.keep (h : MapF eV w b f) (hb : w'.heap[b]? = w.heap[b]?) : MapF eV w' b f := by
 obtain ⟨m, h1, h2⟩ := h
 exact ⟨m, h1.keep hb, h2⟩
theorem MapF.lt (h : MapF eV w b f) : b < w.heap.size := by
 obtain ⟨m, h1, h2⟩ := h
 exact h1.lt
theorem MapF.below (h : MapF eV w b f) (hb : Below w.heap.size w w') : MapF eV w' b f := h.keep (hb.block _ h.lt)
theorem MapF.congr {g : List UInt8 → Option ν} (h : MapF eV w b f) (e : ∀ k, f k = g k) : MapF eV w b g := by
 obtain ⟨m, h1, h2⟩ := h
 exact ⟨m, h1, fun k => (h2 k).trans (e k)⟩
theorem MapF.made (eV : ν → Value) (w : World) : MapF eV (w.alloc (.map #[] 0)) w.heap.size fun _ => none := ⟨[], MapIs.made eStr eV w, fun _ => rfl⟩
theorem MapF.look {P : Program} (h : MapF eV w b f) {t kt e : TypeId} (hk : P.underlying kt = some .string) (ht : P.underlying t = some (.map kt e)) {z : ν} (hz : (zeroValue e).run P w = .ok (eV z) w) (k : List UInt8) (c : Bool) :
  (Instr.lookup t (.map (some b)) (.string ⟨k.toArray⟩) c).run P w = .ok (if c then .tuple #[eV ((f k).getD z), .bool (f k).isSome] else eV ((f k).getD z)) w := by
 obtain ⟨m, h1, h2⟩ := h
 have := h1.look (keyStr hk) ht hz k c
 rw [h2] at this
 exact this
theorem MapF.store {P : Program} (h : MapF eV w b f) {t kt e : TypeId} (hk : P.underlying kt = some .string) (ht : P.underlying t = some (.map kt e)) (k : List UInt8) (v : ν) :
  ∃ w', (Instr.mapUpdate t (.map (some b)) (.string ⟨k.toArray⟩) (eV v)).run P w = .ok () w' ∧ MapF eV w' b (fun i => if i = k then some v else f i) ∧ Turned b w w' := by
 obtain ⟨m, h1, h2⟩ := h
 obtain ⟨w', h3, h4, h5⟩ := h1.store (keyStr hk) ht k v
 refine ⟨w', h3, ⟨_, h4, fun i => ?_⟩, h5⟩
 show _ = if i = k then some v else f i
 by_cases hi : i = k
 ·rw [if_pos hi, hi, mget_put]
 ·rw [if_neg hi, mget_put_other _ _ hi, h2]
theorem MapF.drop {P : Program} (h : MapF eV w b f) {t kt e : TypeId} (hk : P.underlying kt = some .string) (ht : P.underlying t = some (.map kt e)) (k : List UInt8) :
  ∃ w', (∀ ty, (Builtin.delete_ #[t, kt] ty #[.map (some b), .string ⟨k.toArray⟩]).run P w = .ok (.tuple #[]) w') ∧ MapF eV w' b (fun i => if i = k then none else f i) ∧ Turned b w w' := by
 obtain ⟨m, h1, h2⟩ := h
 obtain ⟨w', h3, h4, h5⟩ := h1.drop (keyStr hk) ht k
 refine ⟨w', h3, ⟨_, h4, fun i => ?_⟩, h5⟩
 show _ = if i = k then none else f i
 by_cases hi : i = k
 ·rw [if_pos hi, hi, mget_del]
 ·rw [if_neg hi, mget_del_other _ hi, h2]
end
def encSums (s : SumsV) : List Value := [.int .i64 s.1, .int .i64 s.2.1, .int .i64 s.2.2.1, .int .i64 s.2.2.2]
theorem encSums_one (x : SumsV) : ∀ v ∈ encSums x, v.oneCell' = true := fun v hv => by
 simp [encSums] at hv
 rcases hv with rfl | rfl | rfl | rfl <;> rfl
def eGoods (g : GoodsV) : Value := .agg (encGoods g).toArray
def eLot (l : LotV) : Value := .agg (encLot l).toArray
def eSums (s : SumsV) : Value := .agg (encSums s).toArray
def goodsF (B : BkV) (k : List UInt8) : Option GoodsV := (fG B k).map (·.1)
def lotsF (B : BkV) (k : List UInt8) : Option LotV := (fL B k).map (·.1)
def heldF (B : BkV) (k : List UInt8) : Option Nat := if heldOf B k = 0 then none else some (heldOf B k)
def sumsF (B : BkV) (k : List UInt8) : Option SumsV := if sumsOf B k = zeroSums then none else some (sumsOf B k)
theorem heldF_get (B : BkV) (k : List UInt8) : (heldF B k).getD 0 = heldOf B k := by
 unfold heldF
 split
 ·rename_i h; exact h.symm
 ·rfl
theorem sumsF_get (B : BkV) (k : List UInt8) : (sumsF B k).getD zeroSums = sumsOf B k := by
 unfold sumsF
 split
 ·rename_i h; exact h.symm
 ·rfl
structure BookM (w : World) (p g l h s q c : Nat) (B : BkV) : Prop where
 own : w.heap[p]? = some (.cells #[.map (some g), .map (some l), .map (some h), .map (some s), .pointer (some ⟨q, 0, none⟩)] 123 (0, 0))
 goods : MapF eGoods w g (goodsF B)
 lots : MapF eLot w l (lotsF B)
 held : MapF eNat w h (heldF B)
 sums : MapF eSums w s (sumsF B)
 stk : StkP w q c B.2.2
def BookIs (w : World) (p : Nat) (F : List Nat) (B : BkV) : Prop := ∃ g l h s q c, F = [p, g, l, h, s, q, c] ∧ F.Nodup ∧ BookM w p g l h s q c B
theorem BookM.lt {w : World} {p g l h s q c : Nat} {B : BkV} (H : BookM w p g l h s q c B) : ∀ k ∈ [p, g, l, h, s, q, c], k < w.heap.size := fun k hk => by
 simp only [List.mem_cons, List.not_mem_nil, or_false] at hk
 rcases hk with rfl | rfl | rfl | rfl | rfl | rfl | rfl
 ·exact (Array.getElem?_eq_some_iff.1 H.own).1
 ·exact H.goods.lt
 ·exact H.lots.lt
 ·exact H.held.lt
 ·exact H.sums.lt
 ·exact H.stk.lt.1
 ·exact H.stk.lt.2
theorem BookM.keep {w w' : World} {p g l h s q c : Nat} {B : BkV} (H : BookM w p g l h s q c B) (hk : ∀ k ∈ [p, g, l, h, s, q, c], w'.heap[k]? = w.heap[k]?) : BookM w' p g l h s q c B :=
 ⟨(hk p (by simp)).trans H.own, H.goods.keep (hk g (by simp)), H.lots.keep (hk l (by simp)), H.held.keep (hk h (by simp)), H.sums.keep (hk s (by simp)), H.stk.keep (hk q (by simp)) (hk c (by simp))⟩
theorem BookM.below {w w' : World} {p g l h s q c : Nat} {B : BkV} (H : BookM w p g l h s q c B) (hb : Below w.heap.size w w') : BookM w' p g l h s q c B := H.keep fun k hk => hb.block _ (H.lt k hk)
theorem BookIs.lt {w : World} {p : Nat} {F : List Nat} {B : BkV} (H : BookIs w p F B) : ∀ k ∈ F, k < w.heap.size := by
 obtain ⟨g, l, h, s, q, c, rfl, _, H⟩ := H
 exact H.lt
theorem BookIs.keep {w w' : World} {p : Nat} {F : List Nat} {B : BkV} (H : BookIs w p F B) (hk : ∀ k ∈ F, w'.heap[k]? = w.heap[k]?) : BookIs w' p F B := by
 obtain ⟨g, l, h, s, q, c, rfl, hn, H⟩ := H
 exact ⟨g, l, h, s, q, c, rfl, hn, H.keep hk⟩
theorem BookIs.below {w w' : World} {p : Nat} {F : List Nat} {B : BkV} (H : BookIs w p F B) (hb : Below w.heap.size w w') : BookIs w' p F B := H.keep fun k hk => hb.block _ (H.lt k hk)
theorem BookIs.butF {w w' : World} {p : Nat} {F F' : List Nat} {B : BkV} (H : BookIs w p F B) (hb : ButF F' w w') (hd : ∀ k ∈ F, k ∉ F') : BookIs w' p F B := H.keep fun k hk => hb.block _ (H.lt k hk) (hd k hk)
theorem BookIs.perm {w : World} {p : Nat} {F : List Nat} {B B' : BkV} (H : BookIs w p F B) (h1 : B.1 = B'.1) (h2 : B.2.1 = B'.2.1) (h3 : B.2.2.Perm B'.2.2) : BookIs w p F B' := by
 obtain ⟨g, l, h, s, q, c, rfl, hn, H⟩ := H
 obtain ⟨G, L, m⟩ := B
 obtain ⟨G', L', m'⟩ := B'
 simp only at h1 h2
 subst h1 h2
 exact ⟨g, l, h, s, q, c, rfl, hn, ⟨H.own, H.goods, H.lots, H.held, H.sums, H.stk.perm h3⟩⟩
end Go.Proofs.YtchiojiicehpeaaGreatDoor
namespace Go.Proofs.YtchiojiicehpeaaGreatDoor
open Go.RowKit Go.Sort Go.Proofs
section
variable {B : BkV} (h : BkI B)
include h
theorem BkI.fG_ins {g : GoodsV} (hn : fG B g.1 = none) (c : List UInt8) : fG (insG (g, zeroSums) B.1, B.2.1, B.2.2) c = if g.1 = c then some (g, zeroSums) else fG B c := find_insK (fun y : GoS => y.1.1) (g, zeroSums) h.gs (fG_none hn) c
theorem BkI.fL_ins {l : LotV} (hn : fL B l.1 = none) (c : List UInt8) : fL (B.1, insLo (l, 0) B.2.1, B.2.2) c = if l.1 = c then some (l, 0) else fL B c := find_insK (fun y : LoH => y.1.1) (l, 0) h.ls (fL_none hn) c
theorem BkI.goodsF_ins {g : GoodsV} (hn : fG B g.1 = none) (c : List UInt8) : (if c = g.1 then some g else goodsF B c) = goodsF (insG (g, zeroSums) B.1, B.2.1, B.2.2) c := by
 unfold goodsF
 rw [h.fG_ins hn]
 by_cases hc : c = g.1
 ·rw [if_pos hc, if_pos hc.symm]; rfl
 ·rw [if_neg hc, if_neg (Ne.symm hc)]
theorem BkI.sumsF_ins {g : GoodsV} (hn : fG B g.1 = none) (c : List UInt8) : sumsF B c = sumsF (insG (g, zeroSums) B.1, B.2.1, B.2.2) c := by
 have e : sumsOf B c = sumsOf (insG (g, zeroSums) B.1, B.2.1, B.2.2) c := by
  unfold sumsOf
  rw [h.fG_ins hn]
  by_cases hc : g.1 = c
  ·rw [if_pos hc, ← hc, hn]
  ·rw [if_neg hc]
 unfold sumsF
 rw [e]
theorem BkI.lotsF_ins {l : LotV} (hn : fL B l.1 = none) (c : List UInt8) : (if c = l.1 then some l else lotsF B c) = lotsF (B.1, insLo (l, 0) B.2.1, B.2.2) c := by
 unfold lotsF
 rw [h.fL_ins hn]
 by_cases hc : c = l.1
 ·rw [if_pos hc, if_pos hc.symm]; rfl
 ·rw [if_neg hc, if_neg (Ne.symm hc)]
theorem BkI.heldF_ins {l : LotV} (hn : fL B l.1 = none) (c : List UInt8) : heldF B c = heldF (B.1, insLo (l, 0) B.2.1, B.2.2) c := by
 have e : heldOf B c = heldOf (B.1, insLo (l, 0) B.2.1, B.2.2) c := by
  unfold heldOf
  rw [h.fL_ins hn]
  by_cases hc : l.1 = c
  ·rw [if_pos hc, ← hc, hn]
  ·rw [if_neg hc]
 unfold heldF
 rw [e]
end
theorem fG_doP (B : BkV) (x : EntV) (c : List UInt8) : fG (doP B x) c = (fG B c).map fun z => if z.1.1 = codeLo B x.2.2.1.1 then (z.1, summ (sumsOf B (codeLo B x.2.2.1.1)) x) else z :=
 find_map (fun z : GoS => z.1.1) (fun z => by rw [setG_fst]) c
theorem fL_doP (B : BkV) (x : EntV) (c : List UInt8) : fL (doP B x) c = (fL B c).map fun z => if z.1.1 = x.2.2.1.1 then (z.1, (heldN (heldOf B x.2.2.1.1) x).toNat) else z :=
 find_map (fun z : LoH => z.1.1) (fun z => by rw [setLo_fst]) c
theorem goodsF_doP (B : BkV) (x : EntV) (c : List UInt8) : goodsF B c = goodsF (doP B x) c := by
 unfold goodsF
 rw [fG_doP]
 cases fG B c with
 |none => rfl
 |some z => simp only [Option.map_some, setG_fst]
theorem lotsF_doP (B : BkV) (x : EntV) (c : List UInt8) : lotsF B c = lotsF (doP B x) c := by
 unfold lotsF
 rw [fL_doP]
 cases fL B c with
 |none => rfl
 |some z => simp only [Option.map_some, setLo_fst]
theorem heldOf_doP {B : BkV} {x : EntV} {y : LoH} (hf : fL B x.2.2.1.1 = some y) (c : List UInt8) : heldOf (doP B x) c = if c = x.2.2.1.1 then (heldN (heldOf B x.2.2.1.1) x).toNat else heldOf B c := by
 conv => lhs; unfold heldOf
 rw [fL_doP]
 by_cases hc : c = x.2.2.1.1
 ·rw [if_pos hc, hc, hf]
  simp only [Option.map_some]
  rw [if_pos (fL_mem hf).2]
 ·rw [if_neg hc]
  unfold heldOf
  cases hz : fL B c with
  |none => rfl
  |some z =>
   simp only [Option.map_some]
   rw [if_neg (by rw [(fL_mem hz).2]; exact hc)]
theorem sumsOf_doP {B : BkV} {x : EntV} {g : GoS} (hf : fG B (codeLo B x.2.2.1.1) = some g) (c : List UInt8) : sumsOf (doP B x) c = if c = codeLo B x.2.2.1.1 then summ (sumsOf B (codeLo B x.2.2.1.1)) x else sumsOf B c := by
 conv => lhs; unfold sumsOf
 rw [fG_doP]
 by_cases hc : c = codeLo B x.2.2.1.1
 ·rw [if_pos hc, hc, hf]
  simp only [Option.map_some]
  rw [if_pos (fG_mem hf).2]
 ·rw [if_neg hc]
  unfold sumsOf
  cases hz : fG B c with
  |none => rfl
  |some z =>
   simp only [Option.map_some]
   rw [if_neg (by rw [(fG_mem hz).2]; exact hc)]
theorem heldF_doP {B : BkV} {x : EntV} {y : LoH} (hf : fL B x.2.2.1.1 = some y) (c : List UInt8) :
  (if c = x.2.2.1.1 then (if (heldN (heldOf B x.2.2.1.1) x).toNat = 0 then none else some (heldN (heldOf B x.2.2.1.1) x).toNat) else heldF B c) = heldF (doP B x) c := by
 unfold heldF
 rw [heldOf_doP hf]
 by_cases hc : c = x.2.2.1.1
 ·rw [if_pos hc, if_pos hc]
 ·rw [if_neg hc, if_neg hc]
theorem sumsF_doP {B : BkV} {x : EntV} {g : GoS} (hf : fG B (codeLo B x.2.2.1.1) = some g) (c : List UInt8) :
  (if c = codeLo B x.2.2.1.1 then (if summ (sumsOf B (codeLo B x.2.2.1.1)) x = zeroSums then none else some (summ (sumsOf B (codeLo B x.2.2.1.1)) x)) else sumsF B c) = sumsF (doP B x) c := by
 unfold sumsF
 rw [sumsOf_doP hf]
 by_cases hc : c = codeLo B x.2.2.1.1
 ·rw [if_pos hc, if_pos hc]
 ·rw [if_neg hc, if_neg hc]
theorem BkI.lot_goods {B : BkV} (h : BkI B) {id : List UInt8} {y : LoH} (hf : fL B id = some y) : codeLo B id = y.1.2.1 ∧ heldOf B id = y.2 ∧ ∃ g, fG B y.1.2.1 = some g ∧ sumsOf B y.1.2.1 = g.2 ∧ OkS g.2 := by
 obtain ⟨hy, hi⟩ := fL_mem hf
 obtain ⟨-, -, hgs⟩ := h.lok y hy
 obtain ⟨g, hg⟩ := Option.isSome_iff_exists.1 hgs
 exact ⟨by unfold codeLo; rw [hf], by unfold heldOf; rw [hf], g, hg, by unfold sumsOf; rw [hg], (h.gok g (fG_mem hg).1).2⟩
theorem map_count {ν : Type} {m : List (List UInt8 × ν)} (hn : (m.map (·.1)).Nodup) {f : List UInt8 → Option ν} (hf : ∀ k, mget m k = f k) {α : Type} (key : α → List UInt8) (val : α → ν) {l : List α} (hs : l.Pairwise fun x y => ltB (key x) (key y) = true)
  (he : ∀ k, f k = (l.find? fun x => decide (key x = k)).map val) : m.Perm (l.map fun x => (key x, val x)) := by
 refine perm_mget hn ?_ fun k => ?_
 ·rw [List.map_map]
  have : ((l.map ((fun x : List UInt8 × ν => x.1) ∘ fun x => (key x, val x)))) = l.map key := rfl
  rw [this, List.Nodup, List.pairwise_map]
  exact hs.imp fun h => ltB_ne h
 ·rw [hf, he, mget_find]
end Go.Proofs.YtchiojiicehpeaaGreatDoor
namespace Go.Proofs.YtchiojiicehpeaaGreatDoor
open Go.RowKit Go.Sort Go.Proofs
def cfLot (x y : LotV) : Int := orL [Lib.compareInt x.2.2.1 y.2.2.1, Lib.compareBytes x.1 y.1]
theorem cmpI_lt (x y : Int) : Lib.compareInt x y < 0 ↔ x < y := by
 unfold Lib.compareInt
 by_cases h1 : x < y
 ·simp [h1]
 ·by_cases h2 : y < x <;> simp [h1, h2]
theorem cmpI_zero (x y : Int) : Lib.compareInt x y = 0 ↔ x = y := by
 unfold Lib.compareInt
 by_cases h1 : x < y
 ·simp [h1]; omega
 ·by_cases h2 : y < x
  ·simp [h1, h2]; omega
  ·simp [h1, h2]; omega
theorem ltLot (x y : LotV) : ltOf cfLot x y = decide (x.2.2.1 < y.2.2.1 ∨ (x.2.2.1 = y.2.2.1 ∧ Lib.compareBytes x.1 y.1 < 0)) := by
 unfold ltOf cfLot
 rw [Bool.eq_iff_iff, decide_eq_true_iff, decide_eq_true_iff]
 by_cases h : Lib.compareInt x.2.2.1 y.2.2.1 = 0
 ·have h' := (cmpI_zero _ _).1 h
  simp only [orL, h, if_pos]
  by_cases h2 : Lib.compareBytes x.1 y.1 = 0
  ·rw [if_pos h2, h2]; omega
  ·rw [if_neg h2]; omega
 ·have h' : x.2.2.1 ≠ y.2.2.1 := fun e => h ((cmpI_zero _ _).2 e)
  simp only [orL, if_neg h]
  rw [cmpI_lt]; omega
theorem swoLot : SWO (ltOf cfLot) where
 irrefl x := by rw [ltLot, cmpB_refl]; simp
 trans x y z h1 h2 := by
  rw [ltLot, decide_eq_true_iff] at *
  rcases h1 with h1 | ⟨h1, h1'⟩ <;> rcases h2 with h2 | ⟨h2, h2'⟩
  ·exact .inl (by omega)
  ·exact .inl (by omega)
  ·exact .inl (by omega)
  ·exact .inr ⟨by omega, cmpB_trans _ _ _ h1' h2'⟩
 ntrans x y z h1 h2 := by
  rw [ltLot, decide_eq_false_iff_not] at *
  rintro (h3 | ⟨h3, h3'⟩)
  ·exact h1 (.inl (by have : ¬ y.2.2.1 < z.2.2.1 := fun h => h2 (.inl h); omega))
  ·have a1 : ¬ x.2.2.1 < y.2.2.1 := fun h => h1 (.inl h)
   have a2 : ¬ y.2.2.1 < z.2.2.1 := fun h => h2 (.inl h)
   have b1 : ¬ Lib.compareBytes x.1 y.1 < 0 := fun h => h1 (.inr ⟨by omega, h⟩)
   have b2 : ¬ Lib.compareBytes y.1 z.1 < 0 := fun h => h2 (.inr ⟨by omega, h⟩)
   have s1 := cmpB_swap x.1 y.1
   have s2 := cmpB_swap y.1 z.1
   by_cases e1 : Lib.compareBytes x.1 y.1 = 0
   ·rw [(cmpB_eq _ _).1 e1] at h3'; exact b2 h3'
   ·by_cases e2 : Lib.compareBytes y.1 z.1 = 0
    ·rw [← (cmpB_eq _ _).1 e2] at h3'; exact b1 h3'
    ·have := cmpB_trans z.1 y.1 x.1 (by omega) (by omega)
     have s3 := cmpB_swap x.1 z.1
     omega
set_option maxHeartbeats 1000000 in
theorem cmpLot_any (x y : LotV) (W : World) : Calls Tryz.prog 193 #[.agg (encLot x).toArray, .agg (encLot y).toArray] W fun e w' => e = .returned (.int .i64 (cfLot x y)) ∧ ∃ q os', w' = grow (W.drewN q) os' := by
 obtain ⟨a1, a2, a3, a4⟩ := x
 obtain ⟨b1, b2, b3, b4⟩ := y
 simp only [encLot, cfLot]
 go_enter Tryz.func193, Tryz.ntmps193
 go_wp2_with fail
 have hor := fun (B : Nat) (W' : World) (h0 : W'.cell? ⟨B, 0, none⟩ = some (.int .i64 (Lib.compareInt a3 b3))) (h1 : W'.cell? ⟨B, 1, none⟩ = some (.int .i64 (Lib.compareBytes a1 b1))) => or_any B [Lib.compareInt a3 b3, Lib.compareBytes a1 b1] W' (by simp) (fun k hk => by
  have hk' : k < 2 := hk
  rcases (show k = 0 ∨ k = 1 by omega) with rfl | rfl
  ·exact h0
  ·exact h1)
 have HOR := Lib.hid hor
 clear hor
 go_region_held3 (fun w' => w'.cell? ⟨W.heap.size, 0, none⟩ = some (.string ⟨a1.toArray⟩) ∧ w'.cell? ⟨W.heap.size, 2, none⟩ = some (.int .i64 a3) ∧ w'.cell? ⟨W.heap.size + 1, 0, none⟩ = some (.string ⟨b1.toArray⟩) ∧ w'.cell? ⟨W.heap.size + 1, 2, none⟩ = some (.int .i64 b3))
  (go_keep)
  (first
   |(go_at_call 221; refine (Tryz.cmp_Compare_int _ _ _).mono ?_; rintro e w' ⟨rfl, rfl⟩)
   |(go_at_call 200; refine (Tryz.strings_Compare _ _ _).mono ?_; rintro e w' ⟨rfl, rfl⟩)
   |(go_at_call 198; refine (HOR.out _ _ (by show (World.alloc _ _).cell? _ = _; rw [World.cell?_alloc_at _ _ _ _ (by simp)]; rfl) (by show (World.alloc _ _).cell? _ = _; rw [World.cell?_alloc_at _ _ _ _ (by simp)]; rfl)).mono ?_; rintro e w' ⟨rfl, rfl⟩))
 all_goals
  clear HOR
  go_wp2_with fail
  go_ret
  refine ⟨rfl, 1, #[.cells #[.string ⟨a1.toArray⟩, .string ⟨a2.toArray⟩, .int .i64 a3, .int .i64 a4] 65, .cells #[.string ⟨b1.toArray⟩, .string ⟨b2.toArray⟩, .int .i64 b3, .int .i64 b4] 65, .cells #[.int .i64 (Lib.compareInt a3 b3), .int .i64 (Lib.compareBytes a1 b1)] 3], ?_⟩
  rw [alloc_eq_grow, alloc_eq_grow, alloc_eq_grow, grow_grow, grow_grow]; rfl
end Go.Proofs.YtchiojiicehpeaaGreatDoor
