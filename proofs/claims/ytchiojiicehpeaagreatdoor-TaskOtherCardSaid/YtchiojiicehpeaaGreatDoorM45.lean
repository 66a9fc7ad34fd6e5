/- No error's number is beyond 12. The document's book: Do. Two books side by side: the program's and the document's. plain.Code: an error's number and place. plain.Code at each make of error; coded. coded, of tithebarnlaw2. -/
import Derived.LoopTactic
import Derived.Outline
import Derived.Test.YtchiojiicehpeaaGreatDoorM20
import Derived.Test.YtchiojiicehpeaaGreatDoorM25
import Derived.Test.YtchiojiicehpeaaGreatDoorM34
import Derived.Test.YtchiojiicehpeaaGreatDoorM37
import Derived.Test.YtchiojiicehpeaaGreatDoorRBkPc
namespace Go.Proofs.YtchiojiicehpeaaGreatDoor
open Go.RowKit Go.Sort Go.Proofs
theorem goodsE_tw (x : GoodsV) : goodsE x ≤ 12 := by
 unfold goodsE
 repeat' split
 all_goals omega
theorem lotE_tw (x : LotV) : lotE x ≤ 12 := by
 unfold lotE
 repeat' split
 all_goals omega
theorem placeE_tw (x : PlaceV) : placeE x ≤ 12 := by
 unfold placeE
 repeat' split
 all_goals omega
theorem entE_tw (x : EntV) : entE x ≤ 12 := by
 have h1 := goodsE_tw x.2.1
 have h2 := lotE_tw x.2.2.1
 have h3 : piecesE x ≤ 12 := by
  have h4 : placesE x ≤ 12 := by
   have h5 := placeE_tw x.2.2.2.1
   have h6 := placeE_tw x.2.2.2.2.1
   unfold placesE
   repeat' split
   all_goals omega
  unfold piecesE
  repeat' split
  all_goals omega
 unfold entE
 repeat' split
 all_goals omega
theorem putE_tw (m : StkV) (p : PlaceV) (l : List UInt8) (n : Int) : putE m p l n ≤ 12 := by
 have h := placeE_tw p
 unfold putE
 repeat' split
 all_goals omega
theorem takeE_tw (m : StkV) (p : PlaceV) (l : List UInt8) (n : Int) : takeE m p l n ≤ 12 := by
 unfold takeE
 repeat' split
 all_goals omega
theorem moveE_tw (m : StkV) (p q : PlaceV) (l : List UInt8) (n : Int) : moveE m p q l n ≤ 12 := by
 have h1 := takeE_tw m p l n
 have h2 := placeE_tw q
 have h3 := putE_tw (takeM m p l n) q l n
 unfold moveE
 repeat' split
 all_goals omega
theorem doE_tw (B : BkV) (x : EntV) : doE B x ≤ 12 := by
 have h1 := entE_tw x
 have h2 : actE B.2.2 x ≤ 12 := by
  have h3 := putE_tw B.2.2 x.2.2.2.2.1 x.2.2.1.1 x.2.2.2.2.2
  have h4 := takeE_tw B.2.2 x.2.2.2.1 x.2.2.1.1 x.2.2.2.2.2
  have h5 := moveE_tw B.2.2 x.2.2.2.1 x.2.2.2.2.1 x.2.2.1.1 x.2.2.2.2.2
  unfold actE
  repeat' split
  all_goals omega
 have h3 : pcE B x ≤ 12 := by
  unfold pcE
  repeat' split
  all_goals omega
 unfold doE
 repeat' split
 all_goals omega
end Go.Proofs.YtchiojiicehpeaaGreatDoor
namespace Go.Proofs.YtchiojiicehpeaaGreatDoor
open Go.RowKit Go.Sort Go.Proofs
theorem insG_len (x : GoS) (l : List GoS) : (insG x l).length = l.length + 1 := by
 rw [insG_eq, (insK_perm (fun y : GoS => y.1.1) x l).length_eq]
 rfl
theorem insLo_len (x : LoH) (l : List LoH) : (insLo x l).length = l.length + 1 := by
 rw [insLo_eq, (insK_perm (fun y : LoH => y.1.1) x l).length_eq]
 rfl
theorem blockL_nodup (v : Value) : (blockL v).Nodup := by
 unfold blockL
 split <;> simp
theorem blockL_ge {w : World} {B e size n : Nat} {v : Value} {xs : List Value} (h : w.ownsRow B e size v n xs) : ∀ k ∈ blockL v, B ≤ k ∧ k < w.heap.size := fun k hk => h.lt k (blockL_own hk)
theorem refDo_any {q : Nat} {F R : List Nat} {B : BkV} (x : EntV) {w : World} (H : MBk w q F R B) (hI : BkI B) (hs : ShortE x) :
  Calls Tryz.prog 47 #[.pointer (some ⟨q, 0, none⟩), .agg (encEnt x).toArray] w fun e w' => e = .returned (.int .i64 (doE B x : Nat)) ∧
   (∃ F' R', MBk w' q F' R' (doB B x) ∧ (∀ k ∈ F', k ∈ F ∨ w.heap.size ≤ k) ∧ ∀ k ∈ R', k ∈ R ∨ w.heap.size ≤ k) ∧ ButF F w w' := by
 have stay : ∀ w', Below w.heap.size w w' → doB B x = B → (∃ F' R', MBk w' q F' R' (doB B x) ∧ (∀ k ∈ F', k ∈ F ∨ w.heap.size ≤ k) ∧ ∀ k ∈ R', k ∈ R ∨ w.heap.size ≤ k) ∧ ButF F w w' := fun w' hb he =>
  ⟨⟨F, R, by rw [he]; exact H.below hb, fun _ h => .inl h, fun _ h => .inl h⟩, ButF.of_below hb⟩
 by_cases he : ¬ entE x = 0
 ·have hd : doE B x = entE x := by unfold doE; rw [if_pos he]
  have hb : doB B x = B := by unfold doB; rw [if_pos (by rw [hd]; exact he)]
  rw [hd]
  refine (refDo_err q x w hs he (entE_tw x)).mono ?_
  rintro e w' ⟨h1, h2⟩
  exact ⟨h1, stay w' h2 hb⟩
 have he := Classical.not_not.1 he
 have hsz := H.lt
 obtain ⟨vG, vL, A, cap, rfl, hn, rfl, hA, H⟩ := H
 have hq : q ∉ blockL vG ++ blockL vL := (List.nodup_cons.1 hn).1
 by_cases kg : x.1 = kGoods
 ·refine (refDo_goods q vG vL A cap B x w H hI hs he kg).mono ?_
  rintro e w' ⟨h1, h2⟩
  refine ⟨h1, ?_⟩
  rcases h2 with ⟨h2, h3⟩ | ⟨h2, v', h3, h4, h5⟩
  ·exact stay w' h3 (by unfold doB; rw [if_pos h2])
  ·have hb : doB B x = (insG (x.2.1, zeroSums) B.1, B.2.1, B.2.2) := by unfold doB; rw [if_neg (by simpa using h2), if_pos kg]
   have hv := blockL_ge h4
   refine ⟨⟨q :: (blockL v' ++ blockL vL), rowB A B.2.2, ⟨v', vL, A, cap, rfl, ?_, by rw [hb], fun k hk => ?_, ?_⟩, fun k hk => ?_, fun _ h => .inl h⟩, h5.mono (by simp)⟩
   ·refine List.nodup_cons.2 ⟨fun h => ?_, List.nodup_append.2 ⟨blockL_nodup _, blockL_nodup _, fun a ha b hb' e => ?_⟩⟩
    ·rcases List.mem_append.1 h with h | h
     ·have := (hv q h).1
      have := hsz.1 q (by simp)
      omega
     ·exact hq (List.mem_append_right _ h)
    ·have := (hv a ha).1
     have := hsz.1 b (by simp [hb'])
     omega
   ·have hl := hsz.2 k hk
    refine ⟨fun h => ?_, Nat.lt_of_lt_of_le hl h5.size⟩
    rcases List.mem_cons.1 h with h | h
    ·exact (hA k hk).1 (by rw [h]; simp)
    ·rcases List.mem_append.1 h with h | h
     ·have := (hv k h).1
      omega
     ·exact (hA k hk).1 (by simp [h])
   ·rw [hb]
    refine ⟨h3, ?_, ?_, ?_⟩
    ·have := own_base h4 (Nat.zero_le _)
     rw [← insG_len (x.2.1, zeroSums) B.1] at this
     exact this
    ·exact own_kept H.lots fun g hg => h5.block g (H.lots.lt g hg).2 (fun e => hq (by
      simp only [List.mem_singleton] at e
      rw [← e]
      exact List.mem_append_right _ (blockL_mem hg)))
    ·exact lines_kept H.lines h5.size fun k hk => h5.block k (hsz.2 k hk) (fun e => (hA k hk).1 (by
      simp only [List.mem_singleton] at e
      rw [e]
      simp))
   ·rcases List.mem_cons.1 hk with h | h
    ·exact .inl (by rw [h]; simp)
    ·rcases List.mem_append.1 h with h | h
     ·exact .inr (hv k h).1
     ·exact .inl (by simp [h])
 by_cases kl : x.1 = kLot
 ·refine (refDo_lot q vG vL A cap B x w H hI hs he kl).mono ?_
  rintro e w' ⟨h1, h2⟩
  refine ⟨h1, ?_⟩
  rcases h2 with ⟨h2, h3⟩ | ⟨h2, v', h3, h4, h5⟩
  ·exact stay w' h3 (by unfold doB; rw [if_pos h2])
  ·have hb : doB B x = (B.1, insLo (x.2.2.1, 0) B.2.1, B.2.2) := by unfold doB; rw [if_neg (by simpa using h2), if_neg kg, if_pos kl]
   have hv := blockL_ge h4
   refine ⟨⟨q :: (blockL vG ++ blockL v'), rowB A B.2.2, ⟨vG, v', A, cap, rfl, ?_, by rw [hb], fun k hk => ?_, ?_⟩, fun k hk => ?_, fun _ h => .inl h⟩, h5.mono (by simp)⟩
   ·refine List.nodup_cons.2 ⟨fun h => ?_, List.nodup_append.2 ⟨blockL_nodup _, blockL_nodup _, fun a ha b hb' e => ?_⟩⟩
    ·rcases List.mem_append.1 h with h | h
     ·exact hq (List.mem_append_left _ h)
     ·have := (hv q h).1
      have := hsz.1 q (by simp)
      omega
    ·have := (hv b hb').1
     have := hsz.1 a (by simp [ha])
     omega
   ·have hl := hsz.2 k hk
    refine ⟨fun h => ?_, Nat.lt_of_lt_of_le hl h5.size⟩
    rcases List.mem_cons.1 h with h | h
    ·exact (hA k hk).1 (by rw [h]; simp)
    ·rcases List.mem_append.1 h with h | h
     ·exact (hA k hk).1 (by simp [h])
     ·have := (hv k h).1
      omega
   ·rw [hb]
    refine ⟨h3, ?_, ?_, ?_⟩
    ·exact own_kept H.goods fun g hg => h5.block g (H.goods.lt g hg).2 (fun e => hq (by
      simp only [List.mem_singleton] at e
      rw [← e]
      exact List.mem_append_left _ (blockL_mem hg)))
    ·have := own_base h4 (Nat.zero_le _)
     rw [← insLo_len (x.2.2.1, 0) B.2.1] at this
     exact this
    ·exact lines_kept H.lines h5.size fun k hk => h5.block k (hsz.2 k hk) (fun e => (hA k hk).1 (by
      simp only [List.mem_singleton] at e
      rw [e]
      simp))
   ·rcases List.mem_cons.1 hk with h | h
    ·exact .inl (by rw [h]; simp)
    ·rcases List.mem_append.1 h with h | h
     ·exact .inl (by simp [h])
     ·exact .inr (hv k h).1
 have hd : doE B x = pcE B x := by unfold doE; rw [if_neg (by simpa using he), if_neg kg, if_neg kl]
 rw [hd]
 cases hfl : fL B x.2.2.1.1 with
 |none =>
  have hp : pcE B x = 6 := by unfold pcE; rw [hfl]
  rw [hp]
  refine (refDo_pnone q vG vL A cap B x w H hI hs he kg kl hfl).mono ?_
  rintro e w' ⟨h1, h2⟩
  exact ⟨h1, stay w' h2 (by unfold doB; rw [if_pos (by rw [hd, hp]; decide)])⟩
 |some y =>
  refine (refDo_p q vG vL A cap B x y w H hn (fun k hk => (hA k hk).1) hI hs he kg kl hfl (pieces_n he kg kl)).mono ?_
  rintro e w' ⟨h1, h2⟩
  refine ⟨h1, ?_⟩
  rcases h2 with ⟨h2, h3⟩ | ⟨h2, A', cap', h3, h4, h5⟩
  ·exact stay w' h3 (by unfold doB; rw [if_pos (by rw [hd]; exact h2)])
  ·have hb : doB B x = doP B x := by unfold doB; rw [if_neg (by rw [hd, h2]; simp), if_neg kg, if_neg kl]
   have hq2 : (doP B x).2.2 = actM B.2.2 x := rfl
   rw [hb]
   refine ⟨⟨_, rowB A' (actM B.2.2 x), ⟨vG, vL, A', cap', rfl, hn, by rw [hq2], fun k hk => ?_, h3⟩, fun _ h => .inl h, h4⟩, h5⟩
   rcases h4 k hk with h | h
   ·exact ⟨(hA k h).1, Nat.lt_of_lt_of_le (hA k h).2 h5.size⟩
   ·refine ⟨fun hc => by have := hsz.1 k hc; omega, ?_⟩
    obtain ⟨a, ha, hak, hm⟩ := rowB_own hk
    rcases h3.lines with h6 | ⟨b, o, h6, h7, _⟩
    ·have := linesM_len (doP B x).2.2
     rw [h6, hq2] at this
     exact absurd (List.eq_nil_of_length_eq_zero this.symm) hm
    ·rw [ha] at h6
     cases h6
     rw [← hak]
     exact h7
end Go.Proofs.YtchiojiicehpeaaGreatDoor
namespace Go.Proofs.YtchiojiicehpeaaGreatDoor
open Go.RowKit Go.Sort Go.Proofs
def Both (n : Nat) (w : World) (p q : Nat) (B C : BkV) : Prop :=
 ∃ F G R, BookIs w p F B ∧ MBk w q G R C ∧ (∀ k ∈ F, n ≤ k ∧ k ∉ G ∧ k ∉ R) ∧ (∀ k ∈ G, n ≤ k) ∧ ∀ k ∈ R, n ≤ k
theorem Both.below {n p q : Nat} {w w' : World} {B C : BkV} (h : Both n w p q B C) (hb : Below w.heap.size w w') : Both n w' p q B C := by
 obtain ⟨F, G, R, h1, h2, h3, h4, h5⟩ := h
 exact ⟨F, G, R, h1.below hb, h2.below hb, h3, h4, h5⟩
theorem Both.do1 (E : Nat → Addr) {n p q : Nat} {w : World} {B C : BkV} (h : Both n w p q B C) (hn : n ≤ w.heap.size) (hI : BkI B) (x : EntV) (hs : ShortE x) (hG : BkG E w) :
  Calls Tryz.prog 26 #[.pointer (some ⟨p, 0, none⟩), .agg (encEnt x).toArray] w fun e w' => e = .returned (errOf E (doE B x)) ∧ Both n w' p q (doB B x) C ∧ Below n w w' := by
 obtain ⟨F, G, R, h1, h2, h3, h4, h5⟩ := h
 obtain ⟨_, s1, s2, _, _⟩ := hs
 refine (do_any E x h1 hI (by omega) (by omega) hG).mono ?_
 rintro e w' ⟨he, ⟨F', h6, h7⟩, h8⟩
 have hlt := h2.lt
 refine ⟨he, ⟨F', G, R, h6, h2.butF h8 (fun k hk hf => (h3 k hf).2.1 hk) (fun k hk hf => (h3 k hf).2.2 hk), fun k hk => ?_, h4, h5⟩, h8.below hn fun k hk => (h3 k hk).1⟩
 rcases h7 k hk with h | h
 ·exact h3 k h
 ·exact ⟨by omega, fun hg => by have := hlt.1 k hg; omega, fun hr => by have := hlt.2 k hr; omega⟩
theorem Both.do2 {n p q : Nat} {w : World} {B C : BkV} (h : Both n w p q B C) (hn : n ≤ w.heap.size) (hI : BkI C) (x : EntV) (hs : ShortE x) :
  Calls Tryz.prog 47 #[.pointer (some ⟨q, 0, none⟩), .agg (encEnt x).toArray] w fun e w' => e = .returned (.int .i64 (doE C x : Nat)) ∧ Both n w' p q B (doB C x) ∧ Below n w w' := by
 obtain ⟨F, G, R, h1, h2, h3, h4, h5⟩ := h
 refine (refDo_any x h2 hI hs).mono ?_
 rintro e w' ⟨he, ⟨G', R', h6, h7, h9⟩, h8⟩
 have hlt := h1.lt
 refine ⟨he, ⟨F, G', R', h1.butF h8 (fun k hk hg => (h3 k hk).2.1 hg), h6, fun k hk => ⟨(h3 k hk).1, fun hg => ?_, fun hr => ?_⟩, fun k hk => ?_, fun k hk => ?_⟩, h8.below hn h4⟩
 ·rcases h7 k hg with h | h
  ·exact (h3 k hk).2.1 h
  ·have := hlt k hk; omega
 ·rcases h9 k hr with h | h
  ·exact (h3 k hk).2.2 h
  ·have := hlt k hk; omega
 ·rcases h7 k hk with h | h
  ·exact h4 k h
  ·omega
 ·rcases h9 k hk with h | h
  ·exact h5 k h
  ·omega
end Go.Proofs.YtchiojiicehpeaaGreatDoor
namespace Go.Proofs.YtchiojiicehpeaaGreatDoor
open Go.RowKit
def gErr : Nat → Nat
 |1 => 7 | 2 => 6 | 3 => 5 | 4 => 8 | 5 => 0 | 6 => 3
 |7 => 1 | 8 => 2 | 9 => 9 | 10 => 10 | 11 => 4 | _ => 11
theorem lt_of_row {w : World} {b : Nat} {o : Obj} (h : w.heap[b]? = some o) : b < w.heap.size := by
 rcases Nat.lt_or_ge b w.heap.size with hl | hl
 ·exact hl
 ·rw [Array.getElem?_eq_none hl] at h; cases h
structure ErrG (E : Nat → Addr) (w : World) : Prop where
 at_ : ∀ k, 1 ≤ k → k ≤ 12 → ErrAt (gErr k) (E k) w
 row : ∀ k, 1 ≤ k → k ≤ 12 → ∃ cs t, w.heap[(E k).block]? = some (.cells cs t (0, 0))
 inj : ∀ i j, 1 ≤ i → i ≤ 12 → 1 ≤ j → j ≤ 12 → E i = E j → i = j
 ty : w.cell? ⟨12, 0, none⟩ = some (.iface 286 (.agg #[.pointer (some ⟨21, 43, none⟩)]))
theorem ErrG.below {E : Nat → Addr} {w w' : World} (h : ErrG E w) (hb : Below w.heap.size w w') : ErrG E w' :=
 ⟨fun k h1 h2 => (h.at_ k h1 h2).below hb, fun k h1 h2 => (h.row k h1 h2).elim fun cs hh => hh.elim fun t hr => ⟨cs, t, (hb.block _ (lt_of_row hr)).trans hr⟩,
  h.inj, (hb.cell (lt_of_cell h.ty)).trans h.ty⟩
def IsK (E : Nat → Addr) (v : Value) (K : Nat) (w : World) : Prop :=
 ∀ (k : Nat) (W : World), 1 ≤ k → k ≤ 12 → Below w.heap.size w W → Calls Tryz.prog 101 #[v, .iface 373 (.pointer (some (E k)))] W fun e w' => e = .returned (.bool (decide (k = K))) ∧ W = w'
def codeOf (K : Nat) : Int := if K = 0 then -1 else K
theorem code_nil (w : World) : Calls Tryz.prog 39 #[.nilIface] w fun e w' => e = .returned (.tuple #[.int .i64 0, .int .i64 (-1)]) ∧ w = w' := by
 go_enter Tryz.func39, Tryz.ntmps39
 go_wp2
 go_ret2
 exact ⟨rfl, rfl⟩
theorem cells12 (E : Nat → Addr) (w : World) : ∀ k, k < 12 → (w.alloc (.cells #[.iface 373 (.pointer (some (E 1))), .iface 373 (.pointer (some (E 2))), .iface 373 (.pointer (some (E 3))), .iface 373 (.pointer (some (E 4))), .iface 373 (.pointer (some (E 5))), .iface 373 (.pointer (some (E 6))), .iface 373 (.pointer (some (E 7))), .iface 373 (.pointer (some (E 8))), .iface 373 (.pointer (some (E 9))), .iface 373 (.pointer (some (E 10))), .iface 373 (.pointer (some (E 11))), .iface 373 (.pointer (some (E 12)))] 43)).cell? ⟨w.heap.size, k, none⟩ = some (.iface 373 (.pointer (some (E (k + 1))))) := by
 intro k hk
 rcases (show k = 0 ∨ k = 1 ∨ k = 2 ∨ k = 3 ∨ k = 4 ∨ k = 5 ∨ k = 6 ∨ k = 7 ∨ k = 8 ∨ k = 9 ∨ k = 10 ∨ k = 11 by omega) with rfl | rfl | rfl | rfl | rfl | rfl | rfl | rfl | rfl | rfl | rfl | rfl <;> simp
set_option maxHeartbeats 1000000 in
/-- An error that bears no place. -/
theorem code_miss (E : Nat → Addr) (tv : TypeId) (pv : Value) (K : Nat) (w : World) (hG : ErrG E w) (hK : K ≤ 12) (hIs : IsK E (.iface tv pv) K w)
  (hAs : ∀ (t : Addr) (old : Value) (W : World), Below w.heap.size w W → W.cell? t = some old → Calls Tryz.prog 100 #[.iface tv pv, .iface 180 (.pointer (some t))] W fun ev w' => ev = .returned (.bool false) ∧ Below W.heap.size W w') :
  Calls Tryz.prog 39 #[.iface tv pv] w fun e w' => e = .returned (.tuple #[.int .i64 (codeOf K), .int .i64 (-1)]) ∧ Below w.heap.size w w' := by
 have HIs := Lib.hid hIs
 have HAs := Lib.hid hAs
 clear hIs hAs
 go_enter Tryz.func39, Tryz.ntmps39
 go_wp2_with fail
 refine (HAs.out _ (.pointer none) _ ((Below.refl _ _).alloc (Nat.le_refl _) _) (by simp)).mono ?_
 rintro e w1 ⟨rfl, hb1⟩
 have hb : Below w.heap.size w w1 := ((Below.refl w.heap.size w).alloc (Nat.le_refl _) _).trans (hb1.mono (by simp))
 have hG1 := hG.below hb
 have c1 := hG1.at_ 1 (by omega) (by omega)
 have c2 := hG1.at_ 2 (by omega) (by omega)
 have c3 := hG1.at_ 3 (by omega) (by omega)
 have c4 := hG1.at_ 4 (by omega) (by omega)
 have c5 := hG1.at_ 5 (by omega) (by omega)
 have c6 := hG1.at_ 6 (by omega) (by omega)
 have c7 := hG1.at_ 7 (by omega) (by omega)
 have c8 := hG1.at_ 8 (by omega) (by omega)
 have c9 := hG1.at_ 9 (by omega) (by omega)
 have c10 := hG1.at_ 10 (by omega) (by omega)
 have c11 := hG1.at_ 11 (by omega) (by omega)
 have c12 := hG1.at_ 12 (by omega) (by omega)
 simp only [gErr, ErrAt] at c1 c2 c3 c4 c5 c6 c7 c8 c9 c10 c11 c12
 go_wp2_with fail
 clear c1 c2 c3 c4 c5 c6 c7 c8 c9 c10 c11 c12 hG1
 have hc := cells12 E w1
 have hb2 : Below w.heap.size w (w1.alloc (.cells #[.iface 373 (.pointer (some (E 1))), .iface 373 (.pointer (some (E 2))), .iface 373 (.pointer (some (E 3))), .iface 373 (.pointer (some (E 4))), .iface 373 (.pointer (some (E 5))), .iface 373 (.pointer (some (E 6))), .iface 373 (.pointer (some (E 7))), .iface 373 (.pointer (some (E 8))), .iface 373 (.pointer (some (E 9))), .iface 373 (.pointer (some (E 10))), .iface 373 (.pointer (some (E 11))), .iface 373 (.pointer (some (E 12)))] 43)) := hb.alloc hb.size _
 generalize w1.alloc (.cells #[.iface 373 (.pointer (some (E 1))), .iface 373 (.pointer (some (E 2))), .iface 373 (.pointer (some (E 3))), .iface 373 (.pointer (some (E 4))), .iface 373 (.pointer (some (E 5))), .iface 373 (.pointer (some (E 6))), .iface 373 (.pointer (some (E 7))), .iface 373 (.pointer (some (E 8))), .iface 373 (.pointer (some (E 9))), .iface 373 (.pointer (some (E 10))), .iface 373 (.pointer (some (E 11))), .iface 373 (.pointer (some (E 12)))] 43) = w2 at hc hb2 ⊢
 generalize w1.heap.size = g at hc ⊢
 have HC := Lib.hid hc
 clear hc hb1 hb hG
 go_loop [3, 30] (fun a i => ∃ k : Nat, k ≤ 12 ∧ (K = 0 ∨ k < K) ∧ a = .int .i64 (-1) ∧ i = .int .i64 k) (fun _ i => 12 - (intOf i).toNat)
 case atStart => exact ⟨0, by omega, by omega, rfl, rfl⟩
 case round =>
  obtain ⟨k, hk, hlt, rfl, rfl⟩ := hrel
  by_cases h12 : k < 12
  ·have hcell := HC.out k h12
   by_cases hKk : k + 1 = K
   ·have hd : decide (k + 1 = K) = true := by simpa using hKk
    have HF := Lib.hid (show codeOf K = ((k : Int) + 1) by unfold codeOf; rw [if_neg (by omega), ← hKk]; rfl)
    clear hKk hlt
    go_wp2_with fail
    refine (HIs.out (k + 1) _ (by omega) (by omega) hb2).mono ?_
    rw [hd]
    rintro e w3 ⟨rfl, rfl⟩
    go_wp2_with fail
    go_ret2
    refine ⟨?_, hb2⟩
    rw [HF.out]
    rfl
   ·have hd : decide (k + 1 = K) = false := by simpa using hKk
    go_wp2_with fail
    refine (HIs.out (k + 1) _ (by omega) (by omega) hb2).mono ?_
    rw [hd]
    rintro e w3 ⟨rfl, rfl⟩
    go_wp2_with fail
    go_round
    case rel => exact ⟨k + 1, by omega, by omega, rfl, by go_num⟩
    case measure => simp [intOf]; omega
  ·have HF := Lib.hid (show codeOf K = -1 by unfold codeOf; rw [if_pos (by omega)])
   have hk12 : 12 ≤ k := by omega
   clear hlt
   go_wp2_with fail
   go_ret2
   refine ⟨?_, hb2⟩
   rw [HF.out]
   rfl
set_option maxRecDepth 100000 in
set_option maxHeartbeats 1000000 in
/-- A fault with a place. -/
theorem code_hit (E : Nat → Addr) (p : Addr) (n : Int) (K : Nat) (w : World) (hG : ErrG E w) (hK : K ≤ 12) (hp : w.cell? p = some (.int .i64 n)) (hIs : IsK E (.iface 178 (.pointer (some p))) K w) :
  Calls Tryz.prog 39 #[.iface 178 (.pointer (some p))] w fun e w' => e = .returned (.tuple #[.int .i64 (codeOf K), .int .i64 n]) ∧ Below w.heap.size w w' := by
 have HIs := Lib.hid hIs
 have hA := as_hit p ⟨w.heap.size, 0, none⟩ (.pointer none) (w.alloc (.cells #[.pointer none] 178)) (hG.below ((Below.refl _ _).alloc (Nat.le_refl _) _)).ty (by simp) (by simp)
 have HA := Lib.hid (hA.mono fun ev w' (h : ev = .returned (.bool true) ∧ w' = _) => (show ev = .returned (.bool true) ∧ Below w.heap.size w w' ∧ w'.cell? ⟨w.heap.size, 0, none⟩ = some (.pointer (some p)) ∧ w.heap.size < w'.heap.size from by
  obtain ⟨he, rfl⟩ := h
  refine ⟨he, ?_, ?_, by simp [World.setCell]; omega⟩
  ·exact (((((((Below.refl w.heap.size w).alloc (Nat.le_refl _) _).alloc (by simp) _).alloc (by simp; omega) _).alloc (by simp; omega) _).alloc (by simp; omega) _)).setCell (by simp) _
  ·refine World.cell?_setCell_same (u := .pointer none) _ _ _ ?_
   rw [World.cell?_alloc_lt _ _ ⟨w.heap.size, 0, none⟩ (by simp; omega), World.cell?_alloc_lt _ _ ⟨w.heap.size, 0, none⟩ (by simp; omega), World.cell?_alloc_lt _ _ ⟨w.heap.size, 0, none⟩ (by simp; omega), World.cell?_alloc_lt _ _ ⟨w.heap.size, 0, none⟩ (by simp)]
   simp))
 clear hIs hA
 go_enter Tryz.func39, Tryz.ntmps39
 go_wp2_with fail
 refine HA.out.mono ?_
 rintro e w1 ⟨rfl, hb, hcellF, hsz⟩
 have hp1 : w1.cell? p = some (.int .i64 n) := (hb.cell (lt_of_cell hp)).trans hp
 have hb1 : True := trivial
 have hG1 := hG.below hb
 have c1 := hG1.at_ 1 (by omega) (by omega)
 have c2 := hG1.at_ 2 (by omega) (by omega)
 have c3 := hG1.at_ 3 (by omega) (by omega)
 have c4 := hG1.at_ 4 (by omega) (by omega)
 have c5 := hG1.at_ 5 (by omega) (by omega)
 have c6 := hG1.at_ 6 (by omega) (by omega)
 have c7 := hG1.at_ 7 (by omega) (by omega)
 have c8 := hG1.at_ 8 (by omega) (by omega)
 have c9 := hG1.at_ 9 (by omega) (by omega)
 have c10 := hG1.at_ 10 (by omega) (by omega)
 have c11 := hG1.at_ 11 (by omega) (by omega)
 have c12 := hG1.at_ 12 (by omega) (by omega)
 simp only [gErr, ErrAt] at c1 c2 c3 c4 c5 c6 c7 c8 c9 c10 c11 c12
 go_wp2_with fail
 clear c1 c2 c3 c4 c5 c6 c7 c8 c9 c10 c11 c12 hG1
 have hc := cells12 E w1
 have hb2 : Below w.heap.size w (w1.alloc (.cells #[.iface 373 (.pointer (some (E 1))), .iface 373 (.pointer (some (E 2))), .iface 373 (.pointer (some (E 3))), .iface 373 (.pointer (some (E 4))), .iface 373 (.pointer (some (E 5))), .iface 373 (.pointer (some (E 6))), .iface 373 (.pointer (some (E 7))), .iface 373 (.pointer (some (E 8))), .iface 373 (.pointer (some (E 9))), .iface 373 (.pointer (some (E 10))), .iface 373 (.pointer (some (E 11))), .iface 373 (.pointer (some (E 12)))] 43)) := hb.alloc hb.size _
 generalize w1.alloc (.cells #[.iface 373 (.pointer (some (E 1))), .iface 373 (.pointer (some (E 2))), .iface 373 (.pointer (some (E 3))), .iface 373 (.pointer (some (E 4))), .iface 373 (.pointer (some (E 5))), .iface 373 (.pointer (some (E 6))), .iface 373 (.pointer (some (E 7))), .iface 373 (.pointer (some (E 8))), .iface 373 (.pointer (some (E 9))), .iface 373 (.pointer (some (E 10))), .iface 373 (.pointer (some (E 11))), .iface 373 (.pointer (some (E 12)))] 43) = w2 at hc hb2 ⊢
 generalize w1.heap.size = g at hc ⊢
 have HC := Lib.hid hc
 clear hc hb1 hb hG
 go_loop [3, 30] (fun a i => ∃ k : Nat, k ≤ 12 ∧ (K = 0 ∨ k < K) ∧ a = .int .i64 n ∧ i = .int .i64 k) (fun _ i => 12 - (intOf i).toNat)
 case atStart => exact ⟨0, by omega, by omega, rfl, rfl⟩
 case round =>
  obtain ⟨k, hk, hlt, rfl, rfl⟩ := hrel
  by_cases h12 : k < 12
  ·have hcell := HC.out k h12
   by_cases hKk : k + 1 = K
   ·have hd : decide (k + 1 = K) = true := by simpa using hKk
    have HF := Lib.hid (show codeOf K = ((k : Int) + 1) by unfold codeOf; rw [if_neg (by omega), ← hKk]; rfl)
    clear hKk hlt
    go_wp2_with fail
    refine (HIs.out (k + 1) _ (by omega) (by omega) hb2).mono ?_
    rw [hd]
    rintro e w3 ⟨rfl, rfl⟩
    go_wp2_with fail
    go_ret2
    refine ⟨?_, hb2⟩
    rw [HF.out]
    rfl
   ·have hd : decide (k + 1 = K) = false := by simpa using hKk
    go_wp2_with fail
    refine (HIs.out (k + 1) _ (by omega) (by omega) hb2).mono ?_
    rw [hd]
    rintro e w3 ⟨rfl, rfl⟩
    go_wp2_with fail
    go_round
    case rel => exact ⟨k + 1, by omega, by omega, rfl, by go_num⟩
    case measure => simp [intOf]; omega
  ·have HF := Lib.hid (show codeOf K = -1 by unfold codeOf; rw [if_pos (by omega)])
   have hk12 : 12 ≤ k := by omega
   clear hlt
   go_wp2_with fail
   go_ret2
   refine ⟨?_, hb2⟩
   rw [HF.out]
   rfl
end Go.Proofs.YtchiojiicehpeaaGreatDoor
namespace Go.Proofs.YtchiojiicehpeaaGreatDoor
open Go.RowKit
theorem isK_sent (E : Nat → Addr) (j : Nat) (h1 : 1 ≤ j) (h2 : j ≤ 12) (w : World) (hG : ErrG E w) : IsK E (.iface 373 (.pointer (some (E j)))) j w := by
 intro k W k1 k2 hb
 have hW := hG.below hb
 by_cases h : k = j
 ·subst h
  rw [show decide (k = k) = true by simp]
  exact is_same (E k) W
 ·rw [show decide (k = j) = false by simpa using h]
  obtain ⟨ca, ta, ra⟩ := hW.row j h1 h2
  obtain ⟨cb, tb, rb⟩ := hW.row k k1 k2
  exact is_other (E j) (E k) ca cb ta tb W (fun e => h (hG.inj j k h1 h2 k1 k2 e).symm) ra rb
theorem as_miss_of (E : Nat → Addr) (a : Addr) (w : World) (hG : ErrG E w) : ∀ (t : Addr) (old : Value) (W : World), Below w.heap.size w W → W.cell? t = some old → Calls Tryz.prog 100 #[.iface 373 (.pointer (some a)), .iface 180 (.pointer (some t))] W fun ev w' => ev = .returned (.bool false) ∧ Below W.heap.size W w' :=
 fun t old W hb ht => as_miss a t old W (hG.below hb).ty ht
theorem code_sent (E : Nat → Addr) (j : Nat) (h1 : 1 ≤ j) (h2 : j ≤ 12) (w : World) (hG : ErrG E w) :
  Calls Tryz.prog 39 #[.iface 373 (.pointer (some (E j)))] w fun e w' => e = .returned (.tuple #[.int .i64 j, .int .i64 (-1)]) ∧ Below w.heap.size w w' := by
 have h := code_miss E _ _ j w hG h2 (isK_sent E j h1 h2 w hG) (as_miss_of E _ w hG)
 rw [show codeOf j = (j : Int) by unfold codeOf; rw [if_neg (by omega)]] at h
 exact h
end Go.Proofs.YtchiojiicehpeaaGreatDoor
namespace Go.Proofs.YtchiojiicehpeaaGreatDoor
open Go.RowKit
set_option maxHeartbeats 400000 in
theorem coded2 (E : Nat → Addr) (j : Nat) (h2 : j ≤ 12) (n : Int) (w : World) (hG : ErrG E w) :
  Calls Tryz.prog 46 #[errOf E j, .int .i64 n] w fun e w' => e = .returned (.bool ((j : Int) == n)) ∧ Below w.heap.size w w' := by
 by_cases h0 : j = 0
 ·subst h0
  rw [errOf_zero]
  have HC := Lib.hid (code_nil w)
  go_enter Tryz.func46, Tryz.ntmps46
  go_wp2_with fail
  refine HC.out.mono ?_
  rintro e w1 ⟨rfl, rfl⟩
  go_wp2_with fail
  all_goals go_ret
  all_goals exact ⟨by simp; assumption, Below.refl _ _⟩
 ·rw [errOf_pos _ _ h0]
  have HC := Lib.hid (code_sent E j (by omega) h2 w hG)
  go_enter Tryz.func46, Tryz.ntmps46
  go_wp2_with fail
  refine HC.out.mono ?_
  rintro e w1 ⟨rfl, hb⟩
  go_wp2_with fail
  all_goals go_ret
  all_goals exact ⟨by simp; assumption, hb⟩
end Go.Proofs.YtchiojiicehpeaaGreatDoor
