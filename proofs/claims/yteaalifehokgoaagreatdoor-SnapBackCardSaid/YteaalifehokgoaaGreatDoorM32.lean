/- No error's number is beyond 12. The document's book: Do. Two books side by side: the program's and the document's. What a row's list of package-level variables gives the walks: sentinels, strconv's table; what the world's shape gives. errors.Is and errors.As at the errors of this program: sentinels, faults with a place, nil. errors.As at a fault with a place and at a sentinel, the target a variable of type *api.Fault. -/
import Derived.LaidLaws
import Derived.Stop.LaidErr
import Derived.Shelf.Vars
import Derived.LaidEql
import Derived.Stop.Asserts
import Derived.RowKitTokens
import Derived.Test.YteaalifehokgoaaGreatDoorM01
import Derived.Test.YteaalifehokgoaaGreatDoorM17
import Derived.Test.YteaalifehokgoaaGreatDoorM21
import Derived.Test.YteaalifehokgoaaGreatDoorM23
import Derived.Test.YteaalifehokgoaaGreatDoorM25
import Derived.Test.YteaalifehokgoaaGreatDoorRBkPc
namespace Go.Proofs.YteaalifehokgoaaGreatDoor
open Go.RowKit Go.Sort Go.Proofs
theorem goodsE_tw (x : GoodsV) : goodsE x ≤ 12 := by
 unfold goodsE
 repeat' split
 all_goals omega
theorem lotE_tw (x : LotV) : lotE x ≤ 12 := by
 unfold lotE
 repeat' split
 all_goals omega
theorem placeE_tw (x : PlaceV) : placeE x ≤ 12 := by
 unfold placeE
 repeat' split
 all_goals omega
theorem entE_tw (x : EntV) : entE x ≤ 12 := by
 have h1 := goodsE_tw x.2.1
 have h2 := lotE_tw x.2.2.1
 have h3 : piecesE x ≤ 12 := by
  have h4 : placesE x ≤ 12 := by
   have h5 := placeE_tw x.2.2.2.1
   have h6 := placeE_tw x.2.2.2.2.1
   unfold placesE
   repeat' split
   all_goals omega
  unfold piecesE
  repeat' split
  all_goals omega
 unfold entE
 repeat' split
 all_goals omega
theorem putE_tw (m : StkV) (p : PlaceV) (l : List UInt8) (n : Int) : putE m p l n ≤ 12 := by
 have h := placeE_tw p
 unfold putE
 repeat' split
 all_goals omega
theorem takeE_tw (m : StkV) (p : PlaceV) (l : List UInt8) (n : Int) : takeE m p l n ≤ 12 := by
 unfold takeE
 repeat' split
 all_goals omega
theorem moveE_tw (m : StkV) (p q : PlaceV) (l : List UInt8) (n : Int) : moveE m p q l n ≤ 12 := by
 have h1 := takeE_tw m p l n
 have h2 := placeE_tw q
 have h3 := putE_tw (takeM m p l n) q l n
 unfold moveE
 repeat' split
 all_goals omega
theorem doE_tw (B : BkV) (x : EntV) : doE B x ≤ 12 := by
 have h1 := entE_tw x
 have h2 : actE B.2.2 x ≤ 12 := by
  have h3 := putE_tw B.2.2 x.2.2.2.2.1 x.2.2.1.1 x.2.2.2.2.2
  have h4 := takeE_tw B.2.2 x.2.2.2.1 x.2.2.1.1 x.2.2.2.2.2
  have h5 := moveE_tw B.2.2 x.2.2.2.1 x.2.2.2.2.1 x.2.2.1.1 x.2.2.2.2.2
  unfold actE
  repeat' split
  all_goals omega
 have h3 : pcE B x ≤ 12 := by
  unfold pcE
  repeat' split
  all_goals omega
 unfold doE
 repeat' split
 all_goals omega
end Go.Proofs.YteaalifehokgoaaGreatDoor
namespace Go.Proofs.YteaalifehokgoaaGreatDoor
open Go.RowKit Go.Sort Go.Proofs
theorem insG_len (x : GoS) (l : List GoS) : (insG x l).length = l.length + 1 := by
 rw [insG_eq, (insK_perm (fun y : GoS => y.1.1) x l).length_eq]
 rfl
theorem insLo_len (x : LoH) (l : List LoH) : (insLo x l).length = l.length + 1 := by
 rw [insLo_eq, (insK_perm (fun y : LoH => y.1.1) x l).length_eq]
 rfl
theorem blockL_nodup (v : Value) : (blockL v).Nodup := by
 unfold blockL
 split <;> simp
theorem blockL_ge {w : World} {B e size n : Nat} {v : Value} {xs : List Value} (h : w.ownsRow B e size v n xs) : ∀ k ∈ blockL v, B ≤ k ∧ k < w.heap.size := fun k hk => h.lt k (blockL_own hk)
theorem refDo_any {q : Nat} {F R : List Nat} {B : BkV} (x : EntV) {w : World} (H : MBk w q F R B) (hI : BkI B) (hs : ShortE x) :
  Calls Tryz.prog 25 #[.pointer (some ⟨q, 0, none⟩), .agg (encEnt x).toArray] w fun e w' => e = .returned (.int .i64 (doE B x : Nat)) ∧
   (∃ F' R', MBk w' q F' R' (doB B x) ∧ (∀ k ∈ F', k ∈ F ∨ w.heap.size ≤ k) ∧ ∀ k ∈ R', k ∈ R ∨ w.heap.size ≤ k) ∧ ButF F w w' := by
 have stay : ∀ w', Below w.heap.size w w' → doB B x = B → (∃ F' R', MBk w' q F' R' (doB B x) ∧ (∀ k ∈ F', k ∈ F ∨ w.heap.size ≤ k) ∧ ∀ k ∈ R', k ∈ R ∨ w.heap.size ≤ k) ∧ ButF F w w' := fun w' hb he =>
  ⟨⟨F, R, by rw [he]; exact H.below hb, fun _ h => .inl h, fun _ h => .inl h⟩, ButF.of_below hb⟩
 by_cases he : ¬ entE x = 0
 ·have hd : doE B x = entE x := by unfold doE; rw [if_pos he]
  have hb : doB B x = B := by unfold doB; rw [if_pos (by rw [hd]; exact he)]
  rw [hd]
  refine (refDo_err q x w hs he (entE_tw x)).mono ?_
  rintro e w' ⟨h1, h2⟩
  exact ⟨h1, stay w' h2 hb⟩
 have he := Classical.not_not.1 he
 have hsz := H.lt
 obtain ⟨vG, vL, A, cap, rfl, hn, rfl, hA, H⟩ := H
 have hq : q ∉ blockL vG ++ blockL vL := (List.nodup_cons.1 hn).1
 by_cases kg : x.1 = kGoods
 ·refine (refDo_goods q vG vL A cap B x w H hI hs he kg).mono ?_
  rintro e w' ⟨h1, h2⟩
  refine ⟨h1, ?_⟩
  rcases h2 with ⟨h2, h3⟩ | ⟨h2, v', h3, h4, h5⟩
  ·exact stay w' h3 (by unfold doB; rw [if_pos h2])
  ·have hb : doB B x = (insG (x.2.1, zeroSums) B.1, B.2.1, B.2.2) := by unfold doB; rw [if_neg (by simpa using h2), if_pos kg]
   have hv := blockL_ge h4
   refine ⟨⟨q :: (blockL v' ++ blockL vL), rowB A B.2.2, ⟨v', vL, A, cap, rfl, ?_, by rw [hb], fun k hk => ?_, ?_⟩, fun k hk => ?_, fun _ h => .inl h⟩, h5.mono (by simp)⟩
   ·refine List.nodup_cons.2 ⟨fun h => ?_, List.nodup_append.2 ⟨blockL_nodup _, blockL_nodup _, fun a ha b hb' e => ?_⟩⟩
    ·rcases List.mem_append.1 h with h | h
     ·have := (hv q h).1
      have := hsz.1 q (by simp)
      omega
     ·exact hq (List.mem_append_right _ h)
    ·have := (hv a ha).1
     have := hsz.1 b (by simp [hb'])
     omega
   ·have hl := hsz.2 k hk
    refine ⟨fun h => ?_, Nat.lt_of_lt_of_le hl h5.size⟩
    rcases List.mem_cons.1 h with h | h
    ·exact (hA k hk).1 (by rw [h]; simp)
    ·rcases List.mem_append.1 h with h | h
     ·have := (hv k h).1
      omega
     ·exact (hA k hk).1 (by simp [h])
   ·rw [hb]
    refine ⟨h3, ?_, ?_, ?_⟩
    ·have := own_base h4 (Nat.zero_le _)
     rw [← insG_len (x.2.1, zeroSums) B.1] at this
     exact this
    ·exact own_kept H.lots fun g hg => h5.block g (H.lots.lt g hg).2 (fun e => hq (by
      simp only [List.mem_singleton] at e
      rw [← e]
      exact List.mem_append_right _ (blockL_mem hg)))
    ·exact lines_kept H.lines h5.size fun k hk => h5.block k (hsz.2 k hk) (fun e => (hA k hk).1 (by
      simp only [List.mem_singleton] at e
      rw [e]
      simp))
   ·rcases List.mem_cons.1 hk with h | h
    ·exact .inl (by rw [h]; simp)
    ·rcases List.mem_append.1 h with h | h
     ·exact .inr (hv k h).1
     ·exact .inl (by simp [h])
 by_cases kl : x.1 = kLot
 ·refine (refDo_lot q vG vL A cap B x w H hI hs he kl).mono ?_
  rintro e w' ⟨h1, h2⟩
  refine ⟨h1, ?_⟩
  rcases h2 with ⟨h2, h3⟩ | ⟨h2, v', h3, h4, h5⟩
  ·exact stay w' h3 (by unfold doB; rw [if_pos h2])
  ·have hb : doB B x = (B.1, insLo (x.2.2.1, 0) B.2.1, B.2.2) := by unfold doB; rw [if_neg (by simpa using h2), if_neg kg, if_pos kl]
   have hv := blockL_ge h4
   refine ⟨⟨q :: (blockL vG ++ blockL v'), rowB A B.2.2, ⟨vG, v', A, cap, rfl, ?_, by rw [hb], fun k hk => ?_, ?_⟩, fun k hk => ?_, fun _ h => .inl h⟩, h5.mono (by simp)⟩
   ·refine List.nodup_cons.2 ⟨fun h => ?_, List.nodup_append.2 ⟨blockL_nodup _, blockL_nodup _, fun a ha b hb' e => ?_⟩⟩
    ·rcases List.mem_append.1 h with h | h
     ·exact hq (List.mem_append_left _ h)
     ·have := (hv q h).1
      have := hsz.1 q (by simp)
      omega
    ·have := (hv b hb').1
     have := hsz.1 a (by simp [ha])
     omega
   ·have hl := hsz.2 k hk
    refine ⟨fun h => ?_, Nat.lt_of_lt_of_le hl h5.size⟩
    rcases List.mem_cons.1 h with h | h
    ·exact (hA k hk).1 (by rw [h]; simp)
    ·rcases List.mem_append.1 h with h | h
     ·exact (hA k hk).1 (by simp [h])
     ·have := (hv k h).1
      omega
   ·rw [hb]
    refine ⟨h3, ?_, ?_, ?_⟩
    ·exact own_kept H.goods fun g hg => h5.block g (H.goods.lt g hg).2 (fun e => hq (by
      simp only [List.mem_singleton] at e
      rw [← e]
      exact List.mem_append_left _ (blockL_mem hg)))
    ·have := own_base h4 (Nat.zero_le _)
     rw [← insLo_len (x.2.2.1, 0) B.2.1] at this
     exact this
    ·exact lines_kept H.lines h5.size fun k hk => h5.block k (hsz.2 k hk) (fun e => (hA k hk).1 (by
      simp only [List.mem_singleton] at e
      rw [e]
      simp))
   ·rcases List.mem_cons.1 hk with h | h
    ·exact .inl (by rw [h]; simp)
    ·rcases List.mem_append.1 h with h | h
     ·exact .inl (by simp [h])
     ·exact .inr (hv k h).1
 have hd : doE B x = pcE B x := by unfold doE; rw [if_neg (by simpa using he), if_neg kg, if_neg kl]
 rw [hd]
 cases hfl : fL B x.2.2.1.1 with
 |none =>
  have hp : pcE B x = 6 := by unfold pcE; rw [hfl]
  rw [hp]
  refine (refDo_pnone q vG vL A cap B x w H hI hs he kg kl hfl).mono ?_
  rintro e w' ⟨h1, h2⟩
  exact ⟨h1, stay w' h2 (by unfold doB; rw [if_pos (by rw [hd, hp]; decide)])⟩
 |some y =>
  refine (refDo_p q vG vL A cap B x y w H hn (fun k hk => (hA k hk).1) hI hs he kg kl hfl (pieces_n he kg kl)).mono ?_
  rintro e w' ⟨h1, h2⟩
  refine ⟨h1, ?_⟩
  rcases h2 with ⟨h2, h3⟩ | ⟨h2, A', cap', h3, h4, h5⟩
  ·exact stay w' h3 (by unfold doB; rw [if_pos (by rw [hd]; exact h2)])
  ·have hb : doB B x = doP B x := by unfold doB; rw [if_neg (by rw [hd, h2]; simp), if_neg kg, if_neg kl]
   have hq2 : (doP B x).2.2 = actM B.2.2 x := rfl
   rw [hb]
   refine ⟨⟨_, rowB A' (actM B.2.2 x), ⟨vG, vL, A', cap', rfl, hn, by rw [hq2], fun k hk => ?_, h3⟩, fun _ h => .inl h, h4⟩, h5⟩
   rcases h4 k hk with h | h
   ·exact ⟨(hA k h).1, Nat.lt_of_lt_of_le (hA k h).2 h5.size⟩
   ·refine ⟨fun hc => by have := hsz.1 k hc; omega, ?_⟩
    obtain ⟨a, ha, hak, hm⟩ := rowB_own hk
    rcases h3.lines with h6 | ⟨b, o, h6, h7, _⟩
    ·have := linesM_len (doP B x).2.2
     rw [h6, hq2] at this
     exact absurd (List.eq_nil_of_length_eq_zero this.symm) hm
    ·rw [ha] at h6
     cases h6
     rw [← hak]
     exact h7
end Go.Proofs.YteaalifehokgoaaGreatDoor
namespace Go.Proofs.YteaalifehokgoaaGreatDoor
open Go.RowKit Go.Sort Go.Proofs
def Both (n : Nat) (w : World) (p q : Nat) (B C : BkV) : Prop :=
 ∃ F G R, BookIs w p F B ∧ MBk w q G R C ∧ (∀ k ∈ F, n ≤ k ∧ k ∉ G ∧ k ∉ R) ∧ (∀ k ∈ G, n ≤ k) ∧ ∀ k ∈ R, n ≤ k
theorem Both.below {n p q : Nat} {w w' : World} {B C : BkV} (h : Both n w p q B C) (hb : Below w.heap.size w w') : Both n w' p q B C := by
 obtain ⟨F, G, R, h1, h2, h3, h4, h5⟩ := h
 exact ⟨F, G, R, h1.below hb, h2.below hb, h3, h4, h5⟩
theorem Both.do1 (E : Nat → Addr) {n p q : Nat} {w : World} {B C : BkV} (h : Both n w p q B C) (hn : n ≤ w.heap.size) (hI : BkI B) (x : EntV) (hs : ShortE x) (hG : BkG E w) :
  Calls Tryz.prog 12 #[.pointer (some ⟨p, 0, none⟩), .agg (encEnt x).toArray] w fun e w' => e = .returned (errOf E (doE B x)) ∧ Both n w' p q (doB B x) C ∧ Below n w w' := by
 obtain ⟨F, G, R, h1, h2, h3, h4, h5⟩ := h
 obtain ⟨_, s1, s2, _, _⟩ := hs
 refine (do_any E x h1 hI (by omega) (by omega) hG).mono ?_
 rintro e w' ⟨he, ⟨F', h6, h7⟩, h8⟩
 have hlt := h2.lt
 refine ⟨he, ⟨F', G, R, h6, h2.butF h8 (fun k hk hf => (h3 k hf).2.1 hk) (fun k hk hf => (h3 k hf).2.2 hk), fun k hk => ?_, h4, h5⟩, h8.below hn fun k hk => (h3 k hk).1⟩
 rcases h7 k hk with h | h
 ·exact h3 k h
 ·exact ⟨by omega, fun hg => by have := hlt.1 k hg; omega, fun hr => by have := hlt.2 k hr; omega⟩
theorem Both.do2 {n p q : Nat} {w : World} {B C : BkV} (h : Both n w p q B C) (hn : n ≤ w.heap.size) (hI : BkI C) (x : EntV) (hs : ShortE x) :
  Calls Tryz.prog 25 #[.pointer (some ⟨q, 0, none⟩), .agg (encEnt x).toArray] w fun e w' => e = .returned (.int .i64 (doE C x : Nat)) ∧ Both n w' p q B (doB C x) ∧ Below n w w' := by
 obtain ⟨F, G, R, h1, h2, h3, h4, h5⟩ := h
 refine (refDo_any x h2 hI hs).mono ?_
 rintro e w' ⟨he, ⟨G', R', h6, h7, h9⟩, h8⟩
 have hlt := h1.lt
 refine ⟨he, ⟨F, G', R', h1.butF h8 (fun k hk hg => (h3 k hk).2.1 hg), h6, fun k hk => ⟨(h3 k hk).1, fun hg => ?_, fun hr => ?_⟩, fun k hk => ?_, fun k hk => ?_⟩, h8.below hn h4⟩
 ·rcases h7 k hg with h | h
  ·exact (h3 k hk).2.1 h
  ·have := hlt k hk; omega
 ·rcases h9 k hr with h | h
  ·exact (h3 k hk).2.2 h
  ·have := hlt k hk; omega
 ·rcases h7 k hk with h | h
  ·exact h4 k h
  ·omega
 ·rcases h9 k hk with h | h
  ·exact h5 k h
  ·omega
end Go.Proofs.YteaalifehokgoaaGreatDoor
namespace Go.Proofs.YteaalifehokgoaaGreatDoor
open Go.RowKit Go.ChangeShapes
structure Sent (g : Nat) (a : Addr) (text : List UInt8) (w : World) : Prop where
 at_ : ErrAt g a w
 text : ∃ s : ByteArray, w.cell? a = some (.string s) ∧ s.data.toList = text
 row : ∃ cs t, w.heap[a.block]? = some (.cells cs t (0, 0))
theorem Sent.below {g : Nat} {a : Addr} {l : List UInt8} {w w' : World} (h : Sent g a l w) (hb : Below w.heap.size w w') : Sent g a l w' := by
 obtain ⟨s, hs, ht⟩ := h.text
 obtain ⟨cs, t, hr⟩ := h.row
 exact ⟨h.at_.below hb, ⟨s, by rw [hb.cell (lt_of_cell hs)]; exact hs, ht⟩, ⟨cs, t, by rw [hb.block _ (lt_of_cell hs)]; exact hr⟩⟩
theorem errRow : ∀ u, Tryz.prog.typeName? 3 u = some "*errors.errorString" → u = 318 := fun u h =>
 typeName_ptr_named (nm := "errors.errorString") (by kernel_rfl) (by kernel_rfl) (by decide) u h
set_option maxRecDepth 100000 in
theorem sent_of {n : String} {l : List UInt8} {r : List (String × DataW Unit)} {W : World} {g : Nat}
  (h : laidMet Tryz.prog ((n, .iface "*errors.errorString" (.ptr (.agg [.lit (.string l)]))) :: r) W)
  (hg : Tryz.prog.globalNamed n = some g) (ht : (Tryz.prog.globals[g]?).map (·.type) = some 31) : ∃ a, Sent g a l W := by
 obtain ⟨ps, ⟨g0, t0, cs0, f0, p0, q0, hg0, ht0, hv0, hd0, _, e0⟩, _, hrows⟩ := h
 obtain rfl := Option.some.inj (hg.symm.trans hg0)
 obtain rfl := Option.some.inj (ht.symm.trans ht0)
 subst e0
 obtain ⟨l0⟩ := cs0
 have ok0 : ∀ u v, l0 = [.iface u v] → Value.okWide Tryz.prog W .any 0 u v := fun u v e => by
  subst e
  exact (hrows g 0 (by simp [MemPlace.row])).2 u v (by simpa using World.var?_cell hg0 hv0 0)
 obtain ⟨a0, s0, rfl, hc0, hs0, hz0, rfl⟩ := errorString_of_trod Tryz.underlying31 errRow Tryz.underlying318 Tryz.underlying320 rfl rfl Tryz.underlying9 (by kernel_rfl) (by kernel_rfl) hd0 ok0
 obtain ⟨c0, t0, hb0⟩ := (hrows a0.block a0.off (by simp [MemPlace.row])).1
 exact ⟨a0, by unfold ErrAt; simpa using World.var?_cell hg0 hv0 0, ⟨s0, hc0, hs0⟩, ⟨c0, t0, hb0⟩⟩
end Go.Proofs.YteaalifehokgoaaGreatDoor
namespace Go.Proofs.YteaalifehokgoaaGreatDoor
open Go.RowKit Go.Extern.Stop Go.Stop Go.Extern
/-! Closed facts: reflectlite's entries at this program's types. -/
theorem isTypeOf (v : Value) (w : World) : (Extern.ReflectliteType.typeOf #[.iface 318 v]).run Tryz.prog w = .ok (.iface 220 (.agg #[.pointer (some ⟨21, 318, none⟩)])) w := by kernel_rfl
theorem isComparable (w : World) : ((Extern.ReflectliteType.method fun t => do Extern.Rtype.noPackHeld "Comparable" t; (fun a => Value.bool a.comparable) <$> typeInfo t) #[.agg #[.pointer (some ⟨21, 318, none⟩)]]).run Tryz.prog w = .ok (.bool true) w := by kernel_rfl
theorem isMethodComparable (v : Value) (w : World) : (Go.method 448 220 v "Comparable").run Tryz.prog w = .ok (278, v) w := by kernel_rfl
theorem isComp : (Tryz.prog.info? 318).map (·.comparable) = some true := by kernel_rfl
theorem isSize : (Tryz.prog.info? 320).map (·.size) = some 1 := by kernel_rfl
theorem noIsE (v : Value) (xT : TypeId) (w : World) : (Instr.typeAssert (.iface 318 v) xT 231 true).run Tryz.prog w = .ok (.tuple #[.nilIface, .bool false]) w := run_typeAssert_lacksB Tryz.underlying231 (by kernel_rfl) (by kernel_rfl) v xT w
theorem noUnwrapE (v : Value) (xT : TypeId) (w : World) : (Instr.typeAssert (.iface 318 v) xT 227 true).run Tryz.prog w = .ok (.tuple #[.nilIface, .bool false]) w := run_typeAssert_lacksB Tryz.underlying227 (by kernel_rfl) (by kernel_rfl) v xT w
theorem noUnwrapsE (v : Value) (xT : TypeId) (w : World) : (Instr.typeAssert (.iface 318 v) xT 229 true).run Tryz.prog w = .ok (.tuple #[.nilIface, .bool false]) w := run_typeAssert_lacksB Tryz.underlying229 (by kernel_rfl) (by kernel_rfl) v xT w
theorem noAsE (v : Value) (xT : TypeId) (w : World) : (Instr.typeAssert (.iface 318 v) xT 224 true).run Tryz.prog w = .ok (.tuple #[.nilIface, .bool false]) w := run_typeAssert_lacksB Tryz.underlying224 (by kernel_rfl) (by kernel_rfl) v xT w
theorem ex_TypeOf : ∀ (args : Array Value) (w : World), (callFunc 105 args).run Tryz.prog w = ((Extern.ReflectliteType.typeOf args).run Tryz.prog w).andThen fun v w' => .ok (.value v) w' :=
 @run_callFunc_extern Tryz.prog 105 _ Extern.ReflectliteType.typeOf Tryz.func105 (by kernel_rfl) (by kernel_rfl) (by kernel_rfl) (by kernel_rfl)
theorem ex_Comparable : ∀ (args : Array Value) (w : World), (callFunc 278 args).run Tryz.prog w = (((Extern.ReflectliteType.method fun t => do Extern.Rtype.noPackHeld "Comparable" t; pure (.bool (← typeInfo t).comparable)) args).run Tryz.prog w).andThen fun v w' => .ok (.value v) w' :=
 @run_callFunc_extern Tryz.prog 278 _ (Extern.ReflectliteType.method fun t => do Extern.Rtype.noPackHeld "Comparable" t; pure (.bool (← typeInfo t).comparable)) Tryz.func278 (by kernel_rfl) (by kernel_rfl) (by kernel_rfl) (by kernel_rfl)
theorem is_same (a : Addr) (w : World) :
  Calls Tryz.prog 50 #[.iface 318 (.pointer (some a)), .iface 318 (.pointer (some a))] w fun e w' => e = .returned (.bool true) ∧ w = w' := by
 obtain ⟨i, hi, hcmp⟩ := Option.map_eq_some_iff.1 isComp
 obtain ⟨j, hj, hjs⟩ := Option.map_eq_some_iff.1 isSize
 have h8 := ex_TypeOf
 have h32 := ex_Comparable
 have tT := isTypeOf
 have cT := isComparable
 have mR := isMethodComparable
 have heq := run_eql_iface_ptr_same (P := Tryz.prog) w a Tryz.underlying31 Tryz.underlying318 hi hcmp hj
 go_enter Tryz.func50, Tryz.ntmps50
 go_wp2
 refine wp_loop_rounds 1 ?_
 rw [rounds_succ]
 go_wp2
 go_ret
 exact ⟨rfl, rfl⟩
theorem is_other (a b : Addr) (ca cb : Array Value) (ta tb : TypeId) (w : World) (hne : a ≠ b) (ha : w.heap[a.block]? = some (.cells ca ta (0, 0))) (hb : w.heap[b.block]? = some (.cells cb tb (0, 0))) :
  Calls Tryz.prog 50 #[.iface 318 (.pointer (some a)), .iface 318 (.pointer (some b))] w fun e w' => e = .returned (.bool false) ∧ w = w' := by
 obtain ⟨i, hi, hcmp⟩ := Option.map_eq_some_iff.1 isComp
 obtain ⟨j, hj, hjs⟩ := Option.map_eq_some_iff.1 isSize
 have h8 := ex_TypeOf
 have h32 := ex_Comparable
 have tT := isTypeOf
 have cT := isComparable
 have mR := isMethodComparable
 have nE := noIsE
 have uE := noUnwrapE
 have vE := noUnwrapsE
 have heq := run_eql_iface_ptr_other (P := Tryz.prog) w Tryz.underlying31 Tryz.underlying318 hi hcmp hj (by rw [hjs]; decide) hne ha hb
 go_enter Tryz.func50, Tryz.ntmps50
 go_wp2
 refine wp_loop_rounds 1 ?_
 rw [rounds_succ]
 go_wp2
 go_ret
 exact ⟨rfl, rfl⟩
end Go.Proofs.YteaalifehokgoaaGreatDoor
namespace Go.Proofs.YteaalifehokgoaaGreatDoor
open Go.RowKit Go.Extern.Stop Go.Stop Go.Extern
/-! ### CLOSED FACTS ON THE MODEL's ENTRIES FOR internal/reflectlite, at this program's types: 25: *p.E · 27: **p.E · 23: error · 45: reflectlite's rtype · 1: how many package-level variables the dump has -/
theorem as_valueOf27 (t : Addr) (w : World) : (ReflectliteValue.unpack (.iface 114 (.pointer (some t)))).run Tryz.prog w
  = .ok (.agg #[.pointer (some ⟨21, 114, none⟩), .pointer (some ⟨w.heap.size, 0, none⟩), .int .u64 150]) (w.alloc (.cells #[.pointer (some t)] 114)) := by kernel_rfl
theorem as_type27 (a : Addr) (w : World) : (ReflectliteValue.methodAny (ReflectliteValue.valueError "reflectlite.Value.Type" 0) (fun t _ _ _ => ReflectliteType.toType t) #[.agg #[.pointer (some ⟨21, 114, none⟩), .pointer (some a), .int .u64 150]]).run Tryz.prog w
  = .ok (.iface 220 (.agg #[.pointer (some ⟨21, 114, none⟩)])) w := by kernel_rfl
theorem as_methodKind (h : Value) (w : World) : (Go.method 448 220 (.agg #[h]) "Kind").run Tryz.prog w = .ok (267, h) w := by kernel_rfl
theorem as_kind27 (w : World) : ((ReflectliteType.abiMethod fun t => (fun a : Nat => Value.int IntKind.u8 (a : Int)) <$> Rtype.kind t) #[.pointer (some ⟨21, 114, none⟩)]).run Tryz.prog w = .ok (.int .u8 22) w := by kernel_rfl
theorem as_kind25 (w : World) : ((ReflectliteType.abiMethod fun t => (fun a : Nat => Value.int IntKind.u8 (a : Int)) <$> Rtype.kind t) #[.pointer (some ⟨21, 112, none⟩)]).run Tryz.prog w = .ok (.int .u8 22) w := by kernel_rfl
/-! ### THE ENTRIES THAT READ OR WRITE MEMORY: laws with a premise on the cell (after Derived/Lib/ReflectliteSlice.lean's manner: each unfolding a lemma of its own, by rfl) -/
theorem rlm (z : Sem Value) (f : TypeId → Addr → Nat → Nat → Sem Value) (v : Value) :
  ReflectliteValue.method z f #[v] = (do match ← ReflectliteValue.parts v with | none => z | some (t, a, fl) => f t a fl (fl % 32)) := rfl
theorem as_parts27 (a : Addr) (w : World) : (ReflectliteValue.parts (.agg #[.pointer (some ⟨21, 114, none⟩), .pointer (some a), .int .u64 150])).run Tryz.prog w = .ok (some (114, a, 150)) w := by kernel_rfl
theorem as_isNil27 (a p : Addr) (W : World) (ha : W.cell? a = some (.pointer (some p))) :
  (ReflectliteValue.method (ReflectliteValue.valueError "reflectlite.Value.IsNil" 0) ReflectliteValue.isNil #[.agg #[.pointer (some ⟨21, 114, none⟩), .pointer (some a), .int .u64 150]]).run Tryz.prog W = .ok (.bool false) W := by
 rw [rlm]
 simp only [Sem.run_bind, as_parts27, Result.andThen]
 simp [ReflectliteValue.isNil, loadVar, isAgg, underlying, Tryz.underlying114, ha, Result.andThen]
theorem as_methodElem (h : Value) (w : World) : (Go.method 448 220 (.agg #[h]) "Elem").run Tryz.prog w = .ok (279, .agg #[h]) w := by kernel_rfl
theorem as_methodImplements (h : Value) (w : World) : (Go.method 448 220 (.agg #[h]) "Implements").run Tryz.prog w = .ok (280, .agg #[h]) w := by kernel_rfl
theorem as_methodAssignableTo (h : Value) (w : World) : (Go.method 448 220 (.agg #[h]) "AssignableTo").run Tryz.prog w = .ok (277, .agg #[h]) w := by kernel_rfl
theorem as_elem27 (w : World) : (ReflectliteType.method ReflectliteType.elem #[.agg #[.pointer (some ⟨21, 114, none⟩)]]).run Tryz.prog w = .ok (.iface 220 (.agg #[.pointer (some ⟨21, 112, none⟩)])) w := by kernel_rfl
theorem as_implements25 (w : World) : (ReflectliteType.relation "Implements" ReflectliteType.implements_ #[.agg #[.pointer (some ⟨21, 112, none⟩)], .iface 220 (.agg #[.pointer (some ⟨21, 31, none⟩)])]).run Tryz.prog w = .ok (.bool true) w := by kernel_rfl
theorem ex_h6 : ∀ (args : Array Value) (w : World), (callFunc 101 args).run Tryz.prog w = (((fun args => ReflectliteValue.unpack (args.getD 0 (.tuple #[]))) args).run Tryz.prog w).andThen fun v w' => .ok (.value v) w' :=
 @run_callFunc_extern Tryz.prog 101 _ (fun args => ReflectliteValue.unpack (args.getD 0 (.tuple #[]))) Tryz.func101 (by kernel_rfl) (by kernel_rfl) (by kernel_rfl) (by kernel_rfl)
theorem ex_h7 : ∀ (args : Array Value) (w : World), (callFunc 102 args).run Tryz.prog w = (((ReflectliteValue.methodAny (ReflectliteValue.valueError "reflectlite.Value.Type" 0) (fun t _ _ _ => ReflectliteType.toType t)) args).run Tryz.prog w).andThen fun v w' => .ok (.value v) w' :=
 @run_callFunc_extern Tryz.prog 102 _ (ReflectliteValue.methodAny (ReflectliteValue.valueError "reflectlite.Value.Type" 0) (fun t _ _ _ => ReflectliteType.toType t)) Tryz.func102 (by kernel_rfl) (by kernel_rfl) (by kernel_rfl) (by kernel_rfl)
theorem ex_h8 : ∀ (args : Array Value) (w : World), (callFunc 103 args).run Tryz.prog w = (((ReflectliteValue.method (ReflectliteValue.valueError "reflectlite.Value.IsNil" 0) ReflectliteValue.isNil) args).run Tryz.prog w).andThen fun v w' => .ok (.value v) w' :=
 @run_callFunc_extern Tryz.prog 103 _ (ReflectliteValue.method (ReflectliteValue.valueError "reflectlite.Value.IsNil" 0) ReflectliteValue.isNil) Tryz.func103 (by kernel_rfl) (by kernel_rfl) (by kernel_rfl) (by kernel_rfl)
theorem ex_h27 : ∀ (args : Array Value) (w : World), (callFunc 267 args).run Tryz.prog w = (((ReflectliteType.abiMethod fun t => do pure (.int .u8 (← Rtype.kind t))) args).run Tryz.prog w).andThen fun v w' => .ok (.value v) w' :=
 @run_callFunc_extern Tryz.prog 267 _ (ReflectliteType.abiMethod fun t => do pure (.int .u8 (← Rtype.kind t))) Tryz.func267 (by kernel_rfl) (by kernel_rfl) (by kernel_rfl) (by kernel_rfl)
theorem ex_h37 : ∀ (args : Array Value) (w : World), (callFunc 279 args).run Tryz.prog w = (((ReflectliteType.method ReflectliteType.elem) args).run Tryz.prog w).andThen fun v w' => .ok (.value v) w' :=
 @run_callFunc_extern Tryz.prog 279 _ (ReflectliteType.method ReflectliteType.elem) Tryz.func279 (by kernel_rfl) (by kernel_rfl) (by kernel_rfl) (by kernel_rfl)
theorem ex_h38 : ∀ (args : Array Value) (w : World), (callFunc 280 args).run Tryz.prog w = (((ReflectliteType.relation "Implements" ReflectliteType.implements_) args).run Tryz.prog w).andThen fun v w' => .ok (.value v) w' :=
 @run_callFunc_extern Tryz.prog 280 _ (ReflectliteType.relation "Implements" ReflectliteType.implements_) Tryz.func280 (by kernel_rfl) (by kernel_rfl) (by kernel_rfl) (by kernel_rfl)
theorem ex_h35 : ∀ (args : Array Value) (w : World), (callFunc 277 args).run Tryz.prog w = (((ReflectliteType.relation "AssignableTo" ReflectliteType.assignableTo) args).run Tryz.prog w).andThen fun v w' => .ok (.value v) w' :=
 @run_callFunc_extern Tryz.prog 277 _ (ReflectliteType.relation "AssignableTo" ReflectliteType.assignableTo) Tryz.func277 (by kernel_rfl) (by kernel_rfl) (by kernel_rfl) (by kernel_rfl)
theorem as_typeOfE (v : Value) (w : World) : (ReflectliteType.typeOf #[.iface 318 v]).run Tryz.prog w = .ok (.iface 220 (.agg #[.pointer (some ⟨21, 318, none⟩)])) w := by kernel_rfl
theorem as_assignableE (w : World) : (ReflectliteType.relation "AssignableTo" ReflectliteType.assignableTo #[.agg #[.pointer (some ⟨21, 318, none⟩)], .iface 220 (.agg #[.pointer (some ⟨21, 112, none⟩)])]).run Tryz.prog w = .ok (.bool false) w := by kernel_rfl
set_option maxHeartbeats 4000000 in
theorem as_miss (a t : Addr) (old : Value) (w : World) (hg : w.cell? ⟨12, 0, none⟩ = some (.iface 220 (.agg #[.pointer (some ⟨21, 31, none⟩)]))) (_ : w.cell? t = some old) :
  Calls Tryz.prog 49 #[.iface 318 (.pointer (some a)), .iface 114 (.pointer (some t))] w fun ev w' => ev = .returned (.bool false) ∧ Below w.heap.size w w' := by
 have h6 := ex_h6
 have h7 := ex_h7
 have h8 := ex_h8
 have h27 := ex_h27
 have h37 := ex_h37
 have h38 := ex_h38
 have h10 := ex_TypeOf
 have h35 := ex_h35
 have tO := as_typeOfE
 have mA := as_methodAssignableTo
 have aE := as_assignableE
 have f6 := as_valueOf27
 have f7 := as_type27
 have mK := as_methodKind
 have mE := as_methodElem
 have mI := as_methodImplements
 have k27 := as_kind27
 have k25 := as_kind25
 have e27 := as_elem27
 have i25 := as_implements25
 have uE := noUnwrapE
 have vE := noUnwrapsE
 have nA := noAsE
 have n8 := as_isNil27 ⟨w.heap.size, 0, none⟩ t ((w.alloc (.cells #[.pointer (some t)] 114)).alloc (.cells #[.pointer (some ⟨21, 114, none⟩), .pointer (some ⟨w.heap.size, 0, none⟩), .int .u64 150] 176)) (by simp)
 have hlt : 12 < w.heap.size := by
  exact lt_of_cell hg
 have hg2 : ((w.alloc (.cells #[.pointer (some t)] 114)).alloc (.cells #[.pointer (some ⟨21, 114, none⟩), .pointer (some ⟨w.heap.size, 0, none⟩), .int .u64 150] 176)).cell? ⟨12, 0, none⟩ = some (.iface 220 (.agg #[.pointer (some ⟨21, 31, none⟩)])) := by
  rw [World.cell?_alloc_lt _ _ ⟨12, 0, none⟩ (by simp; omega), World.cell?_alloc_lt _ _ ⟨12, 0, none⟩ hlt]; exact hg
 go_enter Tryz.func49, Tryz.ntmps49
 go_wp2
 refine wp_loop_rounds 1 ?_
 rw [rounds_succ]
 go_wp2
 go_ret
 exact ⟨rfl, (((Below.refl _ _).alloc (Nat.le_refl _) _).alloc (by simp) _).alloc (by simp; omega) _⟩
end Go.Proofs.YteaalifehokgoaaGreatDoor
