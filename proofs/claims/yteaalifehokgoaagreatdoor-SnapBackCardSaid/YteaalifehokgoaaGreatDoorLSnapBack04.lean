/- A book read from its text, plainly: what is written is read as the same book. The law SnapBack, walked. -/
import Derived.Deep.DeepCutAuto
import Derived.Test.YteaalifehokgoaaGreatDoorM32
import Derived.Test.YteaalifehokgoaaGreatDoorM33
import Derived.Test.YteaalifehokgoaaGreatDoorM36
import Derived.Test.YteaalifehokgoaaGreatDoorM37
import Derived.Test.YteaalifehokgoaaGreatDoorM39
import Derived.Test.YteaalifehokgoaaGreatDoorLSnapBack03
namespace Go.Proofs.YteaalifehokgoaaGreatDoor
open Go.RowKit Go.Sort Go.Proofs
theorem holdX_goods (id : List UInt8) (n : Int) : ¬ (holdX id n).1 = kGoods := by show ¬ kHold = kGoods; decide
theorem holdX_lot (id : List UInt8) (n : Int) : ¬ (holdX id n).1 = kLot := by show ¬ kHold = kLot; decide
theorem holdX_in (id : List UInt8) (n : Int) : ¬ ((holdX id n).1 = kIn ∨ (holdX id n).1 = kMore) := by show ¬ (kHold = kIn ∨ kHold = kMore); decide
theorem holdX_out (id : List UInt8) (n : Int) : ¬ ((holdX id n).1 = kOut ∨ (holdX id n).1 = kLess) := by show ¬ (kHold = kOut ∨ kHold = kLess); decide
theorem holdX_move (id : List UInt8) (n : Int) : ¬ (holdX id n).1 = kMove := by show ¬ kHold = kMove; decide
theorem hold_ent {id : List UInt8} {n : Int} (h : nameB id = true) (h1 : 1 ≤ n) (h2 : n ≤ 1099511627776) : entE (holdX id n) = 0 := by
 unfold entE
 rw [if_neg (holdX_goods id n), if_neg (holdX_lot id n), if_pos (show isP (holdX id n).1 = true by show isP kHold = true; decide)]
 unfold piecesE
 have hpl : placesE (holdX id n) = 0 := by
  unfold placesE
  rw [if_neg (show ¬ (hasF (holdX id n).1 = true ∧ placeE (holdX id n).2.2.2.1 ≠ 0) from fun e => absurd e.1 (by show ¬ hasF kHold = true; decide)), if_neg (show ¬ hasT (holdX id n).1 = true by show ¬ hasT kHold = true; decide)]
 rw [if_neg (show ¬ nameB (holdX id n).2.2.1.1 = false by show ¬ nameB id = false; rw [h]; simp), if_neg (by rw [hpl]; simp), if_neg, if_neg]
 ·rintro (⟨e, -⟩ | e)
  ·exact holdX_move id n e
  ·exact e rfl
 ·show ¬ wiB n 1 1099511627776 = false
  unfold wiB
  simp only [decide_eq_false_iff_not, Classical.not_not]
  exact ⟨h1, h2⟩
theorem rd_holds {L : List LoH} {G : List GoodsV} {m : StkV} (hs : L.Pairwise fun x y => ltB x.1.1 y.1.1 = true) (hle : ∀ x ∈ L, x.2 ≤ ofM m x.1.1) (hm : ∀ i, ofM m i ≤ 1099511627776) :
  ∀ (post pre : List LoH) (C : BkV), L = pre ++ post → BkI C → C.1.map (·.1) = G → C.2.1 = pre ++ post.map l0 → C.2.2 = m →
   ∃ C', rdH C (hS post) = some C' ∧ BkI C' ∧ C'.1.map (·.1) = G ∧ C'.2.1 = L ∧ C'.2.2 = m
 |[], pre, C, h, hI, hG, hL, hM => by
  refine ⟨C, rfl, hI, hG, ?_, hM⟩
  rw [hL, h]
  rfl
 |x :: post, pre, C, h, hI, hG, hL, hM => by
  have hL' : C.2.1 = pre ++ l0 x :: post.map l0 := hL
  by_cases h0 : x.2 = 0
  ·have e : l0 x = x := by
    obtain ⟨a, b⟩ := x
    have h0 : b = 0 := h0
    rw [h0]
    rfl
   have e2 : hS (x :: post) = hS post := by unfold hS; rw [List.filterMap_cons]; simp [h0]
   rw [e2]
   exact rd_holds hs hle hm post (pre ++ [x]) C (by rw [h]; simp) hI hG (by rw [hL', e]; simp) hM
  ·have e2 : hS (x :: post) = holdX x.1.1 x.2 :: hS post := by unfold hS; rw [List.filterMap_cons]; simp [h0]
   have hx : x ∈ L := by rw [h]; simp
   have hxm : l0 x ∈ C.2.1 := by rw [hL']; simp
   have hxl := hle x hx
   have hxm2 := hm x.1.1
   have hf : fL C x.1.1 = some (l0 x) := hI.fL_is hxm
   obtain ⟨hlo, -, hgs⟩ := hI.lok (l0 x) hxm
   have hn : nameB x.1.1 = true := (lot_zero hlo).1
   obtain ⟨g, hg⟩ := Option.isSome_iff_exists.1 hgs
   obtain ⟨hgm, hgc⟩ := fG_mem hg
   have hsum : sumsOf C x.1.2.1 = g.2 := by
    have hg : fG C x.1.2.1 = some g := hg
    unfold sumsOf
    rw [hg]
   have hm0 : mostS = 65970697666560 := rfl
   have hact : actE C.2.2 (holdX x.1.1 x.2) = 0 := by
    unfold actE
    rw [if_neg (holdX_in _ _), if_neg (holdX_out _ _), if_neg (holdX_move _ _)]
   have hactM : actM C.2.2 (holdX x.1.1 x.2) = C.2.2 := by
    unfold actM
    rw [if_neg (holdX_in _ _), if_neg (holdX_out _ _), if_neg (holdX_move _ _)]
   have hheld : heldN 0 (holdX x.1.1 x.2) = (x.2 : Int) := by
    unfold heldN
    rw [if_pos (show (holdX x.1.1 (x.2 : Int)).1 = kHold from rfl)]
    show ((0 : Nat) : Int) + (x.2 : Int) = _
    omega
   have hsumm : ∀ s, summ s (holdX x.1.1 x.2) = s := fun s => by
    unfold summ
    rw [if_neg fun e => holdX_in _ _ (.inl e), if_neg fun e => holdX_out _ _ (.inl e), if_neg fun e => holdX_in _ _ (.inr e), if_neg fun e => holdX_out _ _ (.inr e)]
   have hpc : pcE C (holdX x.1.1 x.2) = 0 := by
    unfold pcE
    rw [show (holdX x.1.1 x.2).2.2.1.1 = x.1.1 from rfl, hf]
    simp only
    rw [if_neg (by rw [hact]; simp), show (l0 x).2 = 0 from rfl, hheld, hactM, hM, if_neg (by omega), hsumm, show (l0 x).1.2.1 = x.1.2.1 from rfl, hsum, if_neg]
    obtain ⟨o1, o2, o3, o4, o5, o6, o7, o8⟩ := (hI.gok g hgm).2
    unfold overS
    simp only [Bool.or_eq_true, decide_eq_true_eq, not_or]
    refine ⟨⟨⟨?_, ?_⟩, ?_⟩, ?_⟩ <;> omega
   have hdo : doE C (holdX x.1.1 x.2) = 0 := by
    unfold doE
    rw [if_neg (by rw [hold_ent hn (by omega) (by omega)]; simp), if_neg (holdX_goods _ _), if_neg (holdX_lot _ _)]
    exact hpc
   have hB : doB C (holdX x.1.1 x.2) = doP C (holdX x.1.1 x.2) := by
    unfold doB
    rw [if_neg (by simpa using hdo), if_neg (holdX_goods _ _), if_neg (holdX_lot _ _)]
   have hcode : codeLo C x.1.1 = x.1.2.1 := by unfold codeLo; rw [hf]; rfl
   have hho : heldOf C x.1.1 = 0 := by unfold heldOf; rw [hf]; rfl
   rw [e2, rdH, if_pos hdo]
   refine rd_holds hs hle hm post (pre ++ [x]) (doB C (holdX x.1.1 x.2)) (by rw [h]; simp) (hI.do_ _) ?_ ?_ ?_
   ·rw [hB, ← hG]
    show (setG _ _ C.1).map _ = _
    unfold setG
    rw [List.map_map]
    exact List.map_congr_left fun z _ => setG_fst _ _ z
   ·rw [hB]
    show setLo x.1.1 (heldN (heldOf C x.1.1) (holdX x.1.1 x.2)).toNat C.2.1 = _
    rw [hho, hheld, Int.toNat_natCast, hL']
    unfold setLo
    rw [h, List.pairwise_append] at hs
    obtain ⟨-, s2, s3⟩ := hs
    have s2 := List.pairwise_cons.1 s2
    rw [List.map_append, List.map_cons, List.append_assoc]
    refine congr (congrArg _ ?_) (congr (congrArg _ ?_) ?_)
    ·refine (List.map_congr_left fun z hz => ?_).trans (List.map_id _)
     exact if_neg (ltB_ne (s3 z hz x List.mem_cons_self))
    ·exact if_pos rfl
    ·refine (List.map_congr_left fun z hz => ?_).trans (List.map_id _)
     obtain ⟨u, hu, rfl⟩ := List.mem_map.1 hz
     exact if_neg (Ne.symm (ltB_ne (s2.1 u hu)))
   ·rw [hB]
    exact hactM.trans hM
theorem setAllG_is {f : List UInt8 → Option SumsV} : ∀ {l l' : List GoS}, l.map (·.1) = l'.map (·.1) → (∀ y ∈ l', f y.1.1 = some y.2) → setAllG f l = l'
 |[], [], _, _ => rfl
 |x :: r, y :: q, h, hf => by
  rw [List.map_cons, List.map_cons, List.cons.injEq] at h
  have ih := setAllG_is h.2 fun z hz => hf z (List.mem_cons_of_mem _ hz)
  unfold setAllG at ih ⊢
  rw [List.map_cons, ih, h.1, hf y List.mem_cons_self]
  rfl
 |[], _ :: _, h, _ => by simp at h
 |_ :: _, [], h, _ => by simp at h
theorem rest_snap {B : BkV} (h : BkI B) : ∃ C, Rest (snapT B) C ∧ BkEq B C := by
 have hlin : ∀ x ∈ linesB B, (10 : UInt8) ∉ x := fun t ht => by
  unfold linesB at ht
  rcases List.mem_append.1 ht with ht | ht
  ·obtain ⟨x, hx, rfl⟩ := List.mem_map.1 ht
   obtain ⟨g1, o1, o2, o3, o4, o5, o6, o7, o8⟩ := h.gok x hx
   obtain ⟨k1, k2, k3⟩ := goods_zero g1
   refine (gLine_words k1 fun n hn => ?_).2
   simp only [List.mem_cons, List.not_mem_nil, or_false] at hn
   rcases hn with rfl | rfl | rfl | rfl | rfl <;> omega
  rcases List.mem_append.1 ht with ht | ht
  ·obtain ⟨x, hx, rfl⟩ := List.mem_map.1 ht
   exact (lLine_words (h.lok x hx).1).2
  ·obtain ⟨x, hx, rfl⟩ := List.mem_map.1 ht
   exact (aLine_words (h.stk.well.lines x hx)).2.1
 -- the lines
 have e1 := rd_goods h.gs h.gok h.gfew B.1 [] rfl
 have hfz : ∀ c, (fG (B.1.map z0, [], []) c).isSome = (fG B c).isSome := fun c => by
  have : fG (B.1.map z0, [], []) c = (fG B c).map z0 := find_map (f := z0) (fun z : GoS => z.1.1) (fun _ => rfl) c
  rw [this, Option.isSome_map]
 have e2 := rd_lots (G := B.1.map z0) (f := fS B.1) h.ls (fun x hx => by
  obtain ⟨k1, k2, k3⟩ := h.lok x hx
  exact ⟨k1, Nat.le_trans k2 (h.stk.few _), by rw [hfz]; exact k3⟩) h.lfew B.2.1 [] rfl
 have hI2 : RdI2 ((B.1.map z0, B.2.1.map l0, []), fS B.1, hS B.2.1) := by
  refine RdI2.nil.all (ts := B.1.map gLine ++ B.2.1.map lLine) ?_
  rw [rdAll_app, show rd0 = (([].map z0, [], []), fS [], []) from rfl, e1]
  exact e2
 have hAt : AtI (B.1.map (·.1)) B.2.1 (B.1.map z0, B.2.1.map l0, []) [] := by
  refine ⟨hI2.book, ?_, rfl, rfl, RdI.nil, fun x hx => ?_⟩
  ·rw [List.map_map]
   rfl
  ·obtain ⟨z, -, rfl⟩ := List.mem_map.1 hx
   exact ⟨rfl, rfl, rfl⟩
 obtain ⟨C1, e3, hC1⟩ := rd_at (G := B.1.map (·.1)) (L := B.2.1) h.stk (fun z hz => h.known z hz) (f := fS B.1) (H := hS B.2.1) (linesM B.2.2) [] _ rfl hAt
 have hall : rdAll rd0 (linesB B) = some (C1, fS B.1, hS B.2.1) := by
  unfold linesB
  rw [rdAll_app, show rd0 = (([].map z0, [], []), fS [], []) from rfl, e1]
  simp only
  rw [rdAll_app]
  have e2' : rdAll ((B.1.map z0, [], []), fS B.1, []) (B.2.1.map lLine) = _ := e2
  rw [e2']
  exact e3
 have hp : (toM (linesM B.2.2)).Perm B.2.2 := by
  have := (lines_perm B.2.2).map fun x : LineV => (((x.1, x.2.1), x.2.2.toNat) : KeyV × Nat)
  rw [List.map_map] at this
  refine List.Perm.trans this ?_
  rw [show ((fun x : LineV => (((x.1, x.2.1), x.2.2.toNat) : KeyV × Nat)) ∘ lineOf) = id from funext fun x => by obtain ⟨⟨p, l⟩, n⟩ := x; simp [lineOf], List.map_id]
 have hof : ∀ i, ofM (toM (linesM B.2.2)) i = ofM B.2.2 i := fun i => ofM_perm hp i
 -- what is held
 obtain ⟨C2, f1, f2, f3, f4, f5⟩ := rd_holds (L := B.2.1) (G := B.1.map (·.1)) (m := toM (linesM B.2.2)) h.ls (fun x hx => by rw [hof]; exact (h.lok x hx).2.1) (fun i => by rw [hof]; exact h.stk.few i) B.2.1 [] C1 rfl hC1.book hC1.goods hC1.lots hC1.stk
 have hhas : ∀ c, hasOf C2 c = hasOf B c := fun c => by
  unfold hasOf
  rw [f4, f5]
  refine congrArg List.sum (List.map_congr_left fun x _ => hof _)
 have hfS : ∀ y ∈ B.1, fS B.1 y.1.1 = some y.2 := fun y hy => by
  unfold fS
  rw [show B.1.find? (fun z => decide (z.1.1 = y.1.1)) = some y from h.fG_is hy]
  rfl
 have hset : setAllG (fS B.1) C2.1 = B.1 := setAllG_is f3 hfS
 have hlines : linesM (toM (linesM B.2.2)) = linesM B.2.2 := hC1.rd.lines
 have heq : BkEq B (setAllB C2 (fS B.1)) := by
  refine ⟨hset.symm, f4.symm, ?_⟩
  show linesM B.2.2 = linesM C2.2.2
  rw [f5, hlines]
 have hsnap : snapT (setAllB C2 (fS B.1)) = snapT B := by
  obtain ⟨q1, q2, q3⟩ := heq
  unfold snapT
  rw [← q1, ← q2, ← q3]
 refine ⟨setAllB C2 (fS B.1), ⟨(C1, fS B.1, hS B.2.1), C2, ?_, f1, fun c s hc => ?_, rfl, hsnap⟩, heq⟩
 ·by_cases hn : linesB B = []
  ·have hT : snapT B = [] := by rw [snapT_lines h, hn]; rfl
   rw [if_pos hT]
   rw [hn] at hall
   exact hall
  ·have hT := snapT_lines h
   rw [flat_join hn] at hT
   rw [if_neg (by rw [hT]; simp), hT, cutNl_app, splitL_join 10 _ hn hlin]
   exact hall
 ·obtain ⟨y, hy, hyc⟩ : ∃ y ∈ B.1, y.1.1 = c ∧ y.2 = s := by
   have hc : ((B.1.find? fun y => decide (y.1.1 = c)).map (·.2)) = some s := hc
   cases hf : B.1.find? (fun y => decide (y.1.1 = c)) with
   |none => rw [hf] at hc; cases hc
   |some y =>
    rw [hf] at hc
    exact ⟨y, (fG_mem (B := B) hf).1, (fG_mem (B := B) hf).2, by simpa using hc⟩
  obtain ⟨hy1, hy2⟩ := hyc
  obtain ⟨-, o1, o2, o3, o4, o5, o6, o7, o8⟩ := h.gok y hy
  have hpac := h.pac y hy
  show _ ∧ _
  rw [hhas, ← hy1, ← hy2]
  exact ⟨hpac.symm, o2, o4, o6, o8⟩
end Go.Proofs.YteaalifehokgoaaGreatDoor
namespace Go.Proofs.YteaalifehokgoaaGreatDoor
open Go.RowKit Go.Sort Go.Proofs
theorem rest_uniq {s : List UInt8} {C D : BkV} (h : Rest s C) (k : Rest s D) : C = D := by
 obtain ⟨S, B, a1, a2, -, a4, -⟩ := rest_iff.1 h
 obtain ⟨S', B', b1, b2, -, b4, -⟩ := rest_iff.1 k
 rw [a1] at b1
 cases b1
 rw [a2] at b2
 cases b2
 rw [a4, b4]
theorem BkEq.snapT {B C : BkV} (h : BkEq B C) : snapT B = Go.Proofs.YteaalifehokgoaaGreatDoor.snapT C := by
 obtain ⟨h1, h2, h3⟩ := h
 unfold Go.Proofs.YteaalifehokgoaaGreatDoor.snapT
 rw [h1, h2, h3]
theorem SnG.place {E : Nat → Addr} {w : World} (h : SnG E w) : PlaceG E w := ⟨h.bk.stk.place.name, h.bk.stk.place.bound, h.rd.tab⟩
theorem codeE_any (E : Nat → Addr) (k : Nat) (hk : k ≤ 12) (w : World) (hG : ErrG E w) :
  Calls Tryz.prog 13 #[errOf E k] w fun e w' => e = .returned (.tuple #[.int .i64 (k : Int), .int .i64 (-1)]) ∧ Below w.heap.size w w' := by
 by_cases h : k = 0
 ·subst h
  rw [errOf_zero]
  refine (code_nil w).mono ?_
  rintro e w' ⟨rfl, rfl⟩
  exact ⟨rfl, Below.refl _ _⟩
 ·rw [errOf_pos _ _ h]
  exact code_sent E k (by omega) hk w hG
def ryeB : BkV := ([(([114, 121, 101], 6), zeroSums)], [], [])
theorem ryeI : BkI ryeB := by
 refine ⟨List.pairwise_singleton _ _, fun x hx => ?_, by decide, List.Pairwise.nil, (fun x hx => by cases hx), by decide, StkI.nil, (fun x hx => by cases hx), fun x hx => ?_⟩
 ·rw [List.mem_singleton.1 hx]
  exact ⟨by decide, by unfold OkS zeroSums mostS; decide⟩
 ·rw [List.mem_singleton.1 hx]
  rfl
theorem ryeT : snapT ryeB = [103, 111, 111, 100, 115, 32, 114, 121, 101, 32, 54, 32, 48, 32, 48, 32, 48, 32, 48, 10] := by
 have h6 : Lib.itoa 6 = [54] := by rw [itoa_nat 6 (by omega)]; exact dec_small (by omega)
 have h0 : Lib.itoa 0 = [48] := by rw [itoa_nat 0 (by omega)]; exact dec_small (by omega)
 have hl : linesM [] = [] := rfl
 simp [snapT, ryeB, snapGs, snapG, snapLs, snapSs, wordsT, zeroSums, h6, h0, hl]
set_option maxHeartbeats 800000 in
set_option maxRecDepth 100000 in
theorem snapped_any (E : Nat → Addr) (w : World) (hG : SnG E w) :
  Calls Tryz.prog 6 #[] w fun e w' => e = .returned (.bool true) ∧ Below w.heap.size w w' := by
 obtain ⟨C, hC, hq⟩ := rest_snap ryeI
 rw [ryeT] at hC
 have hCI := (rest_ok hC).1
 have HRE := Lib.hid ((restore_any E [103, 111, 111, 100, 115, 32, 114, 121, 101, 32, 54, 32, 48, 32, 48, 32, 48, 32, 48, 10] w (by decide) hG).mono (R' := fun e w' => ∃ p F, e = .returned (.tuple #[.pointer (some ⟨p, 0, none⟩), .nilIface]) ∧ BookIs w' p F C ∧ Below w.heap.size w w') fun e w' h => by
  rcases h with ⟨hb, ⟨C', p, F, h1, h2, h3, -⟩ | ⟨h1, -⟩⟩
  ·rw [← rest_uniq hC h1] at h3
   exact ⟨p, F, h2, h3, hb⟩
  ·exact absurd hC (h1 C))
 have HL : Hid (C.1.length = 1) := by
  show _ = _
  rw [← hq.1]
  rfl
 have HT : Hid (snapT C = [103, 111, 111, 100, 115, 32, 114, 121, 101, 32, 54, 32, 48, 32, 48, 32, 48, 32, 48, 10]) := (rest_ok hC).2
 have HCI := Lib.hid hCI
 have HG := Lib.hid (fun W (h : Below w.heap.size w W) => hG.below h)
 clear hC hq hCI hG
 go_enter Tryz.func6, Tryz.ntmps6
 go_wp2_with fail
 refine HRE.out.mono ?_
 rintro e w1 ⟨p, F, rfl, hb, b1⟩
 have HB := Lib.hid hb
 have B1 := Lib.hid b1
 clear hb b1 HRE
 go_wp2_with fail
 have HGO := Lib.hid (goodsBk_any HB.out HCI.out)
 rw [HL.out] at HGO
 refine HGO.out.mono ?_
 rintro e w2 ⟨A, cap, rfl, -, -, b2⟩
 have HB2 := Lib.hid (HB.out.below b2)
 have B2 := Lib.hid (B1.out.trans (b2.mono B1.out.size))
 clear b2 HB HGO
 go_wp2_with fail
 have HSN := Lib.hid (snap_any E HB2.out HCI.out (HG.out _ B2.out).place)
 rw [HT.out] at HSN
 refine HSN.out.mono ?_
 rintro e w3 ⟨rfl, b3⟩
 have B3 := Lib.hid (B2.out.trans (b3.mono B2.out.size))
 clear b3 HSN
 go_wp2_with fail
 go_ret
 exact ⟨rfl, B3.out⟩
structure SbG (E : Nat → Addr) (w : World) : Prop where
 sn : SnG E w
 err : ErrG E w
theorem SbG.below {E : Nat → Addr} {w w' : World} (h : SbG E w) (hb : Below w.heap.size w w') : SbG E w' := ⟨h.sn.below hb, h.err.below hb⟩
set_option maxHeartbeats 800000 in
set_option maxRecDepth 100000 in
theorem snapBack_out (E : Nat → Addr) (A0 : Option Addr) (cap0 : Nat) (xs0 : List EntV) (A1 : Option Addr) (cap1 : Nat) (xs1 : List EntV) (w : World) (hG : SbG E w) (hX0 : RowAt encEnt 14 w A0 xs0) (hX1 : RowAt encEnt 14 w A1 xs1) (h : longL xs0 40 = 1 ∨ (longL xs0 40 = 0 ∧ longL xs1 20 = 1)) :
  Calls Tryz.prog 3 #[.slice A0 xs0.length cap0, .slice A1 xs1.length cap1] w fun e w' => e = .returned (.bool true) ∧ Below w.heap.size w w' := by
 have HC := Lib.hid (snapped_any E w hG.sn)
 have HL := Lib.hid (fun W (hb : Below w.heap.size w W) => longEntries_any A0 cap0 xs0 40 W (by decide) (hX0.below hb))
 have HL1 := Lib.hid (fun W (hb : Below w.heap.size w W) => longEntries_any A1 cap1 xs1 20 W (by decide) (hX1.below hb))
 clear hG hX0 hX1
 generalize xs0.length = N0 at HL ⊢
 generalize xs1.length = N1 at HL1 ⊢
 rcases h with h | ⟨h1, h2⟩
 ·rw [h] at HL
  clear h
  go_enter Tryz.func3, Tryz.ntmps3
  go_wp2_with fail
  refine HC.out.mono ?_
  rintro e w1 ⟨rfl, b1⟩
  have B1 := Lib.hid b1
  clear b1
  go_wp2_with fail
  refine (HL.out w1 B1.out).mono ?_
  rintro e w2 ⟨rfl, b2⟩
  have B2 := Lib.hid (B1.out.trans (b2.mono B1.out.size))
  clear b2
  go_wp2_with fail
  go_ret
  exact ⟨rfl, B2.out⟩
 ·rw [h1] at HL
  rw [h2] at HL1
  clear h1 h2
  go_enter Tryz.func3, Tryz.ntmps3
  go_wp2_with fail
  refine HC.out.mono ?_
  rintro e w1 ⟨rfl, b1⟩
  have B1 := Lib.hid b1
  clear b1
  go_wp2_with fail
  refine (HL.out w1 B1.out).mono ?_
  rintro e w2 ⟨rfl, b2⟩
  have B2 := Lib.hid (B1.out.trans (b2.mono B1.out.size))
  clear b2
  go_wp2_with fail
  refine (HL1.out w2 B2.out).mono ?_
  rintro e w3 ⟨rfl, b3⟩
  have B3 := Lib.hid (B2.out.trans (b3.mono B2.out.size))
  clear b3
  go_wp2_with fail
  go_ret
  exact ⟨rfl, B3.out⟩
set_option maxHeartbeats 3200000 in
set_option maxRecDepth 100000 in
theorem snapBack_in (E : Nat → Addr) (A0 : Option Addr) (cap0 : Nat) (xs0 : List EntV) (A1 : Option Addr) (cap1 : Nat) (xs1 : List EntV) (w : World) (hG : SbG E w) (hX0 : RowAt encEnt 14 w A0 xs0) (hX1 : RowAt encEnt 14 w A1 xs1) (hl0 : longL xs0 40 = 0) (hl1 : longL xs1 20 = 0) :
  Calls Tryz.prog 3 #[.slice A0 xs0.length cap0, .slice A1 xs1.length cap1] w fun e w' => e = .returned (.bool true) ∧ Below w.heap.size w w' := by
 have HC := Lib.hid (snapped_any E w hG.sn)
 have HL := Lib.hid (fun W (hb : Below w.heap.size w W) => longEntries_any A0 cap0 xs0 40 W (by decide) (hX0.below hb))
 have HL1 := Lib.hid (fun W (hb : Below w.heap.size w W) => longEntries_any A1 cap1 xs1 20 W (by decide) (hX1.below hb))
 rw [hl0] at HL
 rw [hl1] at HL1
 obtain ⟨s1, s2⟩ := longL_short hl0
 obtain ⟨t1, t2⟩ := longL_short hl1
 have HSH : Hid (∀ x ∈ xs1, x.2.2.1.1.length ≤ 1000000000 ∧ x.2.2.1.2.1.length ≤ 1000000000) := fun x hx => longN_short (t2 x hx)
 have HBO := Lib.hid (fun W (hb : Below w.heap.size w W) => bookOf_any E A0 cap0 xs0 W (hX0.below hb) (by omega) (fun x hx => longN_ShortE (s2 x hx)) (hG.sn.bk.below hb) (hG.err.below hb))
 have HG := Lib.hid (fun W (hb : Below w.heap.size w W) => hG.below hb)
 have HX := Lib.hid (fun W (hb : Below w.heap.size w W) => hX1.below hb)
 have hIB := BkI.all BkI.nil xs0
 generalize doAll bk0 xs0 = B at HBO hIB
 have HIB := Lib.hid hIB
 obtain ⟨C, hC, hq⟩ := rest_snap hIB
 have HRE : Hid (∀ W, Below w.heap.size w W → (snapT B).length ≤ 20000 → Calls Tryz.prog 10 #[.string ⟨(snapT B).toArray⟩] W fun e w' => ∃ p F, e = .returned (.tuple #[.pointer (some ⟨p, 0, none⟩), .nilIface]) ∧ BookIs w' p F C ∧ (∀ k ∈ F, W.heap.size ≤ k) ∧ Below W.heap.size W w') := fun W hb hl => (restore_any E (snapT B) W hl (hG.below hb).sn).mono fun e w' h => by
  rcases h with ⟨hb, ⟨C', p, F, h1, h2, h3, h4⟩ | ⟨h1, -⟩⟩
  ·rw [← rest_uniq hC h1] at h3
   exact ⟨p, F, h2, h3, h4, hb⟩
  ·exact absurd hC (h1 C)
 have HIC := Lib.hid (rest_ok hC).1
 have HQ := Lib.hid hq
 obtain ⟨N, hN⟩ : ∃ N, N = xs1.length := ⟨_, rfl⟩
 have HN := Lib.hid hN
 rw [← hN] at HL1 t1 ⊢
 clear hG hX0 hX1 hl0 hl1 s1 s2 t2 hIB hC hq hN
 generalize xs0.length = N0 at HL HBO ⊢
 go_enter Tryz.func3, Tryz.ntmps3
 go_wp2_with fail
 refine HC.out.mono ?_
 rintro e w1 ⟨rfl, b1⟩
 have B1 := Lib.hid b1
 clear b1 HC
 go_wp2_with fail
 refine (HL.out w1 B1.out).mono ?_
 rintro e w2 ⟨rfl, b2⟩
 have B2 := Lib.hid (B1.out.trans (b2.mono B1.out.size))
 clear b2 HL
 go_wp2_with fail
 refine (HL1.out w2 B2.out).mono ?_
 rintro e w3 ⟨rfl, b3⟩
 have B3 := Lib.hid (B2.out.trans (b3.mono B2.out.size))
 clear b3 HL1
 go_wp2_with fail
 refine (HBO.out w3 B3.out).mono ?_
 rintro e w4 ⟨p, q0, rfl, hbo, b4⟩
 have B4 := Lib.hid (B3.out.trans (b4.mono B3.out.size))
 obtain ⟨F, G, R, hbk, -, hF, -, -⟩ := hbo
 have HBK := Lib.hid hbk
 have HF : Hid (∀ k ∈ F, w.heap.size ≤ k) := fun k hk => by have := (hF k hk).1; have := B3.out.size; omega
 clear hbk hF b4 HBO
 go_wp2_with fail
 refine (snap_any E HBK.out HIB.out (HG.out _ B4.out).sn.place).mono ?_
 rintro e w5 ⟨rfl, b5⟩
 have B5 := Lib.hid (B4.out.trans (b5.mono B4.out.size))
 have HBK5 := Lib.hid (HBK.out.below b5)
 obtain ⟨T, hT⟩ : ∃ T, T = snapT B := ⟨_, rfl⟩
 rw [← hT] at HRE ⊢
 have hTs : (⟨T.toArray⟩ : ByteArray).size = T.length := by simp [ByteArray.size]
 have HFL : Hid (∀ k ∈ F, k < w5.heap.size) := fun k hk => Nat.lt_of_lt_of_le (HBK.out.lt k hk) b5.size
 clear b5 HBK hT
 by_cases hlen : 20000 < T.length
 ·have hl' : (20000 : Int) < (T.length : Int) := by omega
  go_wp2_with fail
  go_ret
  exact ⟨rfl, B5.out⟩
 have hl' : ¬ (20000 : Int) < (T.length : Int) := by omega
 have HR5 := Lib.hid (HRE.out w5 B5.out (by omega))
 clear HRE hlen
 go_wp2_with fail
 refine HR5.out.mono ?_
 rintro e w6 ⟨p2, F2, rfl, hc6, hF2, b6⟩
 have B6 := Lib.hid (B5.out.trans (b6.mono B5.out.size))
 have HBK6 := Lib.hid (HBK5.out.below b6)
 have HC6 := Lib.hid hc6
 have hz56 := b6.size
 have HF2 : Hid (∀ k ∈ F2, w.heap.size ≤ k ∧ k ∉ F) := fun k hk => by
  have h1 := hF2 k hk
  have h2 := B5.out.size
  exact ⟨by omega, fun h => by have := HFL.out k h; omega⟩
 clear hc6 hF2 b6 hz56 HBK5 HR5 HFL
 have HSM : Hid (Calls Tryz.prog 11 #[.pointer (some ⟨p, 0, none⟩), .pointer (some ⟨p2, 0, none⟩)] w6 fun e w' => e = .returned (.bool true) ∧ Below w6.heap.size w6 w') := by
  obtain ⟨r, hr, hcall⟩ := sameBk_any E HBK6.out HC6.out HIB.out HIC.out (HG.out _ B6.out).sn.place
  have : r = true := hr.2 HQ.out
  subst this
  exact hcall
 go_wp2_with fail
 refine HSM.out.mono ?_
 rintro e w7 ⟨rfl, b7⟩
 have B7 := Lib.hid (B6.out.trans (b7.mono B6.out.size))
 have HBK7 := Lib.hid (HBK6.out.below b7)
 have HC7 := Lib.hid (HC6.out.below b7)
 clear b7 HSM HBK6 HC6
 go_wp2_with fail
 go_loopw [12, 13, 14, 15, 16, 17, 18] (fun i _ _ _ _ _ _ wr => ∃ (k : Nat) (Bk Ck : BkV) (Fa Fb : List Nat), k ≤ N ∧ i = .int .i64 k ∧ Hid (BkI Bk) ∧ Hid (BkI Ck) ∧ Hid (BkEq Bk Ck) ∧ Hid (BookIs wr p Fa Bk) ∧ Hid (BookIs wr p2 Fb Ck) ∧ Hid (∀ j ∈ Fa, w.heap.size ≤ j) ∧ Hid (∀ j ∈ Fb, w.heap.size ≤ j ∧ j ∉ Fa) ∧ Hid (Below w.heap.size w wr)) (fun i _ _ _ _ _ _ _ => N - (intOf i).toNat)
 case atStart => exact ⟨0, B, C, F, F2, by omega, rfl, HIB.out, HIC.out, HQ.out, HBK7.out, HC7.out, HF.out, HF2.out, B7.out⟩
 case round =>
  obtain ⟨k, Bk, Ck, Fa, Fb, hk, rfl, HIK, HJK, HQK, HBA, HBB, HFA, HFB, HBW⟩ := hrel
  by_cases hkN : k < N
  ·have hkx : k < xs1.length := by rw [← HN.out]; exact hkN
   obtain ⟨g, o, rfl, lg, cg⟩ := (HX.out w (Below.refl _ _)).resolve_left (fun h => by rw [h] at hkx; simp at hkx)
   obtain ⟨x, hx⟩ : ∃ x, x = xs1[k] := ⟨_, rfl⟩
   have HL : Hid (∀ W, Below w.heap.size w W → Lies W g (o + k * 14) (encEnt x)) := fun W hb j v hv =>
    (hb.cell (p := ⟨g, o + k * 14 + j, none⟩) lg).trans (cg k hkx j v (by rw [← hx]; exact hv))
   obtain ⟨s1, s2⟩ := HSH.out x (by rw [hx]; exact List.getElem_mem hkx)
   have HD1 := Lib.hid (do_any E x HBA.out HIK.out s1 s2 (HG.out _ HBW.out).sn.bk)
   have HD2 := Lib.hid (fun W (hb : Below w.heap.size w W) (hB : BookIs W p2 Fb Ck) => do_any E x hB HJK.out s1 s2 (HG.out _ hb).sn.bk)
   have HIN := Lib.hid (HIK.out.do_ x)
   have HJN := Lib.hid (HJK.out.do_ x)
   have HQN := Lib.hid (HQK.out.doB HIK.out x)
   have hde : doE Ck x = doE Bk x := (HQK.out.doE HIK.out x).symm
   rw [hde] at HD2
   have HTW := Lib.hid (doE_tw Bk x)
   have h14 : (encEnt x).length = 14 := rfl
   clear hx cg s1 s2 hde
   generalize doE Bk x = de at HD1 HD2 HTW
   generalize doB Bk x = Bn at HD1 HIN HQN
   generalize doB Ck x = Cn at HD2 HJN HQN
   generalize encEnt x = LX at HL HD1 HD2 h14
   have hk0 : (0 : Int) ≤ (k : Nat) := by omega
   have hk1 : ((k : Nat) : Int) < (N : Nat) := by omega
   have hL0 := HL.out wr HBW.out
   go_wp2_with (refine wpList_load_at rfl 43 _ rfl g (o + k * 14) rfl LX hL0 _ Tryz.underlying43 rfl (by rw [h14]; kernel_rfl) ?_)
   refine HD1.out.mono ?_
   rintro e v1 ⟨rfl, ⟨F1, hb1, hf1⟩, bf1⟩
   have V1 := Lib.hid (HBW.out.trans (bf1.below HBW.out.size HFA.out))
   have HA1 := Lib.hid hb1
   have HC1 := Lib.hid (HBB.out.butF bf1 fun j hj => (HFB.out j hj).2)
   have HF1 : Hid (∀ j ∈ F1, w.heap.size ≤ j ∧ j ∉ Fb) := fun j hj => by
    have h2 := HBW.out.size
    rcases hf1 j hj with h | h
    ·exact ⟨HFA.out j h, fun hb => (HFB.out j hb).2 h⟩
    ·exact ⟨by omega, fun hb => by have := HBB.out.lt j hb; omega⟩
   have HFBL : Hid (∀ j ∈ Fb, w.heap.size ≤ j) := fun j hj => (HFB.out j hj).1
   have hL1 := HL.out v1 V1.out
   clear hL0 hb1 hf1 bf1 HD1 HBA HBB HFA HFB HBW
   go_wp2_with (refine wpList_load_at rfl 43 _ rfl g (o + k * 14) rfl LX hL1 _ Tryz.underlying43 rfl (by rw [h14]; kernel_rfl) ?_)
   refine (HD2.out v1 V1.out HC1.out).mono ?_
   rintro e v2 ⟨rfl, ⟨F3, hb2, hf2⟩, bf2⟩
   have V2 := Lib.hid (V1.out.trans (bf2.below V1.out.size HFBL.out))
   have HA2 := Lib.hid (HA1.out.butF bf2 fun j hj => (HF1.out j hj).2)
   have HC2 := Lib.hid hb2
   have HF3 : Hid (∀ j ∈ F3, w.heap.size ≤ j ∧ j ∉ F1) := fun j hj => by
    have h2 := V1.out.size
    rcases hf2 j hj with h | h
    ·exact ⟨HFBL.out j h, fun hb => (HF1.out j hb).2 h⟩
    ·exact ⟨by omega, fun hb => by have := HA1.out.lt j hb; omega⟩
   have HF1A : Hid (∀ j ∈ F1, w.heap.size ≤ j) := fun j hj => (HF1.out j hj).1
   have HCO := Lib.hid (fun W (hb : Below w.heap.size w W) => codeE_any E de HTW.out W (HG.out _ hb).err)
   clear hL1 hb2 hf2 bf2 HD2 HA1 HC1 HF1 HFBL
   generalize errOf E de = ev at HCO ⊢
   go_wp2_with fail
   refine (HCO.out v2 V2.out).mono ?_
   rintro e v3 ⟨rfl, b3⟩
   have V3 := Lib.hid (V2.out.trans (b3.mono V2.out.size))
   have HA3 := Lib.hid (HA2.out.below b3)
   have HC3 := Lib.hid (HC2.out.below b3)
   clear b3 HA2 HC2
   go_wp2_with fail
   refine (HCO.out v3 V3.out).mono ?_
   rintro e v4 ⟨rfl, b4⟩
   have V4 := Lib.hid (V3.out.trans (b4.mono V3.out.size))
   have HA4 := Lib.hid (HA3.out.below b4)
   have HC4 := Lib.hid (HC3.out.below b4)
   clear b4 HA3 HC3
   go_wp2_with fail
   go_roundw
   case rel => exact ⟨k + 1, Bn, Cn, F1, F3, by omega, by go_num, HIN.out, HJN.out, HQN.out, HA4.out, HC4.out, HF1A.out, HF3.out, V4.out⟩
   case measure => simp [intOf]; omega
  ·obtain rfl : k = N := by omega
   have HSM : Hid (Calls Tryz.prog 11 #[.pointer (some ⟨p, 0, none⟩), .pointer (some ⟨p2, 0, none⟩)] wr fun e w' => e = .returned (.bool true) ∧ Below wr.heap.size wr w') := by
    obtain ⟨r, hr, hcall⟩ := sameBk_any E HBA.out HBB.out HIK.out HJK.out (HG.out _ HBW.out).sn.place
    have : r = true := hr.2 HQK.out
    subst this
    exact hcall
   have HTT : Hid (snapT Bk = snapT Ck) := HQK.out.snapT
   have HS1 := Lib.hid (fun W (hb : Below w.heap.size w W) (hB : BookIs W p Fa Bk) => snap_any E hB HIK.out (HG.out _ hb).sn.place)
   have HS2 := Lib.hid (fun W (hb : Below w.heap.size w W) (hB : BookIs W p2 Fb Ck) => snap_any E hB HJK.out (HG.out _ hb).sn.place)
   rw [HTT.out] at HS1
   generalize snapT Ck = TC at HS1 HS2 HTT
   go_wp2_with fail
   refine HSM.out.mono ?_
   rintro e v1 ⟨rfl, b1⟩
   have V1 := Lib.hid (HBW.out.trans (b1.mono HBW.out.size))
   have HA1 := Lib.hid (HBA.out.below b1)
   have HC1 := Lib.hid (HBB.out.below b1)
   clear b1 HSM
   go_wp2_with fail
   refine (HS1.out v1 V1.out HA1.out).mono ?_
   rintro e v2 ⟨rfl, b2⟩
   have V2 := Lib.hid (V1.out.trans (b2.mono V1.out.size))
   have HC2 := Lib.hid (HC1.out.below b2)
   clear b2
   go_wp2_with fail
   refine (HS2.out v2 V2.out HC2.out).mono ?_
   rintro e v3 ⟨rfl, b3⟩
   have V3 := Lib.hid (V2.out.trans (b3.mono V2.out.size))
   clear b3
   go_wp2_with fail
   go_ret
   exact ⟨rfl, V3.out⟩
theorem snapBack_walk (E : Nat → Addr) (A0 : Option Addr) (cap0 : Nat) (xs0 : List EntV) (A1 : Option Addr) (cap1 : Nat) (xs1 : List EntV) (w : World) (hG : SbG E w) (hX0 : RowAt encEnt 14 w A0 xs0) (hX1 : RowAt encEnt 14 w A1 xs1) :
  Calls Tryz.prog 3 #[.slice A0 xs0.length cap0, .slice A1 xs1.length cap1] w fun e w' => e = .returned (.bool true) ∧ Below w.heap.size w w' := by
 rcases longL_01 xs0 40 with h0 | h0
 ·rcases longL_01 xs1 20 with h1 | h1
  ·exact snapBack_in E A0 cap0 xs0 A1 cap1 xs1 w hG hX0 hX1 h0 h1
  ·exact snapBack_out E A0 cap0 xs0 A1 cap1 xs1 w hG hX0 hX1 (.inr ⟨h0, h1⟩)
 ·exact snapBack_out E A0 cap0 xs0 A1 cap1 xs1 w hG hX0 hX1 (.inl h0)
end Go.Proofs.YteaalifehokgoaaGreatDoor
