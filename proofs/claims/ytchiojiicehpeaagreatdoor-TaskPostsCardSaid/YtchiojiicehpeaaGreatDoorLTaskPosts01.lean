/- Tasks of counting: Post. Tasks of counting beside a book: what acts make of both. Tasks of counting: what the statement TaskPosts asks, plainly. Tasks of counting: the closed fact of the statements. The law TaskPosts, walked. Printed by gen/tposts.py. The twelve sentinels together. -/
import Derived.BigQuiet
import Derived.Test.YtchiojiicehpeaaGreatDoorM25
import Derived.Test.YtchiojiicehpeaaGreatDoorM28
import Derived.Test.YtchiojiicehpeaaGreatDoorM29
import Derived.Test.YtchiojiicehpeaaGreatDoorM31
import Derived.Test.YtchiojiicehpeaaGreatDoorM32
import Derived.Test.YtchiojiicehpeaaGreatDoorM33
import Derived.Test.YtchiojiicehpeaaGreatDoorM34
import Derived.Test.YtchiojiicehpeaaGreatDoorM37
import Derived.Test.YtchiojiicehpeaaGreatDoorM40
import Derived.Test.YtchiojiicehpeaaGreatDoorM45
import Derived.Test.YtchiojiicehpeaaGreatDoorM46
import Derived.Test.YtchiojiicehpeaaGreatDoorM48
namespace Go.Proofs.YtchiojiicehpeaaGreatDoor
open Go.RowKit Go.Sort Go.Proofs
def ShS (s : List LineV) : Prop := s.length ≤ 1000 ∧ ∀ y ∈ s, y.1.1.length ≤ 1000000 ∧ y.2.1.length ≤ 1000000
theorem BookIs.row {w : World} {p : Nat} {F : List Nat} {B : BkV} (H : BookIs w p F B) : ∃ vs : List Value, w.heap[p]? = some (.cells vs.toArray 123 (0, 0)) ∧ vs.length = 5 ∧ ∀ v ∈ vs, v.oneCell' = true := by
 obtain ⟨g, l, h, s, q, c, -, -, hm⟩ := H
 refine ⟨[.map (some g), .map (some l), .map (some h), .map (some s), .pointer (some ⟨q, 0, none⟩)], hm.own, rfl, fun v hv => ?_⟩
 simp at hv
 rcases hv with rfl | rfl | rfl | rfl | rfl <;> rfl
theorem BookIs.moved {w w' : World} {p q : Nat} {F : List Nat} {B : BkV} (H : BookIs w p F B) (hq : q ∉ F) (h : w'.heap[q]? = w.heap[p]?) (ht : Turned q w w') : ∃ G, BookIs w' q G B ∧ ∀ k ∈ G, k = q ∨ k ∈ F := by
 obtain ⟨g, l, hh, s, qq, c, rfl, hd, hm⟩ := H
 have hk : ∀ k ∈ [p, g, l, hh, s, qq, c], w'.heap[k]? = w.heap[k]? := fun k hk => ht.block k fun e => hq (e ▸ hk)
 have hm2 := hm.keep hk
 refine ⟨[q, g, l, hh, s, qq, c], ⟨g, l, hh, s, qq, c, rfl, ?_, ⟨h.trans hm.own, hm2.goods, hm2.lots, hm2.held, hm2.sums, hm2.stk⟩⟩, fun k hk => ?_⟩
 ·exact List.nodup_cons.2 ⟨fun e => hq (List.mem_cons_of_mem _ e), (List.nodup_cons.1 hd).2⟩
 ·rcases List.mem_cons.1 hk with rfl | hk
  ·exact .inl rfl
  ·exact .inr (List.mem_cons_of_mem _ hk)
theorem TaskW.turned {w w' : World} {p g cap N q : Nat} {cs : List TaskC} (h : TaskW w p g cap N cs) (ht : Turned q w w') (hp : p ≠ q) (hg : g ≠ q) (hR : ∀ k ∈ sheetsL cs, k ≠ q) : TaskW w' p g cap N cs := by
  obtain ⟨L, hL, hl⟩ := h.row
  exact ⟨h.tm.keep (ht.block p hp) (fun k hk => by have : k = g := by simpa [blockL, Value.ownBlock] using hk
                                                   subst this; exact ht.block _ hg) (fun k hk => ht.block k (hR k hk)) (Nat.le_of_eq ht.size.symm), h.n, ⟨L, (ht.block g hg).trans hL, hl⟩, h.pg, h.apart⟩
theorem doAll_step (B : BkV) (l : List EntV) (k : Nat) (h : k < l.length) : doAll B (l.take (k + 1)) = doB (doAll B (l.take k)) l[k] := by
 unfold doAll
 rw [List.take_succ_eq_append_getElem h, List.foldl_append]
 rfl
theorem firstE_drop {B : BkV} {l : List EntV} {k : Nat} (h : allOk B (l.take k)) : firstE B l = firstE (doAll B (l.take k)) (l.drop k) := by
 induction l generalizing B k with
 |nil => simp [doAll]
 |cons x r ih =>
  cases k with
  |zero => rfl
  |succ k =>
   rw [List.take_succ_cons] at h
   have h1 : doE B x = 0 := h.1
   have h2 : allOk (doB B x) (r.take k) := h.2
   have e := ih h2
   rw [List.take_succ_cons, List.drop_succ_cons]
   have e2 : firstE B (x :: r) = firstE (doB B x) r := by
    show (if doE B x ≠ 0 then _ else _) = _
    rw [if_neg (by simpa using h1)]
   exact e2.trans e
theorem firstE_at {B : BkV} {l : List EntV} {k : Nat} (h : allOk B (l.take k)) (hk : k < l.length) (he : doE (doAll B (l.take k)) l[k] ≠ 0) : firstE B l = doE (doAll B (l.take k)) l[k] := by
 rw [firstE_drop h, List.drop_eq_getElem_cons hk]
 unfold firstE
 rw [if_pos he]
theorem diffB_out {B : BkV} {l : List LineV} {out : List EntV} (h : diffB B l = .inl out) : out = diffL B.2.2 l := by
 unfold diffB at h
 split at h
 ·cases h
 split at h
 ·cases h
 ·cases h
  rfl
theorem diffX_short {m : StkV} {y : LineV} (hp : y.1.1.length ≤ 1000000) (hl : y.2.1.length ≤ 1000000) : ∀ x ∈ diffX m y, ShortE x := fun x hx => by
 unfold diffX at hx
 split at hx
 ·rw [List.mem_singleton.1 hx]
  simp [ShortE, zeroGoods, zeroPlace]
  omega
 split at hx
 ·rw [List.mem_singleton.1 hx]
  simp [ShortE, zeroGoods, zeroPlace]
  omega
 ·simp at hx
theorem diff_short {m : StkV} {l : List LineV} (h : ∀ y ∈ l, y.1.1.length ≤ 1000000 ∧ y.2.1.length ≤ 1000000) : ∀ x ∈ diffL m l, ShortE x := fun x hx => by
 unfold diffL at hx
 obtain ⟨y, hy, hx⟩ := List.mem_flatMap.1 hx
 obtain ⟨h1, h2⟩ := h y hy
 exact diffX_short h1 h2 x hx
def PstEnds (E : Nat → Addr) (w : World) (p : Nat) (F R : List Nat) (ts : List TaskV) (k : Int) (q : Nat) (G : List Nat) (B : BkV) (e : Ending) (w' : World) : Prop :=
  (if postE ts k B = 0 then ∃ A c, e = .returned (.tuple #[.slice A (postL ts k B).length c, .nilIface]) ∧ RowAt encEnt 14 w' A (postL ts k B) ∧ ∀ a, A = some a → w.heap.size ≤ a.block
   else e = .returned (.tuple #[.slice none 0 0, errOf E (postE ts k B)])) ∧
  TaskIs w' p F R (postT ts k B) ∧ (∃ G', BookIs w' q G' (postB ts k B) ∧ ∀ i ∈ G', i ∈ G ∨ w.heap.size ≤ i) ∧ ButF (q :: F) w w'
theorem postE_err {E : Nat → Addr} {w w' : World} {p : Nat} {F R : List Nat} {ts : List TaskV} {k : Int} {q : Nat} {G : List Nat} {B : BkV} (H : TaskIs w p F R ts) (HB : BookIs w q G B) (hb : Below w.heap.size w w') {c : Nat} (hc : postE ts k B = c) (h0 : c ≠ 0) :
  PstEnds E w p F R ts k q G B (.returned (.tuple #[.slice none 0 0, errOf E c])) w' := by
 subst hc
 unfold PstEnds postT postB
 rw [if_neg h0, if_neg h0, if_neg h0]
 exact ⟨rfl, H.below hb, ⟨G, HB.below hb, fun i hi => .inl hi⟩, ButF.of_below hb⟩
theorem postNil_any (E : Nat → Addr) {w : World} {p : Nat} {F R : List Nat} {ts : List TaskV} (H : TaskIs w p F R ts) (k : Int) (hG : TaskH E w) :
  Calls Tryz.prog 20 #[.pointer (some ⟨p, 0, none⟩), .int .i64 k, .pointer none] w fun e w' => e = .returned (.tuple #[.slice none 0 0, errOf E 3]) ∧ Below w.heap.size w w' := by
 obtain ⟨v, cs, hcs, hm, hF, hnd, hR1, hR⟩ := H
 have HA := Lib.hid (atTasks_any hm k)
 have e3 := hG.bk.stk.shape
 have l3 := lt_of_cell e3
 simp only at l3
 unfold ErrAt at e3
 clear hG hm hnd hR
 go_enter Tryz.func20, Tryz.ntmps20
 go_wp2_with fail
 refine HA.out.mono ?_
 rintro e w1 ⟨rfl, rfl⟩
 go_wp2_with fail
 go_quiet (fail)
 go_wp2_with fail
 go_ret2
 exact ⟨rfl, below_drewN (Below.refl _ _) _⟩
set_option maxHeartbeats 6400000 in
set_option maxRecDepth 100000 in
theorem postTask_any (E : Nat → Addr) {w : World} {p : Nat} {F R : List Nat} {ts : List TaskV} (H : TaskIs w p F R ts) (k : Int) {q : Nat} {G : List Nat} {B : BkV} (HB : BookIs w q G B) (hI : BkI B) (hd : ∀ i, i ∈ F ∨ i ∈ R → i ∉ G)
    (hs : ∀ x ∈ ts, ShS x.2.2.2.2) (hT : ErrTy w) (hG : TaskH E w) :
    Calls Tryz.prog 20 #[.pointer (some ⟨p, 0, none⟩), .int .i64 k, .pointer (some ⟨q, 0, none⟩)] w (PstEnds E w p F R ts k q G B) := by
  have HEND := Lib.hid (fun W (hb : Below w.heap.size w W) c (hc : postE ts k B = c) (h0 : c ≠ 0) => (postE_err (E := E) H HB hb hc h0 : PstEnds E w p F R ts k q G B _ W))
  have HT := Lib.hid H
  have HQ := Lib.hid HB
  have hqG : q ∈ G := by
    obtain ⟨_, _, _, _, _, _, rfl, -, -⟩ := HB
    exact List.mem_cons_self
  have hGl := HB.lt
  obtain ⟨v, cs, hcs, hm, hF, hnd, hR1, hR⟩ := H
  have HA := Lib.hid (atTasks_any hm k)
  have e6 := hG.bk.none
  have e11 := hG.state
  have l6 := lt_of_cell e6
  have l11 := lt_of_cell e11
  simp only at l6 l11
  unfold ErrAt at e6 e11
  have HG := Lib.hid (fun W (h : Below w.heap.size w W) => hG.below h)
  have HTY := Lib.hid (fun W (h : Below w.heap.size w W) => hT.below h)
  clear hG hT
  by_cases hk : k < 0 ∨ (cs.length : Int) ≤ k
  · have HO : Hid (postE ts k B = 6) := by
      show _ = _
      unfold postE
      rw [atT_none (by rw [← hcs, List.length_map]; exact hk)]
    rw [taskP_none hk] at HA
    clear hm hnd hR hk
    go_enter Tryz.func20, Tryz.ntmps20
    go_wp2_with fail
    refine HA.out.mono ?_
    rintro e w1 ⟨rfl, rfl⟩
    go_wp2_with fail
    go_quiet (fail)
    go_wp2_with fail
    go_ret2
    exact HEND.out _ (below_drewN (Below.refl _ _) _) 6 HO.out (by decide)
  · obtain ⟨m, rfl⟩ : ∃ m : Nat, k = m := ⟨k.toNat, by omega⟩
    have hmx : m < cs.length := by omega
    obtain ⟨g, cap, rfl, hg, -, -, hcell⟩ := hm.at_ hmx
    rw [taskP_at hmx] at HA
    obtain ⟨x, hx⟩ : ∃ x, x = cs[m] := ⟨_, rfl⟩
    have hat : atT ts (m : Int) = some x.1 := by
      rw [← hcs, atT_at (by rw [List.length_map]; exact hmx), List.getElem_map, hx]
    have hxs := hs x.1 (by rw [← hcs, hx]; exact List.mem_map_of_mem (List.getElem_mem hmx))
    have hXS := hm.sheet x (by rw [hx]; exact List.getElem_mem hmx)
    have hXR := hm.room x (by rw [hx]; exact List.getElem_mem hmx)
    have hpg : p ≠ g := fun e => by
      rw [hF] at hnd
      exact (List.nodup_cons.1 hnd).1 (by rw [e]; exact blockL_mem rfl)
    have hgF : g ∈ F := by rw [hF]; exact List.mem_cons_of_mem _ (blockL_mem rfl)
    have hpF : p ∈ F := by rw [hF]; exact List.mem_cons_self
    have HFIN : Hid (∀ w5 w6 : World, ButF [q] w w5 → ∀ L : List Value, w5.heap[g]? = some (.cells L.toArray 39 (0, 0)) → w6.heap[g]? = some (.cells (L.take (m * 5 + 1) ++ [Value.string ⟨sDone.toArray⟩] ++ L.drop (m * 5 + 1 + 1)).toArray 39 (0, 0)) → Turned g w5 w6 → TaskIs w6 p F R (setT ts (m : Int) postX)) := fun w5 w6 hb5 L hL hw ht => by
      have hkp : ∀ i, i ∈ F ∨ i ∈ R → w5.heap[i]? = w.heap[i]? := fun i hi => hb5.block i (HT.out.lt i hi) (fun e => hd i hi (by rw [List.mem_singleton.1 e]; exact hqG))
      have hm5 := hm.keep (w' := w5) (hkp p (.inl hpF)) (fun i hi => by have : i = g := by simpa [blockL, Value.ownBlock] using hi
                                                                        subst this; exact hkp _ (.inl hgF)) (fun i hi => hkp i (.inr (by rw [hR1]; exact hi))) hb5.size
      obtain ⟨t1, t2, t3⟩ := task_field hm5 (fun i hi => ⟨by have := (hR i (by rw [hR1]; exact hi)).1; rw [hF] at this; simpa [blockL, Value.ownBlock] using this, Nat.lt_of_lt_of_le (hR i (by rw [hR1]; exact hi)).2 hb5.size⟩) hpg hL hmx (by decide) hw ht (f := postX) rfl rfl
      rw [hcs] at t3
      exact ⟨_, _, t3, t1, by rw [hF], hnd, by rw [hR1, t2], fun i hi => ⟨(hR i hi).1, Nat.lt_of_lt_of_le (hR i hi).2 (Nat.le_trans hb5.size (Nat.le_of_eq ht.size.symm))⟩⟩
    obtain ⟨L0, hL0, hl0⟩ := own_block hm.own
    have hlo : m * 5 + 1 < L0.length := by omega
    rw [← hx] at hcell
    have c1 := hcell 1 _ rfl
    have c4 := hcell 4 _ rfl
    have HPE : Hid (postE ts (m : Int) B = if x.1.2.1 ≠ sCounted then 11 else match diffB B x.1.2.2.2.2 with
      | .inr (c, _) => c
      | .inl out => firstE B out) := by
      show _ = _
      unfold postE
      rw [hat]
      rfl
    have HPL : Hid (postE ts (m : Int) B = 0 → postL ts (m : Int) B = diffL B.2.2 x.1.2.2.2.2) := fun h => by
      unfold postL
      rw [if_neg (by omega), hat]
    obtain ⟨⟨x1, x2, x3, x4, x5⟩, XA, xc⟩ := x
    simp only at c1 c4 hxs hXS hXR HPE HPL
    have HX : Hid (∀ W, Below w.heap.size w W → W.cell? ⟨g, m * 5 + 4, none⟩ = some (.slice XA x5.length xc)) := fun W hb => (hb.cell hg).trans c4
    have HDF := Lib.hid (fun W (hb : Below w.heap.size w W) => cntDiff_any E XA xc x5 (HB.below hb) hI (hXS.below hb) (by have := hxs.1; omega) hXR (HG.out W hb).bk)
    have HSH : Hid (∀ y ∈ diffL B.2.2 x5, ShortE y) := diff_short hxs.2
    obtain ⟨n5, hn5⟩ : ∃ n5, n5 = x5.length := ⟨_, rfl⟩
    have HN5 := Lib.hid hn5
    rw [← hn5] at HX HDF c4
    clear hm hk hcell hx hat hXS hXR hs hn5
    by_cases hst : x2 = sCounted
    · have HPE1 := Lib.hid (HPE.out.trans (if_neg (by simpa using hst)))
      have s1 : (x2 == [99, 111, 117, 110, 116, 101, 100]) = true := by rw [hst]; rfl
      clear hst HPE
      go_enter Tryz.func20, Tryz.ntmps20
      go_wp2_with fail
      refine HA.out.mono ?_
      rintro e w1 ⟨rfl, rfl⟩
      go_wp2_with fail
      refine (HDF.out w (Below.refl _ _)).mono ?_
      rintro e w1 ⟨hdf, b1⟩
      have B1 := Lib.hid b1
      clear b1 HDF
      cases hr : diffB B x5 with
      | inr f =>
        obtain ⟨fk, fi⟩ := f
        rw [hr] at hdf HPE1
        obtain ⟨v2, rfl, hv2⟩ := hdf
        have HBA := Lib.hid (bareT_any E fk fi v2 w1 (HTY.out w1 B1.out) hv2)
        obtain ⟨hk0, b, rfl, hb⟩ := hv2
        have HK0 := Lib.hid hk0
        clear hb hk0 hr
        go_wp2_with fail
        refine HBA.out.mono ?_
        rintro e w2 ⟨rfl, b2⟩
        have B2 := Lib.hid (B1.out.trans (b2.mono B1.out.size))
        clear b2
        go_wp2_with fail
        go_ret2
        exact HEND.out _ B2.out fk HPE1.out HK0.out
      | inl out =>
        have ho := diffB_out hr
        rw [hr] at hdf HPE1
        obtain ⟨Ad, cd, rfl, hrow, hge⟩ := hdf
        rw [← ho] at HSH HPL
        have HROW := Lib.hid hrow
        have HGE := Lib.hid hge
        have HCP := Lib.hid (copyBook_any (HQ.out.below B1.out))
        have HPE2 : Hid (postE ts (m : Int) B = firstE B out) := HPE1.out
        obtain ⟨M, hM⟩ : ∃ M, M = out.length := ⟨_, rfl⟩
        have HM := Lib.hid hM
        have hm3 : M ≤ 100000 := by
          have e1 := diffL_len B.2.2 x5
          have e2 := hxs.1
          rw [← ho] at e1
          omega
        rw [← hM]
        clear hr hrow hge hM ho HPE1
        go_wp2_with fail
        refine HCP.out.mono ?_
        rintro e w2 ⟨pc, Fc, rfl, hbc, hFc, b2⟩
        have B2 := Lib.hid (B1.out.trans (b2.mono B1.out.size))
        have HBC := Lib.hid hbc
        have HFC := Lib.hid hFc
        have HR2 := Lib.hid (HROW.out.below b2)
        have B12 := Lib.hid b2
        clear hbc hFc b2 HCP
        go_wp2_with fail
        go_loopw [50] (fun i wr => ∃ k : Nat, k ≤ M ∧ i = .int .i64 k ∧ Hid (allOk B (out.take k)) ∧ Hid (∃ F', BookIs wr pc F' (doAll B (out.take k)) ∧ ∀ j ∈ F', w1.heap.size ≤ j) ∧ Hid (Below w1.heap.size w1 wr)) (fun i _ => M - (intOf i).toNat)
        case atStart => exact ⟨0, by omega, rfl, trivial, ⟨Fc, HBC.out, HFC.out⟩, B12.out⟩
        case round =>
          obtain ⟨k, hk, rfl, HOK, HBK, HB1⟩ := hrel
          by_cases hkM : k < M
          · have hkx : k < out.length := by rw [← HM.out]; exact hkM
            obtain ⟨F', hbk, hf1⟩ := HBK.out
            have hrw := HROW.out.below HB1.out
            obtain ⟨gd, od, rfl, lg, cg⟩ := hrw.resolve_left (fun h => by rw [h] at hkx; simp at hkx)
            obtain ⟨y, hy⟩ : ∃ y, y = out[k] := ⟨_, rfl⟩
            have hlies : Lies wr gd (od + k * 14) (encEnt y) := fun j v hv => cg k hkx j v (by rw [← hy]; exact hv)
            have hsx := HSH.out y (by rw [hy]; exact List.getElem_mem hkx)
            have hba := below_one wr (.cells #[.string ⟨#[]⟩, .string ⟨#[]⟩, .int .i64 0, .string ⟨#[]⟩, .string ⟨#[]⟩, .int .i64 0, .int .i64 0, .string ⟨#[]⟩, .int .i64 0, .int .i64 0, .string ⟨#[]⟩, .int .i64 0, .int .i64 0, .int .i64 0] 67)
            have hBw := B1.out.trans (HB1.out.mono B1.out.size)
            have HD := Lib.hid (fun W (hb : Below wr.heap.size wr W) => do_any E y (hbk.below hb) (BkI.all hI (out.take k)) (by have := hsx.2.1; omega) (by have := hsx.2.2.1; omega) (HG.out W (hBw.trans (hb.mono hBw.size))).bk)
            have HNX : Hid (doB (doAll B (out.take k)) y = doAll B (out.take (k + 1))) := by
              show _ = _
              rw [doAll_step B out k hkx, hy]
            have HOX : Hid (doE (doAll B (out.take k)) y = 0 → allOk B (out.take (k + 1))) := fun h => allOk_take hkx HOK.out (by rw [← hy]; exact h)
            have HEX : Hid (doE (doAll B (out.take k)) y ≠ 0 → postE ts (m : Int) B = doE (doAll B (out.take k)) y) := fun h => by
              have := firstE_at HOK.out hkx (by rw [← hy]; exact h)
              rw [HPE2.out, this, hy]
            have HL := Lib.hid hlies
            have HF1 := Lib.hid hf1
            have h14 : (encEnt y).length = 14 := rfl
            have HE1 := Lib.hid (encEnt_one y)
            clear hy cg hlies hsx hbk hf1 HBK hrw hBw
            generalize doE (doAll B (out.take k)) y = de at HD HOX HEX
            generalize encEnt y = LX at HL HD h14 HE1
            go_upto_region 15 with (first | (refine wpList_load_at rfl 67 _ rfl gd (od + k * 14) rfl LX HL.out _ Tryz.underlying67 rfl (by rw [h14]; kernel_rfl) ?_) | (refine wpList_store_box rfl 67 _ _ rfl wr.heap.size LX rfl rfl _ [.string ⟨#[]⟩, .string ⟨#[]⟩, .int .i64 0, .string ⟨#[]⟩, .string ⟨#[]⟩, .int .i64 0, .int .i64 0, .string ⟨#[]⟩, .int .i64 0, .int .i64 0, .string ⟨#[]⟩, .int .i64 0, .int .i64 0, .int .i64 0] (heap_alloc_new wr _) (by rw [h14]; kernel_rfl) (by rw [h14]; rfl) HE1.out ?_; intro w5 h5 tu5))
            have b5 := hba.trans (tu5.below (Nat.le_refl _))
            have B5 := Lib.hid (HB1.out.trans (b5.mono HB1.out.size))
            have H5 := Lib.hid h5
            have HD5 := Lib.hid (HD.out w5 b5)
            clear b5 tu5 hba HD HL h5
            go_upto_region 16 with (refine wpList_load_at rfl 67 _ rfl wr.heap.size 0 rfl LX (Lies.row _ H5.out) _ Tryz.underlying67 rfl (by rw [h14]; kernel_rfl) ?_)
            refine HD5.out.mono ?_
            rintro e w6 ⟨rfl, ⟨F6, hb6, hf6⟩, bf6⟩
            have B6 := Lib.hid (B5.out.trans (bf6.below B5.out.size HF1.out))
            have HBK6 : Hid (∃ F', BookIs w6 pc F' (doAll B (out.take (k + 1))) ∧ ∀ j ∈ F', w1.heap.size ≤ j) := by
              refine ⟨F6, by rw [← HNX.out]; exact hb6, fun j hj => ?_⟩
              have := B5.out.size
              rcases hf6 j hj with h | h
              · exact HF1.out j h
              · omega
            clear hb6 hf6 bf6 HD5 HF1 H5 B5 HB1
            by_cases h0 : de = 0
            · have HOK6 := Lib.hid (HOX.out h0)
              subst h0
              rw [errOf_zero]
              clear HOX HEX
              go_wp2_with fail
              go_roundw
              case rel => exact ⟨k + 1, by omega, by go_num, HOK6.out, HBK6.out, B6.out⟩
              case measure => simp [intOf]; omega
            · have HEX2 := Lib.hid (HEX.out h0)
              rw [errOf_pos _ _ h0]
              have HZ := Lib.hid h0
              clear h0 HOX HEX
              go_wp2_with fail
              go_ret2
              rw [← errOf_pos E _ HZ.out]
              exact HEND.out _ (B1.out.trans (B6.out.mono B1.out.size)) de HEX2.out HZ.out
          · obtain rfl : k = M := by omega
            have hT : out.take k = out := List.take_of_length_le (by rw [← HM.out]; exact Nat.le_refl _)
            rw [hT] at HOK HBK
            obtain ⟨F', hbk, hf1⟩ := HBK.out
            have HE0 : Hid (postE ts (m : Int) B = 0) := HPE2.out.trans ((firstE_ok _ _).2 HOK.out)
            have HPB : Hid (postB ts (m : Int) B = doAll B out) := by show _ = _; unfold postB; rw [if_pos HE0.out, HPL.out HE0.out]
            have HPT : Hid (postT ts (m : Int) B = setT ts (m : Int) postX) := by show _ = _; unfold postT; rw [if_pos HE0.out]
            have HPL2 := Lib.hid (HPL.out HE0.out)
            obtain ⟨vs, hvs, hv5, hv1⟩ := hbk.row
            obtain ⟨vq, hvq, -, -⟩ := HQ.out.row
            have hBw := B1.out.trans (HB1.out.mono B1.out.size)
            have hqw : q < w.heap.size := hGl q hqG
            have hvq2 := (hBw.block q hqw).trans hvq
            obtain ⟨u0, u1, u2, u3, u4, hu⟩ : ∃ u0 u1 u2 u3 u4, vq = [u0, u1, u2, u3, u4] := by
              obtain ⟨_, _, _, _, _, _, -, -, hmq⟩ := HQ.out
              have := hmq.own.symm.trans hvq
              have := congrArg (fun o => o) this
              simp at this
              exact ⟨_, _, _, _, _, this.symm⟩
            subst hu
            have HVS := Lib.hid hvs
            have HVQ := Lib.hid hvq2
            have HV1 := Lib.hid hv1
            have BW := Lib.hid hBw
            have HBK2 := Lib.hid hbk
            have HF2 := Lib.hid hf1
            have hL0g := (hBw.block g hg).trans hL0
            have HL0 := Lib.hid hL0g
            have hqg : g ≠ q := fun e => hd g (.inl hgF) (by rw [e]; exact hqG)
            have HRW0 := Lib.hid (HROW.out.below HB1.out)
            clear hT hbk hf1 hvs hvq hvq2 hv1 hBw HBK HOK HB1 hkM hL0g
            go_upto_region 20 with (first | (refine wpList_load_at rfl 123 _ rfl pc 0 rfl vs (Lies.row _ HVS.out) _ Tryz.underlying123 rfl (by rw [hv5]; kernel_rfl) ?_) | (refine wpList_store_box rfl 123 _ _ rfl q vs rfl rfl _ [u0, u1, u2, u3, u4] HVQ.out (by rw [hv5]; kernel_rfl) (by rw [hv5]; rfl) HV1.out ?_; intro w7 h7 tu7))
            have hL7 := (tu7.block g hqg).trans HL0.out
            have HB7 := Lib.hid (HBK2.out.moved (w' := w7) (q := q) (fun e => by have := HF2.out q e; have := B1.out.size; omega) (h7.trans HVS.out.symm) tu7)
            have HBF7 : Hid (ButF [q] w w7) := (ButF.of_below BW.out).step (ButF.of_turned tu7 (.inl (by simp)))
            have HA7 : Hid (∀ a, Ad = some a → a.block ≠ q) := fun a ha e => by have := HGE.out a ha; omega
            have HR7 := Lib.hid (RowAt.keepT HRW0.out tu7 HA7.out)
            clear h7 tu7
            go_upto_region 21 with (refine wpList_store_val rfl 9 _ _ rfl g (m * 5 + 1) (.string ⟨sDone.toArray⟩) rfl rfl rfl _ L0 hL7 (by kernel_rfl) hlo rfl ?_; intro w8 h8 tu8)
            have HT8 := Lib.hid (HFIN.out w7 w8 HBF7.out L0 hL7 h8 tu8)
            have HBF8 : Hid (ButF (q :: F) w w8) := (HBF7.out.mono (fun i hi => .inl (by rw [List.mem_singleton.1 hi]; exact List.mem_cons_self))).step (ButF.of_turned tu8 (.inl (List.mem_cons_of_mem _ hgF)))
            have HA8 : Hid (∀ a, Ad = some a → a.block ≠ g) := fun a ha e => by have := HGE.out a ha; omega
            have HR8 := Lib.hid (RowAt.keepT HR7.out tu8 HA8.out)
            have HB8 : Hid (∃ G', BookIs w8 q G' (doAll B out) ∧ ∀ i ∈ G', i ∈ G ∨ w.heap.size ≤ i) := by
              obtain ⟨G7, g1, g2⟩ := HB7.out
              refine ⟨G7, g1.keep fun i hi => tu8.block i fun e => ?_, fun i hi => ?_⟩
              · rcases g2 i hi with h | h
                · exact hqg (e.symm.trans h)
                · have := HF2.out i h
                  have := B1.out.size
                  omega
              · rcases g2 i hi with h | h
                · exact .inl (by rw [h]; exact hqG)
                · exact .inr (Nat.le_trans B1.out.size (HF2.out i h))
            clear h8 tu8 hL7
            go_wp2_with fail
            go_ret2
            refine ⟨?_, by rw [HPT.out]; exact HT8.out, by rw [HPB.out]; exact HB8.out, HBF8.out⟩
            rw [if_pos HE0.out, HPL2.out, HM.out]
            exact ⟨Ad, cd, rfl, HR8.out, fun a ha => Nat.le_trans (Nat.le_refl _) (HGE.out a ha)⟩
    · have HO : Hid (postE ts (m : Int) B = 11) := HPE.out.trans (if_pos hst)
      have s1 : (x2 == [99, 111, 117, 110, 116, 101, 100]) = false := by simpa [sCounted] using hst
      clear hst HPE
      go_enter Tryz.func20, Tryz.ntmps20
      go_wp2_with fail
      refine HA.out.mono ?_
      rintro e w1 ⟨rfl, rfl⟩
      go_wp2_with fail
      go_quiet (fail)
      go_wp2_with fail
      go_ret2
      exact HEND.out _ (below_drewN (Below.refl _ _) _) 11 HO.out (by decide)
end Go.Proofs.YtchiojiicehpeaaGreatDoor
namespace Go.Proofs.YtchiojiicehpeaaGreatDoor
open Go.RowKit Go.Sort Go.Proofs
structure TBx (n : Nat) (w : World) (tp bp : Nat) (F R G : List Nat) (ts : List TaskV) (B : BkV) : Prop where
 t : TaskIs w tp F R ts
 b : BookIs w bp G B
 d : ∀ i, i ∈ F ∨ i ∈ R → i ∉ G
 f : ∀ i ∈ F, n ≤ i
 g : ∀ i ∈ G, n ≤ i
 le : n ≤ w.heap.size
def TB (n : Nat) (w : World) (tp bp : Nat) (ts : List TaskV) (B : BkV) : Prop := ∃ F R G, TBx n w tp bp F R G ts B
theorem TBx.below {n : Nat} {w w' : World} {tp bp : Nat} {F R G : List Nat} {ts : List TaskV} {B : BkV} (h : TBx n w tp bp F R G ts B) (hb : Below w.heap.size w w') : TBx n w' tp bp F R G ts B :=
 ⟨h.t.below hb, h.b.below hb, h.d, h.f, h.g, Nat.le_trans h.le hb.size⟩
theorem TB.below {n : Nat} {w w' : World} {tp bp : Nat} {ts : List TaskV} {B : BkV} (h : TB n w tp bp ts B) (hb : Below w.heap.size w w') : TB n w' tp bp ts B := by
 obtain ⟨F, R, G, h⟩ := h
 exact ⟨F, R, G, h.below hb⟩
theorem TBx.tasks {n : Nat} {w w' : World} {tp bp : Nat} {F R G F' R' : List Nat} {ts ts' : List TaskV} {B : BkV} (h : TBx n w tp bp F R G ts B) (ht : TaskIs w' tp F' R' ts') (hF : ∀ i ∈ F', i ∈ F ∨ w.heap.size ≤ i) (hR : ∀ i ∈ R', i ∈ R ∨ w.heap.size ≤ i) (hb : ButF F w w') :
  TB n w' tp bp ts' B ∧ Below n w w' ∧ ButF (F ++ G) w w' := by
 refine ⟨⟨F', R', G, ht, h.b.butF hb (fun i hi hf => h.d i (.inl hf) hi), fun i hi hg => ?_, fun i hi => ?_, h.g, Nat.le_trans h.le hb.size⟩, hb.below h.le h.f, hb.mono fun i hi => .inl (List.mem_append_left _ hi)⟩
 ·have := h.b.lt i hg
  rcases hi with hi | hi
  ·rcases hF i hi with e | e
   ·exact h.d i (.inl e) hg
   ·omega
  ·rcases hR i hi with e | e
   ·exact h.d i (.inr e) hg
   ·omega
 ·rcases hF i hi with e | e
  ·exact h.f i e
  ·exact Nat.le_trans h.le e
theorem TBx.open_ (E : Nat → Addr) {n : Nat} {w : World} {tp bp : Nat} {F R G : List Nat} {ts : List TaskV} {B : BkV} (h : TBx n w tp bp F R G ts B) (code : List UInt8) (hc : code.length ≤ 1000000) (hts : ts.length ≤ 1000) (hG : TaskH E w) :
  Calls Tryz.prog 16 #[.pointer (some ⟨tp, 0, none⟩), .string ⟨code.toArray⟩] w fun e w' => e = .returned (.tuple #[.int .i64 (if openE ts code = 0 then (ts.length : Int) else 0), errOf E (openE ts code)]) ∧ TB n w' tp bp (openT ts code) B ∧ Below n w w' ∧ ButF (F ++ G) w w' := by
 refine (openTask_any E h.t code hc hts hG).mono ?_
 rintro e w' ⟨he, F', ht, hb, hF⟩
 exact ⟨he, h.tasks ht hF (fun i hi => .inl hi) hb⟩
theorem TBx.count (E : Nat → Addr) {n : Nat} {w : World} {tp bp : Nat} {F R G : List Nat} {ts : List TaskV} {B : BkV} (h : TBx n w tp bp F R G ts B) (k : Int) (b : List UInt8) (hbl : b.length ≤ 1000000) (SA : Option Addr) (scap : Nat) (s : List LineV) (hs : s.length ≤ 1000) (hsc : s.length ≤ scap) (hsr : RowAt encLine 5 w SA s)
  (hsF : ∀ a, SA = some a → s ≠ [] → a.block ∉ F) (htl : ∀ x ∈ ts, x.2.2.2.2.length ≤ 1000) (hG : TaskH E w) :
  Calls Tryz.prog 17 #[.pointer (some ⟨tp, 0, none⟩), .int .i64 k, .string ⟨b.toArray⟩, .slice SA s.length scap] w fun e w' => (∃ v, e = .returned v ∧ FltC E (countR ts k b s) v w') ∧ TB n w' tp bp (countT ts k b s) B ∧ Below n w w' ∧ ButF (F ++ G) w w' := by
 refine (countTask_any E h.t k b hbl SA scap s hs hsc hsr hsF htl hG).mono ?_
 rintro e w' ⟨he, R', ht, hb, hR⟩
 exact ⟨he, h.tasks ht (fun i hi => .inl hi) hR hb⟩
theorem TBx.doubt (E : Nat → Addr) {n : Nat} {w : World} {tp bp : Nat} {F R G : List Nat} {ts : List TaskV} {B : BkV} (h : TBx n w tp bp F R G ts B) (k : Int) (hG : TaskH E w) :
  Calls Tryz.prog 18 #[.pointer (some ⟨tp, 0, none⟩), .int .i64 k] w fun e w' => e = .returned (errOf E (doubtE ts k)) ∧ TB n w' tp bp (doubtT ts k) B ∧ Below n w w' ∧ ButF (F ++ G) w w' := by
 refine (doubt_any E h.t k hG.task).mono ?_
 rintro e w' ⟨he, ht, hb⟩
 exact ⟨he, h.tasks ht (fun i hi => .inl hi) (fun i hi => .inl hi) hb⟩
theorem TBx.refuse (E : Nat → Addr) {n : Nat} {w : World} {tp bp : Nat} {F R G : List Nat} {ts : List TaskV} {B : BkV} (h : TBx n w tp bp F R G ts B) (k : Int) (hG : TaskH E w) :
  Calls Tryz.prog 19 #[.pointer (some ⟨tp, 0, none⟩), .int .i64 k] w fun e w' => e = .returned (errOf E (refuseE ts k)) ∧ TB n w' tp bp (refuseT ts k) B ∧ Below n w w' ∧ ButF (F ++ G) w w' := by
 refine (refuse_any E h.t k hG.task).mono ?_
 rintro e w' ⟨he, ht, hb⟩
 exact ⟨he, h.tasks ht (fun i hi => .inl hi) (fun i hi => .inl hi) hb⟩
def PstSays (E : Nat → Addr) (n : Nat) (ts : List TaskV) (k : Int) (B : BkV) (e : Ending) (w' : World) : Prop :=
 if postE ts k B = 0 then ∃ A c, e = .returned (.tuple #[.slice A (postL ts k B).length c, .nilIface]) ∧ RowAt encEnt 14 w' A (postL ts k B) ∧ ∀ a, A = some a → n ≤ a.block
 else e = .returned (.tuple #[.slice none 0 0, errOf E (postE ts k B)])
theorem TBx.post (E : Nat → Addr) {n : Nat} {w : World} {tp bp : Nat} {F R G : List Nat} {ts : List TaskV} {B : BkV} (h : TBx n w tp bp F R G ts B) (k : Int) (hI : BkI B) (hs : ∀ x ∈ ts, ShS x.2.2.2.2) (hT : ErrTy w) (hG : TaskH E w) :
  Calls Tryz.prog 20 #[.pointer (some ⟨tp, 0, none⟩), .int .i64 k, .pointer (some ⟨bp, 0, none⟩)] w fun e w' => PstSays E w.heap.size ts k B e w' ∧ (∃ G', TBx n w' tp bp F R G' (postT ts k B) (postB ts k B) ∧ ∀ i ∈ G', i ∈ G ∨ w.heap.size ≤ i) ∧ ButF (bp :: F) w w' ∧ Below n w w' := by
 refine (postTask_any E h.t k h.b hI h.d hs hT hG).mono ?_
 rintro e w' ⟨he, ht, ⟨G', hg, hg'⟩, hb⟩
 have hbp : bp ∈ G := by
  obtain ⟨_, _, _, _, _, _, rfl, -, -⟩ := h.b
  exact List.mem_cons_self
 refine ⟨he, ⟨G', ⟨ht, hg, fun i hi hi' => ?_, h.f, fun i hi => ?_, Nat.le_trans h.le hb.size⟩, hg'⟩, hb, hb.below h.le fun i hi => ?_⟩
 ·rcases hg' i hi' with e | e
  ·exact h.d i hi e
  ·have := h.t.lt i hi
   omega
 ·rcases hg' i hi with e | e
  ·exact h.g i e
  ·exact Nat.le_trans h.le e
 ·rcases List.mem_cons.1 hi with rfl | hi
  ·exact h.g _ hbp
  ·exact h.f i hi
end Go.Proofs.YtchiojiicehpeaaGreatDoor
namespace Go.Proofs.YtchiojiicehpeaaGreatDoor
open Go.RowKit Go.Sort Go.Proofs
def sRye : List UInt8 := [114, 121, 101]
def sAnn : List UInt8 := [97, 110, 110]
def sBob : List UInt8 := [98, 111, 98]
def tRye (st b a : List UInt8) (s : List LineV) : List TaskV := [(sRye, st, b, a, s)]
theorem open_rye : openE [] sRye = 0 := by decide
theorem openT_rye : openT [] sRye = tRye sOpen [] [] [] := by unfold openT; rw [if_pos open_rye]; rfl
def sheetC (s : List LineV) : Option (Nat × Option Nat) := match sheetF [] s with
 |some (c, i) => some (c, some i)
 |none => none
theorem sheetC_none {s : List LineV} (h : sheetC s = none) : sheetF [] s = none := by
 unfold sheetC at h
 split at h
 ·cases h
 ·assumption
theorem alikeL_refl (s : List LineV) : alikeL s s = true := by
 unfold alikeL
 simp
theorem count_ann (s : List LineV) : countR (tRye sOpen [] [] []) 0 sAnn s = sheetC s := by
 show countE (sRye, sOpen, [], [], []) sAnn s = sheetC s
 unfold countE
 rw [if_neg (by simp), if_neg (by decide), if_neg (by decide)]
 rfl
theorem countT_ann {s : List LineV} (h : sheetC s = none) : countT (tRye sOpen [] [] []) 0 sAnn s = tRye sCounted sAnn [] s := by
 unfold countT
 rw [count_ann, if_pos h]
 rfl
theorem countT_no {ts : List TaskV} {k : Int} {b : List UInt8} {s : List LineV} (h : countR ts k b s ≠ none) : countT ts k b s = ts := by
 unfold countT
 rw [if_neg h]
theorem doubt_ann (s : List LineV) : doubtE (tRye sCounted sAnn [] s) 0 = 0 := by
 show (if sCounted ≠ sCounted ∨ ([] : List UInt8) ≠ [] then 11 else 0) = 0
 simp
theorem doubtT_ann (s : List LineV) : doubtT (tRye sCounted sAnn [] s) 0 = tRye sAgain sAnn [] s := by
 unfold doubtT
 rw [if_pos (doubt_ann s)]
 rfl
theorem count_same (s : List LineV) : countR (tRye sAgain sAnn [] s) 0 sAnn s = some (7, none) := by
 show countE (sRye, sAgain, sAnn, [], s) sAnn s = _
 unfold countE
 rw [if_neg (by show ¬ (sAgain ≠ sOpen ∧ sAgain ≠ sAgain); decide), if_neg (by decide), if_pos ⟨rfl, rfl⟩]
theorem count_bob {s : List LineV} (h : sheetC s = none) : countR (tRye sAgain sAnn [] s) 0 sBob s = none := by
 show countE (sRye, sAgain, sAnn, [], s) sBob s = _
 unfold countE
 rw [if_neg (by show ¬ (sAgain ≠ sOpen ∧ sAgain ≠ sAgain); decide), if_neg (by decide), if_neg (by show ¬ (sAgain = sAgain ∧ sBob = sAnn); decide)]
 exact h
theorem countT_bob {s : List LineV} (h : sheetC s = none) : countT (tRye sAgain sAnn [] s) 0 sBob s = tRye sCounted sAnn sBob s := by
 unfold countT
 rw [if_pos (count_bob h)]
 show [countX (sRye, sAgain, sAnn, [], s) sBob s] = _
 unfold countX
 rw [if_neg (by show ¬ sAgain = sOpen; decide), if_pos (alikeL_refl s)]
 rfl
theorem post_rye {B : BkV} {s : List LineV} {a : List UInt8} (h : postE (tRye sCounted sAnn a s) 0 B = 0) :
  postL (tRye sCounted sAnn a s) 0 B = diffL B.2.2 s ∧ allOk B (diffL B.2.2 s) ∧ diffB B s = .inl (diffL B.2.2 s) ∧ postB (tRye sCounted sAnn a s) 0 B = doAll B (diffL B.2.2 s) ∧ postT (tRye sCounted sAnn a s) 0 B = tRye sDone sAnn a s := by
 have e : postE (tRye sCounted sAnn a s) 0 B = (match diffB B s with
  |.inr (c, _) => c
  |.inl out => firstE B out) := by
  exact (show postE (tRye sCounted sAnn a s) 0 B = if sCounted ≠ sCounted then 11 else (match diffB B s with
   |.inr (c, _) => c
   |.inl out => firstE B out) from rfl).trans (if_neg (by simp))
 have e2 : postL (tRye sCounted sAnn a s) 0 B = diffL B.2.2 s := by
  unfold postL
  rw [if_neg (by omega)]
  rfl
 have ed : diffB B s = .inl (diffL B.2.2 s) ∧ allOk B (diffL B.2.2 s) := by
  rw [h] at e
  unfold diffB at e ⊢
  cases hs : sheetF [] s with
  |some f =>
   obtain ⟨c, i⟩ := f
   rw [hs] at e
   have := sheetF_ne _ _ _ _ hs
   simp only at e
   omega
  |none =>
   rw [hs] at e
   simp only at e ⊢
   cases hn : noLot B s 0 with
   |some f =>
    obtain ⟨c, i⟩ := f
    rw [hn] at e
    have := noLot_ne _ _ _ _ _ hn
    simp only at e
    omega
   |none =>
    rw [hn] at e
    simp only at e ⊢
    exact ⟨by first | rfl | trivial, (firstE_ok _ _).1 e.symm⟩
 refine ⟨e2, ed.2, ed.1, ?_, ?_⟩
 ·unfold postB
  rw [if_pos h, e2]
 ·unfold postT
  rw [if_pos h]
  rfl
theorem post_not {ts : List TaskV} {k : Int} {B : BkV} (h : postE ts k B ≠ 0) : postT ts k B = ts ∧ postB ts k B = B := by
 unfold postT postB
 rw [if_neg h, if_neg h]
 exact ⟨rfl, rfl⟩
theorem refuse_done (b a : List UInt8) (s : List LineV) : refuseE (tRye sDone b a s) 0 = 11 := by
 show (if overT (sRye, sDone, b, a, s) = true then 11 else 0) = 11
 rw [if_pos (by unfold overT; simp)]
end Go.Proofs.YtchiojiicehpeaaGreatDoor
namespace Go.Proofs.YtchiojiicehpeaaGreatDoor
open Go.RowKit Go.Sort Go.Proofs
set_option maxHeartbeats 1600000 in
set_option maxRecDepth 100000 in
theorem opened_any (E : Nat → Addr) (w : World) (hG : TaskH E w) :
  Calls Tryz.prog 9 #[] w fun e w' => e = .returned (.bool true) ∧ Below w.heap.size w w' := by
 have HG := Lib.hid (fun W (h : Below w.heap.size w W) => hG.below h)
 clear hG
 go_enter Tryz.func9, Tryz.ntmps9
 go_wp2_with fail
 refine (newTasks_any w).mono ?_
 rintro e w1 ⟨p, rfl, ht, hp, b1⟩
 have B1 := Lib.hid b1
 have HT := Lib.hid ht
 have HP := Lib.hid hp
 clear b1 ht hp
 go_wp2_with fail
 refine (openTask_any E HT.out sRye (by decide) (by decide) (HG.out w1 B1.out)).mono ?_
 rintro e w2 ⟨rfl, F', ht, hb, hF⟩
 rw [openT_rye] at ht
 rw [open_rye, if_pos rfl, errOf_zero]
 have HT2 := Lib.hid ht
 have B2 := Lib.hid (B1.out.trans (hb.below B1.out.size (by simpa using HP.out)))
 clear ht hb hF HT
 go_wp2_with fail
 refine (getTask_any HT2.out (by intro x hx; rw [List.mem_singleton.1 hx]; simp) 0).mono ?_
 rintro e w3 ⟨b3, hg⟩
 obtain ⟨A, c, rfl, -, -⟩ : ∃ A cap, e = .returned (.tuple #[.agg (encTask ((sRye, sOpen, [], [], []), A, cap)).toArray, .bool true]) ∧ RowAt encLine 5 w3 A [] ∧ ∀ a, A = some a → w2.heap.size ≤ a.block := hg
 have B3 := Lib.hid (B2.out.trans (b3.mono B2.out.size))
 have HL := Lib.hid (fun W (hb : Below w3.heap.size w3 W) => lenTasks_any ((HT2.out.below b3).below hb))
 clear b3 HT2
 simp only [encTask]
 go_wp2_with fail
 refine (HL.out _ (below_one _ _)).mono ?_
 rintro e w4 ⟨rfl, rfl⟩
 go_wp2_with fail
 go_ret
 exact ⟨rfl, B3.out.trans ((below_one _ _).mono B3.out.size)⟩
end Go.Proofs.YtchiojiicehpeaaGreatDoor
namespace Go.Proofs.YtchiojiicehpeaaGreatDoor
open Go.RowKit Go.Sort Go.Proofs
structure TPG (E : Nat → Addr) (w : World) : Prop where
 task : TaskH E w
 err : ErrG E w
 ty : ErrTy w
 tab : TabG w
theorem TPG.below {E : Nat → Addr} {w w' : World} (h : TPG E w) (hb : Below w.heap.size w w') : TPG E w' := ⟨h.task.below hb, h.err.below hb, h.ty.below hb, h.tab.below hb⟩
theorem TPG.text {E : Nat → Addr} {w : World} (h : TPG E w) : PlaceG E w := ⟨h.task.bk.stk.place.name, h.task.bk.stk.place.bound, h.tab⟩
theorem fltC_iface {E : Nat → Addr} {s : List LineV} {f : Nat × Option Nat} {v : Value} {w : World} (h : sheetC s = some f) (hv : FltC E (some f) v w) : ∃ b, v = .iface 178 (.pointer (some ⟨b, 0, none⟩)) := by
 unfold sheetC at h
 split at h
 ·cases h
  obtain ⟨-, b, rfl, -⟩ := hv
  exact ⟨b, rfl⟩
 ·cases h
theorem allOk_at {B : BkV} {l : List EntV} {k : Nat} (h : allOk B l) (hk : k < l.length) : doE (doAll B (l.take k)) l[k] = 0 := by
 have e : l = l.take k ++ l[k] :: l.drop (k + 1) := by rw [← List.drop_eq_getElem_cons hk, List.take_append_drop]
 rw [e, allOk_app] at h
 exact h.2.1
theorem longS_ShS {s : List LineV} (h : longS s = 0) : ShS s := by
 obtain ⟨h1, h2⟩ := longS_short h
 exact ⟨by omega, fun y hy => by have := h2 y hy; omega⟩
set_option maxHeartbeats 1600000 in
set_option maxRecDepth 100000 in
theorem taskPosts_out (E : Nat → Addr) (A0 : Option Addr) (cap0 : Nat) (xs0 : List EntV) (A1 : Option Addr) (cap1 : Nat) (xs1 : List LineV) (ag : Bool) (w : World) (hG : TPG E w) (hX0 : RowAt encEnt 14 w A0 xs0) (hX1 : RowAt encLine 5 w A1 xs1) (h : ¬ (longL xs0 40 = 0 ∧ longS xs1 = 0)) :
  Calls Tryz.prog 4 #[.slice A0 xs0.length cap0, .slice A1 xs1.length cap1, .bool ag] w fun e w' => e = .returned (.bool true) ∧ Below w.heap.size w w' := by
 have HC := Lib.hid (opened_any E w hG.task)
 have HL := Lib.hid (fun W (hb : Below w.heap.size w W) => longEntries_any A0 cap0 xs0 40 W (by decide) (hX0.below hb))
 have HS := Lib.hid (fun W (hb : Below w.heap.size w W) => longSheet_any A1 cap1 xs1 W (hX1.below hb))
 have h01 := longL_01 xs0 40
 have h02 : longS xs1 = 0 ∨ longS xs1 = 1 := by
  unfold longS
  repeat' split
  all_goals simp
 generalize longL xs0 40 = a at *
 generalize longS xs1 = b at *
 clear hG hX0 hX1
 rcases h01 with rfl | rfl
 ·rcases h02 with rfl | rfl
  ·exact absurd ⟨rfl, rfl⟩ h
  ·clear h
   go_enter Tryz.func4, Tryz.ntmps4
   go_wp2_with fail
   refine HC.out.mono ?_
   rintro e w1 ⟨rfl, b1⟩
   have B1 := Lib.hid b1
   clear b1
   go_wp2_with fail
   refine (HL.out w1 B1.out).mono ?_
   rintro e w2 ⟨rfl, b2⟩
   have B2 := Lib.hid (B1.out.trans (b2.mono B1.out.size))
   clear b2
   go_wp2_with fail
   refine (HS.out w2 B2.out).mono ?_
   rintro e w3 ⟨rfl, b3⟩
   have B3 := Lib.hid (B2.out.trans (b3.mono B2.out.size))
   clear b3
   go_wp2_with fail
   go_ret
   exact ⟨rfl, B3.out⟩
 ·clear h
  go_enter Tryz.func4, Tryz.ntmps4
  go_wp2_with fail
  refine HC.out.mono ?_
  rintro e w1 ⟨rfl, b1⟩
  have B1 := Lib.hid b1
  clear b1
  go_wp2_with fail
  refine (HL.out w1 B1.out).mono ?_
  rintro e w2 ⟨rfl, b2⟩
  have B2 := Lib.hid (B1.out.trans (b2.mono B1.out.size))
  clear b2
  go_wp2_with fail
  go_ret
  exact ⟨rfl, B2.out⟩
set_option maxHeartbeats 6400000 in
set_option maxRecDepth 100000 in
theorem taskPosts_again (E : Nat → Addr) (A0 : Option Addr) (cap0 : Nat) (xs0 : List EntV) (A1 : Option Addr) (cap1 : Nat) (xs1 : List LineV) (w : World) (hG : TPG E w) (hX0 : RowAt encEnt 14 w A0 xs0) (hX1 : RowAt encLine 5 w A1 xs1) (hC1 : xs1.length ≤ cap1)
  (hl0 : longL xs0 40 = 0) (hl1 : longS xs1 = 0) :
  Calls Tryz.prog 4 #[.slice A0 xs0.length cap0, .slice A1 xs1.length cap1, .bool true] w fun e w' => e = .returned (.bool true) ∧ Below w.heap.size w w' := by
 have HC := Lib.hid (opened_any E w hG.task)
 have HL := Lib.hid (fun W (hb : Below w.heap.size w W) => longEntries_any A0 cap0 xs0 40 W (by decide) (hX0.below hb))
 have HS := Lib.hid (fun W (hb : Below w.heap.size w W) => longSheet_any A1 cap1 xs1 W (hX1.below hb))
 rw [hl0] at HL
 rw [hl1] at HS
 obtain ⟨s1, s2⟩ := longL_short hl0
 have hsh := longS_ShS hl1
 have HSHS := Lib.hid hsh
 obtain ⟨s3, s4⟩ := longS_short hl1
 have HBO := Lib.hid (fun W (hb : Below w.heap.size w W) => bookOf_any E A0 cap0 xs0 W (hX0.below hb) (by omega) (fun x hx => longN_ShortE (s2 x hx)) (hG.task.bk.below hb) (hG.err.below hb))
 have hI0 := BkI.all BkI.nil xs0
 generalize doAll bk0 xs0 = B at HBO hI0
 have HI := Lib.hid hI0
 have HG := Lib.hid (fun W (hb : Below w.heap.size w W) => hG.below hb)
 have HX1 := Lib.hid (fun W (hb : Below w.heap.size w W) => hX1.below hb)
 have HA1 : Hid (∀ a, A1 = some a → xs1 ≠ [] → a.block < w.heap.size) := fun a ha hn => by
  rcases hX1 with h | ⟨g, o, rfl, h2, -⟩
  ·exact absurd h hn
  ·cases ha
   exact h2
 have HCT : Hid (∀ W, Below w.heap.size w W → ∀ tp bp F R G ts, TBx w.heap.size W tp bp F R G ts B → ∀ (k : Int) (b : List UInt8), b.length ≤ 1000000 → (∀ x ∈ ts, x.2.2.2.2.length ≤ 1000) → Calls Tryz.prog 17 #[.pointer (some ⟨tp, 0, none⟩), .int .i64 k, .string ⟨b.toArray⟩, .slice A1 xs1.length cap1] W fun e w' => (∃ v, e = .returned v ∧ FltC E (countR ts k b xs1) v w') ∧ TB w.heap.size w' tp bp (countT ts k b xs1) B ∧ Below w.heap.size W w' ∧ ButF (F ++ G) W w') := fun W hb tp bp F R G ts hx k b hbl htl =>
  hx.count E k b hbl A1 cap1 xs1 hsh.1 hC1 (hX1.below hb) (fun a ha hn e => by have := HA1.out a ha hn; have := hx.f _ e; omega) htl (hG.task.below hb)
 obtain ⟨N, hN⟩ : ∃ N, N = xs1.length := ⟨_, rfl⟩
 have HN := Lib.hid hN
 rw [← hN] at HS HCT s3 ⊢
 clear hG hX0 hX1 hC1 hl0 hl1 s1 s2 s4 hI0 hN hsh
 go_enter Tryz.func4, Tryz.ntmps4
 go_wp2_with fail
 refine HC.out.mono ?_
 rintro e w1 ⟨rfl, b1⟩
 have B1 := Lib.hid b1
 clear b1 HC
 go_wp2_with fail
 refine (HL.out w1 B1.out).mono ?_
 rintro e w2 ⟨rfl, b2⟩
 have B2 := Lib.hid (B1.out.trans (b2.mono B1.out.size))
 clear b2 HL B1
 go_wp2_with fail
 refine (HS.out w2 B2.out).mono ?_
 rintro e w3 ⟨rfl, b3⟩
 have B3 := Lib.hid (B2.out.trans (b3.mono B2.out.size))
 clear b3 HS B2
 go_wp2_with fail
 refine (HBO.out w3 B3.out).mono ?_
 rintro e w4 ⟨bp, q0, rfl, hbo, b4⟩
 have B4 := Lib.hid (B3.out.trans (b4.mono B3.out.size))
 obtain ⟨FB, GG, RR, hbk, -, hFB, -, -⟩ := hbo
 have HFB : Hid (∀ k ∈ FB, w.heap.size ≤ k) := fun k hk => by have := (hFB k hk).1; have := B3.out.size; omega
 have HBK := Lib.hid hbk
 have HLB := Lib.hid hbk.lt
 clear b4 HBO hFB B3 hbk
 go_wp2_with fail
 refine (newTasks_any w4).mono ?_
 rintro e w5 ⟨tp, rfl, ht5, hp5, b5⟩
 have B5 := Lib.hid (B4.out.trans (b5.mono B4.out.size))
 have HT5 : Hid (TB w.heap.size w5 tp bp [] B) := ⟨[tp], [], FB, ht5, HBK.out.below b5, fun i hi hg => by
  have := HLB.out i hg
  rcases hi with hi | hi
  ·rw [List.mem_singleton.1 hi] at this
   omega
  ·simp at hi, fun i hi => by have := B4.out.size; rw [List.mem_singleton.1 hi]; omega, HFB.out, B5.out.size⟩
 clear b5 ht5 hp5 HBK HLB HFB
 obtain ⟨F5, R5, G5, hx5⟩ := HT5.out
 have HC5 := Lib.hid (hx5.open_ E sRye (by decide) (by decide) (HG.out w5 B5.out).task)
 clear hx5 HT5
 go_wp2_with fail
 refine HC5.out.mono ?_
 rintro e w6 ⟨rfl, ht6, b6, -⟩
 rw [openT_rye] at ht6
 rw [open_rye, if_pos rfl, errOf_zero]
 have HT6 := Lib.hid ht6
 have B6 := Lib.hid (B5.out.trans b6)
 clear ht6 b6 HC5
 obtain ⟨F6, R6, G6, hx6⟩ := HT6.out
 have HC6 := Lib.hid (HCT.out w6 B6.out _ _ F6 R6 G6 _ hx6 0 sAnn (by decide) (by intro x hx; rw [List.mem_singleton.1 hx]; exact Nat.zero_le _))
 rw [count_ann] at HC6
 clear hx6 HT6
 go_wp2_with fail
 refine HC6.out.mono ?_
 rintro e w7 ⟨⟨v7, rfl, hv7⟩, ht7, b7, -⟩
 have B7 := Lib.hid (B6.out.trans b7)
 clear b7 HC6
 cases hsc : sheetC xs1 with
 |some f =>
  rw [hsc] at hv7
  have hct : countT (tRye sOpen [] [] []) 0 sAnn xs1 = tRye sOpen [] [] [] := countT_no (by rw [count_ann, hsc]; simp)
  rw [hct] at ht7
  obtain ⟨fb, rfl⟩ := fltC_iface hsc hv7
  obtain ⟨F7, R7, G7, hx7⟩ := ht7
  have HG7 := Lib.hid (getTask_any hx7.t (by intro x hx; rw [List.mem_singleton.1 hx]; exact Nat.zero_le _) 0)
  clear hx7 hct hsc hv7
  go_wp2_with fail
  refine HG7.out.mono ?_
  rintro e w8 ⟨b8, hg8⟩
  obtain ⟨A8, c8, rfl, -, -⟩ : ∃ A cap, e = .returned (.tuple #[.agg (encTask ((sRye, sOpen, [], [], []), A, cap)).toArray, .bool true]) ∧ RowAt encLine 5 w8 A [] ∧ ∀ a, A = some a → w7.heap.size ≤ a.block := hg8
  have B8 := Lib.hid (B7.out.trans (b8.mono B7.out.size))
  clear b8 HG7
  simp only [encTask]
  go_upto_region 13 with (refine wpList_store_box rfl 39 _ _ rfl w8.heap.size (encTask ((sRye, sOpen, [], [], []), A8, c8)) rfl rfl _ [.string ⟨#[]⟩, .string ⟨#[]⟩, .string ⟨#[]⟩, .string ⟨#[]⟩, .slice none 0 0] (heap_alloc_new w8 _) (by kernel_rfl) rfl (encTask_one _) ?_; intro w9 h9 tu9)
  have d1 : w9.cell? ⟨w8.heap.size, 1, none⟩ = some (.string ⟨sOpen.toArray⟩) := (cell_of_row _ _ _ _ _ _ h9).trans rfl
  have B9 := Lib.hid (B8.out.trans (((below_one w8 (.cells #[.string ⟨#[]⟩, .string ⟨#[]⟩, .string ⟨#[]⟩, .string ⟨#[]⟩, .slice none 0 0] 39)).trans (tu9.below (Nat.le_refl _))).mono B8.out.size))
  clear h9 tu9
  go_wp2_with fail
  go_ret
  exact ⟨rfl, B9.out⟩
 |none =>
  rw [hsc] at hv7
  rw [countT_ann hsc] at ht7
  obtain rfl : v7 = .nilIface := hv7
  have HSC := Lib.hid hsc
  have HT7 := Lib.hid ht7
  clear ht7 hsc
  obtain ⟨F7, R7, G7, hx7⟩ := HT7.out
  have HD7 := Lib.hid (hx7.doubt E 0 (HG.out w7 B7.out).task)
  rw [doubt_ann, doubtT_ann, errOf_zero] at HD7
  clear hx7 HT7
  go_wp2_with fail
  refine HD7.out.mono ?_
  rintro e w8 ⟨rfl, ht8, b8, -⟩
  have B8 := Lib.hid (B7.out.trans b8)
  obtain ⟨F8, R8, G8, hx8⟩ := ht8
  have HC8 := Lib.hid (HCT.out w8 B8.out _ _ F8 R8 G8 _ hx8 0 sAnn (by decide) (by intro x hx; rw [List.mem_singleton.1 hx]; exact HSHS.out.1))
  rw [count_same, countT_no (by rw [count_same]; simp)] at HC8
  clear hx8 b8 HD7
  go_wp2_with fail
  refine HC8.out.mono ?_
  rintro e w9 ⟨⟨v9, rfl, hv9⟩, ht9, b9, -⟩
  obtain rfl : v9 = errOf E 7 := hv9
  rw [errOf_pos _ _ (by decide)]
  have B9 := Lib.hid (B8.out.trans b9)
  obtain ⟨F9, R9, G9, hx9⟩ := ht9
  have HC9 := Lib.hid (HCT.out w9 B9.out _ _ F9 R9 G9 _ hx9 0 sBob (by decide) (by intro x hx; rw [List.mem_singleton.1 hx]; exact HSHS.out.1))
  rw [count_bob HSC.out, countT_bob HSC.out] at HC9
  clear hx9 b9 HC8
  go_wp2_with fail
  refine HC9.out.mono ?_
  rintro e w10 ⟨⟨v10, rfl, hv10⟩, ht10, b10, -⟩
  obtain rfl : v10 = .nilIface := hv10
  have B10 := Lib.hid (B9.out.trans b10)
  have HTA := Lib.hid ht10
  clear b10 ht10 HC9
  -- the copy, and Post
  obtain ⟨F7, R7, G7, hx7⟩ := HTA.out
  have HCP := Lib.hid (copyBook_any hx7.b)
  have HX7 := Lib.hid hx7
  clear hx7
  go_wp2_with fail
  refine HCP.out.mono ?_
  rintro e w11 ⟨cp, FC, rfl, hbc, hFC, b11⟩
  have B11 := Lib.hid (B10.out.trans (b11.mono B10.out.size))
  have HX11 := Lib.hid (HX7.out.below b11)
  have hs11 := b11.size
  have HLT7 := Lib.hid HX7.out.t.lt
  have HLB7 := Lib.hid HX7.out.b.lt
  have HBC := Lib.hid hbc
  have HFC := Lib.hid hFC
  clear hbc hFC b11 HCP HTA
  have HPO := Lib.hid (HX11.out.post E 0 HI.out (by intro x hx; rw [List.mem_singleton.1 hx]; exact HSHS.out) (HG.out _ B11.out).ty (HG.out _ B11.out).task)
  go_wp2_with fail
  refine HPO.out.mono ?_
  rintro e w12 ⟨hps, ht12, bf12, b12⟩
  have B12 := Lib.hid (B11.out.trans b12)
  have hbc12 := HBC.out.butF bf12 (fun i hi hf => by
   have h1 := HFC.out i hi
   rcases List.mem_cons.1 hf with rfl | hf
   ·have := HLB7.out _ (by obtain ⟨_, _, _, _, _, _, rfl, -, -⟩ := HX7.out.b; exact List.mem_cons_self)
    omega
   ·have := HLT7.out i (.inl hf)
    omega)
  have HBC12 := Lib.hid hbc12
  have hsz12 := bf12.size
  clear bf12 b12 hbc12 HPO HX11
  unfold PstSays at hps
  by_cases hpe : postE (tRye sCounted sAnn sBob xs1) 0 B = 0
  ·obtain ⟨q1, q2, q3, q4, q5⟩ := post_rye hpe
   rw [if_pos hpe, q1] at hps
   rw [q4, q5] at ht12
   obtain ⟨Ad, cd, rfl, hrow, hge⟩ := hps
   obtain ⟨hct1, hct2⟩ := ctwice_plain q3 q2
   have HAX := Lib.hid hct2
   have HOKD := Lib.hid q2
   have HSD : Hid (∀ x ∈ diffL B.2.2 xs1, ShortE x) := diff_short HSHS.out.2
   have HLD : Hid ((diffL B.2.2 xs1).length ≤ 1000) := by
    have := diffL_len B.2.2 xs1
    have := HSHS.out.1
    show _ ≤ _
    omega
   generalize hout : diffL B.2.2 xs1 = out at *
   have HROW := Lib.hid hrow
   have HGE := Lib.hid hge
   obtain ⟨G12, hx12, hg12⟩ := ht12
   have HG12 := Lib.hid hg12
   have HBCL := Lib.hid HBC.out.lt
   have HF7 := Lib.hid hx12.f
   have HGT := Lib.hid (getTask_any hx12.t (by intro x hx; rw [List.mem_singleton.1 hx]; have := HSHS.out.1; exact this) 0)
   have HX12 := Lib.hid hx12
   obtain ⟨M, hM⟩ : ∃ M, M = out.length := ⟨_, rfl⟩
   have HM := Lib.hid hM
   rw [← hM] at HLD ⊢
   have hM3 := HLD.out
   clear hrow hge hx12 hg12 hM q1 q2 q3 q4 q5 hct1 hct2 hpe hout HLD
   go_wp2_with fail
   refine HGT.out.mono ?_
   rintro e w13 ⟨b13, hg13⟩
   obtain ⟨A13, c13, rfl, -, -⟩ : ∃ A cap, e = .returned (.tuple #[.agg (encTask ((sRye, sDone, sAnn, sBob, xs1), A, cap)).toArray, .bool true]) ∧ RowAt encLine 5 w13 A xs1 ∧ ∀ a, A = some a → w12.heap.size ≤ a.block := hg13
   have B13 := Lib.hid (B12.out.trans (b13.mono B12.out.size))
   have HN13 := Lib.hid b13
   clear b13 HGT
   simp only [encTask]
   go_upto_region 20 with (refine wpList_store_box rfl 39 _ _ rfl w13.heap.size (encTask ((sRye, sDone, sAnn, sBob, xs1), A13, c13)) rfl rfl _ [.string ⟨#[]⟩, .string ⟨#[]⟩, .string ⟨#[]⟩, .string ⟨#[]⟩, .slice none 0 0] (heap_alloc_new w13 _) (by kernel_rfl) rfl (encTask_one _) ?_; intro w14 h14 tu14)
   have b14 := ((below_one w13 (.cells #[.string ⟨#[]⟩, .string ⟨#[]⟩, .string ⟨#[]⟩, .string ⟨#[]⟩, .slice none 0 0] 39)).trans (tu14.below (Nat.le_refl _)))
   have BN14 := Lib.hid (HN13.out.trans (b14.mono HN13.out.size))
   have H14 := Lib.hid h14
   have B14 := Lib.hid (B13.out.trans (b14.mono B13.out.size))
   have HST := Lib.hid (stockBk_any (HX12.out.b.below BN14.out))
   have hx14 : w13.heap.size < w14.heap.size := row_lt h14
   have hs13 := HN13.out.size
   generalize w13.heap.size = bx at H14 hx14 hs13 ⊢
   clear h14 tu14 b14 HN13 B13
   go_wp2_with fail
   refine HST.out.mono ?_
   rintro e w15 ⟨qs, cs, rfl, -, -, hst, b15⟩
   have B15 := Lib.hid (B14.out.trans (b15.mono B14.out.size))
   have BN15 := Lib.hid (BN14.out.trans (b15.mono BN14.out.size))
   have H15 := Lib.hid ((b15.block bx hx14).trans H14.out)
   have HIO := Lib.hid (BkI.all HI.out out)
   have HSK := Lib.hid (fun W (hb : Below w15.heap.size w15 W) pl lot => atStock_P HIO.out.stk pl lot W (hst.below hb))
   have hx15 := row_lt H15.out
   clear b15 hst HST H14 BN14 B14 hx14
   go_wp2_with fail
   go_loopw [21] (fun i wr => ∃ j : Nat, j ≤ N ∧ i = .int .i64 j ∧ Hid (Below w15.heap.size w15 wr)) (fun i _ => N - (intOf i).toNat)
   case atStart => exact ⟨0, by omega, rfl, Below.refl _ _⟩
   case round =>
    obtain ⟨j, hj, rfl, HB7⟩ := hrel
    by_cases hjN : j < N
    ·have hjx : j < xs1.length := by rw [← HN.out]; exact hjN
     obtain ⟨g, o, rfl, lg, cg⟩ := HX1.out w (Below.refl _ _) |>.resolve_left (fun h => by rw [h] at hjx; simp at hjx)
     obtain ⟨y, hy⟩ : ∃ y, y = xs1[j] := ⟨_, rfl⟩
     have hbw := B15.out.trans (HB7.out.mono B15.out.size)
     have HR5 : Hid (∀ W, Below w.heap.size w W → ∀ c v, (encLine y)[c]? = some v → W.cell? ⟨g, o + j * 5 + c, none⟩ = some v) := fun W hb c v hv =>
      (hb.cell (p := ⟨g, o + j * 5 + c, none⟩) lg).trans (cg j hjx c v (by rw [← hy]; exact hv))
     have hay := HAX.out y (by rw [hy]; exact List.getElem_mem hjx)
     have HA := Lib.hid (fun W (h : Below w15.heap.size w15 W) => HSK.out W h y.1 y.2.1)
     generalize atM (doAll B out).2.2 (y.1, y.2.1) = am at HA hay
     obtain ⟨⟨a1, a2, a3⟩, a4, a5⟩ := y
     have ha5 : a5 = ((am : Nat) : Int) := hay.symm
     subst ha5
     simp only [encPlace] at HA
     have HUP : Hid (∀ W, Below w.heap.size w W → W.cell? ⟨g, o + j * 5, none⟩ = some (.string ⟨a1.toArray⟩) ∧ W.cell? ⟨g, o + j * 5 + 1, none⟩ = some (.int .i64 a2) ∧ W.cell? ⟨g, o + j * 5 + 2, none⟩ = some (.int .i64 a3) ∧ W.cell? ⟨g, o + j * 5 + 3, none⟩ = some (.string ⟨a4.toArray⟩) ∧ W.cell? ⟨g, o + j * 5 + 4, none⟩ = some (.int .i64 (am : Nat))) := fun W hb => by
      have h := HR5.out W hb
      exact ⟨h 0 _ rfl, h 1 _ rfl, h 2 _ rfl, h 3 _ rfl, h 4 _ rfl⟩
     have hd := hbw.drew
     have HD7 := Lib.hid (HB7.out.drew)
     have hj0 : (0 : Int) ≤ (j : Nat) := by omega
     have hjn : ((j : Nat) : Int) < (N : Nat) := by omega
     clear hy cg hay hbw HAX HSK HR5
     go_wp2_with fail
     go_region_held3 (fun W => W.cell? ⟨g, o + j * 5, none⟩ = some (.string ⟨a1.toArray⟩) ∧ W.cell? ⟨g, o + j * 5 + 1, none⟩ = some (.int .i64 a2) ∧ W.cell? ⟨g, o + j * 5 + 2, none⟩ = some (.int .i64 a3) ∧ W.cell? ⟨g, o + j * 5 + 3, none⟩ = some (.string ⟨a4.toArray⟩) ∧ W.cell? ⟨g, o + j * 5 + 4, none⟩ = some (.int .i64 (am : Nat)))
      (first | exact HUP.out _ hd | exact HUP.out _ kk | go_keep)
      (first | (go_at_call 25; refine (HA.out _ HD7.out).mono ?_; rintro e v ⟨rfl, bb⟩; have kk := hd.trans (bb.mono hd.size)))
     all_goals
      have B8 := Lib.hid (HD7.out.trans (bb.mono HD7.out.size))
      clear kk bb hd HUP HA HD7
      go_wp2_with fail
      go_roundw
      case rel => exact ⟨j + 1, by omega, by go_num, B8.out⟩
      case measure => simp [intOf]; omega
    ·obtain rfl : j = N := by omega
     have B16 := Lib.hid (B15.out.trans (HB7.out.mono B15.out.size))
     have BN16 := Lib.hid (BN15.out.trans (HB7.out.mono BN15.out.size))
     have H16 := Lib.hid ((HB7.out.block bx hx15).trans H15.out)
     have HBC16 := Lib.hid (HBC12.out.below BN16.out)
     have HX16 := Lib.hid (HX12.out.below BN16.out)
     have HR16 := Lib.hid (HROW.out.below BN16.out)
     have hx16 := row_lt H16.out
     have HCL := Lib.hid HBC12.out.lt
     clear HB7 hjN H15 HX12 HROW BN15 B15 HSK HAX hx15
     go_wp2_with fail
     obtain ⟨wo, rfl⟩ : ∃ wo : World, wo = wr := ⟨_, rfl⟩
     go_loopw [22] (fun i wr => ∃ k : Nat, k ≤ M ∧ i = .int .i64 k ∧ Hid (∃ F', BookIs wr cp F' (doAll B (out.take k)) ∧ ∀ j ∈ F', j ∈ FC ∨ wo.heap.size ≤ j) ∧ Hid (ButF FC wo wr)) (fun i _ => M - (intOf i).toNat)
     case atStart => exact ⟨0, by omega, rfl, ⟨FC, HBC16.out, fun j hj => .inl hj⟩, ButF.refl _ _⟩
     case round =>
      obtain ⟨k, hk, rfl, HBK, HBF⟩ := hrel
      by_cases hkM : k < M
      ·have hkx : k < out.length := by rw [← HM.out]; exact hkM
       obtain ⟨F', hbk, hf1⟩ := HBK.out
       have hgeA := HGE.out
       obtain ⟨g, o, rfl, lg, cg⟩ := HR16.out |>.resolve_left (fun h => by rw [h] at hkx; simp at hkx)
       have hgA : w11.heap.size ≤ g := hgeA _ rfl
       have hgF : g ∉ FC := fun e => by have := HCL.out g e; have := HBCL.out g e; omega
       obtain ⟨x, hx⟩ : ∃ x, x = out[k] := ⟨_, rfl⟩
       have hlies : Lies wr g (o + k * 14) (encEnt x) := fun j v hv => HBF.out.cell (cg k hkx j v (by rw [← hx]; exact hv)) hgF
       have hsx := HSD.out x (by rw [hx]; exact List.getElem_mem hkx)
       have hbw := B16.out.trans (HBF.out.below B16.out.size (fun i hi => by have := HFC.out i hi; have := B10.out.size; omega))
       have HD := Lib.hid (do_any E x hbk (BkI.all HI.out (out.take k)) (by have := hsx.2.1; omega) (by have := hsx.2.2.1; omega) (HG.out wr hbw).task.bk)
       have hok : doE (doAll B (out.take k)) x = 0 := by rw [hx]; exact allOk_at HOKD.out hkx
       rw [hok] at HD
       have HNX : Hid (doB (doAll B (out.take k)) x = doAll B (out.take (k + 1))) := by
        show _ = _
        rw [doAll_take B out k hkx, hx]
       have HL := Lib.hid hlies
       have HF1 := Lib.hid hf1
       have h14 : (encEnt x).length = 14 := rfl
       rw [errOf_zero] at HD
       clear hx cg hlies hsx hbk hf1 HBK hok hbw hgeA
       generalize encEnt x = LX at HD HL h14
       go_wp2_with (refine wpList_load_at rfl 67 _ rfl g (o + k * 14) rfl LX HL.out _ Tryz.underlying67 rfl (by rw [h14]; kernel_rfl) ?_)
       refine HD.out.mono ?_
       rintro e w17 ⟨rfl, ⟨F6, hb6, hf6⟩, bf6⟩
       have hsw := HBF.out.size
       have HBK6 : Hid (∃ F', BookIs w17 cp F' (doAll B (out.take (k + 1))) ∧ ∀ j ∈ F', j ∈ FC ∨ wo.heap.size ≤ j) := by
        refine ⟨F6, by rw [← HNX.out]; exact hb6, fun j hj => ?_⟩
        rcases hf6 j hj with h | h
        ·exact HF1.out j h
        ·exact .inr (by omega)
       have HBF6 : Hid (ButF FC wo w17) := HBF.out.trans bf6 HF1.out
       clear hb6 hf6 bf6 HD HBF HL
       go_wp2_with fail
       go_roundw
       case rel => exact ⟨k + 1, by omega, by go_num, HBK6.out, HBF6.out⟩
       case measure => simp [intOf]; omega
      ·obtain rfl : k = M := by omega
       have hT : out.take k = out := List.take_of_length_le (by rw [← HM.out]; exact Nat.le_refl _)
       rw [hT] at HBK
       obtain ⟨F', hbk, hf1⟩ := HBK.out
       have hbw := B16.out.trans (HBF.out.below B16.out.size (fun i hi => by have := HFC.out i hi; have := B10.out.size; omega))
       have hbxF : bx ∉ FC := fun e => by have := HBCL.out bx e; omega
       have hxw : wr.heap[bx]? = some (.cells (encTask ((sRye, sDone, sAnn, sBob, xs1), A13, c13)).toArray 39 (0, 0)) := (HBF.out.block bx hx16 hbxF).trans H16.out
       have d1 : wr.cell? ⟨bx, 1, none⟩ = some (.string ⟨sDone.toArray⟩) := (cell_of_row _ _ _ _ _ _ hxw).trans rfl
       have d3 : wr.cell? ⟨bx, 3, none⟩ = some (.string ⟨(sBob).toArray⟩) := (cell_of_row _ _ _ _ _ _ hxw).trans rfl
       have hdis : ∀ i, i ∈ F7 ∨ i ∈ R7 ∨ i ∈ G12 → i ∉ FC := fun i hi e => by
        have h1 := HFC.out i e
        have h2 := HBCL.out i e
        rcases hi with h | h | h
        ·have := HLT7.out i (.inl h); omega
        ·have := HLT7.out i (.inr h); omega
        ·rcases HG12.out i h with h | h
         ·have := HLB7.out i h; omega
         ·omega
       have HXF : Hid (TaskIs wr tp F7 R7 (tRye sDone sAnn sBob xs1)) := HX16.out.t.butF HBF.out (fun i hi => hdis i (hi.elim .inl fun h => .inr (.inl h)))
       have HXB := Lib.hid (HX16.out.b.butF HBF.out (fun i hi => hdis i (.inr (.inr hi))))
       have HSA := Lib.hid (sameEq_any E hbk HXB.out HIO.out HIO.out (BkEq.refl _) (HG.out wr hbw).text)
       have BW := Lib.hid hbw
       have hbxl := row_lt hxw
       clear hT hbk hf1 HBK hbw hdis HBF
       go_wp2_with fail
       refine HSA.out.mono ?_
       rintro e w18 ⟨rfl, b18⟩
       have B18 := Lib.hid (BW.out.trans (b18.mono BW.out.size))
       have HRF := Lib.hid (refuse_any E (HXF.out.below b18) 0 (HG.out w18 B18.out).task.task)
       rw [refuse_done, errOf_pos _ _ (by decide)] at HRF
       have hxw2 := (b18.block bx hbxl).trans hxw
       have H18 := Lib.hid hxw2
       have HLF := Lib.hid (HXF.out.below b18).lt
       have HTF := Lib.hid HXF.out
       clear b18 HSA hxw hxw2 d1 d3
       go_wp2_with fail
       refine HRF.out.mono ?_
       rintro e w19 ⟨rfl, -, bf19⟩
       have hx19 := (bf19.block bx (row_lt H18.out) (fun e => by have := HLT7.out bx (.inl e); omega)).trans H18.out
       have d3 : w19.cell? ⟨bx, 3, none⟩ = some (.string ⟨(sBob).toArray⟩) := (cell_of_row _ _ _ _ _ _ hx19).trans rfl
       have B19 := Lib.hid (B18.out.trans (bf19.below B18.out.size HF7.out))
       clear bf19 HRF hx19
       go_wp2_with fail
       go_ret
       exact ⟨rfl, B19.out⟩
  ·obtain ⟨q1, q2⟩ := post_not hpe
   rw [if_neg hpe, errOf_pos _ _ hpe] at hps
   rw [q1, q2] at ht12
   subst hps
   obtain ⟨G12, hx12, hg12⟩ := ht12
   have HGT := Lib.hid (getTask_any hx12.t (by intro x hx; rw [List.mem_singleton.1 hx]; have := HSHS.out.1; exact this) 0)
   have HSA := Lib.hid (fun W (hb : Below w12.heap.size w12 W) => sameEq_any E (HBC12.out.below hb) (hx12.b.below hb) HI.out HI.out (BkEq.refl _) (HG.out W (B12.out.trans (hb.mono B12.out.size))).text)
   clear hx12 hg12 hpe q1 q2
   go_wp2_with fail
   refine HGT.out.mono ?_
   rintro e w13 ⟨b13, hg13⟩
   obtain ⟨A13, c13, rfl, -, -⟩ : ∃ A cap, e = .returned (.tuple #[.agg (encTask ((sRye, sCounted, sAnn, sBob, xs1), A, cap)).toArray, .bool true]) ∧ RowAt encLine 5 w13 A xs1 ∧ ∀ a, A = some a → w12.heap.size ≤ a.block := hg13
   have HN13 := Lib.hid b13
   clear b13 HGT
   simp only [encTask]
   go_upto_region 20 with (refine wpList_store_box rfl 39 _ _ rfl w13.heap.size (encTask ((sRye, sCounted, sAnn, sBob, xs1), A13, c13)) rfl rfl _ [.string ⟨#[]⟩, .string ⟨#[]⟩, .string ⟨#[]⟩, .string ⟨#[]⟩, .slice none 0 0] (heap_alloc_new w13 _) (by kernel_rfl) rfl (encTask_one _) ?_; intro w14 h14 tu14)
   have b14 := ((below_one w13 (.cells #[.string ⟨#[]⟩, .string ⟨#[]⟩, .string ⟨#[]⟩, .string ⟨#[]⟩, .slice none 0 0] 39)).trans (tu14.below (Nat.le_refl _)))
   have BN14 := Lib.hid (HN13.out.trans (b14.mono HN13.out.size))
   have d1 : w14.cell? ⟨w13.heap.size, 1, none⟩ = some (.string ⟨sCounted.toArray⟩) := (cell_of_row _ _ _ _ _ _ h14).trans rfl
   clear h14 tu14 b14 HN13
   go_wp2_with fail
   refine (HSA.out w14 BN14.out).mono ?_
   rintro e w15 ⟨rfl, b15⟩
   have B15 := Lib.hid (B12.out.trans ((BN14.out.trans (b15.mono BN14.out.size)).mono B12.out.size))
   clear b15 d1
   go_wp2_with fail
   go_ret
   exact ⟨rfl, B15.out⟩
set_option maxHeartbeats 6400000 in
set_option maxRecDepth 100000 in
theorem taskPosts_once (E : Nat → Addr) (A0 : Option Addr) (cap0 : Nat) (xs0 : List EntV) (A1 : Option Addr) (cap1 : Nat) (xs1 : List LineV) (w : World) (hG : TPG E w) (hX0 : RowAt encEnt 14 w A0 xs0) (hX1 : RowAt encLine 5 w A1 xs1) (hC1 : xs1.length ≤ cap1)
  (hl0 : longL xs0 40 = 0) (hl1 : longS xs1 = 0) :
  Calls Tryz.prog 4 #[.slice A0 xs0.length cap0, .slice A1 xs1.length cap1, .bool false] w fun e w' => e = .returned (.bool true) ∧ Below w.heap.size w w' := by
 have HC := Lib.hid (opened_any E w hG.task)
 have HL := Lib.hid (fun W (hb : Below w.heap.size w W) => longEntries_any A0 cap0 xs0 40 W (by decide) (hX0.below hb))
 have HS := Lib.hid (fun W (hb : Below w.heap.size w W) => longSheet_any A1 cap1 xs1 W (hX1.below hb))
 rw [hl0] at HL
 rw [hl1] at HS
 obtain ⟨s1, s2⟩ := longL_short hl0
 have hsh := longS_ShS hl1
 have HSHS := Lib.hid hsh
 obtain ⟨s3, s4⟩ := longS_short hl1
 have HBO := Lib.hid (fun W (hb : Below w.heap.size w W) => bookOf_any E A0 cap0 xs0 W (hX0.below hb) (by omega) (fun x hx => longN_ShortE (s2 x hx)) (hG.task.bk.below hb) (hG.err.below hb))
 have hI0 := BkI.all BkI.nil xs0
 generalize doAll bk0 xs0 = B at HBO hI0
 have HI := Lib.hid hI0
 have HG := Lib.hid (fun W (hb : Below w.heap.size w W) => hG.below hb)
 have HX1 := Lib.hid (fun W (hb : Below w.heap.size w W) => hX1.below hb)
 have HA1 : Hid (∀ a, A1 = some a → xs1 ≠ [] → a.block < w.heap.size) := fun a ha hn => by
  rcases hX1 with h | ⟨g, o, rfl, h2, -⟩
  ·exact absurd h hn
  ·cases ha
   exact h2
 have HCT : Hid (∀ W, Below w.heap.size w W → ∀ tp bp F R G ts, TBx w.heap.size W tp bp F R G ts B → ∀ (k : Int) (b : List UInt8), b.length ≤ 1000000 → (∀ x ∈ ts, x.2.2.2.2.length ≤ 1000) → Calls Tryz.prog 17 #[.pointer (some ⟨tp, 0, none⟩), .int .i64 k, .string ⟨b.toArray⟩, .slice A1 xs1.length cap1] W fun e w' => (∃ v, e = .returned v ∧ FltC E (countR ts k b xs1) v w') ∧ TB w.heap.size w' tp bp (countT ts k b xs1) B ∧ Below w.heap.size W w' ∧ ButF (F ++ G) W w') := fun W hb tp bp F R G ts hx k b hbl htl =>
  hx.count E k b hbl A1 cap1 xs1 hsh.1 hC1 (hX1.below hb) (fun a ha hn e => by have := HA1.out a ha hn; have := hx.f _ e; omega) htl (hG.task.below hb)
 obtain ⟨N, hN⟩ : ∃ N, N = xs1.length := ⟨_, rfl⟩
 have HN := Lib.hid hN
 rw [← hN] at HS HCT s3 ⊢
 clear hG hX0 hX1 hC1 hl0 hl1 s1 s2 s4 hI0 hN hsh
 go_enter Tryz.func4, Tryz.ntmps4
 go_wp2_with fail
 refine HC.out.mono ?_
 rintro e w1 ⟨rfl, b1⟩
 have B1 := Lib.hid b1
 clear b1 HC
 go_wp2_with fail
 refine (HL.out w1 B1.out).mono ?_
 rintro e w2 ⟨rfl, b2⟩
 have B2 := Lib.hid (B1.out.trans (b2.mono B1.out.size))
 clear b2 HL B1
 go_wp2_with fail
 refine (HS.out w2 B2.out).mono ?_
 rintro e w3 ⟨rfl, b3⟩
 have B3 := Lib.hid (B2.out.trans (b3.mono B2.out.size))
 clear b3 HS B2
 go_wp2_with fail
 refine (HBO.out w3 B3.out).mono ?_
 rintro e w4 ⟨bp, q0, rfl, hbo, b4⟩
 have B4 := Lib.hid (B3.out.trans (b4.mono B3.out.size))
 obtain ⟨FB, GG, RR, hbk, -, hFB, -, -⟩ := hbo
 have HFB : Hid (∀ k ∈ FB, w.heap.size ≤ k) := fun k hk => by have := (hFB k hk).1; have := B3.out.size; omega
 have HBK := Lib.hid hbk
 have HLB := Lib.hid hbk.lt
 clear b4 HBO hFB B3 hbk
 go_wp2_with fail
 refine (newTasks_any w4).mono ?_
 rintro e w5 ⟨tp, rfl, ht5, hp5, b5⟩
 have B5 := Lib.hid (B4.out.trans (b5.mono B4.out.size))
 have HT5 : Hid (TB w.heap.size w5 tp bp [] B) := ⟨[tp], [], FB, ht5, HBK.out.below b5, fun i hi hg => by
  have := HLB.out i hg
  rcases hi with hi | hi
  ·rw [List.mem_singleton.1 hi] at this
   omega
  ·simp at hi, fun i hi => by have := B4.out.size; rw [List.mem_singleton.1 hi]; omega, HFB.out, B5.out.size⟩
 clear b5 ht5 hp5 HBK HLB HFB
 obtain ⟨F5, R5, G5, hx5⟩ := HT5.out
 have HC5 := Lib.hid (hx5.open_ E sRye (by decide) (by decide) (HG.out w5 B5.out).task)
 clear hx5 HT5
 go_wp2_with fail
 refine HC5.out.mono ?_
 rintro e w6 ⟨rfl, ht6, b6, -⟩
 rw [openT_rye] at ht6
 rw [open_rye, if_pos rfl, errOf_zero]
 have HT6 := Lib.hid ht6
 have B6 := Lib.hid (B5.out.trans b6)
 clear ht6 b6 HC5
 obtain ⟨F6, R6, G6, hx6⟩ := HT6.out
 have HC6 := Lib.hid (HCT.out w6 B6.out _ _ F6 R6 G6 _ hx6 0 sAnn (by decide) (by intro x hx; rw [List.mem_singleton.1 hx]; exact Nat.zero_le _))
 rw [count_ann] at HC6
 clear hx6 HT6
 go_wp2_with fail
 refine HC6.out.mono ?_
 rintro e w7 ⟨⟨v7, rfl, hv7⟩, ht7, b7, -⟩
 have B7 := Lib.hid (B6.out.trans b7)
 clear b7 HC6
 cases hsc : sheetC xs1 with
 |some f =>
  rw [hsc] at hv7
  have hct : countT (tRye sOpen [] [] []) 0 sAnn xs1 = tRye sOpen [] [] [] := countT_no (by rw [count_ann, hsc]; simp)
  rw [hct] at ht7
  obtain ⟨fb, rfl⟩ := fltC_iface hsc hv7
  obtain ⟨F7, R7, G7, hx7⟩ := ht7
  have HG7 := Lib.hid (getTask_any hx7.t (by intro x hx; rw [List.mem_singleton.1 hx]; exact Nat.zero_le _) 0)
  clear hx7 hct hsc hv7
  go_wp2_with fail
  refine HG7.out.mono ?_
  rintro e w8 ⟨b8, hg8⟩
  obtain ⟨A8, c8, rfl, -, -⟩ : ∃ A cap, e = .returned (.tuple #[.agg (encTask ((sRye, sOpen, [], [], []), A, cap)).toArray, .bool true]) ∧ RowAt encLine 5 w8 A [] ∧ ∀ a, A = some a → w7.heap.size ≤ a.block := hg8
  have B8 := Lib.hid (B7.out.trans (b8.mono B7.out.size))
  clear b8 HG7
  simp only [encTask]
  go_upto_region 13 with (refine wpList_store_box rfl 39 _ _ rfl w8.heap.size (encTask ((sRye, sOpen, [], [], []), A8, c8)) rfl rfl _ [.string ⟨#[]⟩, .string ⟨#[]⟩, .string ⟨#[]⟩, .string ⟨#[]⟩, .slice none 0 0] (heap_alloc_new w8 _) (by kernel_rfl) rfl (encTask_one _) ?_; intro w9 h9 tu9)
  have d1 : w9.cell? ⟨w8.heap.size, 1, none⟩ = some (.string ⟨sOpen.toArray⟩) := (cell_of_row _ _ _ _ _ _ h9).trans rfl
  have B9 := Lib.hid (B8.out.trans (((below_one w8 (.cells #[.string ⟨#[]⟩, .string ⟨#[]⟩, .string ⟨#[]⟩, .string ⟨#[]⟩, .slice none 0 0] 39)).trans (tu9.below (Nat.le_refl _))).mono B8.out.size))
  clear h9 tu9
  go_wp2_with fail
  go_ret
  exact ⟨rfl, B9.out⟩
 |none =>
  rw [hsc] at hv7
  rw [countT_ann hsc] at ht7
  obtain rfl : v7 = .nilIface := hv7
  have HSC := Lib.hid hsc
  have HT7 := Lib.hid ht7
  clear ht7 hsc
  have HTA := HT7
  have B10 := B7
  obtain ⟨w10, hw10⟩ : ∃ w10, w10 = w7 := ⟨_, rfl⟩
  subst hw10
  -- the copy, and Post
  obtain ⟨F7, R7, G7, hx7⟩ := HTA.out
  have HCP := Lib.hid (copyBook_any hx7.b)
  have HX7 := Lib.hid hx7
  clear hx7
  go_wp2_with fail
  refine HCP.out.mono ?_
  rintro e w11 ⟨cp, FC, rfl, hbc, hFC, b11⟩
  have B11 := Lib.hid (B10.out.trans (b11.mono B10.out.size))
  have HX11 := Lib.hid (HX7.out.below b11)
  have hs11 := b11.size
  have HLT7 := Lib.hid HX7.out.t.lt
  have HLB7 := Lib.hid HX7.out.b.lt
  have HBC := Lib.hid hbc
  have HFC := Lib.hid hFC
  clear hbc hFC b11 HCP HTA
  have HPO := Lib.hid (HX11.out.post E 0 HI.out (by intro x hx; rw [List.mem_singleton.1 hx]; exact HSHS.out) (HG.out _ B11.out).ty (HG.out _ B11.out).task)
  go_wp2_with fail
  refine HPO.out.mono ?_
  rintro e w12 ⟨hps, ht12, bf12, b12⟩
  have B12 := Lib.hid (B11.out.trans b12)
  have hbc12 := HBC.out.butF bf12 (fun i hi hf => by
   have h1 := HFC.out i hi
   rcases List.mem_cons.1 hf with rfl | hf
   ·have := HLB7.out _ (by obtain ⟨_, _, _, _, _, _, rfl, -, -⟩ := HX7.out.b; exact List.mem_cons_self)
    omega
   ·have := HLT7.out i (.inl hf)
    omega)
  have HBC12 := Lib.hid hbc12
  have hsz12 := bf12.size
  clear bf12 b12 hbc12 HPO HX11
  unfold PstSays at hps
  by_cases hpe : postE (tRye sCounted sAnn [] xs1) 0 B = 0
  ·obtain ⟨q1, q2, q3, q4, q5⟩ := post_rye hpe
   rw [if_pos hpe, q1] at hps
   rw [q4, q5] at ht12
   obtain ⟨Ad, cd, rfl, hrow, hge⟩ := hps
   obtain ⟨hct1, hct2⟩ := ctwice_plain q3 q2
   have HAX := Lib.hid hct2
   have HOKD := Lib.hid q2
   have HSD : Hid (∀ x ∈ diffL B.2.2 xs1, ShortE x) := diff_short HSHS.out.2
   have HLD : Hid ((diffL B.2.2 xs1).length ≤ 1000) := by
    have := diffL_len B.2.2 xs1
    have := HSHS.out.1
    show _ ≤ _
    omega
   generalize hout : diffL B.2.2 xs1 = out at *
   have HROW := Lib.hid hrow
   have HGE := Lib.hid hge
   obtain ⟨G12, hx12, hg12⟩ := ht12
   have HG12 := Lib.hid hg12
   have HBCL := Lib.hid HBC.out.lt
   have HF7 := Lib.hid hx12.f
   have HGT := Lib.hid (getTask_any hx12.t (by intro x hx; rw [List.mem_singleton.1 hx]; have := HSHS.out.1; exact this) 0)
   have HX12 := Lib.hid hx12
   obtain ⟨M, hM⟩ : ∃ M, M = out.length := ⟨_, rfl⟩
   have HM := Lib.hid hM
   rw [← hM] at HLD ⊢
   have hM3 := HLD.out
   clear hrow hge hx12 hg12 hM q1 q2 q3 q4 q5 hct1 hct2 hpe hout HLD
   go_wp2_with fail
   refine HGT.out.mono ?_
   rintro e w13 ⟨b13, hg13⟩
   obtain ⟨A13, c13, rfl, -, -⟩ : ∃ A cap, e = .returned (.tuple #[.agg (encTask ((sRye, sDone, sAnn, [], xs1), A, cap)).toArray, .bool true]) ∧ RowAt encLine 5 w13 A xs1 ∧ ∀ a, A = some a → w12.heap.size ≤ a.block := hg13
   have B13 := Lib.hid (B12.out.trans (b13.mono B12.out.size))
   have HN13 := Lib.hid b13
   clear b13 HGT
   simp only [encTask]
   go_upto_region 20 with (refine wpList_store_box rfl 39 _ _ rfl w13.heap.size (encTask ((sRye, sDone, sAnn, [], xs1), A13, c13)) rfl rfl _ [.string ⟨#[]⟩, .string ⟨#[]⟩, .string ⟨#[]⟩, .string ⟨#[]⟩, .slice none 0 0] (heap_alloc_new w13 _) (by kernel_rfl) rfl (encTask_one _) ?_; intro w14 h14 tu14)
   have b14 := ((below_one w13 (.cells #[.string ⟨#[]⟩, .string ⟨#[]⟩, .string ⟨#[]⟩, .string ⟨#[]⟩, .slice none 0 0] 39)).trans (tu14.below (Nat.le_refl _)))
   have BN14 := Lib.hid (HN13.out.trans (b14.mono HN13.out.size))
   have H14 := Lib.hid h14
   have B14 := Lib.hid (B13.out.trans (b14.mono B13.out.size))
   have HST := Lib.hid (stockBk_any (HX12.out.b.below BN14.out))
   have hx14 : w13.heap.size < w14.heap.size := row_lt h14
   have hs13 := HN13.out.size
   generalize w13.heap.size = bx at H14 hx14 hs13 ⊢
   clear h14 tu14 b14 HN13 B13
   go_wp2_with fail
   refine HST.out.mono ?_
   rintro e w15 ⟨qs, cs, rfl, -, -, hst, b15⟩
   have B15 := Lib.hid (B14.out.trans (b15.mono B14.out.size))
   have BN15 := Lib.hid (BN14.out.trans (b15.mono BN14.out.size))
   have H15 := Lib.hid ((b15.block bx hx14).trans H14.out)
   have HIO := Lib.hid (BkI.all HI.out out)
   have HSK := Lib.hid (fun W (hb : Below w15.heap.size w15 W) pl lot => atStock_P HIO.out.stk pl lot W (hst.below hb))
   have hx15 := row_lt H15.out
   clear b15 hst HST H14 BN14 B14 hx14
   go_wp2_with fail
   go_loopw [21] (fun i wr => ∃ j : Nat, j ≤ N ∧ i = .int .i64 j ∧ Hid (Below w15.heap.size w15 wr)) (fun i _ => N - (intOf i).toNat)
   case atStart => exact ⟨0, by omega, rfl, Below.refl _ _⟩
   case round =>
    obtain ⟨j, hj, rfl, HB7⟩ := hrel
    by_cases hjN : j < N
    ·have hjx : j < xs1.length := by rw [← HN.out]; exact hjN
     obtain ⟨g, o, rfl, lg, cg⟩ := HX1.out w (Below.refl _ _) |>.resolve_left (fun h => by rw [h] at hjx; simp at hjx)
     obtain ⟨y, hy⟩ : ∃ y, y = xs1[j] := ⟨_, rfl⟩
     have hbw := B15.out.trans (HB7.out.mono B15.out.size)
     have HR5 : Hid (∀ W, Below w.heap.size w W → ∀ c v, (encLine y)[c]? = some v → W.cell? ⟨g, o + j * 5 + c, none⟩ = some v) := fun W hb c v hv =>
      (hb.cell (p := ⟨g, o + j * 5 + c, none⟩) lg).trans (cg j hjx c v (by rw [← hy]; exact hv))
     have hay := HAX.out y (by rw [hy]; exact List.getElem_mem hjx)
     have HA := Lib.hid (fun W (h : Below w15.heap.size w15 W) => HSK.out W h y.1 y.2.1)
     generalize atM (doAll B out).2.2 (y.1, y.2.1) = am at HA hay
     obtain ⟨⟨a1, a2, a3⟩, a4, a5⟩ := y
     have ha5 : a5 = ((am : Nat) : Int) := hay.symm
     subst ha5
     simp only [encPlace] at HA
     have HUP : Hid (∀ W, Below w.heap.size w W → W.cell? ⟨g, o + j * 5, none⟩ = some (.string ⟨a1.toArray⟩) ∧ W.cell? ⟨g, o + j * 5 + 1, none⟩ = some (.int .i64 a2) ∧ W.cell? ⟨g, o + j * 5 + 2, none⟩ = some (.int .i64 a3) ∧ W.cell? ⟨g, o + j * 5 + 3, none⟩ = some (.string ⟨a4.toArray⟩) ∧ W.cell? ⟨g, o + j * 5 + 4, none⟩ = some (.int .i64 (am : Nat))) := fun W hb => by
      have h := HR5.out W hb
      exact ⟨h 0 _ rfl, h 1 _ rfl, h 2 _ rfl, h 3 _ rfl, h 4 _ rfl⟩
     have hd := hbw.drew
     have HD7 := Lib.hid (HB7.out.drew)
     have hj0 : (0 : Int) ≤ (j : Nat) := by omega
     have hjn : ((j : Nat) : Int) < (N : Nat) := by omega
     clear hy cg hay hbw HAX HSK HR5
     go_wp2_with fail
     go_region_held3 (fun W => W.cell? ⟨g, o + j * 5, none⟩ = some (.string ⟨a1.toArray⟩) ∧ W.cell? ⟨g, o + j * 5 + 1, none⟩ = some (.int .i64 a2) ∧ W.cell? ⟨g, o + j * 5 + 2, none⟩ = some (.int .i64 a3) ∧ W.cell? ⟨g, o + j * 5 + 3, none⟩ = some (.string ⟨a4.toArray⟩) ∧ W.cell? ⟨g, o + j * 5 + 4, none⟩ = some (.int .i64 (am : Nat)))
      (first | exact HUP.out _ hd | exact HUP.out _ kk | go_keep)
      (first | (go_at_call 25; refine (HA.out _ HD7.out).mono ?_; rintro e v ⟨rfl, bb⟩; have kk := hd.trans (bb.mono hd.size)))
     all_goals
      have B8 := Lib.hid (HD7.out.trans (bb.mono HD7.out.size))
      clear kk bb hd HUP HA HD7
      go_wp2_with fail
      go_roundw
      case rel => exact ⟨j + 1, by omega, by go_num, B8.out⟩
      case measure => simp [intOf]; omega
    ·obtain rfl : j = N := by omega
     have B16 := Lib.hid (B15.out.trans (HB7.out.mono B15.out.size))
     have BN16 := Lib.hid (BN15.out.trans (HB7.out.mono BN15.out.size))
     have H16 := Lib.hid ((HB7.out.block bx hx15).trans H15.out)
     have HBC16 := Lib.hid (HBC12.out.below BN16.out)
     have HX16 := Lib.hid (HX12.out.below BN16.out)
     have HR16 := Lib.hid (HROW.out.below BN16.out)
     have hx16 := row_lt H16.out
     have HCL := Lib.hid HBC12.out.lt
     clear HB7 hjN H15 HX12 HROW BN15 B15 HSK HAX hx15
     go_wp2_with fail
     obtain ⟨wo, rfl⟩ : ∃ wo : World, wo = wr := ⟨_, rfl⟩
     go_loopw [22] (fun i wr => ∃ k : Nat, k ≤ M ∧ i = .int .i64 k ∧ Hid (∃ F', BookIs wr cp F' (doAll B (out.take k)) ∧ ∀ j ∈ F', j ∈ FC ∨ wo.heap.size ≤ j) ∧ Hid (ButF FC wo wr)) (fun i _ => M - (intOf i).toNat)
     case atStart => exact ⟨0, by omega, rfl, ⟨FC, HBC16.out, fun j hj => .inl hj⟩, ButF.refl _ _⟩
     case round =>
      obtain ⟨k, hk, rfl, HBK, HBF⟩ := hrel
      by_cases hkM : k < M
      ·have hkx : k < out.length := by rw [← HM.out]; exact hkM
       obtain ⟨F', hbk, hf1⟩ := HBK.out
       have hgeA := HGE.out
       obtain ⟨g, o, rfl, lg, cg⟩ := HR16.out |>.resolve_left (fun h => by rw [h] at hkx; simp at hkx)
       have hgA : w11.heap.size ≤ g := hgeA _ rfl
       have hgF : g ∉ FC := fun e => by have := HCL.out g e; have := HBCL.out g e; omega
       obtain ⟨x, hx⟩ : ∃ x, x = out[k] := ⟨_, rfl⟩
       have hlies : Lies wr g (o + k * 14) (encEnt x) := fun j v hv => HBF.out.cell (cg k hkx j v (by rw [← hx]; exact hv)) hgF
       have hsx := HSD.out x (by rw [hx]; exact List.getElem_mem hkx)
       have hbw := B16.out.trans (HBF.out.below B16.out.size (fun i hi => by have := HFC.out i hi; have := B10.out.size; omega))
       have HD := Lib.hid (do_any E x hbk (BkI.all HI.out (out.take k)) (by have := hsx.2.1; omega) (by have := hsx.2.2.1; omega) (HG.out wr hbw).task.bk)
       have hok : doE (doAll B (out.take k)) x = 0 := by rw [hx]; exact allOk_at HOKD.out hkx
       rw [hok] at HD
       have HNX : Hid (doB (doAll B (out.take k)) x = doAll B (out.take (k + 1))) := by
        show _ = _
        rw [doAll_take B out k hkx, hx]
       have HL := Lib.hid hlies
       have HF1 := Lib.hid hf1
       have h14 : (encEnt x).length = 14 := rfl
       rw [errOf_zero] at HD
       clear hx cg hlies hsx hbk hf1 HBK hok hbw hgeA
       generalize encEnt x = LX at HD HL h14
       go_wp2_with (refine wpList_load_at rfl 67 _ rfl g (o + k * 14) rfl LX HL.out _ Tryz.underlying67 rfl (by rw [h14]; kernel_rfl) ?_)
       refine HD.out.mono ?_
       rintro e w17 ⟨rfl, ⟨F6, hb6, hf6⟩, bf6⟩
       have hsw := HBF.out.size
       have HBK6 : Hid (∃ F', BookIs w17 cp F' (doAll B (out.take (k + 1))) ∧ ∀ j ∈ F', j ∈ FC ∨ wo.heap.size ≤ j) := by
        refine ⟨F6, by rw [← HNX.out]; exact hb6, fun j hj => ?_⟩
        rcases hf6 j hj with h | h
        ·exact HF1.out j h
        ·exact .inr (by omega)
       have HBF6 : Hid (ButF FC wo w17) := HBF.out.trans bf6 HF1.out
       clear hb6 hf6 bf6 HD HBF HL
       go_wp2_with fail
       go_roundw
       case rel => exact ⟨k + 1, by omega, by go_num, HBK6.out, HBF6.out⟩
       case measure => simp [intOf]; omega
      ·obtain rfl : k = M := by omega
       have hT : out.take k = out := List.take_of_length_le (by rw [← HM.out]; exact Nat.le_refl _)
       rw [hT] at HBK
       obtain ⟨F', hbk, hf1⟩ := HBK.out
       have hbw := B16.out.trans (HBF.out.below B16.out.size (fun i hi => by have := HFC.out i hi; have := B10.out.size; omega))
       have hbxF : bx ∉ FC := fun e => by have := HBCL.out bx e; omega
       have hxw : wr.heap[bx]? = some (.cells (encTask ((sRye, sDone, sAnn, [], xs1), A13, c13)).toArray 39 (0, 0)) := (HBF.out.block bx hx16 hbxF).trans H16.out
       have d1 : wr.cell? ⟨bx, 1, none⟩ = some (.string ⟨sDone.toArray⟩) := (cell_of_row _ _ _ _ _ _ hxw).trans rfl
       have d3 : wr.cell? ⟨bx, 3, none⟩ = some (.string ⟨([]).toArray⟩) := (cell_of_row _ _ _ _ _ _ hxw).trans rfl
       have hdis : ∀ i, i ∈ F7 ∨ i ∈ R7 ∨ i ∈ G12 → i ∉ FC := fun i hi e => by
        have h1 := HFC.out i e
        have h2 := HBCL.out i e
        rcases hi with h | h | h
        ·have := HLT7.out i (.inl h); omega
        ·have := HLT7.out i (.inr h); omega
        ·rcases HG12.out i h with h | h
         ·have := HLB7.out i h; omega
         ·omega
       have HXF : Hid (TaskIs wr tp F7 R7 (tRye sDone sAnn [] xs1)) := HX16.out.t.butF HBF.out (fun i hi => hdis i (hi.elim .inl fun h => .inr (.inl h)))
       have HXB := Lib.hid (HX16.out.b.butF HBF.out (fun i hi => hdis i (.inr (.inr hi))))
       have HSA := Lib.hid (sameEq_any E hbk HXB.out HIO.out HIO.out (BkEq.refl _) (HG.out wr hbw).text)
       have BW := Lib.hid hbw
       have hbxl := row_lt hxw
       clear hT hbk hf1 HBK hbw hdis HBF
       go_wp2_with fail
       refine HSA.out.mono ?_
       rintro e w18 ⟨rfl, b18⟩
       have B18 := Lib.hid (BW.out.trans (b18.mono BW.out.size))
       have HRF := Lib.hid (refuse_any E (HXF.out.below b18) 0 (HG.out w18 B18.out).task.task)
       rw [refuse_done, errOf_pos _ _ (by decide)] at HRF
       have hxw2 := (b18.block bx hbxl).trans hxw
       have H18 := Lib.hid hxw2
       have HLF := Lib.hid (HXF.out.below b18).lt
       have HTF := Lib.hid HXF.out
       clear b18 HSA hxw hxw2 d1 d3
       go_wp2_with fail
       refine HRF.out.mono ?_
       rintro e w19 ⟨rfl, -, bf19⟩
       have hx19 := (bf19.block bx (row_lt H18.out) (fun e => by have := HLT7.out bx (.inl e); omega)).trans H18.out
       have d3 : w19.cell? ⟨bx, 3, none⟩ = some (.string ⟨([]).toArray⟩) := (cell_of_row _ _ _ _ _ _ hx19).trans rfl
       have B19 := Lib.hid (B18.out.trans (bf19.below B18.out.size HF7.out))
       clear bf19 HRF hx19
       go_wp2_with fail
       go_ret
       exact ⟨rfl, B19.out⟩
  ·obtain ⟨q1, q2⟩ := post_not hpe
   rw [if_neg hpe, errOf_pos _ _ hpe] at hps
   rw [q1, q2] at ht12
   subst hps
   obtain ⟨G12, hx12, hg12⟩ := ht12
   have HGT := Lib.hid (getTask_any hx12.t (by intro x hx; rw [List.mem_singleton.1 hx]; have := HSHS.out.1; exact this) 0)
   have HSA := Lib.hid (fun W (hb : Below w12.heap.size w12 W) => sameEq_any E (HBC12.out.below hb) (hx12.b.below hb) HI.out HI.out (BkEq.refl _) (HG.out W (B12.out.trans (hb.mono B12.out.size))).text)
   clear hx12 hg12 hpe q1 q2
   go_wp2_with fail
   refine HGT.out.mono ?_
   rintro e w13 ⟨b13, hg13⟩
   obtain ⟨A13, c13, rfl, -, -⟩ : ∃ A cap, e = .returned (.tuple #[.agg (encTask ((sRye, sCounted, sAnn, [], xs1), A, cap)).toArray, .bool true]) ∧ RowAt encLine 5 w13 A xs1 ∧ ∀ a, A = some a → w12.heap.size ≤ a.block := hg13
   have HN13 := Lib.hid b13
   clear b13 HGT
   simp only [encTask]
   go_upto_region 20 with (refine wpList_store_box rfl 39 _ _ rfl w13.heap.size (encTask ((sRye, sCounted, sAnn, [], xs1), A13, c13)) rfl rfl _ [.string ⟨#[]⟩, .string ⟨#[]⟩, .string ⟨#[]⟩, .string ⟨#[]⟩, .slice none 0 0] (heap_alloc_new w13 _) (by kernel_rfl) rfl (encTask_one _) ?_; intro w14 h14 tu14)
   have b14 := ((below_one w13 (.cells #[.string ⟨#[]⟩, .string ⟨#[]⟩, .string ⟨#[]⟩, .string ⟨#[]⟩, .slice none 0 0] 39)).trans (tu14.below (Nat.le_refl _)))
   have BN14 := Lib.hid (HN13.out.trans (b14.mono HN13.out.size))
   have d1 : w14.cell? ⟨w13.heap.size, 1, none⟩ = some (.string ⟨sCounted.toArray⟩) := (cell_of_row _ _ _ _ _ _ h14).trans rfl
   clear h14 tu14 b14 HN13
   go_wp2_with fail
   refine (HSA.out w14 BN14.out).mono ?_
   rintro e w15 ⟨rfl, b15⟩
   have B15 := Lib.hid (B12.out.trans ((BN14.out.trans (b15.mono BN14.out.size)).mono B12.out.size))
   clear b15 d1
   go_wp2_with fail
   go_ret
   exact ⟨rfl, B15.out⟩
theorem taskPosts_walk (E : Nat → Addr) (A0 : Option Addr) (cap0 : Nat) (xs0 : List EntV) (A1 : Option Addr) (cap1 : Nat) (xs1 : List LineV) (ag : Bool) (w : World) (hG : TPG E w) (hX0 : RowAt encEnt 14 w A0 xs0) (hX1 : RowAt encLine 5 w A1 xs1) (hC1 : xs1.length ≤ cap1) :
  Calls Tryz.prog 4 #[.slice A0 xs0.length cap0, .slice A1 xs1.length cap1, .bool ag] w fun e w' => e = .returned (.bool true) ∧ Below w.heap.size w w' := by
 by_cases h : longL xs0 40 = 0 ∧ longS xs1 = 0
 ·cases ag with
  |true => exact taskPosts_again E A0 cap0 xs0 A1 cap1 xs1 w hG hX0 hX1 hC1 h.1 h.2
  |false => exact taskPosts_once E A0 cap0 xs0 A1 cap1 xs1 w hG hX0 hX1 hC1 h.1 h.2
 ·exact taskPosts_out E A0 cap0 xs0 A1 cap1 xs1 ag w hG hX0 hX1 h
end Go.Proofs.YtchiojiicehpeaaGreatDoor
namespace Go.Proofs.YtchiojiicehpeaaGreatDoor
open Go.RowKit
def textNo (l : List UInt8) : Nat :=
 if l = [116, 105, 116, 104, 101, 98, 97, 114, 110, 58, 32, 116, 101, 120, 116] then 1 else
 if l = [116, 105, 116, 104, 101, 98, 97, 114, 110, 58, 32, 98, 111, 117, 110, 100] then 2 else
 if l = [116, 105, 116, 104, 101, 98, 97, 114, 110, 58, 32, 115, 104, 97, 112, 101] then 3 else
 if l = [116, 105, 116, 104, 101, 98, 97, 114, 110, 58, 32, 107, 105, 110, 100] then 4 else
 if l = [116, 105, 116, 104, 101, 98, 97, 114, 110, 58, 32, 110, 97, 109, 101] then 5 else
 if l = [116, 105, 116, 104, 101, 98, 97, 114, 110, 58, 32, 110, 111, 110, 101] then 6 else
 if l = [116, 105, 116, 104, 101, 98, 97, 114, 110, 58, 32, 101, 120, 105, 115, 116] then 7 else
 if l = [116, 105, 116, 104, 101, 98, 97, 114, 110, 58, 32, 102, 117, 108, 108] then 8 else
 if l = [116, 105, 116, 104, 101, 98, 97, 114, 110, 58, 32, 115, 104, 111, 114, 116] then 9 else
 if l = [116, 105, 116, 104, 101, 98, 97, 114, 110, 58, 32, 111, 114, 100, 101, 114] then 10 else
 if l = [116, 105, 116, 104, 101, 98, 97, 114, 110, 58, 32, 115, 116, 97, 116, 101] then 11 else
 if l = [116, 105, 116, 104, 101, 98, 97, 114, 110, 58, 32, 111, 102, 102] then 12 else 0
theorem errG_of {W : World} {a1 a2 a3 a4 a5 a6 a7 a8 a9 a10 a11 a12 : Addr}
  (h1 : Sent 7 a1 [116, 105, 116, 104, 101, 98, 97, 114, 110, 58, 32, 116, 101, 120, 116] W)
  (h2 : Sent 6 a2 [116, 105, 116, 104, 101, 98, 97, 114, 110, 58, 32, 98, 111, 117, 110, 100] W)
  (h3 : Sent 5 a3 [116, 105, 116, 104, 101, 98, 97, 114, 110, 58, 32, 115, 104, 97, 112, 101] W)
  (h4 : Sent 8 a4 [116, 105, 116, 104, 101, 98, 97, 114, 110, 58, 32, 107, 105, 110, 100] W)
  (h5 : Sent 0 a5 [116, 105, 116, 104, 101, 98, 97, 114, 110, 58, 32, 110, 97, 109, 101] W)
  (h6 : Sent 3 a6 [116, 105, 116, 104, 101, 98, 97, 114, 110, 58, 32, 110, 111, 110, 101] W)
  (h7 : Sent 1 a7 [116, 105, 116, 104, 101, 98, 97, 114, 110, 58, 32, 101, 120, 105, 115, 116] W)
  (h8 : Sent 2 a8 [116, 105, 116, 104, 101, 98, 97, 114, 110, 58, 32, 102, 117, 108, 108] W)
  (h9 : Sent 9 a9 [116, 105, 116, 104, 101, 98, 97, 114, 110, 58, 32, 115, 104, 111, 114, 116] W)
  (h10 : Sent 10 a10 [116, 105, 116, 104, 101, 98, 97, 114, 110, 58, 32, 111, 114, 100, 101, 114] W)
  (h11 : Sent 4 a11 [116, 105, 116, 104, 101, 98, 97, 114, 110, 58, 32, 115, 116, 97, 116, 101] W)
  (h12 : Sent 11 a12 [116, 105, 116, 104, 101, 98, 97, 114, 110, 58, 32, 111, 102, 102] W)
  (hty : W.cell? ⟨12, 0, none⟩ = some (.iface 286 (.agg #[.pointer (some ⟨21, 43, none⟩)]))) :
  ErrG (fun k => if k = 1 then a1 else if k = 2 then a2 else if k = 3 then a3 else if k = 4 then a4 else if k = 5 then a5 else if k = 6 then a6 else if k = 7 then a7 else if k = 8 then a8 else if k = 9 then a9 else if k = 10 then a10 else if k = 11 then a11 else a12) W := by
 refine ⟨?_, ?_, ?_, hty⟩
 ·intro k k1 k2
  rcases (show k = 1 ∨ k = 2 ∨ k = 3 ∨ k = 4 ∨ k = 5 ∨ k = 6 ∨ k = 7 ∨ k = 8 ∨ k = 9 ∨ k = 10 ∨ k = 11 ∨ k = 12 by omega) with rfl | rfl | rfl | rfl | rfl | rfl | rfl | rfl | rfl | rfl | rfl | rfl
  ·exact h1.at_
  ·exact h2.at_
  ·exact h3.at_
  ·exact h4.at_
  ·exact h5.at_
  ·exact h6.at_
  ·exact h7.at_
  ·exact h8.at_
  ·exact h9.at_
  ·exact h10.at_
  ·exact h11.at_
  ·exact h12.at_
 ·intro k k1 k2
  rcases (show k = 1 ∨ k = 2 ∨ k = 3 ∨ k = 4 ∨ k = 5 ∨ k = 6 ∨ k = 7 ∨ k = 8 ∨ k = 9 ∨ k = 10 ∨ k = 11 ∨ k = 12 by omega) with rfl | rfl | rfl | rfl | rfl | rfl | rfl | rfl | rfl | rfl | rfl | rfl
  ·exact h1.row
  ·exact h2.row
  ·exact h3.row
  ·exact h4.row
  ·exact h5.row
  ·exact h6.row
  ·exact h7.row
  ·exact h8.row
  ·exact h9.row
  ·exact h10.row
  ·exact h11.row
  ·exact h12.row
 ·have T : ∀ k, 1 ≤ k → k ≤ 12 → ∃ g l, Sent g ((fun k => if k = 1 then a1 else if k = 2 then a2 else if k = 3 then a3 else if k = 4 then a4 else if k = 5 then a5 else if k = 6 then a6 else if k = 7 then a7 else if k = 8 then a8 else if k = 9 then a9 else if k = 10 then a10 else if k = 11 then a11 else a12) k) l W ∧ textNo l = k := by
   intro k k1 k2
   rcases (show k = 1 ∨ k = 2 ∨ k = 3 ∨ k = 4 ∨ k = 5 ∨ k = 6 ∨ k = 7 ∨ k = 8 ∨ k = 9 ∨ k = 10 ∨ k = 11 ∨ k = 12 by omega) with rfl | rfl | rfl | rfl | rfl | rfl | rfl | rfl | rfl | rfl | rfl | rfl
   ·exact ⟨_, _, h1, by decide⟩
   ·exact ⟨_, _, h2, by decide⟩
   ·exact ⟨_, _, h3, by decide⟩
   ·exact ⟨_, _, h4, by decide⟩
   ·exact ⟨_, _, h5, by decide⟩
   ·exact ⟨_, _, h6, by decide⟩
   ·exact ⟨_, _, h7, by decide⟩
   ·exact ⟨_, _, h8, by decide⟩
   ·exact ⟨_, _, h9, by decide⟩
   ·exact ⟨_, _, h10, by decide⟩
   ·exact ⟨_, _, h11, by decide⟩
   ·exact ⟨_, _, h12, by decide⟩
  intro i j i1 i2 j1 j2 he
  obtain ⟨g, l, s, e⟩ := T i i1 i2
  obtain ⟨g', l', s', e'⟩ := T j j1 j2
  rcases Decidable.em (l = l') with hl | hl
  ·rw [← e, ← e', hl]
  ·exact absurd he (sent_ne s s' hl)
end Go.Proofs.YtchiojiicehpeaaGreatDoor
