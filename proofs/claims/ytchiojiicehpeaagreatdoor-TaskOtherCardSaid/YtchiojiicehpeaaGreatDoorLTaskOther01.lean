/- Tasks of counting: Post. Tasks of counting beside a book: what acts make of both. Tasks of counting: what the statement TaskPosts asks, plainly. Tasks of counting: the closed fact of the statements. Acts of tasks, as the statements name them. Tasks of counting: what an act makes of tasks and a book; what the statement TaskOther asks, plainly. Acts of tasks: too many, or too long? A slice of strings appended to one that the call owns. Slices of strings that a call owns: one more appended; joined. -/
import Derived.BigQuiet
import Derived.Maps.AppendAt
import Derived.OwnWalk
import Derived.Lib.Join
import Derived.Test.YtchiojiicehpeaaGreatDoorM07
import Derived.Test.YtchiojiicehpeaaGreatDoorM15
import Derived.Test.YtchiojiicehpeaaGreatDoorM18
import Derived.Test.YtchiojiicehpeaaGreatDoorM25
import Derived.Test.YtchiojiicehpeaaGreatDoorM28
import Derived.Test.YtchiojiicehpeaaGreatDoorM29
import Derived.Test.YtchiojiicehpeaaGreatDoorM31
import Derived.Test.YtchiojiicehpeaaGreatDoorM32
import Derived.Test.YtchiojiicehpeaaGreatDoorM33
import Derived.Test.YtchiojiicehpeaaGreatDoorM34
import Derived.Test.YtchiojiicehpeaaGreatDoorM37
import Derived.Test.YtchiojiicehpeaaGreatDoorM40
import Derived.Test.YtchiojiicehpeaaGreatDoorM46
namespace Go.Proofs.YtchiojiicehpeaaGreatDoor
open Go.RowKit Go.Sort Go.Proofs
def ShS (s : List LineV) : Prop := s.length ≤ 1000 ∧ ∀ y ∈ s, y.1.1.length ≤ 1000000 ∧ y.2.1.length ≤ 1000000
theorem BookIs.row {w : World} {p : Nat} {F : List Nat} {B : BkV} (H : BookIs w p F B) : ∃ vs : List Value, w.heap[p]? = some (.cells vs.toArray 123 (0, 0)) ∧ vs.length = 5 ∧ ∀ v ∈ vs, v.oneCell' = true := by
 obtain ⟨g, l, h, s, q, c, -, -, hm⟩ := H
 refine ⟨[.map (some g), .map (some l), .map (some h), .map (some s), .pointer (some ⟨q, 0, none⟩)], hm.own, rfl, fun v hv => ?_⟩
 simp at hv
 rcases hv with rfl | rfl | rfl | rfl | rfl <;> rfl
theorem BookIs.moved {w w' : World} {p q : Nat} {F : List Nat} {B : BkV} (H : BookIs w p F B) (hq : q ∉ F) (h : w'.heap[q]? = w.heap[p]?) (ht : Turned q w w') : ∃ G, BookIs w' q G B ∧ ∀ k ∈ G, k = q ∨ k ∈ F := by
 obtain ⟨g, l, hh, s, qq, c, rfl, hd, hm⟩ := H
 have hk : ∀ k ∈ [p, g, l, hh, s, qq, c], w'.heap[k]? = w.heap[k]? := fun k hk => ht.block k fun e => hq (e ▸ hk)
 have hm2 := hm.keep hk
 refine ⟨[q, g, l, hh, s, qq, c], ⟨g, l, hh, s, qq, c, rfl, ?_, ⟨h.trans hm.own, hm2.goods, hm2.lots, hm2.held, hm2.sums, hm2.stk⟩⟩, fun k hk => ?_⟩
 ·exact List.nodup_cons.2 ⟨fun e => hq (List.mem_cons_of_mem _ e), (List.nodup_cons.1 hd).2⟩
 ·rcases List.mem_cons.1 hk with rfl | hk
  ·exact .inl rfl
  ·exact .inr (List.mem_cons_of_mem _ hk)
theorem TaskW.turned {w w' : World} {p g cap N q : Nat} {cs : List TaskC} (h : TaskW w p g cap N cs) (ht : Turned q w w') (hp : p ≠ q) (hg : g ≠ q) (hR : ∀ k ∈ sheetsL cs, k ≠ q) : TaskW w' p g cap N cs := by
  obtain ⟨L, hL, hl⟩ := h.row
  exact ⟨h.tm.keep (ht.block p hp) (fun k hk => by have : k = g := by simpa [blockL, Value.ownBlock] using hk
                                                   subst this; exact ht.block _ hg) (fun k hk => ht.block k (hR k hk)) (Nat.le_of_eq ht.size.symm), h.n, ⟨L, (ht.block g hg).trans hL, hl⟩, h.pg, h.apart⟩
theorem doAll_step (B : BkV) (l : List EntV) (k : Nat) (h : k < l.length) : doAll B (l.take (k + 1)) = doB (doAll B (l.take k)) l[k] := by
 unfold doAll
 rw [List.take_succ_eq_append_getElem h, List.foldl_append]
 rfl
theorem firstE_drop {B : BkV} {l : List EntV} {k : Nat} (h : allOk B (l.take k)) : firstE B l = firstE (doAll B (l.take k)) (l.drop k) := by
 induction l generalizing B k with
 |nil => simp [doAll]
 |cons x r ih =>
  cases k with
  |zero => rfl
  |succ k =>
   rw [List.take_succ_cons] at h
   have h1 : doE B x = 0 := h.1
   have h2 : allOk (doB B x) (r.take k) := h.2
   have e := ih h2
   rw [List.take_succ_cons, List.drop_succ_cons]
   have e2 : firstE B (x :: r) = firstE (doB B x) r := by
    show (if doE B x ≠ 0 then _ else _) = _
    rw [if_neg (by simpa using h1)]
   exact e2.trans e
theorem firstE_at {B : BkV} {l : List EntV} {k : Nat} (h : allOk B (l.take k)) (hk : k < l.length) (he : doE (doAll B (l.take k)) l[k] ≠ 0) : firstE B l = doE (doAll B (l.take k)) l[k] := by
 rw [firstE_drop h, List.drop_eq_getElem_cons hk]
 unfold firstE
 rw [if_pos he]
theorem diffB_out {B : BkV} {l : List LineV} {out : List EntV} (h : diffB B l = .inl out) : out = diffL B.2.2 l := by
 unfold diffB at h
 split at h
 ·cases h
 split at h
 ·cases h
 ·cases h
  rfl
theorem diffX_short {m : StkV} {y : LineV} (hp : y.1.1.length ≤ 1000000) (hl : y.2.1.length ≤ 1000000) : ∀ x ∈ diffX m y, ShortE x := fun x hx => by
 unfold diffX at hx
 split at hx
 ·rw [List.mem_singleton.1 hx]
  simp [ShortE, zeroGoods, zeroPlace]
  omega
 split at hx
 ·rw [List.mem_singleton.1 hx]
  simp [ShortE, zeroGoods, zeroPlace]
  omega
 ·simp at hx
theorem diff_short {m : StkV} {l : List LineV} (h : ∀ y ∈ l, y.1.1.length ≤ 1000000 ∧ y.2.1.length ≤ 1000000) : ∀ x ∈ diffL m l, ShortE x := fun x hx => by
 unfold diffL at hx
 obtain ⟨y, hy, hx⟩ := List.mem_flatMap.1 hx
 obtain ⟨h1, h2⟩ := h y hy
 exact diffX_short h1 h2 x hx
def PstEnds (E : Nat → Addr) (w : World) (p : Nat) (F R : List Nat) (ts : List TaskV) (k : Int) (q : Nat) (G : List Nat) (B : BkV) (e : Ending) (w' : World) : Prop :=
  (if postE ts k B = 0 then ∃ A c, e = .returned (.tuple #[.slice A (postL ts k B).length c, .nilIface]) ∧ RowAt encEnt 14 w' A (postL ts k B) ∧ ∀ a, A = some a → w.heap.size ≤ a.block
   else e = .returned (.tuple #[.slice none 0 0, errOf E (postE ts k B)])) ∧
  TaskIs w' p F R (postT ts k B) ∧ (∃ G', BookIs w' q G' (postB ts k B) ∧ ∀ i ∈ G', i ∈ G ∨ w.heap.size ≤ i) ∧ ButF (q :: F) w w'
theorem postE_err {E : Nat → Addr} {w w' : World} {p : Nat} {F R : List Nat} {ts : List TaskV} {k : Int} {q : Nat} {G : List Nat} {B : BkV} (H : TaskIs w p F R ts) (HB : BookIs w q G B) (hb : Below w.heap.size w w') {c : Nat} (hc : postE ts k B = c) (h0 : c ≠ 0) :
  PstEnds E w p F R ts k q G B (.returned (.tuple #[.slice none 0 0, errOf E c])) w' := by
 subst hc
 unfold PstEnds postT postB
 rw [if_neg h0, if_neg h0, if_neg h0]
 exact ⟨rfl, H.below hb, ⟨G, HB.below hb, fun i hi => .inl hi⟩, ButF.of_below hb⟩
theorem postNil_any (E : Nat → Addr) {w : World} {p : Nat} {F R : List Nat} {ts : List TaskV} (H : TaskIs w p F R ts) (k : Int) (hG : TaskH E w) :
  Calls Tryz.prog 20 #[.pointer (some ⟨p, 0, none⟩), .int .i64 k, .pointer none] w fun e w' => e = .returned (.tuple #[.slice none 0 0, errOf E 3]) ∧ Below w.heap.size w w' := by
 obtain ⟨v, cs, hcs, hm, hF, hnd, hR1, hR⟩ := H
 have HA := Lib.hid (atTasks_any hm k)
 have e3 := hG.bk.stk.shape
 have l3 := lt_of_cell e3
 simp only at l3
 unfold ErrAt at e3
 clear hG hm hnd hR
 go_enter Tryz.func20, Tryz.ntmps20
 go_wp2_with fail
 refine HA.out.mono ?_
 rintro e w1 ⟨rfl, rfl⟩
 go_wp2_with fail
 go_quiet (fail)
 go_wp2_with fail
 go_ret2
 exact ⟨rfl, below_drewN (Below.refl _ _) _⟩
set_option maxHeartbeats 6400000 in
set_option maxRecDepth 100000 in
theorem postTask_any (E : Nat → Addr) {w : World} {p : Nat} {F R : List Nat} {ts : List TaskV} (H : TaskIs w p F R ts) (k : Int) {q : Nat} {G : List Nat} {B : BkV} (HB : BookIs w q G B) (hI : BkI B) (hd : ∀ i, i ∈ F ∨ i ∈ R → i ∉ G)
    (hs : ∀ x ∈ ts, ShS x.2.2.2.2) (hT : ErrTy w) (hG : TaskH E w) :
    Calls Tryz.prog 20 #[.pointer (some ⟨p, 0, none⟩), .int .i64 k, .pointer (some ⟨q, 0, none⟩)] w (PstEnds E w p F R ts k q G B) := by
  have HEND := Lib.hid (fun W (hb : Below w.heap.size w W) c (hc : postE ts k B = c) (h0 : c ≠ 0) => (postE_err (E := E) H HB hb hc h0 : PstEnds E w p F R ts k q G B _ W))
  have HT := Lib.hid H
  have HQ := Lib.hid HB
  have hqG : q ∈ G := by
    obtain ⟨_, _, _, _, _, _, rfl, -, -⟩ := HB
    exact List.mem_cons_self
  have hGl := HB.lt
  obtain ⟨v, cs, hcs, hm, hF, hnd, hR1, hR⟩ := H
  have HA := Lib.hid (atTasks_any hm k)
  have e6 := hG.bk.none
  have e11 := hG.state
  have l6 := lt_of_cell e6
  have l11 := lt_of_cell e11
  simp only at l6 l11
  unfold ErrAt at e6 e11
  have HG := Lib.hid (fun W (h : Below w.heap.size w W) => hG.below h)
  have HTY := Lib.hid (fun W (h : Below w.heap.size w W) => hT.below h)
  clear hG hT
  by_cases hk : k < 0 ∨ (cs.length : Int) ≤ k
  · have HO : Hid (postE ts k B = 6) := by
      show _ = _
      unfold postE
      rw [atT_none (by rw [← hcs, List.length_map]; exact hk)]
    rw [taskP_none hk] at HA
    clear hm hnd hR hk
    go_enter Tryz.func20, Tryz.ntmps20
    go_wp2_with fail
    refine HA.out.mono ?_
    rintro e w1 ⟨rfl, rfl⟩
    go_wp2_with fail
    go_quiet (fail)
    go_wp2_with fail
    go_ret2
    exact HEND.out _ (below_drewN (Below.refl _ _) _) 6 HO.out (by decide)
  · obtain ⟨m, rfl⟩ : ∃ m : Nat, k = m := ⟨k.toNat, by omega⟩
    have hmx : m < cs.length := by omega
    obtain ⟨g, cap, rfl, hg, -, -, hcell⟩ := hm.at_ hmx
    rw [taskP_at hmx] at HA
    obtain ⟨x, hx⟩ : ∃ x, x = cs[m] := ⟨_, rfl⟩
    have hat : atT ts (m : Int) = some x.1 := by
      rw [← hcs, atT_at (by rw [List.length_map]; exact hmx), List.getElem_map, hx]
    have hxs := hs x.1 (by rw [← hcs, hx]; exact List.mem_map_of_mem (List.getElem_mem hmx))
    have hXS := hm.sheet x (by rw [hx]; exact List.getElem_mem hmx)
    have hXR := hm.room x (by rw [hx]; exact List.getElem_mem hmx)
    have hpg : p ≠ g := fun e => by
      rw [hF] at hnd
      exact (List.nodup_cons.1 hnd).1 (by rw [e]; exact blockL_mem rfl)
    have hgF : g ∈ F := by rw [hF]; exact List.mem_cons_of_mem _ (blockL_mem rfl)
    have hpF : p ∈ F := by rw [hF]; exact List.mem_cons_self
    have HFIN : Hid (∀ w5 w6 : World, ButF [q] w w5 → ∀ L : List Value, w5.heap[g]? = some (.cells L.toArray 39 (0, 0)) → w6.heap[g]? = some (.cells (L.take (m * 5 + 1) ++ [Value.string ⟨sDone.toArray⟩] ++ L.drop (m * 5 + 1 + 1)).toArray 39 (0, 0)) → Turned g w5 w6 → TaskIs w6 p F R (setT ts (m : Int) postX)) := fun w5 w6 hb5 L hL hw ht => by
      have hkp : ∀ i, i ∈ F ∨ i ∈ R → w5.heap[i]? = w.heap[i]? := fun i hi => hb5.block i (HT.out.lt i hi) (fun e => hd i hi (by rw [List.mem_singleton.1 e]; exact hqG))
      have hm5 := hm.keep (w' := w5) (hkp p (.inl hpF)) (fun i hi => by have : i = g := by simpa [blockL, Value.ownBlock] using hi
                                                                        subst this; exact hkp _ (.inl hgF)) (fun i hi => hkp i (.inr (by rw [hR1]; exact hi))) hb5.size
      obtain ⟨t1, t2, t3⟩ := task_field hm5 (fun i hi => ⟨by have := (hR i (by rw [hR1]; exact hi)).1; rw [hF] at this; simpa [blockL, Value.ownBlock] using this, Nat.lt_of_lt_of_le (hR i (by rw [hR1]; exact hi)).2 hb5.size⟩) hpg hL hmx (by decide) hw ht (f := postX) rfl rfl
      rw [hcs] at t3
      exact ⟨_, _, t3, t1, by rw [hF], hnd, by rw [hR1, t2], fun i hi => ⟨(hR i hi).1, Nat.lt_of_lt_of_le (hR i hi).2 (Nat.le_trans hb5.size (Nat.le_of_eq ht.size.symm))⟩⟩
    obtain ⟨L0, hL0, hl0⟩ := own_block hm.own
    have hlo : m * 5 + 1 < L0.length := by omega
    rw [← hx] at hcell
    have c1 := hcell 1 _ rfl
    have c4 := hcell 4 _ rfl
    have HPE : Hid (postE ts (m : Int) B = if x.1.2.1 ≠ sCounted then 11 else match diffB B x.1.2.2.2.2 with
      | .inr (c, _) => c
      | .inl out => firstE B out) := by
      show _ = _
      unfold postE
      rw [hat]
      rfl
    have HPL : Hid (postE ts (m : Int) B = 0 → postL ts (m : Int) B = diffL B.2.2 x.1.2.2.2.2) := fun h => by
      unfold postL
      rw [if_neg (by omega), hat]
    obtain ⟨⟨x1, x2, x3, x4, x5⟩, XA, xc⟩ := x
    simp only at c1 c4 hxs hXS hXR HPE HPL
    have HX : Hid (∀ W, Below w.heap.size w W → W.cell? ⟨g, m * 5 + 4, none⟩ = some (.slice XA x5.length xc)) := fun W hb => (hb.cell hg).trans c4
    have HDF := Lib.hid (fun W (hb : Below w.heap.size w W) => cntDiff_any E XA xc x5 (HB.below hb) hI (hXS.below hb) (by have := hxs.1; omega) hXR (HG.out W hb).bk)
    have HSH : Hid (∀ y ∈ diffL B.2.2 x5, ShortE y) := diff_short hxs.2
    obtain ⟨n5, hn5⟩ : ∃ n5, n5 = x5.length := ⟨_, rfl⟩
    have HN5 := Lib.hid hn5
    rw [← hn5] at HX HDF c4
    clear hm hk hcell hx hat hXS hXR hs hn5
    by_cases hst : x2 = sCounted
    · have HPE1 := Lib.hid (HPE.out.trans (if_neg (by simpa using hst)))
      have s1 : (x2 == [99, 111, 117, 110, 116, 101, 100]) = true := by rw [hst]; rfl
      clear hst HPE
      go_enter Tryz.func20, Tryz.ntmps20
      go_wp2_with fail
      refine HA.out.mono ?_
      rintro e w1 ⟨rfl, rfl⟩
      go_wp2_with fail
      refine (HDF.out w (Below.refl _ _)).mono ?_
      rintro e w1 ⟨hdf, b1⟩
      have B1 := Lib.hid b1
      clear b1 HDF
      cases hr : diffB B x5 with
      | inr f =>
        obtain ⟨fk, fi⟩ := f
        rw [hr] at hdf HPE1
        obtain ⟨v2, rfl, hv2⟩ := hdf
        have HBA := Lib.hid (bareT_any E fk fi v2 w1 (HTY.out w1 B1.out) hv2)
        obtain ⟨hk0, b, rfl, hb⟩ := hv2
        have HK0 := Lib.hid hk0
        clear hb hk0 hr
        go_wp2_with fail
        refine HBA.out.mono ?_
        rintro e w2 ⟨rfl, b2⟩
        have B2 := Lib.hid (B1.out.trans (b2.mono B1.out.size))
        clear b2
        go_wp2_with fail
        go_ret2
        exact HEND.out _ B2.out fk HPE1.out HK0.out
      | inl out =>
        have ho := diffB_out hr
        rw [hr] at hdf HPE1
        obtain ⟨Ad, cd, rfl, hrow, hge⟩ := hdf
        rw [← ho] at HSH HPL
        have HROW := Lib.hid hrow
        have HGE := Lib.hid hge
        have HCP := Lib.hid (copyBook_any (HQ.out.below B1.out))
        have HPE2 : Hid (postE ts (m : Int) B = firstE B out) := HPE1.out
        obtain ⟨M, hM⟩ : ∃ M, M = out.length := ⟨_, rfl⟩
        have HM := Lib.hid hM
        have hm3 : M ≤ 100000 := by
          have e1 := diffL_len B.2.2 x5
          have e2 := hxs.1
          rw [← ho] at e1
          omega
        rw [← hM]
        clear hr hrow hge hM ho HPE1
        go_wp2_with fail
        refine HCP.out.mono ?_
        rintro e w2 ⟨pc, Fc, rfl, hbc, hFc, b2⟩
        have B2 := Lib.hid (B1.out.trans (b2.mono B1.out.size))
        have HBC := Lib.hid hbc
        have HFC := Lib.hid hFc
        have HR2 := Lib.hid (HROW.out.below b2)
        have B12 := Lib.hid b2
        clear hbc hFc b2 HCP
        go_wp2_with fail
        go_loopw [50] (fun i wr => ∃ k : Nat, k ≤ M ∧ i = .int .i64 k ∧ Hid (allOk B (out.take k)) ∧ Hid (∃ F', BookIs wr pc F' (doAll B (out.take k)) ∧ ∀ j ∈ F', w1.heap.size ≤ j) ∧ Hid (Below w1.heap.size w1 wr)) (fun i _ => M - (intOf i).toNat)
        case atStart => exact ⟨0, by omega, rfl, trivial, ⟨Fc, HBC.out, HFC.out⟩, B12.out⟩
        case round =>
          obtain ⟨k, hk, rfl, HOK, HBK, HB1⟩ := hrel
          by_cases hkM : k < M
          · have hkx : k < out.length := by rw [← HM.out]; exact hkM
            obtain ⟨F', hbk, hf1⟩ := HBK.out
            have hrw := HROW.out.below HB1.out
            obtain ⟨gd, od, rfl, lg, cg⟩ := hrw.resolve_left (fun h => by rw [h] at hkx; simp at hkx)
            obtain ⟨y, hy⟩ : ∃ y, y = out[k] := ⟨_, rfl⟩
            have hlies : Lies wr gd (od + k * 14) (encEnt y) := fun j v hv => cg k hkx j v (by rw [← hy]; exact hv)
            have hsx := HSH.out y (by rw [hy]; exact List.getElem_mem hkx)
            have hba := below_one wr (.cells #[.string ⟨#[]⟩, .string ⟨#[]⟩, .int .i64 0, .string ⟨#[]⟩, .string ⟨#[]⟩, .int .i64 0, .int .i64 0, .string ⟨#[]⟩, .int .i64 0, .int .i64 0, .string ⟨#[]⟩, .int .i64 0, .int .i64 0, .int .i64 0] 67)
            have hBw := B1.out.trans (HB1.out.mono B1.out.size)
            have HD := Lib.hid (fun W (hb : Below wr.heap.size wr W) => do_any E y (hbk.below hb) (BkI.all hI (out.take k)) (by have := hsx.2.1; omega) (by have := hsx.2.2.1; omega) (HG.out W (hBw.trans (hb.mono hBw.size))).bk)
            have HNX : Hid (doB (doAll B (out.take k)) y = doAll B (out.take (k + 1))) := by
              show _ = _
              rw [doAll_step B out k hkx, hy]
            have HOX : Hid (doE (doAll B (out.take k)) y = 0 → allOk B (out.take (k + 1))) := fun h => allOk_take hkx HOK.out (by rw [← hy]; exact h)
            have HEX : Hid (doE (doAll B (out.take k)) y ≠ 0 → postE ts (m : Int) B = doE (doAll B (out.take k)) y) := fun h => by
              have := firstE_at HOK.out hkx (by rw [← hy]; exact h)
              rw [HPE2.out, this, hy]
            have HL := Lib.hid hlies
            have HF1 := Lib.hid hf1
            have h14 : (encEnt y).length = 14 := rfl
            have HE1 := Lib.hid (encEnt_one y)
            clear hy cg hlies hsx hbk hf1 HBK hrw hBw
            generalize doE (doAll B (out.take k)) y = de at HD HOX HEX
            generalize encEnt y = LX at HL HD h14 HE1
            go_upto_region 15 with (first | (refine wpList_load_at rfl 67 _ rfl gd (od + k * 14) rfl LX HL.out _ Tryz.underlying67 rfl (by rw [h14]; kernel_rfl) ?_) | (refine wpList_store_box rfl 67 _ _ rfl wr.heap.size LX rfl rfl _ [.string ⟨#[]⟩, .string ⟨#[]⟩, .int .i64 0, .string ⟨#[]⟩, .string ⟨#[]⟩, .int .i64 0, .int .i64 0, .string ⟨#[]⟩, .int .i64 0, .int .i64 0, .string ⟨#[]⟩, .int .i64 0, .int .i64 0, .int .i64 0] (heap_alloc_new wr _) (by rw [h14]; kernel_rfl) (by rw [h14]; rfl) HE1.out ?_; intro w5 h5 tu5))
            have b5 := hba.trans (tu5.below (Nat.le_refl _))
            have B5 := Lib.hid (HB1.out.trans (b5.mono HB1.out.size))
            have H5 := Lib.hid h5
            have HD5 := Lib.hid (HD.out w5 b5)
            clear b5 tu5 hba HD HL h5
            go_upto_region 16 with (refine wpList_load_at rfl 67 _ rfl wr.heap.size 0 rfl LX (Lies.row _ H5.out) _ Tryz.underlying67 rfl (by rw [h14]; kernel_rfl) ?_)
            refine HD5.out.mono ?_
            rintro e w6 ⟨rfl, ⟨F6, hb6, hf6⟩, bf6⟩
            have B6 := Lib.hid (B5.out.trans (bf6.below B5.out.size HF1.out))
            have HBK6 : Hid (∃ F', BookIs w6 pc F' (doAll B (out.take (k + 1))) ∧ ∀ j ∈ F', w1.heap.size ≤ j) := by
              refine ⟨F6, by rw [← HNX.out]; exact hb6, fun j hj => ?_⟩
              have := B5.out.size
              rcases hf6 j hj with h | h
              · exact HF1.out j h
              · omega
            clear hb6 hf6 bf6 HD5 HF1 H5 B5 HB1
            by_cases h0 : de = 0
            · have HOK6 := Lib.hid (HOX.out h0)
              subst h0
              rw [errOf_zero]
              clear HOX HEX
              go_wp2_with fail
              go_roundw
              case rel => exact ⟨k + 1, by omega, by go_num, HOK6.out, HBK6.out, B6.out⟩
              case measure => simp [intOf]; omega
            · have HEX2 := Lib.hid (HEX.out h0)
              rw [errOf_pos _ _ h0]
              have HZ := Lib.hid h0
              clear h0 HOX HEX
              go_wp2_with fail
              go_ret2
              rw [← errOf_pos E _ HZ.out]
              exact HEND.out _ (B1.out.trans (B6.out.mono B1.out.size)) de HEX2.out HZ.out
          · obtain rfl : k = M := by omega
            have hT : out.take k = out := List.take_of_length_le (by rw [← HM.out]; exact Nat.le_refl _)
            rw [hT] at HOK HBK
            obtain ⟨F', hbk, hf1⟩ := HBK.out
            have HE0 : Hid (postE ts (m : Int) B = 0) := HPE2.out.trans ((firstE_ok _ _).2 HOK.out)
            have HPB : Hid (postB ts (m : Int) B = doAll B out) := by show _ = _; unfold postB; rw [if_pos HE0.out, HPL.out HE0.out]
            have HPT : Hid (postT ts (m : Int) B = setT ts (m : Int) postX) := by show _ = _; unfold postT; rw [if_pos HE0.out]
            have HPL2 := Lib.hid (HPL.out HE0.out)
            obtain ⟨vs, hvs, hv5, hv1⟩ := hbk.row
            obtain ⟨vq, hvq, -, -⟩ := HQ.out.row
            have hBw := B1.out.trans (HB1.out.mono B1.out.size)
            have hqw : q < w.heap.size := hGl q hqG
            have hvq2 := (hBw.block q hqw).trans hvq
            obtain ⟨u0, u1, u2, u3, u4, hu⟩ : ∃ u0 u1 u2 u3 u4, vq = [u0, u1, u2, u3, u4] := by
              obtain ⟨_, _, _, _, _, _, -, -, hmq⟩ := HQ.out
              have := hmq.own.symm.trans hvq
              have := congrArg (fun o => o) this
              simp at this
              exact ⟨_, _, _, _, _, this.symm⟩
            subst hu
            have HVS := Lib.hid hvs
            have HVQ := Lib.hid hvq2
            have HV1 := Lib.hid hv1
            have BW := Lib.hid hBw
            have HBK2 := Lib.hid hbk
            have HF2 := Lib.hid hf1
            have hL0g := (hBw.block g hg).trans hL0
            have HL0 := Lib.hid hL0g
            have hqg : g ≠ q := fun e => hd g (.inl hgF) (by rw [e]; exact hqG)
            have HRW0 := Lib.hid (HROW.out.below HB1.out)
            clear hT hbk hf1 hvs hvq hvq2 hv1 hBw HBK HOK HB1 hkM hL0g
            go_upto_region 20 with (first | (refine wpList_load_at rfl 123 _ rfl pc 0 rfl vs (Lies.row _ HVS.out) _ Tryz.underlying123 rfl (by rw [hv5]; kernel_rfl) ?_) | (refine wpList_store_box rfl 123 _ _ rfl q vs rfl rfl _ [u0, u1, u2, u3, u4] HVQ.out (by rw [hv5]; kernel_rfl) (by rw [hv5]; rfl) HV1.out ?_; intro w7 h7 tu7))
            have hL7 := (tu7.block g hqg).trans HL0.out
            have HB7 := Lib.hid (HBK2.out.moved (w' := w7) (q := q) (fun e => by have := HF2.out q e; have := B1.out.size; omega) (h7.trans HVS.out.symm) tu7)
            have HBF7 : Hid (ButF [q] w w7) := (ButF.of_below BW.out).step (ButF.of_turned tu7 (.inl (by simp)))
            have HA7 : Hid (∀ a, Ad = some a → a.block ≠ q) := fun a ha e => by have := HGE.out a ha; omega
            have HR7 := Lib.hid (RowAt.keepT HRW0.out tu7 HA7.out)
            clear h7 tu7
            go_upto_region 21 with (refine wpList_store_val rfl 9 _ _ rfl g (m * 5 + 1) (.string ⟨sDone.toArray⟩) rfl rfl rfl _ L0 hL7 (by kernel_rfl) hlo rfl ?_; intro w8 h8 tu8)
            have HT8 := Lib.hid (HFIN.out w7 w8 HBF7.out L0 hL7 h8 tu8)
            have HBF8 : Hid (ButF (q :: F) w w8) := (HBF7.out.mono (fun i hi => .inl (by rw [List.mem_singleton.1 hi]; exact List.mem_cons_self))).step (ButF.of_turned tu8 (.inl (List.mem_cons_of_mem _ hgF)))
            have HA8 : Hid (∀ a, Ad = some a → a.block ≠ g) := fun a ha e => by have := HGE.out a ha; omega
            have HR8 := Lib.hid (RowAt.keepT HR7.out tu8 HA8.out)
            have HB8 : Hid (∃ G', BookIs w8 q G' (doAll B out) ∧ ∀ i ∈ G', i ∈ G ∨ w.heap.size ≤ i) := by
              obtain ⟨G7, g1, g2⟩ := HB7.out
              refine ⟨G7, g1.keep fun i hi => tu8.block i fun e => ?_, fun i hi => ?_⟩
              · rcases g2 i hi with h | h
                · exact hqg (e.symm.trans h)
                · have := HF2.out i h
                  have := B1.out.size
                  omega
              · rcases g2 i hi with h | h
                · exact .inl (by rw [h]; exact hqG)
                · exact .inr (Nat.le_trans B1.out.size (HF2.out i h))
            clear h8 tu8 hL7
            go_wp2_with fail
            go_ret2
            refine ⟨?_, by rw [HPT.out]; exact HT8.out, by rw [HPB.out]; exact HB8.out, HBF8.out⟩
            rw [if_pos HE0.out, HPL2.out, HM.out]
            exact ⟨Ad, cd, rfl, HR8.out, fun a ha => Nat.le_trans (Nat.le_refl _) (HGE.out a ha)⟩
    · have HO : Hid (postE ts (m : Int) B = 11) := HPE.out.trans (if_pos hst)
      have s1 : (x2 == [99, 111, 117, 110, 116, 101, 100]) = false := by simpa [sCounted] using hst
      clear hst HPE
      go_enter Tryz.func20, Tryz.ntmps20
      go_wp2_with fail
      refine HA.out.mono ?_
      rintro e w1 ⟨rfl, rfl⟩
      go_wp2_with fail
      go_quiet (fail)
      go_wp2_with fail
      go_ret2
      exact HEND.out _ (below_drewN (Below.refl _ _) _) 11 HO.out (by decide)
end Go.Proofs.YtchiojiicehpeaaGreatDoor
namespace Go.Proofs.YtchiojiicehpeaaGreatDoor
open Go.RowKit Go.Sort Go.Proofs
structure TBx (n : Nat) (w : World) (tp bp : Nat) (F R G : List Nat) (ts : List TaskV) (B : BkV) : Prop where
 t : TaskIs w tp F R ts
 b : BookIs w bp G B
 d : ∀ i, i ∈ F ∨ i ∈ R → i ∉ G
 f : ∀ i ∈ F, n ≤ i
 g : ∀ i ∈ G, n ≤ i
 le : n ≤ w.heap.size
def TB (n : Nat) (w : World) (tp bp : Nat) (ts : List TaskV) (B : BkV) : Prop := ∃ F R G, TBx n w tp bp F R G ts B
theorem TBx.below {n : Nat} {w w' : World} {tp bp : Nat} {F R G : List Nat} {ts : List TaskV} {B : BkV} (h : TBx n w tp bp F R G ts B) (hb : Below w.heap.size w w') : TBx n w' tp bp F R G ts B :=
 ⟨h.t.below hb, h.b.below hb, h.d, h.f, h.g, Nat.le_trans h.le hb.size⟩
theorem TB.below {n : Nat} {w w' : World} {tp bp : Nat} {ts : List TaskV} {B : BkV} (h : TB n w tp bp ts B) (hb : Below w.heap.size w w') : TB n w' tp bp ts B := by
 obtain ⟨F, R, G, h⟩ := h
 exact ⟨F, R, G, h.below hb⟩
theorem TBx.tasks {n : Nat} {w w' : World} {tp bp : Nat} {F R G F' R' : List Nat} {ts ts' : List TaskV} {B : BkV} (h : TBx n w tp bp F R G ts B) (ht : TaskIs w' tp F' R' ts') (hF : ∀ i ∈ F', i ∈ F ∨ w.heap.size ≤ i) (hR : ∀ i ∈ R', i ∈ R ∨ w.heap.size ≤ i) (hb : ButF F w w') :
  TB n w' tp bp ts' B ∧ Below n w w' ∧ ButF (F ++ G) w w' := by
 refine ⟨⟨F', R', G, ht, h.b.butF hb (fun i hi hf => h.d i (.inl hf) hi), fun i hi hg => ?_, fun i hi => ?_, h.g, Nat.le_trans h.le hb.size⟩, hb.below h.le h.f, hb.mono fun i hi => .inl (List.mem_append_left _ hi)⟩
 ·have := h.b.lt i hg
  rcases hi with hi | hi
  ·rcases hF i hi with e | e
   ·exact h.d i (.inl e) hg
   ·omega
  ·rcases hR i hi with e | e
   ·exact h.d i (.inr e) hg
   ·omega
 ·rcases hF i hi with e | e
  ·exact h.f i e
  ·exact Nat.le_trans h.le e
theorem TBx.open_ (E : Nat → Addr) {n : Nat} {w : World} {tp bp : Nat} {F R G : List Nat} {ts : List TaskV} {B : BkV} (h : TBx n w tp bp F R G ts B) (code : List UInt8) (hc : code.length ≤ 1000000) (hts : ts.length ≤ 1000) (hG : TaskH E w) :
  Calls Tryz.prog 16 #[.pointer (some ⟨tp, 0, none⟩), .string ⟨code.toArray⟩] w fun e w' => e = .returned (.tuple #[.int .i64 (if openE ts code = 0 then (ts.length : Int) else 0), errOf E (openE ts code)]) ∧ TB n w' tp bp (openT ts code) B ∧ Below n w w' ∧ ButF (F ++ G) w w' := by
 refine (openTask_any E h.t code hc hts hG).mono ?_
 rintro e w' ⟨he, F', ht, hb, hF⟩
 exact ⟨he, h.tasks ht hF (fun i hi => .inl hi) hb⟩
theorem TBx.count (E : Nat → Addr) {n : Nat} {w : World} {tp bp : Nat} {F R G : List Nat} {ts : List TaskV} {B : BkV} (h : TBx n w tp bp F R G ts B) (k : Int) (b : List UInt8) (hbl : b.length ≤ 1000000) (SA : Option Addr) (scap : Nat) (s : List LineV) (hs : s.length ≤ 1000) (hsc : s.length ≤ scap) (hsr : RowAt encLine 5 w SA s)
  (hsF : ∀ a, SA = some a → s ≠ [] → a.block ∉ F) (htl : ∀ x ∈ ts, x.2.2.2.2.length ≤ 1000) (hG : TaskH E w) :
  Calls Tryz.prog 17 #[.pointer (some ⟨tp, 0, none⟩), .int .i64 k, .string ⟨b.toArray⟩, .slice SA s.length scap] w fun e w' => (∃ v, e = .returned v ∧ FltC E (countR ts k b s) v w') ∧ TB n w' tp bp (countT ts k b s) B ∧ Below n w w' ∧ ButF (F ++ G) w w' := by
 refine (countTask_any E h.t k b hbl SA scap s hs hsc hsr hsF htl hG).mono ?_
 rintro e w' ⟨he, R', ht, hb, hR⟩
 exact ⟨he, h.tasks ht (fun i hi => .inl hi) hR hb⟩
theorem TBx.doubt (E : Nat → Addr) {n : Nat} {w : World} {tp bp : Nat} {F R G : List Nat} {ts : List TaskV} {B : BkV} (h : TBx n w tp bp F R G ts B) (k : Int) (hG : TaskH E w) :
  Calls Tryz.prog 18 #[.pointer (some ⟨tp, 0, none⟩), .int .i64 k] w fun e w' => e = .returned (errOf E (doubtE ts k)) ∧ TB n w' tp bp (doubtT ts k) B ∧ Below n w w' ∧ ButF (F ++ G) w w' := by
 refine (doubt_any E h.t k hG.task).mono ?_
 rintro e w' ⟨he, ht, hb⟩
 exact ⟨he, h.tasks ht (fun i hi => .inl hi) (fun i hi => .inl hi) hb⟩
theorem TBx.refuse (E : Nat → Addr) {n : Nat} {w : World} {tp bp : Nat} {F R G : List Nat} {ts : List TaskV} {B : BkV} (h : TBx n w tp bp F R G ts B) (k : Int) (hG : TaskH E w) :
  Calls Tryz.prog 19 #[.pointer (some ⟨tp, 0, none⟩), .int .i64 k] w fun e w' => e = .returned (errOf E (refuseE ts k)) ∧ TB n w' tp bp (refuseT ts k) B ∧ Below n w w' ∧ ButF (F ++ G) w w' := by
 refine (refuse_any E h.t k hG.task).mono ?_
 rintro e w' ⟨he, ht, hb⟩
 exact ⟨he, h.tasks ht (fun i hi => .inl hi) (fun i hi => .inl hi) hb⟩
def PstSays (E : Nat → Addr) (n : Nat) (ts : List TaskV) (k : Int) (B : BkV) (e : Ending) (w' : World) : Prop :=
 if postE ts k B = 0 then ∃ A c, e = .returned (.tuple #[.slice A (postL ts k B).length c, .nilIface]) ∧ RowAt encEnt 14 w' A (postL ts k B) ∧ ∀ a, A = some a → n ≤ a.block
 else e = .returned (.tuple #[.slice none 0 0, errOf E (postE ts k B)])
theorem TBx.post (E : Nat → Addr) {n : Nat} {w : World} {tp bp : Nat} {F R G : List Nat} {ts : List TaskV} {B : BkV} (h : TBx n w tp bp F R G ts B) (k : Int) (hI : BkI B) (hs : ∀ x ∈ ts, ShS x.2.2.2.2) (hT : ErrTy w) (hG : TaskH E w) :
  Calls Tryz.prog 20 #[.pointer (some ⟨tp, 0, none⟩), .int .i64 k, .pointer (some ⟨bp, 0, none⟩)] w fun e w' => PstSays E w.heap.size ts k B e w' ∧ (∃ G', TBx n w' tp bp F R G' (postT ts k B) (postB ts k B) ∧ ∀ i ∈ G', i ∈ G ∨ w.heap.size ≤ i) ∧ ButF (bp :: F) w w' ∧ Below n w w' := by
 refine (postTask_any E h.t k h.b hI h.d hs hT hG).mono ?_
 rintro e w' ⟨he, ht, ⟨G', hg, hg'⟩, hb⟩
 have hbp : bp ∈ G := by
  obtain ⟨_, _, _, _, _, _, rfl, -, -⟩ := h.b
  exact List.mem_cons_self
 refine ⟨he, ⟨G', ⟨ht, hg, fun i hi hi' => ?_, h.f, fun i hi => ?_, Nat.le_trans h.le hb.size⟩, hg'⟩, hb, hb.below h.le fun i hi => ?_⟩
 ·rcases hg' i hi' with e | e
  ·exact h.d i hi e
  ·have := h.t.lt i hi
   omega
 ·rcases hg' i hi with e | e
  ·exact h.g i e
  ·exact Nat.le_trans h.le e
 ·rcases List.mem_cons.1 hi with rfl | hi
  ·exact h.g _ hbp
  ·exact h.f i hi
end Go.Proofs.YtchiojiicehpeaaGreatDoor
namespace Go.Proofs.YtchiojiicehpeaaGreatDoor
open Go.RowKit Go.Sort Go.Proofs
def sRye : List UInt8 := [114, 121, 101]
def sAnn : List UInt8 := [97, 110, 110]
def sBob : List UInt8 := [98, 111, 98]
def tRye (st b a : List UInt8) (s : List LineV) : List TaskV := [(sRye, st, b, a, s)]
theorem open_rye : openE [] sRye = 0 := by decide
theorem openT_rye : openT [] sRye = tRye sOpen [] [] [] := by unfold openT; rw [if_pos open_rye]; rfl
def sheetC (s : List LineV) : Option (Nat × Option Nat) := match sheetF [] s with
 |some (c, i) => some (c, some i)
 |none => none
theorem sheetC_none {s : List LineV} (h : sheetC s = none) : sheetF [] s = none := by
 unfold sheetC at h
 split at h
 ·cases h
 ·assumption
theorem alikeL_refl (s : List LineV) : alikeL s s = true := by
 unfold alikeL
 simp
theorem count_ann (s : List LineV) : countR (tRye sOpen [] [] []) 0 sAnn s = sheetC s := by
 show countE (sRye, sOpen, [], [], []) sAnn s = sheetC s
 unfold countE
 rw [if_neg (by simp), if_neg (by decide), if_neg (by decide)]
 rfl
theorem countT_ann {s : List LineV} (h : sheetC s = none) : countT (tRye sOpen [] [] []) 0 sAnn s = tRye sCounted sAnn [] s := by
 unfold countT
 rw [count_ann, if_pos h]
 rfl
theorem countT_no {ts : List TaskV} {k : Int} {b : List UInt8} {s : List LineV} (h : countR ts k b s ≠ none) : countT ts k b s = ts := by
 unfold countT
 rw [if_neg h]
theorem doubt_ann (s : List LineV) : doubtE (tRye sCounted sAnn [] s) 0 = 0 := by
 show (if sCounted ≠ sCounted ∨ ([] : List UInt8) ≠ [] then 11 else 0) = 0
 simp
theorem doubtT_ann (s : List LineV) : doubtT (tRye sCounted sAnn [] s) 0 = tRye sAgain sAnn [] s := by
 unfold doubtT
 rw [if_pos (doubt_ann s)]
 rfl
theorem count_same (s : List LineV) : countR (tRye sAgain sAnn [] s) 0 sAnn s = some (7, none) := by
 show countE (sRye, sAgain, sAnn, [], s) sAnn s = _
 unfold countE
 rw [if_neg (by show ¬ (sAgain ≠ sOpen ∧ sAgain ≠ sAgain); decide), if_neg (by decide), if_pos ⟨rfl, rfl⟩]
theorem count_bob {s : List LineV} (h : sheetC s = none) : countR (tRye sAgain sAnn [] s) 0 sBob s = none := by
 show countE (sRye, sAgain, sAnn, [], s) sBob s = _
 unfold countE
 rw [if_neg (by show ¬ (sAgain ≠ sOpen ∧ sAgain ≠ sAgain); decide), if_neg (by decide), if_neg (by show ¬ (sAgain = sAgain ∧ sBob = sAnn); decide)]
 exact h
theorem countT_bob {s : List LineV} (h : sheetC s = none) : countT (tRye sAgain sAnn [] s) 0 sBob s = tRye sCounted sAnn sBob s := by
 unfold countT
 rw [if_pos (count_bob h)]
 show [countX (sRye, sAgain, sAnn, [], s) sBob s] = _
 unfold countX
 rw [if_neg (by show ¬ sAgain = sOpen; decide), if_pos (alikeL_refl s)]
 rfl
theorem post_rye {B : BkV} {s : List LineV} {a : List UInt8} (h : postE (tRye sCounted sAnn a s) 0 B = 0) :
  postL (tRye sCounted sAnn a s) 0 B = diffL B.2.2 s ∧ allOk B (diffL B.2.2 s) ∧ diffB B s = .inl (diffL B.2.2 s) ∧ postB (tRye sCounted sAnn a s) 0 B = doAll B (diffL B.2.2 s) ∧ postT (tRye sCounted sAnn a s) 0 B = tRye sDone sAnn a s := by
 have e : postE (tRye sCounted sAnn a s) 0 B = (match diffB B s with
  |.inr (c, _) => c
  |.inl out => firstE B out) := by
  exact (show postE (tRye sCounted sAnn a s) 0 B = if sCounted ≠ sCounted then 11 else (match diffB B s with
   |.inr (c, _) => c
   |.inl out => firstE B out) from rfl).trans (if_neg (by simp))
 have e2 : postL (tRye sCounted sAnn a s) 0 B = diffL B.2.2 s := by
  unfold postL
  rw [if_neg (by omega)]
  rfl
 have ed : diffB B s = .inl (diffL B.2.2 s) ∧ allOk B (diffL B.2.2 s) := by
  rw [h] at e
  unfold diffB at e ⊢
  cases hs : sheetF [] s with
  |some f =>
   obtain ⟨c, i⟩ := f
   rw [hs] at e
   have := sheetF_ne _ _ _ _ hs
   simp only at e
   omega
  |none =>
   rw [hs] at e
   simp only at e ⊢
   cases hn : noLot B s 0 with
   |some f =>
    obtain ⟨c, i⟩ := f
    rw [hn] at e
    have := noLot_ne _ _ _ _ _ hn
    simp only at e
    omega
   |none =>
    rw [hn] at e
    simp only at e ⊢
    exact ⟨by first | rfl | trivial, (firstE_ok _ _).1 e.symm⟩
 refine ⟨e2, ed.2, ed.1, ?_, ?_⟩
 ·unfold postB
  rw [if_pos h, e2]
 ·unfold postT
  rw [if_pos h]
  rfl
theorem post_not {ts : List TaskV} {k : Int} {B : BkV} (h : postE ts k B ≠ 0) : postT ts k B = ts ∧ postB ts k B = B := by
 unfold postT postB
 rw [if_neg h, if_neg h]
 exact ⟨rfl, rfl⟩
theorem refuse_done (b a : List UInt8) (s : List LineV) : refuseE (tRye sDone b a s) 0 = 11 := by
 show (if overT (sRye, sDone, b, a, s) = true then 11 else 0) = 11
 rw [if_pos (by unfold overT; simp)]
end Go.Proofs.YtchiojiicehpeaaGreatDoor
namespace Go.Proofs.YtchiojiicehpeaaGreatDoor
open Go.RowKit Go.Sort Go.Proofs
set_option maxHeartbeats 1600000 in
set_option maxRecDepth 100000 in
theorem opened_any (E : Nat → Addr) (w : World) (hG : TaskH E w) :
  Calls Tryz.prog 9 #[] w fun e w' => e = .returned (.bool true) ∧ Below w.heap.size w w' := by
 have HG := Lib.hid (fun W (h : Below w.heap.size w W) => hG.below h)
 clear hG
 go_enter Tryz.func9, Tryz.ntmps9
 go_wp2_with fail
 refine (newTasks_any w).mono ?_
 rintro e w1 ⟨p, rfl, ht, hp, b1⟩
 have B1 := Lib.hid b1
 have HT := Lib.hid ht
 have HP := Lib.hid hp
 clear b1 ht hp
 go_wp2_with fail
 refine (openTask_any E HT.out sRye (by decide) (by decide) (HG.out w1 B1.out)).mono ?_
 rintro e w2 ⟨rfl, F', ht, hb, hF⟩
 rw [openT_rye] at ht
 rw [open_rye, if_pos rfl, errOf_zero]
 have HT2 := Lib.hid ht
 have B2 := Lib.hid (B1.out.trans (hb.below B1.out.size (by simpa using HP.out)))
 clear ht hb hF HT
 go_wp2_with fail
 refine (getTask_any HT2.out (by intro x hx; rw [List.mem_singleton.1 hx]; simp) 0).mono ?_
 rintro e w3 ⟨b3, hg⟩
 obtain ⟨A, c, rfl, -, -⟩ : ∃ A cap, e = .returned (.tuple #[.agg (encTask ((sRye, sOpen, [], [], []), A, cap)).toArray, .bool true]) ∧ RowAt encLine 5 w3 A [] ∧ ∀ a, A = some a → w2.heap.size ≤ a.block := hg
 have B3 := Lib.hid (B2.out.trans (b3.mono B2.out.size))
 have HL := Lib.hid (fun W (hb : Below w3.heap.size w3 W) => lenTasks_any ((HT2.out.below b3).below hb))
 clear b3 HT2
 simp only [encTask]
 go_wp2_with fail
 refine (HL.out _ (below_one _ _)).mono ?_
 rintro e w4 ⟨rfl, rfl⟩
 go_wp2_with fail
 go_ret
 exact ⟨rfl, B3.out.trans ((below_one _ _).mono B3.out.size)⟩
end Go.Proofs.YtchiojiicehpeaaGreatDoor
namespace Go.Proofs.YtchiojiicehpeaaGreatDoor
open Go.RowKit Go.Sort Go.Proofs
abbrev TActV := (List UInt8 × List UInt8 × List UInt8 × Int) × List LineV × Option Addr × Nat
def encTA (x : TActV) : List Value := [.string ⟨x.1.1.toArray⟩, .string ⟨x.1.2.1.toArray⟩, .string ⟨x.1.2.2.1.toArray⟩, .int .i64 x.1.2.2.2, .slice x.2.2.1 x.2.1.length x.2.2.2]
end Go.Proofs.YtchiojiicehpeaaGreatDoor
namespace Go.Proofs.YtchiojiicehpeaaGreatDoor
open Go.RowKit Go.Sort Go.Proofs
def kOpn : List UInt8 := [111, 112, 101, 110]
def kCou : List UInt8 := [99, 111, 117, 110, 116]
def kDou : List UInt8 := [100, 111, 117, 98, 116]
def kRef : List UInt8 := [114, 101, 102, 117, 115, 101]
def actT (ts : List TaskV) (B : BkV) (a : TActV) : List TaskV :=
 if a.1.1 = kOpn then openT ts a.1.2.1 else if a.1.1 = kCou then countT ts a.1.2.2.2 a.1.2.2.1 a.2.1 else if a.1.1 = kDou then doubtT ts a.1.2.2.2 else if a.1.1 = kRef then refuseT ts a.1.2.2.2 else postT ts a.1.2.2.2 B
def actB (ts : List TaskV) (B : BkV) (a : TActV) : BkV :=
 if a.1.1 = kOpn then B else if a.1.1 = kCou then B else if a.1.1 = kDou then B else if a.1.1 = kRef then B else postB ts a.1.2.2.2 B
theorem TaskI.act {ts : List TaskV} (h : TaskI ts) (B : BkV) (a : TActV) : TaskI (actT ts B a) := by
 unfold actT
 repeat' split
 ·exact h.open_ _
 ·exact h.count_ _ _ _
 ·exact h.doubt_ _
 ·exact h.refuse_ _
 ·exact h.post_ _ _
theorem BkI.act {B : BkV} (h : BkI B) (ts : List TaskV) (a : TActV) : BkI (actB ts B a) := by
 unfold actB
 repeat' split
 any_goals exact h
 unfold postB
 split
 ·exact BkI.all h _
 ·exact h
theorem set_sheets {P : List LineV → Prop} {ts : List TaskV} (h : ∀ x ∈ ts, P x.2.2.2.2) (k : Int) (f : TaskV → TaskV) (hf : ∀ x, P x.2.2.2.2 → P (f x).2.2.2.2) : ∀ x ∈ setT ts k f, P x.2.2.2.2 := fun y hy => by
 obtain ⟨i, hi, e⟩ := List.mem_iff_getElem.1 hy
 unfold setT at hi e
 rw [List.getElem_modify] at e
 rw [List.length_modify] at hi
 split at e
 ·rw [← e]
  exact hf _ (h _ (List.getElem_mem hi))
 ·rw [← e]
  exact h _ (List.getElem_mem hi)
theorem act_sheets {P : List LineV → Prop} (h0 : P []) {ts : List TaskV} (h : ∀ x ∈ ts, P x.2.2.2.2) (B : BkV) (a : TActV) (ha : P a.2.1) : ∀ x ∈ actT ts B a, P x.2.2.2.2 := by
 unfold actT
 split
 ·unfold openT
  split
  ·intro x hx
   rcases List.mem_append.1 hx with hx | hx
   ·exact h x hx
   ·rw [List.mem_singleton.1 hx]
    exact h0
  ·exact h
 split
 ·unfold countT
  split
  ·refine set_sheets h _ _ fun x hx => ?_
   show P (countX x a.1.2.2.1 a.2.1).2.2.2.2
   unfold countX
   split
   ·exact ha
   split
   ·exact hx
   ·exact ha
  ·exact h
 split
 ·unfold doubtT
  split
  ·exact set_sheets h _ _ fun x hx => hx
  ·exact h
 split
 ·unfold refuseT
  split
  ·exact set_sheets h _ _ fun x hx => hx
  ·exact h
 ·unfold postT
  split
  ·exact set_sheets h _ _ fun x hx => hx
  ·exact h
def StaysT (ts us : List TaskV) : Prop := ∀ i (hi : i < ts.length), overT ts[i] = true → ∃ h : i < us.length, us[i].2.1 = ts[i].2.1
theorem StaysT.refl (ts : List TaskV) : StaysT ts ts := fun _ hi _ => ⟨hi, rfl⟩
theorem StaysT.set {ts : List TaskV} {k : Int} {x : TaskV} (hx : atT ts k = some x) (hn : overT x = false) (f : TaskV → TaskV) : StaysT ts (setT ts k f) := fun i hi ho => by
 obtain ⟨h, e⟩ := set_over hx hn f i hi ho
 exact ⟨h, by rw [e]⟩
theorem act_stays (ts : List TaskV) (B : BkV) (a : TActV) : StaysT ts (actT ts B a) := by
 unfold actT
 split
 ·unfold openT
  split
  ·intro i hi _
   exact ⟨by rw [List.length_append]; omega, by rw [List.getElem_append_left hi]⟩
  ·exact .refl _
 split
 ·unfold countT
  split
  ·rename_i h0
   unfold countR at h0
   cases hx : atT ts a.1.2.2.2 with
   |none => rw [hx] at h0; cases h0
   |some x =>
    rw [hx] at h0
    obtain ⟨h1, -, -, -⟩ := countE_none h0
    exact .set hx (goes_over (h1.elim .inl fun e => .inr (.inr e))) _
  ·exact .refl _
 split
 ·unfold doubtT
  split
  ·rename_i h0
   unfold doubtE at h0
   cases hx : atT ts a.1.2.2.2 with
   |none => rw [hx] at h0; cases h0
   |some x =>
    rw [hx] at h0
    simp only at h0
    split at h0
    ·cases h0
    ·rename_i h1
     exact .set hx (goes_over (.inr (.inl (Classical.byContradiction fun e => h1 (.inl e))))) _
  ·exact .refl _
 split
 ·unfold refuseT
  split
  ·rename_i h0
   unfold refuseE at h0
   cases hx : atT ts a.1.2.2.2 with
   |none => rw [hx] at h0; cases h0
   |some x =>
    rw [hx] at h0
    simp only at h0
    cases ho : overT x with
    |true => rw [ho, if_pos rfl] at h0; cases h0
    |false => exact .set hx ho _
  ·exact .refl _
 ·unfold postT
  split
  ·rename_i h0
   unfold postE at h0
   cases hx : atT ts a.1.2.2.2 with
   |none => rw [hx] at h0; cases h0
   |some x =>
    rw [hx] at h0
    simp only at h0
    split at h0
    ·cases h0
    ·rename_i h1
     exact .set hx (goes_over (.inr (.inl (Classical.byContradiction fun e => h1 e)))) _
  ·exact .refl _
def overW (s : List UInt8) : Bool := decide (s = sDone ∨ s = sRefused)
def goesW (s : List UInt8) : Bool := decide (s = sOpen ∨ s = sCounted ∨ s = sAgain)
theorem goesT_W (x : TaskV) : goesT x ↔ goesW x.2.1 = true := by
 unfold goesT goesW
 simp
def longA (l : List TActV) : Bool := decide (50 < l.length) || l.any fun a => decide (30 < a.1.2.1.length) || decide (30 < a.1.2.2.1.length) || decide (0 < longS a.2.1)
theorem longA_short {l : List TActV} (h : longA l = false) : l.length ≤ 50 ∧ ∀ a ∈ l, a.1.2.1.length ≤ 30 ∧ a.1.2.2.1.length ≤ 30 ∧ longS a.2.1 = 0 := by
 unfold longA at h
 rw [Bool.or_eq_false_iff] at h
 obtain ⟨h1, h2⟩ := h
 rw [List.any_eq_false] at h2
 refine ⟨by simpa using h1, fun a ha => ?_⟩
 have := h2 a ha
 simp only [Bool.or_eq_true, decide_eq_true_eq, not_or, Nat.not_lt] at this
 omega
end Go.Proofs.YtchiojiicehpeaaGreatDoor
namespace Go.Proofs.YtchiojiicehpeaaGreatDoor
open Go.RowKit Go.Sort Go.Proofs
set_option maxHeartbeats 1600000 in
set_option maxRecDepth 100000 in
theorem longActs_any (A : Option Addr) (cap : Nat) (l : List TActV) (w : World) (hrow : RowAt encTA 5 w A l) (hsh : ∀ x ∈ l, RowAt encLine 5 w x.2.2.1 x.2.1) :
  Calls Tryz.prog 11 #[.slice A l.length cap] w fun e w' => e = .returned (.bool (longA l)) ∧ Below w.heap.size w w' := by
 have HSH := Lib.hid (fun x (hx : x ∈ l) W (hb : Below w.heap.size w W) => longSheet_any x.2.2.1 x.2.2.2 x.2.1 W ((hsh x hx).below hb))
 have HR := Lib.hid hrow
 obtain ⟨r, hr⟩ : ∃ r, r = longA l := ⟨_, rfl⟩
 rw [← hr]
 unfold longA at hr
 have HRR := Lib.hid hr
 obtain ⟨N, hN⟩ : ∃ N, N = l.length := ⟨_, rfl⟩
 have HN := Lib.hid hN
 rw [← hN] at HRR ⊢
 clear hr hrow hsh
 by_cases hm : 50 < N
 ·have HT : Hid (r = true) := by show _ = _; rw [HRR.out, decide_eq_true hm]; rfl
  have hm' : (50 : Int) < (N : Nat) := by omega
  clear hN
  go_enter Tryz.func11, Tryz.ntmps11
  go_wp2_with fail
  go_ret
  rw [HT.out]
  exact ⟨rfl, Below.refl _ _⟩
 have HT : Hid (r = l.any fun a => decide (30 < a.1.2.1.length) || decide (30 < a.1.2.2.1.length) || decide (0 < longS a.2.1)) := by show _ = _; rw [HRR.out, decide_eq_false hm]; rfl
 have HYES : Hid (∀ x ∈ l, (decide (30 < x.1.2.1.length) || decide (30 < x.1.2.2.1.length) || decide (0 < longS x.2.1)) = true → r = true) := fun x hx h => by
  rw [HT.out]
  exact List.any_eq_true.2 ⟨x, hx, h⟩
 have hm' : ¬ (50 : Int) < (N : Nat) := by omega
 have hNb : N ≤ 50 := by omega
 clear hN HRR
 go_enter Tryz.func11, Tryz.ntmps11
 go_wp2_with fail
 go_loopw [3] (fun i wr => ∃ k : Nat, k ≤ N ∧ i = .int .i64 k ∧ Hid (∀ j (h : j < l.length), j < k → (decide (30 < l[j].1.2.1.length) || decide (30 < l[j].1.2.2.1.length) || decide (0 < longS l[j].2.1)) = false) ∧ Hid (Below w.heap.size w wr)) (fun i _ => N - (intOf i).toNat)
 case atStart => exact ⟨0, by omega, rfl, fun j _ h => absurd h (Nat.not_lt_zero _), Below.refl _ _⟩
 case round =>
  obtain ⟨k, hk, rfl, HNO, HB⟩ := hrel
  by_cases hkN : k < N
  ·have hkx : k < l.length := by rw [← HN.out]; exact hkN
   obtain ⟨g, o, rfl, lg, cg⟩ := HR.out.resolve_left (fun h => by rw [h] at hkx; simp at hkx)
   obtain ⟨x, hx⟩ : ∃ x, x = l[k] := ⟨_, rfl⟩
   have HX := Lib.hid hx
   have hxm : x ∈ l := by rw [hx]; exact List.getElem_mem hkx
   have HCG : Hid (∀ W, Below w.heap.size w W → ∀ j v, (encTA x)[j]? = some v → W.cell? ⟨g, o + k * 5 + j, none⟩ = some v) := fun W hb j v hv => (hb.cell (p := ⟨g, o + k * 5 + j, none⟩) lg).trans (cg k hkx j v (by rw [← hx]; exact hv))
   have hcx := HCG.out wr HB.out
   have c1 := hcx 1 _ rfl
   have c2 := hcx 2 _ rfl
   have c4 := hcx 4 _ rfl
   have HS := Lib.hid (HSH.out x hxm wr HB.out)
   have HY := Lib.hid (HYES.out x hxm)
   have HNEXT : Hid ((decide (30 < x.1.2.1.length) || decide (30 < x.1.2.2.1.length) || decide (0 < longS x.2.1)) = false → ∀ j (h : j < l.length), j < k + 1 → (decide (30 < l[j].1.2.1.length) || decide (30 < l[j].1.2.2.1.length) || decide (0 < longS l[j].2.1)) = false) := fun hf j hj hjk => by
    by_cases e : j < k
    ·exact HNO.out j hj e
    ·obtain rfl : j = k := by omega
     rw [← HX.out]
     exact hf
   obtain ⟨⟨x1, x2, x3, x4⟩, x5, XA, xc⟩ := x
   simp only at c1 c2 c4 HS HY HNEXT
   have hls : longS x5 = 0 ∨ longS x5 = 1 := by
    unfold longS
    repeat' split
    all_goals simp
   generalize longS x5 = ls at HS HY HNEXT hls
   generalize x5.length = n5 at c4 HS
   clear hcx cg hx hxm HNO HCG
   by_cases h1 : 30 < x2.length
   ·have HT1 := Lib.hid (HY.out (by rw [decide_eq_true h1]; rfl))
    have h1' : (30 : Int) < (x2.length : Nat) := by omega
    clear h1 HY HNEXT hls
    go_wp2_with fail
    go_ret
    rw [HT1.out]
    exact ⟨rfl, HB.out⟩
   by_cases h2 : 30 < x3.length
   ·have HT1 := Lib.hid (HY.out (by rw [decide_eq_true h2, Bool.or_true]; rfl))
    have h1' : ¬ (30 : Int) < (x2.length : Nat) := by omega
    have h2' : (30 : Int) < (x3.length : Nat) := by omega
    clear h1 h2 HY HNEXT hls
    go_wp2_with fail
    go_ret
    rw [HT1.out]
    exact ⟨rfl, HB.out⟩
   have h1' : ¬ (30 : Int) < (x2.length : Nat) := by omega
   have h2' : ¬ (30 : Int) < (x3.length : Nat) := by omega
   rcases hls with rfl | rfl
   ·have HF := Lib.hid (HNEXT.out (by simp; omega))
    clear h1 h2 HY HNEXT
    go_wp2_with fail
    refine HS.out.mono ?_
    rintro e w1 ⟨rfl, b1⟩
    have B1 := Lib.hid (HB.out.trans (b1.mono HB.out.size))
    clear b1
    go_wp2_with fail
    go_roundw
    case rel => exact ⟨k + 1, by omega, by go_num, HF.out, B1.out⟩
    case measure => simp [intOf]; omega
   ·have HT1 := Lib.hid (HY.out (by simp))
    clear h1 h2 HY HNEXT
    go_wp2_with fail
    refine HS.out.mono ?_
    rintro e w1 ⟨rfl, b1⟩
    have B1 := Lib.hid (HB.out.trans (b1.mono HB.out.size))
    clear b1
    go_wp2_with fail
    go_ret
    rw [HT1.out]
    exact ⟨rfl, B1.out⟩
  ·obtain rfl : k = N := by omega
   have HT1 : Hid (r = false) := by
    show _ = _
    rw [HT.out, List.any_eq_false]
    intro x hx
    obtain ⟨i, hi, rfl⟩ := List.mem_iff_getElem.1 hx
    rw [HNO.out i hi (by rw [HN.out]; exact hi)]
    decide
   go_wp2_with fail
   go_ret
   rw [HT1.out]
   exact ⟨rfl, HB.out⟩
end Go.Proofs.YtchiojiicehpeaaGreatDoor
namespace Go.Proofs.YtchiojiicehpeaaGreatDoor
open Go.RowKit
theorem run_append_strs (w : World) (base : Nat) (v : Value) (n : Nat) (xs : List Value) (hown : w.ownsRow base 9 1 v n xs) (A : Option Addr) (c : Nat) (ys : List (List UInt8)) (hS : StrsAt w A ys) (hn : n + ys.length ≤ 1000000000) (hbase : base ≤ w.heap.size) (ty : TypeId) :
  ∃ v' w', (Builtin.append_ #[36, 36] ty #[v, .slice A ys.length c]).run Tryz.prog w = .ok v' w' ∧ w'.ownsRow base 9 1 v' (n + ys.length) (xs ++ strVals ys) ∧ w.grownBy w' v.ownBlock := by
 obtain ⟨i, hi, hz, hs1, hb1⟩ := info_parts stringInfo1
 have ht := Tryz.underlying36
 cases A with
 |none =>
  have h0 : ys = [] := by
   rcases hS with h | ⟨b, o, h, _⟩
   ·exact h
   ·cases h
  subst h0
  refine ⟨v, w, ?_, by simpa [strVals] using hown, World.grownBy.refl w _⟩
  rcases hown.2 with ⟨rfl, rfl⟩ | ⟨g, cap, cur, rfl, _, _, hnc, _⟩
  ·simp [Builtin.append_, run_underlying ht, sizeOf, typeInfo, hi, Builtin.lenOf, Builtin.firstCells]
  ·simp [Builtin.append_, run_underlying ht, sizeOf, typeInfo, hi, Builtin.lenOf, Builtin.firstCells, hnc, storeCells]
 |some ad =>
  have hc : ∀ j u, (strVals ys)[j]? = some u → w.cell? (ad.add j) = some u := by
   intro j u hj
   have hjl : j < ys.length := by simpa [strVals] using (List.getElem?_eq_some_iff.1 hj).1
   rcases hS with h | ⟨b, o, h, _, h3⟩
   ·subst h; simp at hjl
   ·cases h
    have hplain : (⟨b, o, none⟩ : Addr).add j = ⟨b, o + j, none⟩ := by unfold Addr.add; split <;> simp_all
    rw [hplain, h3 j hjl]
    simp [strVals, List.getElem?_eq_getElem hjl] at hj
    rw [← hj]
  obtain ⟨v', w', h1, h2, h3, _, _⟩ := run_append_own_at (P := Tryz.prog) w base 36 ty 9 i (.string ⟨#[]⟩) 1 16 ht hi hz hs1 hb1 rfl (by decide) v n xs hown ad ys.length c (strVals ys) (by simp [strVals]) hc (by simp [strVals, Value.oneCell']) (by unfold maxLen; omega) (by omega) hbase
  exact ⟨v', w', h1, h2, h3⟩
theorem wpList_append_strs {ops : Array Oper} {rest : List Oper} {o : Oper} {a : Act} {Q : Exit → Act → World → Prop} (w : World) (hgd : o.guard = none) (s x : Operand)
  (ho : o.op = .call { callee := .builtin .append, args := #[s, x], argTypes := #[36, 36] })
  (base : Nat) (v : Value) (n : Nat) (xs : List Value) (hs : a.eval s = v) (hown : w.ownsRow base 9 1 v n xs) (A : Option Addr) (c : Nat) (ys : List (List UInt8)) (hx : a.eval x = .slice A ys.length c) (hS : StrsAt w A ys) (hn : n + ys.length ≤ 1000000000) (hbase : base ≤ w.heap.size)
  (h : ∀ v' w', Hid (w'.ownsRow base 9 1 v' (n + ys.length) (xs ++ strVals ys)) → Below base w w' → wpList Tryz.prog ops Q rest (a.put o.dst v') w') : wpList Tryz.prog ops Q (o :: rest) a w := by
 refine wpList_plain hgd fun K hK => ?_
 obtain ⟨v', w', hr, h2, h3⟩ := run_append_strs w base v n xs hown A c ys hS hn hbase o.type
 unfold Oper.wp execOp
 simp only [ho, resolve, invoke, builtin, Sem.run_bind, Sem.run_pure, Result.andThen_ok, List.map_toArray, List.map_cons, List.map_nil, hs, hx, hr]
 exact hK _ _ (h v' w' h2 ((Below.refl base w).grown h3 hbase (fun j hj => (hown.lt j hj).1)))
theorem StrsAt.lt {w : World} {A : Option Addr} {xs : List (List UInt8)} (h : StrsAt w A xs) (hx : xs ≠ []) : ∀ a, A = some a → a.block < w.heap.size := by
 rcases h with h | ⟨b, o, h1, h2, _⟩
 ·exact absurd h hx
 ·intro a ha
  rw [h1] at ha
  cases ha
  exact h2
end Go.Proofs.YtchiojiicehpeaaGreatDoor
namespace Go.Proofs.YtchiojiicehpeaaGreatDoor
open Go.RowKit
theorem wpList_append_strs2 {ops : Array Oper} {rest : List Oper} {o : Oper} {a : Act} {Q : Exit → Act → World → Prop} (w : World) (hgd : o.guard = none) (s x : Operand)
  (ho : o.op = .call { callee := .builtin .append, args := #[s, x], argTypes := #[36, 36] })
  (base : Nat) (v : Value) (n : Nat) (xs : List Value) (hs : a.eval s = v) (hown : w.ownsRow base 9 1 v n xs) (A : Option Addr) (c : Nat) (ys : List (List UInt8)) (hx : a.eval x = .slice A ys.length c) (hS : StrsAt w A ys) (hn : n + ys.length ≤ 1000000000) (hbase : base ≤ w.heap.size)
  (h : ∀ v' w', Hid (w'.ownsRow base 9 1 v' (n + ys.length) (xs ++ strVals ys)) → w.grownBy w' v.ownBlock → wpList Tryz.prog ops Q rest (a.put o.dst v') w') : wpList Tryz.prog ops Q (o :: rest) a w := by
 refine wpList_plain hgd fun K hK => ?_
 obtain ⟨v', w', hr, h2, h3⟩ := run_append_strs w base v n xs hown A c ys hS hn hbase o.type
 unfold Oper.wp execOp
 simp only [ho, resolve, invoke, builtin, Sem.run_bind, Sem.run_pure, Result.andThen_ok, List.map_toArray, List.map_cons, List.map_nil, hs, hx, hr]
 exact hK _ _ (h v' w' h2 h3)
theorem own_new (w : World) (B : Nat) (ys : List (List UInt8)) (hB : B ≤ w.heap.size) (hl : ys.length ≤ 1000000000) : (w.alloc (.cells (strVals ys).toArray 9)).ownsRow B 9 1 (.slice (some ⟨w.heap.size, 0, none⟩) ys.length ys.length) ys.length (strVals ys) :=
 ⟨by simp [strVals], .inr ⟨w.heap.size, ys.length, _, rfl, hB, heap_alloc_new _ _, Nat.le_refl _, by unfold maxLen; omega, by simp [strVals], by simp [strVals, ← List.map_take]⟩⟩
theorem strs_new (w : World) (ys : List (List UInt8)) : StrsAt (w.alloc (.cells (strVals ys).toArray 9)) (some ⟨w.heap.size, 0, none⟩) ys :=
 .inr ⟨w.heap.size, 0, rfl, by simp, fun i hi => by
  rw [cell_of_row _ _ _ _ _ _ (heap_alloc_new _ _), Nat.zero_add]
  simp [strVals, hi]⟩
theorem own_keep {w w' : World} {B e size n : Nat} {v : Value} {xs : List Value} (h : w.ownsRow B e size v n xs) (hb : Below w.heap.size w w') : w'.ownsRow B e size v n xs := by
 refine ⟨h.1, ?_⟩
 rcases h.2 with h0 | ⟨g, cap, cur, h1, h2, h3, h4⟩
 ·exact .inl h0
 ·exact .inr ⟨g, cap, cur, h1, h2, (hb.block g (Array.getElem?_eq_some_iff.1 h3).1).trans h3, h4⟩
theorem bsz {B : Nat} {w w' : World} (h : B ≤ w.heap.size) (hb : Below B w w') : B ≤ w'.heap.size := Nat.le_trans h hb.size
theorem lt_own {w : World} {B e size g o n cap m : Nat} {xs : List Value} (h : w.ownsRow B e size (.slice (some ⟨g, o, none⟩) n cap) m xs) : g < w.heap.size := (h.lt g rfl).2
theorem below_cell {w w' : World} {a : Addr} {v : Value} (hb : Below w.heap.size w w') (h : w.cell? a = some v) : w'.cell? a = some v := (hb.cell (lt_of_cell h)).trans h
theorem join_joinL (c : UInt8) (xs : List (List UInt8)) : Lib.join xs [c] = joinL c xs := by
 induction xs with
 |nil => rfl
 |cons x r ih =>
  rw [Lib.join_cons]
  cases r with
  |nil => simp [Lib.joinTail, joinL]
  |cons y q =>
   rw [joinL_cons, ← ih, Lib.join_cons]
   simp [Lib.joinTail]
theorem joinOwn_any (c : UInt8) (B : Nat) (v : Value) (xs : List (List UInt8)) (w : World) (h : w.ownsRow B 9 1 v xs.length (strVals xs)) (hl : xs.length ≤ 1000000) (hj : (joinL c xs).length ≤ 140737488355328) :
  Calls Tryz.prog 155 #[v, .string ⟨#[c]⟩] w fun e w' => e = .returned (.string ⟨(joinL c xs).toArray⟩) ∧ Below w.heap.size w w' := by
 rcases h.2 with ⟨rfl, h0⟩ | ⟨g, cap, cur, rfl, hB, hg, hc, _, _, ht⟩
 ·obtain rfl := List.eq_nil_of_length_eq_zero h0
  exact (Tryz.strings_Join_none none 0 ⟨#[c]⟩ w).mono fun e w' hh => by
   obtain ⟨he, rfl⟩ := hh
   exact ⟨he, Below.refl _ _⟩
 ·have e : (xs.map fun x => (⟨x.toArray⟩ : ByteArray)).map (·.data.toList) = xs := by simp [Function.comp_def]
  have hgl : g < w.heap.size := by
   rcases Nat.lt_or_ge g w.heap.size with hl | hl
   ·exact hl
   ·rw [Array.getElem?_eq_none hl] at hg; cases hg
  have h := Tryz.strings_Join g 0 cap (xs.map fun x => (⟨x.toArray⟩ : ByteArray)) ⟨#[c]⟩ w (fun j x hx => ?_) hgl (by simp; omega) (by simpa using hc) (by rw [e]; show (Lib.join xs [c]).length ≤ _; rw [join_joinL]; exact hj)
  ·rw [e, List.length_map] at h
   rw [← join_joinL]
   exact h
  ·obtain ⟨hj, hx⟩ := List.getElem?_eq_some_iff.1 hx
   have hj : j < xs.length := by simpa using hj
   rw [cell_of_row _ _ _ _ _ _ hg, Nat.zero_add, ← Array.getElem?_toList, ← List.getElem?_take_of_lt (l := cur.toList) (show j < xs.length * 1 by omega), ht]
   simp only [strVals, List.getElem?_map, List.getElem?_eq_getElem hj]
   simp at hx
   simp [hx]
theorem joinLies_any (c : UInt8) (A : Option Addr) (cap : Nat) (xs : List (List UInt8)) (w : World) (h : StrsAt w A xs) (hc : xs.length ≤ cap) (hl : xs.length ≤ 1000000) (hj : (joinL c xs).length ≤ 140737488355328) :
  Calls Tryz.prog 155 #[.slice A xs.length cap, .string ⟨#[c]⟩] w fun e w' => e = .returned (.string ⟨(joinL c xs).toArray⟩) ∧ Below w.heap.size w w' := by
 rcases h with rfl | ⟨g, o, rfl, hgl, hx⟩
 ·exact (Tryz.strings_Join_none A cap ⟨#[c]⟩ w).mono fun e w' hh => by
   obtain ⟨he, rfl⟩ := hh
   exact ⟨he, Below.refl _ _⟩
 ·have e : (xs.map fun x => (⟨x.toArray⟩ : ByteArray)).map (·.data.toList) = xs := by simp [Function.comp_def]
  have h := Tryz.strings_Join g o cap (xs.map fun x => (⟨x.toArray⟩ : ByteArray)) ⟨#[c]⟩ w (fun j x hx' => ?_) hgl (by simp; omega) (by simpa using hc) (by rw [e]; show (Lib.join xs [c]).length ≤ _; rw [join_joinL]; exact hj)
  ·rw [e, List.length_map] at h
   rw [← join_joinL]
   exact h
  ·obtain ⟨hj, hx2⟩ := List.getElem?_eq_some_iff.1 hx'
   have hj : j < xs.length := by simpa using hj
   rw [hx j hj]
   simp at hx2
   simp [hx2]
end Go.Proofs.YtchiojiicehpeaaGreatDoor
