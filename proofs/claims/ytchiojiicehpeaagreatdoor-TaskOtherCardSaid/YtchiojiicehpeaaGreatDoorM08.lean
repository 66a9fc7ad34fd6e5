/- Stock: Lines. strconv.Itoa, strconv.Atoi and goods.Number as the statements need them: what was there stays as it was. Places: Text. A stock's line: its text. -/
import Derived.Lib.SmallJoins
import Derived.Lib.QuietBelow
import Derived.Lib.ItoaLen
import Derived.Test.YtchiojiicehpeaaGreatDoorM01
import Derived.Test.YtchiojiicehpeaaGreatDoorM03
import Derived.Test.YtchiojiicehpeaaGreatDoorM04
import Derived.Test.YtchiojiicehpeaaGreatDoorM05
import Derived.Test.YtchiojiicehpeaaGreatDoorM07
namespace Go.Proofs.YtchiojiicehpeaaGreatDoor
open Go.RowKit Go.Sort Go.Proofs
def lineOf (x : KeyV × Nat) : LineV := (x.1.1, x.1.2, (x.2 : Int))
def linesM (m : StkV) : List LineV := Stab.srt (ltOf cfLine) (m.map lineOf)
def InPs (m : StkV) : Prop := ∀ x ∈ m, InP x.1.1
theorem apart_m {m : StkV} (hn : (m.map (·.1)).Nodup) {x y : LineV} (hx : x ∈ m.map lineOf) (hy : y ∈ m.map lineOf) (h : cfLine x y = 0) : x = y := by
 obtain ⟨a, ha, rfl⟩ := List.mem_map.1 hx
 obtain ⟨b, hb, rfl⟩ := List.mem_map.1 hy
 obtain ⟨h1, h2⟩ := (cfLine_zero _ _).1 h
 obtain ⟨i, hi⟩ := List.mem_iff_getElem?.1 ha
 obtain ⟨j, hj⟩ := List.mem_iff_getElem?.1 hb
 have g1 := mget_at hn hi
 have g2 := mget_at hn hj
 obtain ⟨⟨p, l⟩, n⟩ := a
 obtain ⟨⟨q, k⟩, o⟩ := b
 simp only [lineOf] at h1 h2 ⊢
 subst h1 h2
 simp only at g1 g2
 rw [g1] at g2
 cases g2
 rfl
theorem lines_of {m : StkV} (hn : (m.map (·.1)).Nodup) {d : List LineV} (hp : d.Perm (m.map lineOf)) (hs : Stab.Srt (ltOf cfLine) d) : d = linesM m :=
 srt_unique (hp.trans (Stab.srt_perm _ _).symm) hs (Stab.srt_sorted likeLine.swo _) fun _ hx _ hy h1 h2 => apart_m hn (hp.mem_iff.1 hx) (hp.mem_iff.1 hy) (ltOf_both likeLine h1 h2)
theorem toW {l : List LineV} (h : ∀ x ∈ l, InP x.1) : ∃ xs : List WLine, xs.map (·.1) = l := by
 induction l with
 |nil => exact ⟨[], rfl⟩
 |cons x r ih =>
  obtain ⟨xs, hx⟩ := ih fun y hy => h y (List.mem_cons_of_mem _ hy)
  exact ⟨⟨x, h x List.mem_cons_self⟩ :: xs, congrArg (List.cons x) hx⟩
theorem flatW (xs : List WLine) : flatL encWLine xs = flatL encLine (xs.map (·.1)) := by
 unfold flatL
 rw [List.flatMap_map]
 rfl
theorem srtW {xs : List WLine} (h : Stab.Srt (ltOf cfWLine) xs) : Stab.Srt (ltOf cfLine) (xs.map (·.1)) := by
 unfold Stab.Srt at *
 rw [List.pairwise_map]
 exact h
theorem heap_new2 (w : World) (o1 o2 : Obj) : ((w.alloc o1).alloc o2).heap[w.heap.size + 1]? = some o2 := by
 have := heap_alloc_new (w.alloc o1) o2
 simpa using this
theorem rowW {w : World} {A : Option Addr} {xs : List WLine} (h : RowAt encWLine 5 w A xs) : RowAt encLine 5 w A (xs.map (·.1)) := by
 rcases h with rfl | ⟨b, o, h1, h2, h3⟩
 ·exact .inl rfl
 ·refine .inr ⟨b, o, h1, h2, fun i hi c v hv => ?_⟩
  rw [List.getElem_map] at hv
  exact h3 i (by simpa using hi) c v hv
theorem row_one {α : Type} {enc : α → List Value} {k : Nat} {w : World} {g : Nat} {t : TypeId} {x : α} (h : w.heap[g]? = some (.cells (enc x).toArray t (0, 0))) : RowAt enc k w (some ⟨g, 0, none⟩) [x] := by
 refine .inr ⟨g, 0, rfl, (Array.getElem?_eq_some_iff.1 h).1, fun i hi c v hv => ?_⟩
 obtain rfl : i = 0 := by simpa using hi
 simp only [List.getElem_cons_zero] at hv
 rw [cell_of_row w g _ _ _ _ h, Nat.zero_mul]
 simpa using hv
theorem own_turned {w w' : World} {r B e size n : Nat} {v : Value} {xs : List Value} (h : w.ownsRow B e size v n xs) (ht : Turned r w w') (hr : r < B) : w'.ownsRow B e size v n xs := by
 refine ⟨h.1, ?_⟩
 rcases h.2 with h0 | ⟨g, cap, cur, h1, h2, h3, h4⟩
 ·exact .inl h0
 ·exact .inr ⟨g, cap, cur, h1, h2, (ht.block g (by omega)).trans h3, h4⟩
def LinesEnds (m : StkV) (w : World) (e : Ending) (w' : World) : Prop :=
 ∃ A cap, e = .returned (.slice A m.length cap) ∧ RowAt encLine 5 w' A (linesM m) ∧ (∀ a, A = some a → w.heap.size ≤ a.block) ∧ Below w.heap.size w w'
set_option maxHeartbeats 800000 in
set_option maxRecDepth 100000 in
theorem linesStock_any (p b : Nat) (m : StkV) (w : World) (h : StkAt w p b m) (hP : InPs m) (hlen : m.length ≤ 100000) :
  Calls Tryz.prog 93 #[.pointer (some ⟨p, 0, none⟩)] w (LinesEnds m w) := by
 obtain ⟨i0, hi, hz0, hz1, hz2⟩ := info_parts lineInfo
 have c0 := h.cell
 have hM := h.2
 have HND := Lib.hid h.2.nodup
 have HP := Lib.hid hP
 clear h hP
 go_enter Tryz.func93, Tryz.ntmps93
 go_wp2_with (first | (at_range; refine wpList_range_map _ rfl _ 134 rfl _ _ Tryz.underlying134 b m rfl hM ?_; intro w0 hrg0 hb0 hs0) | go_in)
 go_frame
 go_loopw [3] (fun v wr => ∃ (left done : StkV), Ranging eKey eNat wr b w.heap.size m left ∧ Hid ((done ++ left).Perm m) ∧ Hid (wr.ownsRow (w.heap.size + 1) 60 5 v done.length (flatL encLine (done.map lineOf))) ∧ Below w.heap.size w wr) (fun _ wr => wr.rangeLeft b w.heap.size)
 case atStart => exact ⟨m, [], hrg0, List.Perm.refl _, World.ownsRow_nil _ _ _ _, hb0⟩
 case round =>
  obtain ⟨left, done, hrg, HPM, HO, hb⟩ := hrel
  have HB := Lib.hid hb
  have HRG := Lib.hid hrg
  clear hb
  go_wp2_with (first | (at_next; refine wpList_next_map _ rfl _ rfl b w.heap.size m left rfl hrg ?_ ?_) | go_in)
  ·intro hl0
   subst hl0
   have hp : done.Perm m := by simpa using HPM.out
   obtain ⟨xs, hxs⟩ := toW (l := done.map lineOf) (by intro x hx; obtain ⟨a, ha, rfl⟩ := List.mem_map.1 hx; exact HP.out a (hp.mem_iff.1 ha))
   have hl1 : xs.length = done.length := by have := congrArg List.length hxs; simpa using this
   have hl2 : xs.length = m.length := hl1.trans hp.length_eq
   have hnd : (done.map (·.1)).Nodup := (hp.map _).nodup_iff.2 HND.out
   have hA : Apart xs := fun x hx y hy h => Subtype.ext (apart_m hnd (hxs ▸ List.mem_map_of_mem hx) (hxs ▸ List.mem_map_of_mem hy) h)
   have own := HO.out
   rw [← hxs, ← flatW, ← hl1] at own
   have HR : ∀ A w', RowAt encWLine 5 w' A (Stab.srt (ltOf cfWLine) xs) → RowAt encLine 5 w' A (linesM m) := fun A w' h => by
    have := rowW h
    rwa [lines_of HND.out (d := (Stab.srt (ltOf cfWLine) xs).map (·.1)) (by
     refine (((Stab.srt_perm (ltOf cfWLine) xs).map (·.1)).trans ?_)
     rw [hxs]
     exact hp.map _) (srtW (Stab.srt_sorted swoWLine xs))] at this
   rcases own.2 with ⟨rfl, h0⟩ | ⟨g, cp, cur, rfl, hB, hg, _⟩
   ·have hm0 : m.length = 0 := by omega
    have HM0 := Lib.hid hm0
    have hx0 : xs = [] := List.eq_nil_of_length_eq_zero h0
    have HR0 : Hid (∀ w', RowAt encLine 5 w' none (linesM m)) := fun w' => HR none w' (by rw [hx0]; exact RowAt.nil)
    clear HR own hxs hl1 hl2 hA hnd hp HO hm0 h0 hx0
    go_wp2_with fail
    refine (sortWLine_none _).mono ?_
    rintro e w2 ⟨rfl, rfl⟩
    go_wp2_with fail
    go_ret
    exact ⟨none, 0, by rw [HM0.out]; rfl, HR0.out _, (fun a ha => by cases ha), HB.out⟩
   ·have hgl : g < wr.heap.size := (Array.getElem?_eq_some_iff.1 hg).1
    have hH : HoldsK encWLine 5 wr g 0 xs.toArray := holds_of_own encWLine_len (by decide) own
    have hso := sortWLine_any g cp xs wr (by omega) hgl hH hA
    rw [hl1] at hso
    have HSO := Lib.hid hso
    have HH := Lib.hid hH
    have HR1 := Lib.hid HR
    have HL2 := Lib.hid hl2
    have HL1 := Lib.hid hl1
    rw [hl1]
    clear hso hH HR own hxs hl1 hl2 hA hnd hp HO hg
    go_wp2_with fail
    refine HSO.out.mono ?_
    rintro e w2 ⟨rfl, S2⟩
    have H2 := Lib.hid S2
    clear S2 HSO
    go_wp2_with fail
    go_ret
    refine ⟨some ⟨g, 0, none⟩, cp, by rw [← HL2.out, HL1.out]; rfl, ?_, fun a ha => by cases ha; show _ ≤ g; omega, sort_below HB.out H2.out (by omega) HB.out.size⟩
    exact HR1.out _ _ (RowAt.of_sort encWLine_len ⟨encWLine_len, encWLine_one, HH.out, hgl⟩ H2.out (by rw [Stab.srt_length, List.size_toArray]))
  ·intro l1 a1 a2 a3 a4 n l2 w1 hl hrg1 ht1 hen
   have HO1 := Lib.hid (own_turned HO.out ht1 (Nat.lt_succ_self _))
   have B1 := Lib.hid (HB.out.trans (ht1.below (Nat.le_refl _)))
   have hln := Lib.hid (show (l1 ++ l2).length < left.length by rw [hl]; simp)
   have hd : done.length + 1 ≤ 1000000 := by
    have := HPM.out.length_eq
    rw [hl] at this
    simp at this
    omega
   have HPM1 : Hid (((done ++ [(((a1, a2, a3), a4), n)]) ++ (l1 ++ l2)).Perm m) := by
    refine List.Perm.trans ?_ HPM.out
    rw [hl]
    simp only [List.append_assoc]
    exact List.Perm.append_left _ (by rw [List.singleton_append]; exact List.perm_middle.symm)
   have hr1 := hrg1.lt
   have hr2 := hrg1.map.lt
   simp only [eKey, encKey, eNat] at hen
   clear hl ht1 hrg HPM HO
   go_wp2_with (at_builtin; refine wpList_append_rows _ rfl (.tmp 16) (.tmp 23) 33 rfl (w.heap.size + 1) 60 i0 _ 56 Tryz.underlying33 hi hz0 hz1 hz2 rfl encLine_len (by decide) encLine_one _ done.length (flatL encLine (done.map lineOf)) rfl ((HO1.out.alloc _).alloc _) (some ⟨w1.heap.size + 1, 0, none⟩) 1 [((a1, a2, a3), a4, (n : Int))] rfl (row_one (heap_new2 _ _ _)) hd (by decide) (by simp; omega) ?_; intro v3 w3 HO3 hb3)
   go_roundw
   case rel =>
    refine ⟨l1 ++ l2, done ++ [(((a1, a2, a3), a4), n)], ?_, HPM1, ?_, ?_⟩
    ·exact (hrg1.below (below_two _ _ _)).keep (hb3.block _ (by have := hM.lt; omega)) (hb3.block _ (by omega))
    ·rw [List.map_append, flatL_append, List.length_append]
     exact HO3
    ·exact (B1.out.trans ((below_two w1 _ _).mono B1.out.size)).trans (hb3.mono (by omega))
   case measure =>
    have h3 : Ranging eKey eNat w3 b w.heap.size m (l1 ++ l2) := (hrg1.below (below_two _ _ _)).keep (hb3.block _ (by have := hM.lt; omega)) (hb3.block _ (by omega))
    rw [h3.left_eq, HRG.out.left_eq]
    exact hln.out
end Go.Proofs.YtchiojiicehpeaaGreatDoor
namespace Go.Proofs.YtchiojiicehpeaaGreatDoor
open Go.RowKit
theorem below_grow (w : World) (q : Nat) (os : Array Obj) : Below w.heap.size w (Sort.grow (w.drewN q) os) :=
 ⟨rfl, rfl, rfl, by simp [Sort.grow, World.drewN], fun k hk => by simp [Sort.grow, World.drewN, Array.getElem?_append, hk]⟩
theorem itoa_any (n : Int) (h0 : -9223372036854775808 ≤ n) (h1 : n ≤ 9223372036854775807) (w : World) (hT : TabG w) :
  Calls Tryz.prog 145 #[.int .i64 n] w fun e w' => e = .returned (.string ⟨(Lib.itoa n).toArray⟩) ∧ Below w.heap.size w w' :=
 (Tryz.strconv_Itoa n h0 h1 w hT.1).mono fun e w' h => by
  obtain ⟨he, k, os, rfl⟩ := h
  exact ⟨he, below_grow _ _ _⟩
theorem atoi_ok (s : ByteArray) (hs : s.size ≤ 281474976710656) (v : Int) (h : Lib.atoiAll s.data.toList = .ok v) (w : World) :
  Calls Tryz.prog 238 #[.string s] w fun e w' => e = .returned (.tuple #[.int .i64 v, .nilIface]) ∧ Below w.heap.size w w' :=
 (Tryz.strconv_Atoi_ok s (by omega) v h w).mono fun e w' hh => by
  obtain ⟨he, hw⟩ := hh
  refine ⟨he, ?_⟩
  rcases hw with rfl | ⟨t, rfl⟩
  ·exact Below.refl _ _
  ·exact Joins.below_bytesWorld _ _ _ _ (Nat.le_refl _)
def AtoiFails (w : World) (e : Ending) (w' : World) : Prop :=
 ∃ (m : Int) (p : Addr), -9223372036854775808 ≤ m ∧ m ≤ 9223372036854775807 ∧ e = .returned (.tuple #[.int .i64 m, .iface 360 (.pointer (some p))]) ∧ Below w.heap.size w w'
theorem atoi_no (s : ByteArray) (hs : s.size ≤ 281474976710656) (h : ∀ v, Lib.atoiAll s.data.toList ≠ .ok v) (w : World) (hA : AtoiG w) :
  Calls Tryz.prog 238 #[.string s] w (AtoiFails w) := by
 obtain ⟨⟨t1, p1, h1⟩, ⟨t2, p2, h2⟩⟩ := hA
 cases hx : Lib.atoiAll s.data.toList with
 |ok v => exact absurd hx (h v)
 |_ =>
  first
  |exact (Tryz.strconv_Atoi_range s hs hx _ w h2 (Or.inr ⟨_, _, rfl⟩)).mono fun e w' hh => by
    obtain ⟨N, he, _, _, hb⟩ := hh
    exact ⟨_, _, (Lib.atoiSat_bounds _).1, (Lib.atoiSat_bounds _).2, he, hb⟩
  |exact (show Calls Tryz.prog 238 #[.string s] w fun e w' => ∃ N, e = .returned (.tuple #[.int .i64 (0), .iface 360 (.pointer (some ⟨N, 0, none⟩))]) ∧ w.heap.size ≤ N ∧ w'.heap[N]? = some (.cells #[.string ⟨#[65, 116, 111, 105]⟩, .string s, .iface t1 p1] 368 (0, 0)) ∧ Below w.heap.size w w' from Any.strconv_Atoi_syntax Tryz.laysC172 s hs hx _ w h1 (Or.inr ⟨_, _, rfl⟩)).mono fun e w' hh => by
    obtain ⟨N, he, _, _, hb⟩ := hh
    exact ⟨0, _, by omega, by omega, he, hb⟩
def NumFails (w : World) (e : Ending) (w' : World) : Prop :=
 ∃ m : Int, -9223372036854775808 ≤ m ∧ m ≤ 9223372036854775807 ∧ e = .returned (.tuple #[.int .i64 m, .bool false]) ∧ Below w.heap.size w w'
set_option maxHeartbeats 400000 in
theorem number_yes (s : ByteArray) (d n : Nat) (h : NumIs s.data.toList d n) (hd : d ≤ 100) (w : World) (hT : TabG w) :
  Calls Tryz.prog 208 #[.string s, .int .i64 d] w fun e w' => e = .returned (.tuple #[.int .i64 n, .bool true]) ∧ Below w.heap.size w w' := by
 obtain ⟨h1, h2, h3⟩ := h
 have hsz : s.size = s.data.toList.length := by rw [Array.length_toList]; rfl
 have ha := atoi_dec n h3
 rw [← h1] at ha
 have hi := itoa_nat n (by omega)
 rw [Int.toNat_natCast, ← h1] at hi
 have hs : s.size ≤ d := by omega
 have hs' : decide (s.size ≤ d) = true := by simpa using hs
 have hA := atoi_ok s (by omega) n ha w
 have HI := Lib.hid hi
 have HA := Lib.hid hA
 clear hi hA ha h1 h2 hsz
 go_enter Tryz.func208, Tryz.ntmps208
 go_wp2_with fail
 refine HA.out.mono ?_
 rintro e w1 ⟨rfl, hb⟩
 go_wp2_with fail
 refine (itoa_any n (by omega) (by omega) _ (hT.below hb)).mono ?_
 rintro e w2 ⟨rfl, hb2⟩
 go_wp2_with fail
 go_ret2
 refine ⟨?_, hb.trans (hb2.mono hb.size)⟩
 rw [HI.out]
 simp [Lib.toList_data]
set_option maxHeartbeats 400000 in
theorem number_no (s : ByteArray) (d : Nat) (hs : s.size ≤ 281474976710656) (h : ∀ n, ¬ NumIs s.data.toList d n) (_ : d ≤ 100) (w : World) (hT : TabG w) (hG : AtoiG w) :
  Calls Tryz.prog 208 #[.string s, .int .i64 d] w (NumFails w) := by
 have hsz : s.size = s.data.toList.length := by rw [Array.length_toList]; rfl
 by_cases hx : ∃ v, Lib.atoiAll s.data.toList = .ok v
 ·obtain ⟨v, hv⟩ := hx
  obtain ⟨b0, b1⟩ := Lib.atoiAll_bounds hv
  have hA := atoi_ok s hs v hv w
  have hfin : ¬ (s.size ≤ d ∧ 0 ≤ v ∧ Lib.itoa v = s.data.toList) := by
   rintro ⟨q1, q2, q3⟩
   rw [itoa_nat v q2] at q3
   exact h v.toNat ⟨q3.symm, by omega, by omega⟩
  have HA := Lib.hid hA
  have HF := Lib.hid hfin
  clear hA hfin h hv hG hsz
  by_cases hl : s.size ≤ d
  ·have hl' : decide (s.size ≤ d) = true := by simpa using hl
   by_cases hp : 0 ≤ v
   ·go_enter Tryz.func208, Tryz.ntmps208
    go_wp2_with fail
    refine HA.out.mono ?_
    rintro e w1 ⟨rfl, hb⟩
    go_wp2_with fail
    refine (itoa_any v (by omega) (by omega) _ (hT.below hb)).mono ?_
    rintro e w2 ⟨rfl, hb2⟩
    go_wp2_with fail
    go_ret2
    refine ⟨v, b0, b1, ?_, hb.trans (hb2.mono hb.size)⟩
    have : ¬ Lib.itoa v = s.data.toList := fun q => HF.out ⟨hl, hp, q⟩
    simp [this, Lib.toList_data]
   ·go_enter Tryz.func208, Tryz.ntmps208
    go_wp2_with fail
    refine HA.out.mono ?_
    rintro e w1 ⟨rfl, hb⟩
    go_wp2_with fail
    go_ret2
    exact ⟨v, b0, b1, by simp, hb⟩
  ·have hl' : decide (s.size ≤ d) = false := by simpa using hl
   go_enter Tryz.func208, Tryz.ntmps208
   go_wp2_with fail
   refine HA.out.mono ?_
   rintro e w1 ⟨rfl, hb⟩
   go_wp2_with fail
   go_ret2
   exact ⟨v, b0, b1, by simp, hb⟩
 ·have hA := atoi_no s hs (fun v hv => hx ⟨v, hv⟩) w hG
  have HA := Lib.hid hA
  clear hA h hx hG hsz
  go_enter Tryz.func208, Tryz.ntmps208
  go_wp2_with fail
  refine HA.out.mono ?_
  rintro e w1 ⟨m, p, b0, b1, rfl, hb⟩
  go_wp2_with fail
  go_ret2
  exact ⟨m, b0, b1, by simp, hb⟩
def NumEnds (l : List UInt8) (d : Nat) (w : World) (e : Ending) (w' : World) : Prop :=
 (∃ n : Nat, numQ l d = some n ∧ NumIs l d n ∧ e = .returned (.tuple #[.int .i64 n, .bool true]) ∧ Below w.heap.size w w') ∨ (numQ l d = none ∧ NumFails w e w')
theorem number_any (s : ByteArray) (d : Nat) (hs : s.size ≤ 281474976710656) (hd : d ≤ 100) (w : World) (hT : TabG w) (hG : AtoiG w) :
  Calls Tryz.prog 208 #[.string s, .int .i64 d] w (NumEnds s.data.toList d w) := by
 cases h : numQ s.data.toList d with
 |none => exact (number_no s d hs (numQ_none _ _ h) hd w hT hG).mono fun e w' hh => Or.inr ⟨h, hh⟩
 |some n =>
  have hn := (numQ_iff _ _ _).1 h
  exact (number_yes s d n hn hd w hT).mono fun e w' hh => Or.inl ⟨n, h, hn, hh⟩
end Go.Proofs.YtchiojiicehpeaaGreatDoor
namespace Go.Proofs.YtchiojiicehpeaaGreatDoor
open Go.RowKit Go.Sort Go.Proofs
def placeText (x : PlaceV) : List UInt8 := if placeE x = 0 then x.1 ++ [45] ++ Lib.itoa x.2.1 ++ [45] ++ Lib.itoa x.2.2 else []
set_option maxHeartbeats 800000 in
theorem textPlace_any (E : Nat → Addr) (x : PlaceV) (w : World) (hG : PlaceG E w) :
  Calls Tryz.prog 148 #[.agg (encPlace x).toArray] w fun e w' => e = .returned (.string ⟨(placeText x).toArray⟩) ∧ Below w.heap.size w w' := by
 have HCK := Lib.hid (fun W h => checkPlace_any E x W h)
 by_cases hE : placeE x = 0
 ·have hx := placeE_zero.1 hE
  have l1 := (nameB_len hx.1).2
  have HTX := Lib.hid (show placeText x = x.1 ++ [45] ++ Lib.itoa x.2.1 ++ [45] ++ Lib.itoa x.2.2 by unfold placeText; rw [if_pos hE])
  have HCK' := Lib.hid (show ∀ W, PlaceG E W → Calls Tryz.prog 180 #[.agg (encPlace x).toArray] W fun e w' => e = .returned .nilIface ∧ Below W.heap.size W w' from fun W h => by have := HCK.out W h; rw [hE] at this; exact this)
  obtain ⟨a1, a2, a3⟩ := x
  simp only [encPlace] at HCK' HTX ⊢
  simp only at hx l1
  obtain ⟨-, x1, x2, x3, x4⟩ := hx
  have HG := Lib.hid hG
  clear hG HCK hE
  have n2 := Lib.itoa_length_le a2 (by omega) (by omega)
  have n3 := Lib.itoa_length_le a3 (by omega) (by omega)
  have s1 : (⟨a1.toArray⟩ : ByteArray).size = a1.length := by simp [ByteArray.size]
  go_enter Tryz.func148, Tryz.ntmps148
  go_wp2_with fail
  have b0 : Below w.heap.size w (w.alloc (.cells #[.string ⟨a1.toArray⟩, .int .i64 a2, .int .i64 a3] 58)) := (Below.refl _ _).alloc (Nat.le_refl _) _
  refine (HCK'.out _ (HG.out.below b0)).mono ?_
  rintro e w1 ⟨rfl, bb1⟩
  have lw := heap_two bb1
  obtain ⟨hc, hf⟩ := bcell bb1
  have b1 := b0.trans (bb1.mono (by simp))
  have c0 : w1.cell? ⟨w.heap.size, 0, none⟩ = some (.string ⟨a1.toArray⟩) := by rw [hc _ _ (by simp)]; go_simp
  have c1 : w1.cell? ⟨w.heap.size, 1, none⟩ = some (.int .i64 a2) := by rw [hc _ _ (by simp)]; go_simp
  have c2 : w1.cell? ⟨w.heap.size, 2, none⟩ = some (.int .i64 a3) := by rw [hc _ _ (by simp)]; go_simp
  clear hc hf b0 bb1 HCK'
  go_wp2_with fail
  have hd : Below w.heap.size w w1.drew := b1.drew
  have HT := Lib.hid (show ∀ W, Below w.heap.size w W → TabG W from fun W h => (HG.out.below h).tab)
  have v1 : ¬ 9223372036854775807 < a1.length + 1 := by omega
  have v2 : ¬ 9223372036854775807 < a1.length + 1 + (Lib.itoa a2).length := by omega
  have v3 : ¬ 9223372036854775807 < a1.length + 1 + (Lib.itoa a2).length + 1 := by omega
  have v4 : ¬ 9223372036854775807 < a1.length + 1 + (Lib.itoa a2).length + 1 + (Lib.itoa a3).length := by omega
  go_region_held3 (fun w' => w'.cell? ⟨w.heap.size, 0, none⟩ = some (.string ⟨a1.toArray⟩) ∧ w'.cell? ⟨w.heap.size, 1, none⟩ = some (.int .i64 a2) ∧ w'.cell? ⟨w.heap.size, 2, none⟩ = some (.int .i64 a3) ∧ Below w.heap.size w w')
   (first | exact ⟨c0, c1, c2, hd⟩ | exact ⟨(q4.cell lw).trans c0, (q4.cell lw).trans c1, (q4.cell lw).trans c2, b4⟩ | exact ⟨(q3.cell lw).trans c0, (q3.cell lw).trans c1, (q3.cell lw).trans c2, b3⟩ | go_keep)
   (first
    |(go_at_call_of 145 (Value.int .i64 a2); refine (itoa_any a2 (by omega) (by omega) _ (HT.out _ hd)).mono ?_; rintro e w3 ⟨rfl, bb3⟩; have q3 : Below w1.heap.size w1 w3 := (Below.refl w1.heap.size w1).drew.trans bb3; have b3 := b1.trans (q3.mono b1.size))
    |(go_at_call_of 145 (Value.int .i64 a3); refine (itoa_any a3 (by omega) (by omega) _ (HT.out _ b3)).mono ?_; rintro e w4 ⟨rfl, bb4⟩; have q4 := q3.trans (bb4.mono q3.size); have b4 := b1.trans (q4.mono b1.size)))
  all_goals
   have B4 := Lib.hid b4
   clear b4 q4 q3 b3 bb3 bb4 hd b1 c0 c1 c2
   go_wp2_with fail
   go_ret
   refine ⟨?_, B4.out⟩
   rw [HTX.out]
   show Ending.returned (.string ((⟨a1.toArray⟩ : ByteArray) ++ (⟨#[45]⟩ : ByteArray) ++ (⟨(Lib.itoa a2).toArray⟩ : ByteArray) ++ (⟨#[45]⟩ : ByteArray) ++ (⟨(Lib.itoa a3).toArray⟩ : ByteArray))) = _
   rw [show (⟨#[45]⟩ : ByteArray) = ⟨[45].toArray⟩ from rfl, mk_app, mk_app, mk_app, mk_app]
 ·have HTX := Lib.hid (show placeText x = [] by unfold placeText; rw [if_neg hE])
  have HCK' := Lib.hid (show ∀ W, PlaceG E W → Calls Tryz.prog 180 #[.agg (encPlace x).toArray] W fun e w' => e = .returned (.iface 373 (.pointer (some (E (placeE x))))) ∧ Below W.heap.size W w' from fun W h => by have := HCK.out W h; rw [errOf_pos _ _ hE] at this; exact this)
  generalize placeE x = k at HCK'
  obtain ⟨a1, a2, a3⟩ := x
  simp only [encPlace] at HCK' ⊢
  have HG := Lib.hid hG
  clear hG HCK hE
  go_enter Tryz.func148, Tryz.ntmps148
  go_wp2_with fail
  have b0 : Below w.heap.size w (w.alloc (.cells #[.string ⟨a1.toArray⟩, .int .i64 a2, .int .i64 a3] 58)) := (Below.refl _ _).alloc (Nat.le_refl _) _
  refine (HCK'.out _ (HG.out.below b0)).mono ?_
  rintro e w1 ⟨rfl, bb1⟩
  have b1 := b0.trans (bb1.mono (by simp))
  clear b0 bb1
  go_wp2_with fail
  go_ret
  rw [HTX.out]
  exact ⟨rfl, b1⟩
end Go.Proofs.YtchiojiicehpeaaGreatDoor
namespace Go.Proofs.YtchiojiicehpeaaGreatDoor
open Go.RowKit Go.Sort Go.Proofs
def lineText (x : LineV) : List UInt8 := placeText x.1 ++ [32] ++ x.2.1 ++ [32] ++ Lib.itoa x.2.2
theorem placeText_len (x : PlaceV) : (placeText x).length ≤ 60 := by
 unfold placeText
 split
 ·rename_i h
  have hx := placeE_zero.1 h
  have l1 := (nameB_len hx.1).2
  have n2 := Lib.itoa_length_le x.2.1 (by omega) (by omega)
  have n3 := Lib.itoa_length_le x.2.2 (by omega) (by omega)
  simp only [List.length_append, List.length_cons, List.length_nil]
  omega
 ·simp
set_option maxHeartbeats 800000 in
theorem textLine_any (E : Nat → Addr) (x : LineV) (w : World) (hG : PlaceG E w) (hl : x.2.1.length ≤ 1000000000) (h0 : -9223372036854775808 ≤ x.2.2) (h1 : x.2.2 ≤ 9223372036854775807) :
  Calls Tryz.prog 94 #[.agg (encLine x).toArray] w fun e w' => e = .returned (.string ⟨(lineText x).toArray⟩) ∧ Below w.heap.size w w' := by
 have HP := Lib.hid (fun W h => textPlace_any E x.1 W h)
 have n1 := placeText_len x.1
 have HTX := Lib.hid (show lineText x = placeText x.1 ++ [32] ++ x.2.1 ++ [32] ++ Lib.itoa x.2.2 from rfl)
 generalize lineText x = T at HTX ⊢
 generalize placeText x.1 = t at HP n1 HTX
 obtain ⟨⟨a1, a2, a3⟩, a4, a5⟩ := x
 simp only [encPlace, encLine] at HP HTX hl h0 h1 ⊢
 have HI := Lib.hid (fun W h => itoa_any a5 h0 h1 W h)
 have n3 := Lib.itoa_length_le a5 h0 h1
 generalize Lib.itoa a5 = t5 at HI n3 HTX
 have HG := Lib.hid (fun W (h : Below w.heap.size w W) => hG.below h)
 clear hG h0 h1
 go_enter Tryz.func94, Tryz.ntmps94
 go_wp2_with fail
 have b0 : Below w.heap.size w (w.alloc (.cells #[.string ⟨a1.toArray⟩, .int .i64 a2, .int .i64 a3, .string ⟨a4.toArray⟩, .int .i64 a5] 60)) := (Below.refl _ _).alloc (Nat.le_refl _) _
 obtain ⟨W1, hW1⟩ : ∃ W1, W1 = w.alloc (.cells #[.string ⟨a1.toArray⟩, .int .i64 a2, .int .i64 a3, .string ⟨a4.toArray⟩, .int .i64 a5] 60) := ⟨_, rfl⟩
 have c0 : W1.cell? ⟨w.heap.size, 0, none⟩ = some (.string ⟨a1.toArray⟩) := by rw [hW1]; go_simp
 have c1 : W1.cell? ⟨w.heap.size, 1, none⟩ = some (.int .i64 a2) := by rw [hW1]; go_simp
 have c2 : W1.cell? ⟨w.heap.size, 2, none⟩ = some (.int .i64 a3) := by rw [hW1]; go_simp
 have c3 : W1.cell? ⟨w.heap.size, 3, none⟩ = some (.string ⟨a4.toArray⟩) := by rw [hW1]; go_simp
 have c4 : W1.cell? ⟨w.heap.size, 4, none⟩ = some (.int .i64 a5) := by rw [hW1]; go_simp
 have lw : w.heap.size < W1.heap.size := by rw [hW1]; simp
 rw [← hW1] at b0 ⊢
 clear hW1
 have hd : Below w.heap.size w W1.drew := b0.drew
 have qd : Below W1.heap.size W1 W1.drew := (Below.refl _ _).drew
 have v1 : ¬ 9223372036854775807 < t.length + 1 := by omega
 have v2 : ¬ 9223372036854775807 < t.length + 1 + a4.length := by omega
 have v3 : ¬ 9223372036854775807 < t.length + 1 + a4.length + 1 := by omega
 have v4 : ¬ 9223372036854775807 < t.length + 1 + a4.length + 1 + t5.length := by omega
 go_region_held3 (fun w' => w'.cell? ⟨w.heap.size, 0, none⟩ = some (.string ⟨a1.toArray⟩) ∧ w'.cell? ⟨w.heap.size, 1, none⟩ = some (.int .i64 a2) ∧ w'.cell? ⟨w.heap.size, 2, none⟩ = some (.int .i64 a3) ∧ w'.cell? ⟨w.heap.size, 3, none⟩ = some (.string ⟨a4.toArray⟩) ∧ w'.cell? ⟨w.heap.size, 4, none⟩ = some (.int .i64 a5) ∧ Below w.heap.size w w')
  (first | exact ⟨c0, c1, c2, c3, c4, hd⟩ | exact ⟨(q4.cell lw).trans c0, (q4.cell lw).trans c1, (q4.cell lw).trans c2, (q4.cell lw).trans c3, (q4.cell lw).trans c4, b4⟩ | exact ⟨(q3.cell lw).trans c0, (q3.cell lw).trans c1, (q3.cell lw).trans c2, (q3.cell lw).trans c3, (q3.cell lw).trans c4, b3⟩ | go_keep)
  (first
   |(go_at_call 148; refine (HP.out _ (HG.out _ hd)).mono ?_; rintro e w3 ⟨rfl, bb3⟩; have q3 : Below W1.heap.size W1 w3 := qd.trans bb3; have b3 := b0.trans (q3.mono b0.size))
   |(go_at_call 145; refine (HI.out _ (HG.out _ b3).tab).mono ?_; rintro e w4 ⟨rfl, bb4⟩; have q4 := q3.trans (bb4.mono q3.size); have b4 := b0.trans (q4.mono b0.size)))
 all_goals
  have B4 := Lib.hid b4
  clear b4 q4 q3 b3 bb3 bb4 hd b0 qd c0 c1 c2 c3 c4 HP HI HG
  go_wp2_with fail
  go_ret
  refine ⟨?_, B4.out⟩
  rw [HTX.out]
  show Ending.returned (.string ((⟨t.toArray⟩ : ByteArray) ++ (⟨#[32]⟩ : ByteArray) ++ (⟨a4.toArray⟩ : ByteArray) ++ (⟨#[32]⟩ : ByteArray) ++ (⟨t5.toArray⟩ : ByteArray))) = _
  rw [show (⟨#[32]⟩ : ByteArray) = ⟨[32].toArray⟩ from rfl, mk_app, mk_app, mk_app, mk_app]
end Go.Proofs.YtchiojiicehpeaaGreatDoor
