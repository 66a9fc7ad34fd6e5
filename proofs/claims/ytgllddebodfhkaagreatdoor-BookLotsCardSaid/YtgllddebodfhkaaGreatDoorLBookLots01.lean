/- Pieces of goods, plainly: those of their lots, and these those of the stock's lines. No program in sight. A stock's text is short. A line of a stock read: stock.ReadLine. A stock read: stock.Read. The law BookLots, walked. Printed by gen/blots.py. The twelve sentinels together. -/
import Derived.Deep.RegionHeld3
import Derived.Test.YtgllddebodfhkaaGreatDoorM01
import Derived.Test.YtgllddebodfhkaaGreatDoorM04
import Derived.Test.YtgllddebodfhkaaGreatDoorM07
import Derived.Test.YtgllddebodfhkaaGreatDoorM15
import Derived.Test.YtgllddebodfhkaaGreatDoorM16
import Derived.Test.YtgllddebodfhkaaGreatDoorM17
import Derived.Test.YtgllddebodfhkaaGreatDoorM18
import Derived.Test.YtgllddebodfhkaaGreatDoorM23
import Derived.Test.YtgllddebodfhkaaGreatDoorM39
import Derived.Test.YtgllddebodfhkaaGreatDoorM40
import Derived.Test.YtgllddebodfhkaaGreatDoorM41
import Derived.Test.YtgllddebodfhkaaGreatDoorM44
import Derived.Test.YtgllddebodfhkaaGreatDoorM45
import Derived.Test.YtgllddebodfhkaaGreatDoorM48
namespace Go.Proofs.YtgllddebodfhkaaGreatDoor
open Go.RowKit Go.Sort Go.Proofs

theorem one_sum {α : Type} (ka : α → List UInt8) (c : List UInt8) (n : Nat) : ∀ A : List α, (A.Pairwise fun a b => ka a ≠ ka b) → (∃ a ∈ A, ka a = c) → (A.map fun a => if c = ka a then n else 0).sum = n
  | [], _, h => by
    obtain ⟨a, ha, -⟩ := h
    cases ha
  | a :: r, hd, h => by
    obtain ⟨hd1, hd2⟩ := List.pairwise_cons.1 hd
    rw [List.map_cons, List.sum_cons]
    by_cases hc : c = ka a
    · rw [if_pos hc]
      have hz : ∀ q : List α, (∀ b ∈ q, c ≠ ka b) → (q.map fun a => if c = ka a then n else 0).sum = 0 := by
        intro q
        induction q with
        | nil => intro _; rfl
        | cons b q ih =>
          intro hq
          rw [List.map_cons, List.sum_cons, if_neg (hq b List.mem_cons_self), ih fun d hd => hq d (List.mem_cons_of_mem _ hd)]
      rw [hz r fun b hb => by rw [hc]; exact hd1 b hb]
      rfl
    · rw [if_neg hc, Nat.zero_add]
      refine one_sum ka c n r hd2 ?_
      obtain ⟨b, hb, e⟩ := h
      rcases List.mem_cons.1 hb with rfl | hb
      · exact absurd e.symm hc
      · exact ⟨b, hb, e⟩
/-- Counted by keys, all is counted once. -/
theorem by_keys {α β : Type} (ka : α → List UInt8) (f : β → List UInt8) (v : β → Nat) (A : List α) (hd : A.Pairwise fun a b => ka a ≠ ka b) : ∀ Y : List β, (∀ y ∈ Y, ∃ a ∈ A, ka a = f y) →
    (A.map fun a => ((Y.filter fun y => decide (f y = ka a)).map v).sum).sum = (Y.map v).sum
  | [], _ => by
    have : ∀ q : List α, (q.map fun _ => (([] : List β).map v).sum).sum = 0 := by
      intro q
      induction q with
      | nil => rfl
      | cons _ q ih => rw [List.map_cons, List.sum_cons, ih]; rfl
    exact this A
  | y :: Y, h => by
    have ih := by_keys ka f v A hd Y fun z hz => h z (List.mem_cons_of_mem _ hz)
    have h1 := one_sum ka (f y) (v y) A hd (h y List.mem_cons_self)
    rw [List.map_cons, List.sum_cons, ← ih, ← h1]
    clear ih h1 h hd
    induction A with
    | nil => rfl
    | cons a q ihq =>
      simp only [List.map_cons, List.sum_cons]
      have e : (((y :: Y).filter fun y => decide (f y = ka a)).map v).sum = (if f y = ka a then v y else 0) + ((Y.filter fun y => decide (f y = ka a)).map v).sum := by
        by_cases hc : f y = ka a
        · rw [List.filter_cons_of_pos (by simpa using hc), if_pos hc, List.map_cons, List.sum_cons]
        · rw [List.filter_cons_of_neg (by simpa using hc), if_neg hc, Nat.zero_add]
      rw [e]
      omega
/-- Pieces of goods are those of their lots. -/
def ofs (m : StkV) : List LotV → Nat
  | [] => 0
  | l :: r => ofM m l.1 + ofs m r
theorem ofs_app (m : StkV) (r : List LotV) : ∀ a : List LotV, ofs m (a ++ r) = ofs m a + ofs m r
  | [] => by simp [ofs]
  | x :: a => by
    rw [List.cons_append]
    simp only [ofs]
    rw [ofs_app m r a]
    omega
theorem ofs_take (m : StkV) (ls : List LotV) (k : Nat) (h : k < ls.length) : ofs m (ls.take (k + 1)) = ofs m (ls.take k) + ofM m ls[k].1 := by
  rw [List.take_succ_eq_append_getElem h, ofs_app]
  simp [ofs]
theorem ofs_perm (m : StkV) {a b : List LotV} (h : a.Perm b) : ofs m a = ofs m b := by
  induction h with
  | nil => rfl
  | cons x _ ih => simp only [ofs]; rw [ih]
  | swap x y l => simp only [ofs]; omega
  | trans _ _ h1 h2 => exact h1.trans h2
theorem lots_has (B : BkV) (c : List UInt8) : ofs B.2.2 (lotsB B c) = hasOf B c := by
  unfold lotsB hasOf
  rw [ofs_perm _ (Stab.srt_perm _ _)]
  generalize B.2.1.filter (fun x : LoH => decide (x.1.2.1 = c)) = l
  induction l with
  | nil => rfl
  | cons y r ih =>
    simp only [List.map_cons, ofs, List.sum_cons]
    rw [ih]
/-- All pieces: goods by goods; line by line. -/
def hass (B : BkV) : List GoS → Nat
  | [] => 0
  | g :: r => hasOf B g.1.1 + hass B r
theorem hass_app (B : BkV) (r : List GoS) : ∀ a : List GoS, hass B (a ++ r) = hass B a + hass B r
  | [] => by simp [hass]
  | x :: a => by
    rw [List.cons_append]
    simp only [hass]
    rw [hass_app B r a]
    omega
theorem hass_take (B : BkV) (ls : List GoS) (k : Nat) (h : k < ls.length) : hass B (ls.take (k + 1)) = hass B (ls.take k) + hasOf B ls[k].1.1 := by
  rw [List.take_succ_eq_append_getElem h, hass_app]
  simp [hass]
def linesN : List LineV → Int
  | [] => 0
  | x :: r => x.2.2 + linesN r
theorem linesN_app (r : List LineV) : ∀ a : List LineV, linesN (a ++ r) = linesN a + linesN r
  | [] => by simp [linesN]
  | x :: a => by
    rw [List.cons_append]
    simp only [linesN]
    rw [linesN_app r a]
    omega
theorem linesN_take (ls : List LineV) (k : Nat) (h : k < ls.length) : linesN (ls.take (k + 1)) = linesN (ls.take k) + ls[k].2.2 := by
  rw [List.take_succ_eq_append_getElem h, linesN_app]
  simp [linesN]
theorem linesN_perm {a b : List LineV} (h : a.Perm b) : linesN a = linesN b := by
  induction h with
  | nil => rfl
  | cons x _ ih => simp only [linesN]; rw [ih]
  | swap x y l => simp only [linesN]; omega
  | trans _ _ h1 h2 => exact h1.trans h2
theorem linesN_stk (m : StkV) : linesN (linesM m) = ((m.map (·.2)).sum : Nat) := by
  rw [linesN_perm (lines_perm m)]
  induction m with
  | nil => rfl
  | cons z r ih =>
    simp only [List.map_cons, linesN, List.sum_cons]
    rw [ih]
    show (z.2 : Int) + _ = _
    omega
theorem BkI.all_pieces {B : BkV} (h : BkI B) : (hass B B.1 : Int) = linesN (linesM B.2.2) := by
  rw [linesN_stk]
  refine congrArg Nat.cast ?_
  have h1 : hass B B.1 = (B.1.map fun g : GoS => hasOf B g.1.1).sum := by
    generalize B.1 = l
    induction l with
    | nil => rfl
    | cons g r ih => rw [List.map_cons, List.sum_cons, ← ih]; rfl
  rw [h1]
  have h2 := by_keys (fun g : GoS => g.1.1) (fun y : LoH => y.1.2.1) (fun y : LoH => ofM B.2.2 y.1.1) B.1 (h.gs.imp fun hlt => ltB_ne hlt) B.2.1 fun y hy => by
    obtain ⟨g, hg⟩ := Option.isSome_iff_exists.1 (h.lok y hy).2.2
    exact ⟨g, (fG_mem hg).1, (fG_mem hg).2⟩
  have h3 := by_keys (fun y : LoH => y.1.1) (fun z : KeyV × Nat => z.1.2) (fun z : KeyV × Nat => z.2) B.2.1 (h.ls.imp fun hlt => ltB_ne hlt) B.2.2 fun z hz => by
    obtain ⟨y, hy⟩ := Option.isSome_iff_exists.1 (h.known z hz)
    exact ⟨y, (fL_mem hy).1, (fL_mem hy).2⟩
  exact h2.trans h3
theorem BkI.hass_le {B : BkV} (h : BkI B) (k : Nat) : (hass B (B.1.take k) : Int) ≤ 30 * 65970697666560 * 2 := by
  have h1 : ∀ l : List GoS, (∀ g ∈ l, g ∈ B.1) → (hass B l : Int) ≤ l.length * (65970697666560 * 2) := by
    intro l
    induction l with
    | nil => intro _; show (0 : Int) ≤ _; simp
    | cons g r ih =>
      intro hm
      have h2 := ih fun z hz => hm z (List.mem_cons_of_mem _ hz)
      have h3 := h.pac g (hm g List.mem_cons_self)
      have h4 := (h.gok g (hm g List.mem_cons_self)).2
      unfold OkS mostS at h4
      simp only [hass, List.length_cons]
      omega
  have h2 := h1 (B.1.take k) fun g hg => List.mem_of_mem_take hg
  have h3 := h.gfew
  have h4 : (B.1.take k).length ≤ 30 := by rw [List.length_take]; omega
  omega
end Go.Proofs.YtgllddebodfhkaaGreatDoor
namespace Go.Proofs.YtgllddebodfhkaaGreatDoor
open Go.RowKit Go.Sort Go.Proofs

theorem itoa_short {n : Int} (k : Nat) (h0 : 0 ≤ n) (hk : 1 ≤ k) (h : n < 10 ^ k) : (Lib.itoa n).length ≤ k := by
  rw [itoa_nat _ h0]
  exact dec_len_le _ k hk (by have : ((10 ^ k : Nat) : Int) = 10 ^ k := by simp
                              omega)
theorem lineText_short {x : LineV} (h : WellL x) : (lineText x).length ≤ 40 := by
  obtain ⟨h1, h2, h3, h4⟩ := h
  obtain ⟨z1, z2, z3, z4, z5⟩ := placeE_zero.1 h1
  have n1 := (nameB_len z1).2
  have n2 := (nameB_len h2).2
  have n3 := itoa_short (n := x.1.2.1) 2 (by omega) (by omega) (by omega)
  have n4 := itoa_short (n := x.1.2.2) 2 (by omega) (by omega) (by omega)
  have n5 := itoa_short (n := x.2.2) 13 (by omega) (by omega) (by omega)
  unfold lineText placeText
  rw [if_pos h1]
  simp only [List.length_append, List.length_cons, List.length_nil]
  omega
theorem linesText_short {l : List LineV} (h : ∀ x ∈ l, WellL x) : (linesText l).length ≤ l.length * 41 := by
  induction l with
  | nil => simp [linesText]
  | cons x r ih =>
    have h1 := lineText_short (h x List.mem_cons_self)
    have h2 := ih fun y hy => h y (List.mem_cons_of_mem _ hy)
    unfold linesText at *
    simp only [List.map_cons, List.flatten_cons, List.length_append, List.length_cons, List.length_nil]
    omega
theorem StkI.short {m : StkV} (h : StkI m) : (textM m).length ≤ 8200 := by
  have h1 := linesText_short h.well.lines
  have h2 := h.well.few
  rw [linesM_len] at h1
  unfold textM
  omega
end Go.Proofs.YtgllddebodfhkaaGreatDoor
namespace Go.Proofs.YtgllddebodfhkaaGreatDoor
open Go.RowKit Go.Sort Go.Proofs

set_option maxHeartbeats 6000000 in
set_option maxRecDepth 100000 in
theorem lineRead_any (E : Nat → Addr) (s : ByteArray) (hs : s.size ≤ 1000000) (w : World) (hG : ReadG E w) :
    Calls Tryz.prog 80 #[.string s] w fun e w' => e = .returned (.tuple #[.agg (encLine (lineWords (splitL 32 (bts s))).1).toArray, errOf E (lineWords (splitL 32 (bts s))).2]) ∧ Below w.heap.size w w' := by
  have HSP := Lib.hid (fun W (h : MaxG W) => split_any s 32 W (by omega) h)
  have hle := fun x (h : x ∈ splitL 32 (bts s)) => splitL_lens h
  generalize splitL 32 (bts s) = ws at HSP hle ⊢
  rw [show (bts s).length = s.size from rfl] at hle
  have HG := Lib.hid (fun W (h : Below w.heap.size w W) => hG.below h)
  have hgT := lt_of_cell hG.text
  have hgN := lt_of_cell hG.name
  have hgB := lt_of_cell hG.bound
  simp only at hgT hgN hgB
  have b0 := below_one w (.cells #[.string ⟨#[]⟩, .int .i64 0, .int .i64 0, .string ⟨#[]⟩, .int .i64 0] 82)
  have hz0 := heap_alloc_new w (.cells #[.string ⟨#[]⟩, .int .i64 0, .int .i64 0, .string ⟨#[]⟩, .int .i64 0] 82)
  clear hG
  go_enter Tryz.func80, Tryz.ntmps80
  go_wp2_with fail
  obtain ⟨rb, hrb⟩ : ∃ rb, rb = w.heap.size := ⟨_, rfl⟩
  have HRB : Hid (w.heap.size ≤ rb) := by show _ ≤ _; omega
  rw [← hrb] at hz0 hgT hgN hgB ⊢
  generalize w.alloc (.cells #[.string ⟨#[]⟩, .int .i64 0, .int .i64 0, .string ⟨#[]⟩, .int .i64 0] 82) = W0 at b0 hz0 ⊢
  refine (HSP.out W0 (HG.out _ b0).maxl).mono ?_
  rintro e w1 ⟨A, cap, rfl, hS, -, bb1⟩
  have HZ1 := Lib.hid ((bb1.block rb (row_lt hz0)).trans hz0)
  have B1 := Lib.hid (b0.trans (bb1.mono b0.size))
  clear bb1 hz0 b0 HSP hrb
  by_cases h4 : ws.length = 3
  · obtain ⟨a, b, c, rfl⟩ := three h4
    have ha := hle a (by simp)
    have hb := hle b (by simp)
    have hcl := hle c (by simp)
    have HNU := Lib.hid (fun W h1 h2 => numb_any c 13 (by omega) (by omega) W h1 h2)
    have HNM := Lib.hid (fun W => name_wide b W)
    have HPL := Lib.hid (fun W hg => placeRead_any E ⟨a.toArray⟩ (by show a.toArray.size ≤ _; simp; omega) W hg)
    have HWI := Lib.hid (fun n W => within_any n 1 1099511627776 W)
    rw [show bts ⟨a.toArray⟩ = a from rfl] at HPL
    have HL0 := Lib.hid (fun h => lineWords_none (a := a) (b := b) (c := c) h)
    have HL1 := Lib.hid (fun n h => lineWords_some (a := a) (b := b) (c := c) (n := n) h)
    generalize placeWords (splitL 45 a) = P at HPL HL1
    generalize nameB b = nb at HNM HL1
    obtain ⟨bl, o, rfl, hl, p0, p1, p2⟩ := strs3 hS
    rw [show [a, b, c].length = 3 from rfl]
    clear hS hle h4
    go_wp2_with fail
    refine (HNU.out _ (HG.out _ B1.out).tab (HG.out _ B1.out).atoi).mono ?_
    rintro e w2 ⟨n0, rfl, hn0, b2⟩
    have B2 := Lib.hid (B1.out.trans (b2.mono B1.out.size))
    have HZ2 := Lib.hid ((b2.block rb (row_lt HZ1.out)).trans HZ1.out)
    have HN0 := Lib.hid hn0
    have up := fun (q : Addr) (v : Value) (h : w1.cell? q = some v) => (b2.cell (lt_of_cell h)).trans h
    have q0 := up _ _ p0
    have q1 := up _ _ p1
    clear up p0 p1 p2 b2 hn0 B1 HZ1 hl HNU
    cases hq : numQ c 13 with
    | none =>
      have HR := Lib.hid (HL0.out hq)
      have hg := (HG.out _ B2.out).text
      unfold ErrAt at hg
      have hne : 4 ≠ rb := by omega
      obtain ⟨⟨z0, z1, z2, z3, z4⟩, f0, f1, f2, f3, f4⟩ := row5f HZ2.out
      clear hq HL0 HL1 HN0
      go_wp2_with fail
      go_region
      all_goals
        go_wp2_with fail
        (try simp only [Exit.inBlock, Exit.then])
        refine bodyPost_ret (results_cell_row2 rfl _ _ rb 82 #[.string ⟨#[]⟩, .int .i64 0, .int .i64 0, .string ⟨#[]⟩, .int .i64 0] (0, 0) _ rfl (puts_row [.string ⟨#[]⟩, .int .i64 0, .int .i64 0, .string ⟨#[]⟩, .int .i64 0] HZ2.out rfl) Tryz.underlying82 rfl (by kernel_rfl)) rfl ?_
        rw [HR.out]
        exact ⟨rfl, (puts_below HRB.out [.string ⟨#[]⟩, .int .i64 0, .int .i64 0, .string ⟨#[]⟩, .int .i64 0] _ 0 B2.out).drew⟩
    | some n =>
      have hn := HN0.out n hq
      subst hn
      have HR := Lib.hid (HL1.out n hq)
      clear hq HL0 HL1 HN0
      go_wp2_with fail
      refine (HPL.out _ (HG.out _ B2.out)).mono ?_
      rintro e w3 ⟨rfl, b3⟩
      obtain ⟨⟨y1, y2, y3⟩, pe⟩ := P
      simp only [encPlace]
      have hz3 := (b3.block rb (row_lt HZ2.out)).trans HZ2.out
      have b3x := below_one w3 (.cells #[.string ⟨y1.toArray⟩, .int .i64 y2, .int .i64 y3] 40)
      have HX := Lib.hid (heap_alloc_new w3 (.cells #[.string ⟨y1.toArray⟩, .int .i64 y2, .int .i64 y3] 40))
      have HZ4 := Lib.hid ((b3x.block rb (row_lt hz3)).trans hz3)
      have HB4 := Lib.hid (B2.out.trans ((b3.trans (b3x.mono b3.size)).mono B2.out.size))
      have up := fun (q : Addr) (v : Value) (h : w2.cell? q = some v) => ((b3.trans (b3x.mono b3.size)).cell (lt_of_cell h)).trans h
      have k1 := up _ _ q1
      clear up q0 q1 b3 b3x hz3 HZ2 B2 HPL
      by_cases hpe : pe = 0
      · subst hpe
        rw [errOf_zero]
        go_wp2_with fail
        generalize w3.alloc (.cells #[.string ⟨y1.toArray⟩, .int .i64 y2, .int .i64 y3] 40) = w4 at *
        generalize w3.heap.size = xb at *
        refine (HNM.out _).mono ?_
        rintro e w5 ⟨rfl, b5⟩
        have HX5 := Lib.hid ((b5.block xb (row_lt HX.out)).trans HX.out)
        have HZ5 := Lib.hid ((b5.block rb (row_lt HZ4.out)).trans HZ4.out)
        have HB5 := Lib.hid (HB4.out.trans (b5.mono HB4.out.size))
        have j1 := (b5.cell (lt_of_cell k1)).trans k1
        clear b5 k1 HX HZ4 HB4
        obtain ⟨⟨z0, z1, z2, z3, z4⟩, f0, f1, f2, f3, f4⟩ := row5f HZ5.out
        cases nb with
        | false =>
          have hg := (HG.out _ HB5.out).name
          unfold ErrAt at hg
          have hne : 9 ≠ rb := by omega
          go_wp2_with fail
          go_region
          all_goals
            go_wp2_with fail
            (try simp only [Exit.inBlock, Exit.then])
            refine bodyPost_ret (results_cell_row2 rfl _ _ rb 82 #[.string ⟨#[]⟩, .int .i64 0, .int .i64 0, .string ⟨#[]⟩, .int .i64 0] (0, 0) _ rfl (puts_row [.string ⟨#[]⟩, .int .i64 0, .int .i64 0, .string ⟨#[]⟩, .int .i64 0] HZ5.out rfl) Tryz.underlying82 rfl (by kernel_rfl)) rfl ?_
            rw [HR.out, if_neg (by simp), if_pos (by simp)]
            exact ⟨rfl, (puts_below HRB.out [.string ⟨#[]⟩, .int .i64 0, .int .i64 0, .string ⟨#[]⟩, .int .i64 0] _ 0 HB5.out).drew⟩
        | true =>
          go_wp2_with fail
          refine (HWI.out _ _).mono ?_
          rintro e w6 ⟨rfl, rfl⟩
          by_cases hwi : wiB (n : Int) 1 1099511627776 = false
          · rw [hwi]
            have hg := (HG.out _ HB5.out).bound
            unfold ErrAt at hg
            have hne : 1 ≠ rb := by omega
            have HR2 := Lib.hid (HR.out.trans (by rw [if_neg (by simp), if_neg (by simp), if_pos hwi]))
            clear hwi
            go_wp2_with fail
            go_region
            all_goals
              go_wp2_with fail
              (try simp only [Exit.inBlock, Exit.then])
              refine bodyPost_ret (results_cell_row2 rfl _ _ rb 82 #[.string ⟨#[]⟩, .int .i64 0, .int .i64 0, .string ⟨#[]⟩, .int .i64 0] (0, 0) _ rfl (puts_row [.string ⟨#[]⟩, .int .i64 0, .int .i64 0, .string ⟨#[]⟩, .int .i64 0] HZ5.out rfl) Tryz.underlying82 rfl (by kernel_rfl)) rfl ?_
              rw [HR2.out]
              exact ⟨rfl, (puts_below HRB.out [.string ⟨#[]⟩, .int .i64 0, .int .i64 0, .string ⟨#[]⟩, .int .i64 0] _ 0 HB5.out).drew⟩
          · have hwt : wiB (n : Int) 1 1099511627776 = true := by simpa using hwi
            rw [hwt]
            have HR2 := Lib.hid (HR.out.trans (by rw [if_neg (by simp), if_neg (by simp), if_neg hwi]))
            obtain ⟨⟨x0, x1, x2⟩, -⟩ := row3f HX5.out
            clear hwi hwt
            go_wp2_with fail
            go_region
            all_goals
              go_wp2_with fail
              (try simp only [Exit.inBlock, Exit.then])
              refine bodyPost_ret (results_cell_row2 rfl _ _ rb 82 #[.string ⟨y1.toArray⟩, .int .i64 y2, .int .i64 y3, .string ⟨b.toArray⟩, .int .i64 (n : Int)] (0, 0) _ rfl (puts_row [.string ⟨y1.toArray⟩, .int .i64 y2, .int .i64 y3, .string ⟨b.toArray⟩, .int .i64 (n : Int)] HZ5.out rfl) Tryz.underlying82 rfl (by kernel_rfl)) rfl ?_
              rw [HR2.out]
              exact ⟨rfl, (puts_below HRB.out [.string ⟨y1.toArray⟩, .int .i64 y2, .int .i64 y3, .string ⟨b.toArray⟩, .int .i64 (n : Int)] _ 0 HB5.out).drew⟩
      · rw [errOf_pos _ _ hpe]
        go_wp2_with (refine wpList_store_box rfl 82 _ _ rfl rb [.string ⟨#[]⟩, .int .i64 0, .int .i64 0, .string ⟨#[]⟩, .int .i64 0] rfl rfl 82 [.string ⟨#[]⟩, .int .i64 0, .int .i64 0, .string ⟨#[]⟩, .int .i64 0] HZ4.out (by kernel_rfl) rfl (encLine_one zeroLine) ?_; intro wf hf tf)
        (try simp only [Exit.inBlock, Exit.then])
        refine bodyPost_ret (results_cell_row2 rfl _ _ rb 82 #[.string ⟨#[]⟩, .int .i64 0, .int .i64 0, .string ⟨#[]⟩, .int .i64 0] (0, 0) _ rfl hf Tryz.underlying82 rfl (by kernel_rfl)) rfl ?_
        rw [HR.out, if_pos (show pe ≠ 0 from hpe), errOf_pos _ _ hpe]
        exact ⟨rfl, HB4.out.trans (tf.below HRB.out)⟩
  · have HW := Lib.hid (lineWords_len h4)
    obtain ⟨n, hn⟩ : ∃ n, n = ws.length := ⟨_, rfl⟩
    rw [← hn] at h4 ⊢
    have h4' : ¬ (n : Int) = 3 := by omega
    have hg := (HG.out _ B1.out).text
    unfold ErrAt at hg
    have hne : 4 ≠ rb := by omega
    obtain ⟨⟨z0, z1, z2, z3, z4⟩, f0, f1, f2, f3, f4⟩ := row5f HZ1.out
    clear hn
    go_wp2_with fail
    go_region
    all_goals
      go_wp2_with fail
      (try simp only [Exit.inBlock, Exit.then])
      refine bodyPost_ret (results_cell_row2 rfl _ _ rb 82 #[.string ⟨#[]⟩, .int .i64 0, .int .i64 0, .string ⟨#[]⟩, .int .i64 0] (0, 0) _ rfl (puts_row [.string ⟨#[]⟩, .int .i64 0, .int .i64 0, .string ⟨#[]⟩, .int .i64 0] HZ1.out rfl) Tryz.underlying82 rfl (by kernel_rfl)) rfl ?_
      rw [HW.out]
      exact ⟨rfl, (puts_below HRB.out [.string ⟨#[]⟩, .int .i64 0, .int .i64 0, .string ⟨#[]⟩, .int .i64 0] _ 0 B1.out).drew⟩
end Go.Proofs.YtgllddebodfhkaaGreatDoor
namespace Go.Proofs.YtgllddebodfhkaaGreatDoor
open Go.RowKit Go.Sort Go.Proofs

structure RdG (E : Nat → Addr) (w : World) : Prop where
  read : ReadG E w
  stk : StkG E w
  order : ErrAt 5 (E 10) w
theorem RdG.below {E : Nat → Addr} {w w' : World} (h : RdG E w) (hb : Below w.heap.size w w') : RdG E w' := ⟨h.read.below hb, h.stk.below hb, h.order.below hb⟩

/-- What reading a stock answers, of what its pieces say. -/
def RdEnds (E : Nat → Addr) (R : (Nat × Nat) ⊕ List LineV) (w : World) (e : Ending) (w' : World) : Prop :=
  Below w.heap.size w w' ∧ match R with
  | .inl (c, i) => ∃ f, e = .returned (.tuple #[.pointer none, .iface 133 (.pointer (some ⟨f, 0, none⟩))]) ∧ w'.heap[f]? = some (.cells #[.int .i64 (i : Nat), errOf E c] 135 (0, 0))
  | .inr d => ∃ p b, e = .returned (.tuple #[.pointer (some ⟨p, 0, none⟩), .nilIface]) ∧ StkAt w' p b (toM d) ∧ w.heap.size ≤ p ∧ w.heap.size ≤ b
theorem RdEnds.fault {E : Nat → Addr} {R : (Nat × Nat) ⊕ List LineV} {w w' : World} {c i f : Nat} (hR : R = .inl (c, i)) (hb : Below w.heap.size w w') (hc : c ≠ 0) (hf : w'.heap[f]? = some (.cells #[.int .i64 (i : Nat), .iface 308 (.pointer (some (E c)))] 135 (0, 0))) :
    RdEnds E R w (.returned (.tuple #[.pointer none, .iface 133 (.pointer (some ⟨f, 0, none⟩))])) w' := by
  subst hR
  exact ⟨hb, f, rfl, by rw [errOf_pos _ _ hc]; exact hf⟩

theorem drewN_heap (w : World) (n : Nat) : (w.drewN n).heap = w.heap := rfl
set_option maxHeartbeats 4000000 in
set_option maxRecDepth 100000 in
theorem readStock_any (E : Nat → Addr) (s : List UInt8) (hs : s.length ≤ 20000) (w : World) (hG : RdG E w) :
    Calls Tryz.prog 40 #[.string ⟨s.toArray⟩] w (RdEnds E (rdGo (splitL 10 s) 0 []) w) := by
  have hbs : (⟨s.toArray⟩ : ByteArray).size = s.length := by simp [ByteArray.size]
  have HG := Lib.hid (fun W (h : Below w.heap.size w W) => hG.below h)
  have HNW := Lib.hid (newStock_any w)
  obtain ⟨R, hR⟩ : ∃ R, R = rdGo (splitL 10 s) 0 [] := ⟨_, rfl⟩
  rw [← hR]
  have HR := Lib.hid hR.symm
  clear hG hR
  go_enter Tryz.func40, Tryz.ntmps40
  go_wp2_with fail
  refine HNW.out.mono ?_
  rintro e w1 ⟨rfl, hS1, b1⟩
  have bx := below_one w1 (.cells #[.string ⟨#[]⟩, .int .i64 0, .int .i64 0, .string ⟨#[]⟩, .int .i64 0] 82)
  have HS2 := Lib.hid (hS1.below bx)
  have HL2 := Lib.hid (heap_alloc_new w1 (.cells #[.string ⟨#[]⟩, .int .i64 0, .int .i64 0, .string ⟨#[]⟩, .int .i64 0] 82))
  have HB2 := Lib.hid (b1.trans (bx.mono b1.size))
  have hlt := hS1.lt
  have hlw := b1.size
  clear hS1 b1 bx HNW
  go_wp2_with fail
  generalize w1.alloc (.cells #[.string ⟨#[]⟩, .int .i64 0, .int .i64 0, .string ⟨#[]⟩, .int .i64 0] 82) = w2 at *
  generalize w1.heap.size = lb at *
  go_loopw [0, 6] (fun t i wr => ∃ (k : Nat) (s' : List UInt8) (d : List LineV) (z : LineV), i = .int .i64 k ∧ t = .string ⟨s'.toArray⟩ ∧ s'.length + k ≤ 20000 ∧ Hid (rdGo (splitL 10 s') k d = R) ∧ Hid (d.length = k ∧ RdI d ∧ (d = [] ∨ d.getLast? = some z)) ∧ StkAt wr (w.heap.size + 1) w.heap.size (toM d) ∧ wr.heap[lb]? = some (.cells (encLine z).toArray 82 (0, 0)) ∧ Below w.heap.size w wr) (fun t _ _ => match t with | .string b => b.size | _ => 0)
  case atStart => exact ⟨0, s, [], zeroLine, rfl, rfl, hs, HR.out, ⟨rfl, RdI.nil, .inl rfl⟩, HS2.out, HL2.out, HB2.out⟩
  case round =>
    obtain ⟨k, s', d, z, rfl, rfl, hsl, HRR, HD, hS, hL, hb⟩ := hrel
    have HS := Lib.hid hS
    have HL := Lib.hid hL
    have HB := Lib.hid hb
    have hss : (⟨s'.toArray⟩ : ByteArray).size = s'.length := by simp [ByteArray.size]
    clear hS hL hb HS2 HL2 HB2
    by_cases h0 : s' = []
    · subst h0
      go_wp2_with fail
      go_ret2
      have h1 := HRR.out
      rw [show splitL 10 [] = [[]] from rfl, rdGo, if_pos rfl] at h1
      rw [← h1]
      exact ⟨HB.out, _, _, rfl, HS.out, by omega, by omega⟩
    · have HC := Lib.hid (fun m W h => Tryz.strings_Cut ⟨s'.toArray⟩ ⟨#[10]⟩ m W (by rw [hss]; omega) h)
      have he : s'.isEmpty = false := by simpa using h0
      obtain ⟨mx, hmx⟩ := (HG.out _ HB.out).read.maxl
      have HC := Lib.hid (HC.out mx wr hmx)
      rcases cut_cases s' 10 with ⟨hno, hc⟩ | ⟨a, c, hac, hno, hc⟩
      · have e1 : Lib.cut (⟨s'.toArray⟩ : ByteArray).data.toList (⟨#[10]⟩ : ByteArray).data.toList = (s', [], false) := hc
        rw [e1] at HC
        have HRB := Lib.hid (show R = .inl (1, k) by rw [← HRR.out, splitL_none hno, rdGo, if_neg h0])
        have HLR := Lib.hid (fun W h => lineRead_any E ⟨s'.toArray⟩ (by rw [hss]; omega) W h)
        generalize lineWords (splitL 32 (bts ⟨s'.toArray⟩)) = r at HLR
        clear hc e1 hno hmx h0
        go_wp2_with fail
        refine HC.out.mono ?_
        rintro e w3 ⟨rfl, j, rfl⟩
        have B3 := Lib.hid (below_drewN HB.out j)
        go_wp2_with fail
        refine (HLR.out _ (HG.out _ B3.out).read).mono ?_
        rintro e w4 ⟨rfl, b4⟩
        obtain ⟨⟨⟨q1, q2, q3⟩, q4, q5⟩, rc⟩ := r
        simp only [encLine]
        have bx := below_one w4 (.cells #[.string ⟨q1.toArray⟩, .int .i64 q2, .int .i64 q3, .string ⟨q4.toArray⟩, .int .i64 q5] 82)
        have B5 := Lib.hid (B3.out.trans ((b4.trans (bx.mono b4.size)).mono B3.out.size))
        have hg := (HG.out _ B5.out).read.text
        unfold ErrAt at hg
        clear b4 bx HC HLR he
        go_wp2_with fail
        go_ret2
        exact RdEnds.fault HRB.out (B5.out.alloc B5.out.size _) (by omega) (heap_new2 _ _ _)
      · have e1 : Lib.cut (⟨s'.toArray⟩ : ByteArray).data.toList (⟨#[10]⟩ : ByteArray).data.toList = (a, c, true) := hc
        rw [e1] at HC
        have hlen : s'.length = a.length + 1 + c.length := by rw [hac]; simp; omega
        have HLR := Lib.hid (fun W h => lineRead_any E ⟨a.toArray⟩ (by show a.toArray.size ≤ _; simp; omega) W h)
        rw [show bts ⟨a.toArray⟩ = a from rfl] at HLR
        have HSP := Lib.hid (show splitL 10 s' = a :: splitL 10 c by rw [hac, splitL_at a c hno])
        have HNE := Lib.hid (splitL_ne 10 c)
        have HBAD := Lib.hid (fun h : rdE d a ≠ 0 => show R = .inl (rdE d a, k) by rw [← HRR.out, HSP.out, rdGo_bad HNE.out h])
        have HOK := Lib.hid (fun h : rdE d a = 0 => show rdGo (splitL 10 c) (k + 1) (d ++ [(lineWords (splitL 32 a)).1]) = R by rw [← HRR.out, HSP.out, rdGo_ok HNE.out h])
        have HRE := Lib.hid (show rdE d a = if (lineWords (splitL 32 a)).2 ≠ 0 then (lineWords (splitL 32 a)).2
          else if (match d.getLast? with | some z => !ltOf cfLine z (lineWords (splitL 32 a)).1 | none => false) = true then 10
          else putE (toM d) (lineWords (splitL 32 a)).1.1 (lineWords (splitL 32 a)).1.2.1 (lineWords (splitL 32 a)).1.2.2 from rfl)
        clear hc e1 hno hmx h0 hac
        go_wp2_with fail
        refine HC.out.mono ?_
        rintro e w3 ⟨rfl, j, rfl⟩
        have B3 := Lib.hid (below_drewN HB.out j)
        go_wp2_with fail
        refine (HLR.out _ (HG.out _ B3.out).read).mono ?_
        rintro e w4 ⟨rfl, b4⟩
        have HWL := Lib.hid (fun h => lineWords_ok (ws := splitL 32 a) h)
        generalize lineWords (splitL 32 a) = r at HRE HOK HWL ⊢
        obtain ⟨⟨⟨q1, q2, q3⟩, q4, q5⟩, rc⟩ := r
        simp only [encLine]
        have bx := below_one w4 (.cells #[.string ⟨q1.toArray⟩, .int .i64 q2, .int .i64 q3, .string ⟨q4.toArray⟩, .int .i64 q5] 82)
        have B5 := Lib.hid (B3.out.trans ((b4.trans (bx.mono b4.size)).mono B3.out.size))
        have hb35 := b4.trans (bx.mono b4.size)
        have HS5 := Lib.hid ((HS.out.below (below_drewN (Below.refl _ _) j)).below hb35)
        have HL5 := Lib.hid ((hb35.block lb (row_lt HL.out)).trans HL.out)
        have HX5 := Lib.hid (heap_alloc_new w4 (.cells #[.string ⟨q1.toArray⟩, .int .i64 q2, .int .i64 q3, .string ⟨q4.toArray⟩, .int .i64 q5] 82))
        have hlx : w.heap.size ≤ wr.heap.size := HB.out.size
        have hlx2 : wr.heap.size ≤ w4.heap.size := b4.size
        have hll := row_lt HL.out
        clear b4 bx hb35 HC HLR he HSP HNE
        by_cases hr : rc = 0
        · subst hr
          rw [errOf_zero]
          have hW := HWL.out rfl
          by_cases hk : d = []
          · have hki : ¬ (0 : Int) < (k : Int) := by have := HD.out.1; rw [hk] at this; simp at this; omega
            have HRE2 := Lib.hid (HRE.out.trans (by rw [if_neg (by simp), if_neg (by rw [hk]; simp)]))
            have HKN := Lib.hid hk
            obtain ⟨⟨x0, x1, x2, x3, x4⟩, -⟩ := row5f HX5.out
            clear hk
            go_wp2_with fail
            generalize w4.alloc (.cells #[.string ⟨q1.toArray⟩, .int .i64 q2, .int .i64 q3, .string ⟨q4.toArray⟩, .int .i64 q5] 82) = w5 at *
            generalize w4.heap.size = lx at *
            have HPT := Lib.hid (putStock_any E (w.heap.size + 1) w.heap.size (toM d) (q1, q2, q3) q4 q5 w5 (HS5.out) (HD.out.2.1.inv.few q4) (HG.out _ B5.out).stk)
            simp only [encPlace] at HPT
            have HX0 := Lib.hid (fun hp => HD.out.2.1.next (x := ((q1, q2, q3), q4, q5)) (fun y hy => by rw [HKN.out] at hy; cases hy) hp)
            refine HPT.out.mono ?_
            rintro e w7 ⟨rfl, hS7, t7⟩
            have B7 := Lib.hid (t7.below B5.out (Nat.le_refl _) B5.out.size)
            have HX7 := Lib.hid ((t7.block lx (row_lt HX5.out) (by omega)).trans HX5.out)
            have HL7 := Lib.hid ((t7.block lb (row_lt HL5.out) (by omega)).trans HL5.out)
            obtain ⟨⟨x0, x1, x2, x3, x4⟩, -⟩ := row5f HX7.out
            have HS7 := Lib.hid hS7
            clear hS7 t7 HPT
            generalize putE (toM d) (q1, q2, q3) q4 q5 = pe at *
            by_cases hp0 : pe = 0
            · subst hp0
              rw [errOf_zero]
              obtain ⟨hI8, hM8⟩ := HX0.out rfl
              have HI8 := Lib.hid hI8
              have HM8 := Lib.hid hM8
              have HK8 := Lib.hid (HOK.out (HRE2.out))
              clear hI8 hM8
              go_wp2_with (refine wpList_store_box rfl 82 _ _ rfl lb [.string ⟨q1.toArray⟩, .int .i64 q2, .int .i64 q3, .string ⟨q4.toArray⟩, .int .i64 q5] rfl rfl 82 (encLine z) HL7.out (by kernel_rfl) rfl (encLine_one ((q1, q2, q3), q4, q5)) ?_; intro wf hf tf)
              have hbf := B7.out.trans (tf.below (show w.heap.size ≤ lb by omega))
              have hSf := HS7.out.keep (tf.block _ (by omega)) (tf.block _ (by omega))
              go_roundw
              case rel =>
                refine ⟨k + 1, c, d ++ [((q1, q2, q3), q4, q5)], ((q1, q2, q3), q4, q5), by go_num, rfl, by omega, HK8.out, ⟨by rw [List.length_append, HD.out.1]; rfl, HI8.out, .inr (by simp)⟩, ?_, hf, hbf⟩
                rw [HM8.out]
                exact hSf
              case measure =>
                show (⟨c.toArray⟩ : ByteArray).size < (⟨s'.toArray⟩ : ByteArray).size
                simp [ByteArray.size]
                omega
            · rw [errOf_pos _ _ hp0]
              have HBD := Lib.hid (show R = .inl (pe, k) by have h : rdE d a = pe := HRE2.out; rw [← h]; exact HBAD.out (by rw [h]; exact hp0))
              go_wp2_with fail
              go_ret2
              exact RdEnds.fault HBD.out (B7.out.alloc B7.out.size _) hp0 (heap_alloc_new _ _)
          · have hzl := HD.out.2.2.resolve_left hk
            have hk0 : 0 < k := by
              have := HD.out.1
              cases d with
              | nil => exact absurd rfl hk
              | cons y r => simp at this; omega
            have hki : (0 : Int) < (k : Int) := by omega
            have hzm : z ∈ d := List.mem_of_getLast? hzl
            have hzp : InP z.1 := by
              have h1 := HD.out.2.1.inv.well.well ((z.1, z.2.1), z.2.2.toNat) (List.mem_map.2 ⟨z, hzm, rfl⟩)
              exact InP.of h1.1
            have HCM := Lib.hid (fun W => (cmpLine_any z ((q1, q2, q3), q4, q5) hzp (InP.of hW.1) W).mono fun e w' (h : e = .returned (.int .i64 (cfLine z ((q1, q2, q3), q4, q5))) ∧ ∃ q os', w' = grow (W.drewN q) os') => (show e = .returned (.int .i64 (cfLine z ((q1, q2, q3), q4, q5))) ∧ Below W.heap.size W w' from ⟨h.1, by obtain ⟨q, os, rfl⟩ := h.2; exact below_grown W q os⟩))
            have HLT := Lib.hid (show ltOf cfLine z ((q1, q2, q3), q4, q5) = decide (cfLine z ((q1, q2, q3), q4, q5) < 0) from rfl)
            have HZL := Lib.hid hzl
            have HRE1 : Hid (rdE d a = if ltOf cfLine z ((q1, q2, q3), q4, q5) = false then 10 else putE (toM d) (q1, q2, q3) q4 q5) := by
              refine HRE.out.trans ?_
              rw [if_neg (by simp), HZL.out]
              show (if (!ltOf cfLine z ((q1, q2, q3), q4, q5)) = true then 10 else putE (toM d) (q1, q2, q3) q4 q5) = _
              cases ltOf cfLine z ((q1, q2, q3), q4, q5) <;> rfl
            generalize cfLine z ((q1, q2, q3), q4, q5) = cz at HCM HLT
            clear hk hzl hzm hzp HRE
            obtain ⟨⟨z1, z2, z3⟩, z4, z5⟩ := z
            simp only [encLine] at HCM HL5
            obtain ⟨⟨y0, y1, y2, y3, y4⟩, -⟩ := row5f HL5.out
            obtain ⟨⟨x0, x1, x2, x3, x4⟩, -⟩ := row5f HX5.out
            go_wp2_with fail
            generalize w4.alloc (.cells #[.string ⟨q1.toArray⟩, .int .i64 q2, .int .i64 q3, .string ⟨q4.toArray⟩, .int .i64 q5] 82) = w5 at *
            generalize w4.heap.size = lx at *
            refine (HCM.out _).mono ?_
            rintro e w6 ⟨rfl, b6⟩
            have B6 := Lib.hid (B5.out.trans (b6.mono B5.out.size))
            have HS6 := Lib.hid (HS5.out.below b6)
            have HL6 := Lib.hid (at_b b6 HL5.out (row_lt HL5.out))
            have HX6 := Lib.hid (at_b b6 HX5.out (row_lt HX5.out))
            clear b6 B5 HS5 HL5 HX5 y0 y1 y2 y3 y4 x0 x1 x2 x3 x4 HCM
            obtain ⟨⟨x0, x1, x2, x3, x4⟩, -⟩ := row5f HX6.out
            by_cases hcz : 0 ≤ cz
            · have hlf : ltOf cfLine ((z1, z2, z3), z4, z5) ((q1, q2, q3), q4, q5) = false := by rw [HLT.out]; simpa using hcz
              have HBD := Lib.hid (show R = .inl (10, k) by have h : rdE d a = 10 := HRE1.out.trans (if_pos hlf); rw [← h]; exact HBAD.out (by rw [h]; decide))
              have hg := (HG.out _ B6.out).order
              unfold ErrAt at hg
              clear hlf
              go_wp2_with fail
              go_ret2
              exact RdEnds.fault HBD.out (B6.out.alloc B6.out.size _) (by decide) (heap_alloc_new _ _)
            · have hlf : ltOf cfLine ((z1, z2, z3), z4, z5) ((q1, q2, q3), q4, q5) = true := by rw [HLT.out]; simpa using hcz
              have HRE2 := Lib.hid (HRE1.out.trans (if_neg (by rw [hlf]; simp)))
              have HLF := Lib.hid hlf
              clear hlf
              go_wp2_with fail
              have HPT := Lib.hid (putStock_any E (w.heap.size + 1) w.heap.size (toM d) (q1, q2, q3) q4 q5 w6 (HS6.out) (HD.out.2.1.inv.few q4) (HG.out _ B6.out).stk)
              simp only [encPlace] at HPT
              have HX0 := Lib.hid (fun hp => HD.out.2.1.next (x := ((q1, q2, q3), q4, q5)) (fun y hy => by have h := HZL.out; rw [hy] at h; injection h with h; rw [h]; exact HLF.out) hp)
              refine HPT.out.mono ?_
              rintro e w7 ⟨rfl, hS7, t7⟩
              have B7 := Lib.hid (t7.below B6.out (Nat.le_refl _) B6.out.size)
              have HX7 := Lib.hid ((t7.block lx (row_lt HX6.out) (by omega)).trans HX6.out)
              have HL7 := Lib.hid ((t7.block lb (row_lt HL6.out) (by omega)).trans HL6.out)
              obtain ⟨⟨x0, x1, x2, x3, x4⟩, -⟩ := row5f HX7.out
              have HS7 := Lib.hid hS7
              clear hS7 t7 HPT
              generalize putE (toM d) (q1, q2, q3) q4 q5 = pe at *
              by_cases hp0 : pe = 0
              · subst hp0
                rw [errOf_zero]
                obtain ⟨hI8, hM8⟩ := HX0.out rfl
                have HI8 := Lib.hid hI8
                have HM8 := Lib.hid hM8
                have HK8 := Lib.hid (HOK.out (HRE2.out))
                clear hI8 hM8
                go_wp2_with (refine wpList_store_box rfl 82 _ _ rfl lb [.string ⟨q1.toArray⟩, .int .i64 q2, .int .i64 q3, .string ⟨q4.toArray⟩, .int .i64 q5] rfl rfl 82 (encLine ((z1, z2, z3), z4, z5)) HL7.out (by kernel_rfl) rfl (encLine_one ((q1, q2, q3), q4, q5)) ?_; intro wf hf tf)
                have hbf := B7.out.trans (tf.below (show w.heap.size ≤ lb by omega))
                have hSf := HS7.out.keep (tf.block _ (by omega)) (tf.block _ (by omega))
                go_roundw
                case rel =>
                  refine ⟨k + 1, c, d ++ [((q1, q2, q3), q4, q5)], ((q1, q2, q3), q4, q5), by go_num, rfl, by omega, HK8.out, ⟨by rw [List.length_append, HD.out.1]; rfl, HI8.out, .inr (by simp)⟩, ?_, hf, hbf⟩
                  rw [HM8.out]
                  exact hSf
                case measure =>
                  show (⟨c.toArray⟩ : ByteArray).size < (⟨s'.toArray⟩ : ByteArray).size
                  simp [ByteArray.size]
                  omega
              · rw [errOf_pos _ _ hp0]
                have HBD := Lib.hid (show R = .inl (pe, k) by have h : rdE d a = pe := HRE2.out; rw [← h]; exact HBAD.out (by rw [h]; exact hp0))
                go_wp2_with fail
                go_ret2
                exact RdEnds.fault HBD.out (B7.out.alloc B7.out.size _) hp0 (heap_alloc_new _ _)
        · rw [errOf_pos _ _ hr]
          have HBD := Lib.hid (show R = .inl (rc, k) by have h : rdE d a = rc := HRE.out.trans (if_pos hr); rw [← h]; exact HBAD.out (by rw [h]; exact hr))
          go_wp2_with fail
          go_ret2
          exact RdEnds.fault HBD.out (B5.out.alloc B5.out.size _) hr (heap_new2 _ _ _)
end Go.Proofs.YtgllddebodfhkaaGreatDoor
namespace Go.Proofs.YtgllddebodfhkaaGreatDoor
open Go.RowKit Go.Sort Go.Proofs

theorem toM_perm (m : StkV) : (toM (linesM m)).Perm m := by
  have := (lines_perm m).map fun x : LineV => (((x.1, x.2.1), x.2.2.toNat) : KeyV × Nat)
  rw [List.map_map] at this
  refine List.Perm.trans this ?_
  rw [show ((fun x : LineV => (((x.1, x.2.1), x.2.2.toNat) : KeyV × Nat)) ∘ lineOf) = id from funext fun x => by obtain ⟨⟨p, l⟩, n⟩ := x; simp [lineOf], List.map_id]
theorem strs_one {w : World} {b : Nat} {s : List UInt8} {t : TypeId} (h : w.heap[b]? = some (.cells #[.string ⟨s.toArray⟩] t (0, 0))) : StrsAt w (some ⟨b, 0, none⟩) [s] := by
  refine .inr ⟨b, 0, rfl, row_lt h, fun i hi => ?_⟩
  obtain rfl : i = 0 := by simpa using hi
  exact cell_of_row _ _ _ _ _ _ h

set_option maxHeartbeats 1600000 in
set_option maxRecDepth 100000 in
theorem bookLots_out (E : Nat → Addr) (A0 : Option Addr) (cap0 : Nat) (xs0 : List EntV) (w : World) (hG : BkG E w) (hX0 : RowAt encEnt 14 w A0 xs0) (h : longL xs0 40 = 1) :
    Calls Tryz.prog 7 #[.slice A0 xs0.length cap0] w fun e w' => e = .returned (.bool true) ∧ Below w.heap.size w w' := by
  have HC := Lib.hid (started_any E w hG)
  have HL := Lib.hid (fun W (hb : Below w.heap.size w W) => longEntries_any A0 cap0 xs0 40 W (by decide) (hX0.below hb))
  rw [h] at HL
  clear hG hX0 h
  go_enter Tryz.func7, Tryz.ntmps7
  go_wp2_with fail
  refine HC.out.mono ?_
  rintro e w1 ⟨rfl, b1⟩
  have B1 := Lib.hid b1
  clear b1
  go_wp2_with fail
  refine (HL.out w1 B1.out).mono ?_
  rintro e w2 ⟨rfl, b2⟩
  have B2 := Lib.hid (B1.out.trans (b2.mono B1.out.size))
  clear b2
  go_wp2_with fail
  go_ret
  exact ⟨rfl, B2.out⟩
set_option maxHeartbeats 6400000 in
set_option maxRecDepth 100000 in
theorem bookLots_in (E : Nat → Addr) (A0 : Option Addr) (cap0 : Nat) (xs0 : List EntV) (w : World) (hG : BkG E w) (hE : ErrG E w) (hR : RdG E w) (hX0 : RowAt encEnt 14 w A0 xs0) (h : longL xs0 40 = 0) :
    Calls Tryz.prog 7 #[.slice A0 xs0.length cap0] w fun e w' => e = .returned (.bool true) ∧ Below w.heap.size w w' := by
  have HC := Lib.hid (started_any E w hG)
  have HL := Lib.hid (fun W (hb : Below w.heap.size w W) => longEntries_any A0 cap0 xs0 40 W (by decide) (hX0.below hb))
  rw [h] at HL
  obtain ⟨s1, s2⟩ := longL_short h
  have hsh : ∀ x ∈ xs0, ShortE x := fun x hx => longN_ShortE (s2 x hx)
  have HBO := Lib.hid (fun W (hb : Below w.heap.size w W) => bookOf_any E A0 cap0 xs0 W (hX0.below hb) (by omega) hsh (hG.below hb) (hE.below hb))
  have hI := BkI.all BkI.nil xs0
  generalize doAll bk0 xs0 = B at HBO hI
  have HG := Lib.hid (fun W (hb : Below w.heap.size w W) => show PlaceG E W from ⟨(hG.below hb).stk.place.name, (hG.below hb).stk.place.bound, (hR.below hb).read.tab⟩)
  have HSK := Lib.hid (fun p F W (H : BookIs W p F B) => stockBk_any H)
  have HLI := Lib.hid (fun q c W (h : StkP W q c B.2.2) => linesStock_P hI.stk W h)
  have HGD := Lib.hid (fun p F W (H : BookIs W p F B) => goodsBk_any H hI)
  have HLO := Lib.hid (fun p F W (H : BookIs W p F B) c => lotsBk_any H hI c)
  have HLT := Lib.hid (fun p F W (H : BookIs W p F B) id => lotBk_any H id)
  have HHA := Lib.hid (fun p F W (H : BookIs W p F B) c => hasBk_any H hI c (hI.has_most c))
  have HHB := Lib.hid (fun c => hI.has_most c)
  have HOF := Lib.hid (fun q c W (h : StkP W q c B.2.2) id => ofStock_P hI.stk id W h)
  have HAT := Lib.hid (fun q c W (h : StkP W q c B.2.2) pl lot => atStock_P hI.stk pl lot W h)
  have HTX := Lib.hid (fun q c W (hb : Below w.heap.size w W) (h : StkP W q c B.2.2) => textStk_P E hI.stk W h (HG.out W hb))
  obtain ⟨hrd1, hrd2⟩ := hI.stk.read
  have HRD := Lib.hid (fun W (hb : Below w.heap.size w W) => readStock_any E (textM B.2.2) (by have := hI.stk.short; omega) W (hR.below hb))
  rw [hrd1] at HRD
  have HTT := Lib.hid (fun p b W (hb : Below w.heap.size w W) (h : StkAt W p b (toM (linesM B.2.2))) => textStock_any E p b _ W h (hI.stk.perm (toM_perm B.2.2).symm).well (HG.out W hb))
  rw [hrd2] at HTT
  have HLH := Lib.hid (lots_has B)
  have HOT := Lib.hid (ofs_take B.2.2)
  have HGT := Lib.hid (hass_take B B.1)
  have HGL := Lib.hid hI.hass_le
  have HLP := Lib.hid hI.all_pieces
  have HNT := Lib.hid (linesN_take (linesM B.2.2))
  have HL60 := Lib.hid hI.lots60
  have HFW := Lib.hid hI.stk.few
  have HLN : Hid (∀ x ∈ linesM B.2.2, 1 ≤ x.2.2 ∧ x.2.2 ≤ 1099511627776 ∧ (atM B.2.2 (x.1, x.2.1) : Int) = x.2.2 ∧ (lotsF B x.2.1).isSome = true) := fun x hx => by
    have h1 := hI.stk.well.lines x hx
    obtain ⟨a, ha, e⟩ := mem_lines.1 hx
    have h2 := hI.known a ha
    have h3 := at_lines hI.stk.nodup x.1 x.2.1
    refine ⟨h1.2.2.1, h1.2.2.2, ?_, ?_⟩
    · obtain ⟨⟨⟨p, l⟩, n⟩, ha2, rfl⟩ := mem_lines.1 hx
      have := (mem_mget hI.stk.nodup).1 ha2
      show (atM B.2.2 (p, l) : Int) = (n : Int)
      unfold atM
      rw [this]
      rfl
    · unfold lotsF
      rw [Option.isSome_map, ← e]
      exact h2
  have HNN : Hid (∀ k, 0 ≤ linesN ((linesM B.2.2).take k) ∧ linesN ((linesM B.2.2).take k) ≤ linesN (linesM B.2.2)) := fun k => by
    have hz : ∀ l : List LineV, (∀ x ∈ l, 1 ≤ x.2.2) → 0 ≤ linesN l := by
      intro l
      induction l with
      | nil => intro _; exact Int.le_refl _
      | cons x r ih =>
        intro hl
        have h1 := hl x List.mem_cons_self
        have h2 := ih fun y hy => hl y (List.mem_cons_of_mem _ hy)
        simp only [linesN]
        omega
    have h1 := hz _ fun x hx => (HLN.out x (List.mem_of_mem_take (i := k) hx)).1
    have h2 := hz _ fun x hx => (HLN.out x (List.mem_of_mem_drop (i := k) hx)).1
    have h3 := linesN_app ((linesM B.2.2).drop k) ((linesM B.2.2).take k)
    rw [List.take_append_drop] at h3
    omega
  obtain ⟨TX, hTX⟩ : ∃ TX, TX = textM B.2.2 := ⟨_, rfl⟩
  rw [← hTX] at HTX HRD HTT
  obtain ⟨LS, hLS⟩ : ∃ LS, LS = linesM B.2.2 := ⟨_, rfl⟩
  rw [← hLS] at HLI HRD HTT HNT HLN HNN HLP
  have hls : LS.length = B.2.2.length := by rw [hLS]; exact linesM_len _
  obtain ⟨NG, hNG⟩ : ∃ N, N = B.1.length := ⟨_, rfl⟩
  obtain ⟨NS, hNS⟩ : ∃ N, N = LS.length := ⟨_, rfl⟩
  have HNG := Lib.hid hNG
  have HNS := Lib.hid hNS
  rw [← hNG] at HGD
  rw [← hls, ← hNS] at HLI
  have hg30 : NG ≤ 30 := by rw [hNG]; exact hI.gfew
  have hs200 : NS ≤ 200 := by rw [hNS, hls]; exact hI.stk.well.few
  have hall : (hass B B.1 : Int) ≤ 30 * 65970697666560 * 2 := by
    have h := HGL.out B.1.length
    rw [List.take_length] at h
    exact h
  have HALL := Lib.hid hall
  clear hG hE hR hX0 h s1 s2 hsh hI hrd1 hrd2 hTX hLS hls hNG hNS hall
  go_enter Tryz.func7, Tryz.ntmps7
  go_wp2_with fail
  refine HC.out.mono ?_
  rintro e w1 ⟨rfl, b1⟩
  have B1 := Lib.hid b1
  clear b1 HC
  go_wp2_with fail
  refine (HL.out w1 B1.out).mono ?_
  rintro e w2 ⟨rfl, b2⟩
  have B2 := Lib.hid (B1.out.trans (b2.mono B1.out.size))
  clear b2 HL B1
  go_wp2_with fail
  refine (HBO.out w2 B2.out).mono ?_
  rintro e w3 ⟨p, q, rfl, hbo, b3⟩
  have B3 := Lib.hid (B2.out.trans (b3.mono B2.out.size))
  obtain ⟨F, G, R, hbk, -, -, -, -⟩ := hbo
  have HBK := Lib.hid (fun W (h : Below w3.heap.size w3 W) => hbk.below h)
  clear b3 HBO B2 hbk
  go_wp2_with fail
  refine (HSK.out p F w3 (HBK.out w3 (Below.refl _ _))).mono ?_
  rintro e w4 ⟨qs, cs, rfl, -, -, hs4, b4⟩
  have K4 := Lib.hid b4
  have HST := Lib.hid (fun W (h : Below w4.heap.size w4 W) => hs4.below h)
  clear b4 hs4 HSK
  go_wp2_with fail
  refine (HLI.out qs cs w4 (HST.out w4 (Below.refl _ _))).mono ?_
  rintro e w5 ⟨A5, c5, rfl, hr5, -, b5⟩
  have K5 := Lib.hid (K4.out.trans (b5.mono K4.out.size))
  have J5 := Lib.hid b5
  have HR5 := Lib.hid (fun W (h : Below w5.heap.size w5 W) => hr5.below h)
  clear b5 hr5 HLI K4
  go_wp2_with fail
  refine (HGD.out p F w5 (HBK.out w5 K5.out)).mono ?_
  rintro e w6 ⟨A6, c6, rfl, hr6, -, b6⟩
  have K6 := Lib.hid (K5.out.trans (b6.mono K5.out.size))
  have J6 := Lib.hid (J5.out.trans (b6.mono J5.out.size))
  have HR56 := Lib.hid (fun W (h : Below w6.heap.size w6 W) => HR5.out W (b6.trans (h.mono b6.size)))
  have HR6 := Lib.hid (fun W (h : Below w6.heap.size w6 W) => hr6.below h)
  have HST6 := Lib.hid (fun W (h : Below w6.heap.size w6 W) => HST.out W (J6.out.trans (h.mono J6.out.size)))
  have HBK6 := Lib.hid (fun W (h : Below w6.heap.size w6 W) => HBK.out W (K6.out.trans (h.mono K6.out.size)))
  have B6 := Lib.hid (B3.out.trans (K6.out.mono B3.out.size))
  clear b6 hr6 HGD K5 J5 HR5 K6 J6 HST HBK B3
  go_wp2_with fail
  go_loopw [9, 11] (fun a i wr => ∃ k : Nat, k ≤ NG ∧ i = .int .i64 k ∧ a = .int .i64 (hass B (B.1.take k) : Nat) ∧ Hid (Below w6.heap.size w6 wr)) (fun _ i _ => NG - (intOf i).toNat)
  case atStart => exact ⟨0, by omega, rfl, rfl, Below.refl _ _⟩
  case round =>
    obtain ⟨k, hk, rfl, rfl, HB⟩ := hrel
    obtain ⟨wo, rfl⟩ : ∃ wo : World, wo = wr := ⟨_, rfl⟩
    by_cases hkN : k < NG
    · have hkx : k < B.1.length := by rw [← HNG.out]; exact hkN
      have hkm : k < (B.1.map (·.1)).length := by rw [List.length_map]; exact hkx
      obtain ⟨g, o, rfl, lg, cg⟩ := HR6.out w6 (Below.refl _ _) |>.resolve_left (fun h => by rw [h] at hkm; simp at hkm)
      obtain ⟨x, hx⟩ : ∃ x, x = B.1[k] := ⟨_, rfl⟩
      have HCG : Hid (∀ W, Below w6.heap.size w6 W → W.cell? ⟨g, o + k * 2, none⟩ = some (.string ⟨x.1.1.toArray⟩)) := fun W hb => (hb.cell (p := ⟨g, o + k * 2, none⟩) lg).trans (cg k hkm 0 _ (by rw [List.getElem_map, ← hx]; rfl))
      have hgt := HGT.out k hkx
      rw [← hx] at hgt
      have hgl := HGL.out (k + 1)
      rw [hgt] at hgl
      have HGT1 := Lib.hid hgt
      have c0 := HCG.out wo HB.out
      have hlo := HLO.out p F wo (HBK6.out wo HB.out) x.1.1
      have hlh := HLH.out x.1.1
      have hl60 := HL60.out x.1.1
      have hha := HHA.out p F
      have HHAX := Lib.hid (fun W H => hha W H x.1.1)
      have hhb := HHB.out x.1.1
      generalize hass B (B.1.take k) = sk at HGT1 hgl ⊢
      generalize hasOf B x.1.1 = hx1 at HGT1 hgl hlh HHAX hhb
      generalize lotsB B x.1.1 = LL at hlo hlh hl60
      have HLO1 := Lib.hid hlo
      have HLH1 := Lib.hid hlh
      have HOT1 := Lib.hid (HOT.out LL)
      obtain ⟨NL, hNL⟩ : ∃ NL, NL = LL.length := ⟨_, rfl⟩
      have HNL := Lib.hid hNL
      rw [← hNL] at HLO1 hl60
      have hk0 : (0 : Int) ≤ (k : Nat) := by omega
      have hk1 : ((k : Nat) : Int) < (NG : Nat) := by omega
      have HFE : Hid (∀ j, ofs B.2.2 (LL.take j) ≤ j * 1099511627776) := fun j => by
        have : ∀ l : List LotV, ofs B.2.2 l ≤ l.length * 1099511627776 := by
          intro l
          induction l with
          | nil => exact Nat.le_refl _
          | cons y r ih =>
            have := HFW.out y.1
            simp only [ofs, List.length_cons]
            omega
        have h1 := this (LL.take j)
        have h2 : (LL.take j).length ≤ j := by rw [List.length_take]; omega
        exact Nat.le_trans h1 (Nat.mul_le_mul_right _ h2)
      clear hx cg lg hgt hlo hlh hha hNL
      go_wp2_with fail
      refine HLO1.out.mono ?_
      rintro e w8 ⟨A8, c8, rfl, hr8, -, b8⟩
      have HB8 := Lib.hid (HB.out.trans (b8.mono HB.out.size))
      have HR8 := Lib.hid (fun W (h : Below w8.heap.size w8 W) => hr8.below h)
      clear b8 hr8 HLO1 c0 HB
      go_wp2_with fail
      go_loopw [12, 14] (fun a i wr => ∃ j : Nat, j ≤ NL ∧ i = .int .i64 j ∧ a = .int .i64 (ofs B.2.2 (LL.take j) : Nat) ∧ Hid (Below w8.heap.size w8 wr)) (fun _ i _ => NL - (intOf i).toNat)
      case atStart => exact ⟨0, by omega, rfl, rfl, Below.refl _ _⟩
      case round =>
        obtain ⟨j, hj, rfl, rfl, HBJ⟩ := hrel
        obtain ⟨wj, hwj⟩ : ∃ wj : World, wj = wr := ⟨_, rfl⟩
        rw [← hwj] at HBJ ⊢
        clear hwj
        have hbj := HB8.out.trans (HBJ.out.mono HB8.out.size)
        have hfe := HFE.out j
        by_cases hjN : j < NL
        · have hjx : j < LL.length := by rw [← HNL.out]; exact hjN
          obtain ⟨gl, ol, rfl, lgl, cgl⟩ := HR8.out wj HBJ.out |>.resolve_left (fun h => by rw [h] at hjx; simp at hjx)
          obtain ⟨y, hy⟩ : ∃ y, y = LL[j] := ⟨_, rfl⟩
          have c1 : wj.cell? ⟨gl, ol + j * 4, none⟩ = some (.string ⟨y.1.toArray⟩) := cgl j hjx 0 _ (by rw [← hy]; rfl)
          have hot := HOT1.out j hjx
          rw [← hy] at hot
          have hof := HOF.out qs cs wj (HST6.out wj hbj) y.1
          have hfw := HFW.out y.1
          generalize ofM B.2.2 y.1 = oy at hot hof hfw
          have HOF1 := Lib.hid hof
          have HOT2 := Lib.hid hot
          generalize ofs B.2.2 (LL.take j) = sj at HOT2 hfe ⊢
          have hj0 : (0 : Int) ≤ (j : Nat) := by omega
          have hj1 : ((j : Nat) : Int) < (NL : Nat) := by omega
          clear hy hot hof cgl lgl hbj
          go_wp2_with fail
          refine HOF1.out.mono ?_
          rintro e w9 ⟨rfl, b9⟩
          have HB9 := Lib.hid (HBJ.out.trans (b9.mono HBJ.out.size))
          clear b9 HOF1
          go_wp2_with fail
          go_roundw
          case rel => exact ⟨j + 1, by omega, by go_num, by rw [HOT2.out]; simp, HB9.out⟩
          case measure => simp [intOf]; omega
        · obtain rfl : j = NL := by omega
          have hT : LL.take j = LL := List.take_of_length_le (by rw [← HNL.out]; exact Nat.le_refl _)
          rw [hT, HLH1.out]
          have c0 := HCG.out wj hbj
          have HHA1 := Lib.hid (HHAX.out wj (HBK6.out wj hbj))
          have HB10 := Lib.hid hbj
          clear hT hfe hbj HHAX
          go_wp2_with fail
          refine HHA1.out.mono ?_
          rintro e w11 ⟨rfl, b11⟩
          have HB11 := Lib.hid (HB10.out.trans (b11.mono HB10.out.size))
          clear b11 HHA1 c0
          go_wp2_with fail
          go_roundw
          case rel => exact ⟨k + 1, by omega, by go_num, by rw [HGT1.out]; simp, HB11.out⟩
          case measure => simp [intOf]; omega
    · obtain rfl : k = NG := by omega
      have hT : B.1.take k = B.1 := List.take_of_length_le (by rw [← HNG.out]; exact Nat.le_refl _)
      have hall := HALL.out
      have hlp := HLP.out
      rw [hT, show ((hass B B.1 : Nat) : Int) = linesN LS - linesN (LS.take 0) by rw [hlp]; simp [linesN]]
      rw [hlp] at hall
      obtain ⟨wq, hwq⟩ : ∃ wq : World, wq = wo := ⟨_, rfl⟩
      rw [← hwq] at HB ⊢
      clear hT hlp hwq HR6
      go_wp2_with fail
      go_loopw [9, 15] (fun a i wr => ∃ m : Nat, m ≤ NS ∧ i = .int .i64 m ∧ a = .int .i64 (linesN LS - linesN (LS.take m)) ∧ Hid (Below w6.heap.size w6 wr)) (fun _ i _ => NS - (intOf i).toNat)
      case atStart => exact ⟨0, by omega, rfl, rfl, HB.out⟩
      case round =>
        obtain ⟨i, hi, rfl, rfl, HBI⟩ := hrel
        obtain ⟨wi, hwi⟩ : ∃ wi : World, wi = wr := ⟨_, rfl⟩
        rw [← hwi] at HBI ⊢
        clear hwi
        obtain ⟨n0, n1⟩ := HNN.out i
        by_cases hiN : i < NS
        · have hix : i < LS.length := by rw [← HNS.out]; exact hiN
          obtain ⟨gl, ol, rfl, lgl, cgl⟩ := HR56.out w6 (Below.refl _ _) |>.resolve_left (fun h => by rw [h] at hix; simp at hix)
          obtain ⟨x, hx⟩ : ∃ x, x = LS[i] := ⟨_, rfl⟩
          obtain ⟨x5a, x5b, hatx, hlx⟩ := HLN.out x (by rw [hx]; exact List.getElem_mem hix)
          have hnt := HNT.out i hix
          rw [← hx] at hnt
          have hnn := HNN.out (i + 1)
          rw [hnt] at hnn
          have HNT1 := Lib.hid hnt
          have hcx : ∀ W, Below w6.heap.size w6 W → ∀ c v, (encLine x)[c]? = some v → W.cell? ⟨gl, ol + i * 5 + c, none⟩ = some v := fun W hb c v hv => (hb.cell (p := ⟨gl, ol + i * 5 + c, none⟩) lgl).trans (cgl i hix c v (by rw [← hx]; exact hv))
          obtain ⟨⟨x1, x2, x3⟩, x4, x5⟩ := x
          have HUP : Hid (∀ W, Below w6.heap.size w6 W → W.cell? ⟨gl, ol + i * 5, none⟩ = some (.string ⟨x1.toArray⟩) ∧ W.cell? ⟨gl, ol + i * 5 + 1, none⟩ = some (.int .i64 x2) ∧ W.cell? ⟨gl, ol + i * 5 + 2, none⟩ = some (.int .i64 x3) ∧ W.cell? ⟨gl, ol + i * 5 + 3, none⟩ = some (.string ⟨x4.toArray⟩) ∧ W.cell? ⟨gl, ol + i * 5 + 4, none⟩ = some (.int .i64 x5)) := fun W hb => by
            have h := hcx W hb
            exact ⟨h 0 _ rfl, h 1 _ rfl, h 2 _ rfl, h 3 _ rfl, h 4 _ rfl⟩
          obtain ⟨-, -, -, c3, c4⟩ := HUP.out wi HBI.out
          obtain ⟨l, hl⟩ := Option.isSome_iff_exists.1 hlx
          have hl := (show lotsF B x4 = some l from hl)
          have hlt := HLT.out p F wi (HBK6.out wi HBI.out) x4
          rw [hl] at hlt
          simp only [Option.getD_some, Option.isSome_some] at hlt
          have h4 : (encLot l).length = 4 := rfl
          have HZ1 := Lib.hid (encLot_one l)
          generalize encLot l = LZ at h4 HZ1 hlt
          have HLT1 := Lib.hid hlt
          have hat2 := (show (atM B.2.2 ((x1, x2, x3), x4) : Int) = x5 from hatx)
          have HATX := Lib.hid (fun W (h : Below w6.heap.size w6 W) => HAT.out qs cs W (HST6.out W h) (x1, x2, x3) x4)
          generalize atM B.2.2 ((x1, x2, x3), x4) = av at hat2 HATX
          simp only at x5a x5b hnn
          generalize linesN (LS.take i) = si at HNT1 n0 n1 hnn ⊢
          generalize linesN LS = st at n1 hall hnn ⊢
          have hi0 : (0 : Int) ≤ (i : Nat) := by omega
          have hi1 : ((i : Nat) : Int) < (NS : Nat) := by omega
          have hx51 : ¬ x5 < 1 := by omega
          have hx52 : decide (x5 < 1) = false := decide_eq_false hx51
          have hav : ((av : Nat) : Int) = x5 := hat2
          simp only [encPlace] at HATX
          clear hx hcx cgl lgl hl hlt hnt hatx hlx hat2
          go_wp2_with fail
          refine HLT1.out.mono ?_
          rintro e w9 ⟨rfl, b9⟩
          have hba := below_one w9 (.cells #[.string ⟨#[]⟩, .string ⟨#[]⟩, .int .i64 0, .int .i64 0] 47)
          go_upto_region 28 with (refine wpList_store_box rfl 47 _ _ rfl w9.heap.size LZ rfl rfl _ [.string ⟨#[]⟩, .string ⟨#[]⟩, .int .i64 0, .int .i64 0] (heap_alloc_new w9 _) (by rw [h4]; kernel_rfl) (by rw [h4]; rfl) HZ1.out ?_; intro w10 h10 tu10)
          have HB10 := Lib.hid (HBI.out.trans ((b9.trans ((hba.trans (tu10.below (Nat.le_refl _))).mono b9.size)).mono HBI.out.size))
          have hdd := HB10.out.drew
          have HAV := Lib.hid hav
          rw [hav] at HATX
          clear hba tu10 h10 b9 HLT1 c3 c4 hav
          go_wp2_with fail
          go_region_held3 (fun W => W.cell? ⟨gl, ol + i * 5, none⟩ = some (.string ⟨x1.toArray⟩) ∧ W.cell? ⟨gl, ol + i * 5 + 1, none⟩ = some (.int .i64 x2) ∧ W.cell? ⟨gl, ol + i * 5 + 2, none⟩ = some (.int .i64 x3) ∧ W.cell? ⟨gl, ol + i * 5 + 3, none⟩ = some (.string ⟨x4.toArray⟩) ∧ W.cell? ⟨gl, ol + i * 5 + 4, none⟩ = some (.int .i64 x5))
            (first | exact HUP.out _ hdd | exact HUP.out _ k1 | go_keep)
            (first | (go_at_call 39; refine (HATX.out _ hdd).mono ?_; rintro e v1 ⟨rfl, bb1⟩; have k1 := hdd.trans (bb1.mono hdd.size)))
          all_goals
            have BX := Lib.hid k1
            clear k1 bb1 hdd HUP HATX
            go_wp2_with fail
            go_roundw
            case rel => exact ⟨i + 1, by omega, by go_num, by rw [HNT1.out]; congr 1; omega, BX.out⟩
            case measure => simp [intOf]; omega
        · obtain rfl : i = NS := by omega
          have hT : LS.take i = LS := List.take_of_length_le (by rw [← HNS.out]; exact Nat.le_refl _)
          rw [hT, Int.sub_self]
          have hbw := B6.out.trans (HBI.out.mono B6.out.size)
          have HTX1 := Lib.hid (HTX.out qs cs wi hbw (HST6.out wi HBI.out))
          have BW := Lib.hid hbw
          clear hT n0 n1 hbw hall
          go_wp2_with fail
          refine HTX1.out.mono ?_
          rintro e w9 ⟨rfl, b9⟩
          have B9 := Lib.hid (BW.out.trans (b9.mono BW.out.size))
          have HB9 := Lib.hid (HBI.out.trans (b9.mono HBI.out.size))
          have HRD1 := Lib.hid (HRD.out w9 B9.out)
          clear b9 HTX1 HRD
          go_wp2_with fail
          refine HRD1.out.mono ?_
          rintro e w10 ⟨b10, pt, bt, rfl, hst, -, -⟩
          have B10 := Lib.hid (B9.out.trans (b10.mono B9.out.size))
          have HB10 := Lib.hid (HB9.out.trans (b10.mono HB9.out.size))
          have HTT1 := Lib.hid (HTT.out pt bt w10 B10.out hst)
          clear b10 hst HRD1 HTT
          go_wp2_with fail
          refine HTT1.out.mono ?_
          rintro e w11 ⟨rfl, b11⟩
          have B11 := Lib.hid (B10.out.trans (b11.mono B10.out.size))
          have HB11 := Lib.hid (HB10.out.trans (b11.mono HB10.out.size))
          have ba := below_one w11 (.cells #[.string ⟨TX.toArray⟩] 9)
          have ha := heap_alloc_new w11 (.cells #[.string ⟨TX.toArray⟩] 9)
          have HTX2 := Lib.hid (HTX.out qs cs _ (B11.out.trans (ba.mono B11.out.size)) (HST6.out _ (HB11.out.trans (ba.mono HB11.out.size))))
          have HA := Lib.hid ha
          have BA := Lib.hid (B11.out.trans (ba.mono B11.out.size))
          clear b11 ba ha HTT1 HTX
          go_wp2_with fail
          refine HTX2.out.mono ?_
          rintro e w12 ⟨rfl, b12⟩
          have B12 := Lib.hid (BA.out.trans (b12.mono BA.out.size))
          have hr12 := (b12.block _ (row_lt HA.out)).trans HA.out
          have ba := below_one w12 (.cells #[.string ⟨TX.toArray⟩] 9)
          have hs1 := strs_one ((ba.block _ (row_lt hr12)).trans hr12)
          have hs2 := strs_one (heap_alloc_new w12 (.cells #[.string ⟨TX.toArray⟩] 9))
          have HSM := Lib.hid (sameTexts_any _ _ 1 1 [TX] [TX] _ hs1 hs2 (by simp))
          have B13 := Lib.hid (B12.out.trans (ba.mono B12.out.size))
          clear b12 hr12 ba hs1 hs2 HTX2
          go_wp2_with fail
          refine HSM.out.mono ?_
          rintro e w13 ⟨rfl, b13⟩
          have B14 := Lib.hid (B13.out.trans (b13.mono B13.out.size))
          clear b13 HSM
          go_wp2_with fail
          go_ret
          exact ⟨by simp, B14.out⟩
theorem bookLots_walk (E : Nat → Addr) (A0 : Option Addr) (cap0 : Nat) (xs0 : List EntV) (w : World) (hG : BkG E w) (hE : ErrG E w) (hR : RdG E w) (hX0 : RowAt encEnt 14 w A0 xs0) :
    Calls Tryz.prog 7 #[.slice A0 xs0.length cap0] w fun e w' => e = .returned (.bool true) ∧ Below w.heap.size w w' := by
  rcases longL_01 xs0 40 with h | h
  · exact bookLots_in E A0 cap0 xs0 w hG hE hR hX0 h
  · exact bookLots_out E A0 cap0 xs0 w hG hX0 h
end Go.Proofs.YtgllddebodfhkaaGreatDoor
namespace Go.Proofs.YtgllddebodfhkaaGreatDoor
open Go.RowKit

/-- The number of a sentinel, by its text. -/
def textNo (l : List UInt8) : Nat :=
  if l = [116, 105, 116, 104, 101, 98, 97, 114, 110, 58, 32, 116, 101, 120, 116] then 1 else
  if l = [116, 105, 116, 104, 101, 98, 97, 114, 110, 58, 32, 98, 111, 117, 110, 100] then 2 else
  if l = [116, 105, 116, 104, 101, 98, 97, 114, 110, 58, 32, 115, 104, 97, 112, 101] then 3 else
  if l = [116, 105, 116, 104, 101, 98, 97, 114, 110, 58, 32, 107, 105, 110, 100] then 4 else
  if l = [116, 105, 116, 104, 101, 98, 97, 114, 110, 58, 32, 110, 97, 109, 101] then 5 else
  if l = [116, 105, 116, 104, 101, 98, 97, 114, 110, 58, 32, 110, 111, 110, 101] then 6 else
  if l = [116, 105, 116, 104, 101, 98, 97, 114, 110, 58, 32, 101, 120, 105, 115, 116] then 7 else
  if l = [116, 105, 116, 104, 101, 98, 97, 114, 110, 58, 32, 102, 117, 108, 108] then 8 else
  if l = [116, 105, 116, 104, 101, 98, 97, 114, 110, 58, 32, 115, 104, 111, 114, 116] then 9 else
  if l = [116, 105, 116, 104, 101, 98, 97, 114, 110, 58, 32, 111, 114, 100, 101, 114] then 10 else
  if l = [116, 105, 116, 104, 101, 98, 97, 114, 110, 58, 32, 115, 116, 97, 116, 101] then 11 else
  if l = [116, 105, 116, 104, 101, 98, 97, 114, 110, 58, 32, 111, 102, 102] then 12 else 0

theorem errG_of {W : World} {a1 a2 a3 a4 a5 a6 a7 a8 a9 a10 a11 a12 : Addr}
    (h1 : Sent 4 a1 [116, 105, 116, 104, 101, 98, 97, 114, 110, 58, 32, 116, 101, 120, 116] W)
    (h2 : Sent 1 a2 [116, 105, 116, 104, 101, 98, 97, 114, 110, 58, 32, 98, 111, 117, 110, 100] W)
    (h3 : Sent 0 a3 [116, 105, 116, 104, 101, 98, 97, 114, 110, 58, 32, 115, 104, 97, 112, 101] W)
    (h4 : Sent 6 a4 [116, 105, 116, 104, 101, 98, 97, 114, 110, 58, 32, 107, 105, 110, 100] W)
    (h5 : Sent 9 a5 [116, 105, 116, 104, 101, 98, 97, 114, 110, 58, 32, 110, 97, 109, 101] W)
    (h6 : Sent 2 a6 [116, 105, 116, 104, 101, 98, 97, 114, 110, 58, 32, 110, 111, 110, 101] W)
    (h7 : Sent 7 a7 [116, 105, 116, 104, 101, 98, 97, 114, 110, 58, 32, 101, 120, 105, 115, 116] W)
    (h8 : Sent 8 a8 [116, 105, 116, 104, 101, 98, 97, 114, 110, 58, 32, 102, 117, 108, 108] W)
    (h9 : Sent 3 a9 [116, 105, 116, 104, 101, 98, 97, 114, 110, 58, 32, 115, 104, 111, 114, 116] W)
    (h10 : Sent 5 a10 [116, 105, 116, 104, 101, 98, 97, 114, 110, 58, 32, 111, 114, 100, 101, 114] W)
    (h11 : Sent 10 a11 [116, 105, 116, 104, 101, 98, 97, 114, 110, 58, 32, 115, 116, 97, 116, 101] W)
    (h12 : Sent 11 a12 [116, 105, 116, 104, 101, 98, 97, 114, 110, 58, 32, 111, 102, 102] W)
    (hty : W.cell? ⟨12, 0, none⟩ = some (.iface 240 (.agg #[.pointer (some ⟨21, 31, none⟩)]))) :
    ErrG (fun k => if k = 1 then a1 else if k = 2 then a2 else if k = 3 then a3 else if k = 4 then a4 else if k = 5 then a5 else if k = 6 then a6 else if k = 7 then a7 else if k = 8 then a8 else if k = 9 then a9 else if k = 10 then a10 else if k = 11 then a11 else a12) W := by
  refine ⟨?_, ?_, ?_, hty⟩
  · intro k k1 k2
    rcases (show k = 1 ∨ k = 2 ∨ k = 3 ∨ k = 4 ∨ k = 5 ∨ k = 6 ∨ k = 7 ∨ k = 8 ∨ k = 9 ∨ k = 10 ∨ k = 11 ∨ k = 12 by omega) with rfl | rfl | rfl | rfl | rfl | rfl | rfl | rfl | rfl | rfl | rfl | rfl
    · exact h1.at_
    · exact h2.at_
    · exact h3.at_
    · exact h4.at_
    · exact h5.at_
    · exact h6.at_
    · exact h7.at_
    · exact h8.at_
    · exact h9.at_
    · exact h10.at_
    · exact h11.at_
    · exact h12.at_
  · intro k k1 k2
    rcases (show k = 1 ∨ k = 2 ∨ k = 3 ∨ k = 4 ∨ k = 5 ∨ k = 6 ∨ k = 7 ∨ k = 8 ∨ k = 9 ∨ k = 10 ∨ k = 11 ∨ k = 12 by omega) with rfl | rfl | rfl | rfl | rfl | rfl | rfl | rfl | rfl | rfl | rfl | rfl
    · exact h1.row
    · exact h2.row
    · exact h3.row
    · exact h4.row
    · exact h5.row
    · exact h6.row
    · exact h7.row
    · exact h8.row
    · exact h9.row
    · exact h10.row
    · exact h11.row
    · exact h12.row
  · have T : ∀ k, 1 ≤ k → k ≤ 12 → ∃ g l, Sent g ((fun k => if k = 1 then a1 else if k = 2 then a2 else if k = 3 then a3 else if k = 4 then a4 else if k = 5 then a5 else if k = 6 then a6 else if k = 7 then a7 else if k = 8 then a8 else if k = 9 then a9 else if k = 10 then a10 else if k = 11 then a11 else a12) k) l W ∧ textNo l = k := by
      intro k k1 k2
      rcases (show k = 1 ∨ k = 2 ∨ k = 3 ∨ k = 4 ∨ k = 5 ∨ k = 6 ∨ k = 7 ∨ k = 8 ∨ k = 9 ∨ k = 10 ∨ k = 11 ∨ k = 12 by omega) with rfl | rfl | rfl | rfl | rfl | rfl | rfl | rfl | rfl | rfl | rfl | rfl
      · exact ⟨_, _, h1, by decide⟩
      · exact ⟨_, _, h2, by decide⟩
      · exact ⟨_, _, h3, by decide⟩
      · exact ⟨_, _, h4, by decide⟩
      · exact ⟨_, _, h5, by decide⟩
      · exact ⟨_, _, h6, by decide⟩
      · exact ⟨_, _, h7, by decide⟩
      · exact ⟨_, _, h8, by decide⟩
      · exact ⟨_, _, h9, by decide⟩
      · exact ⟨_, _, h10, by decide⟩
      · exact ⟨_, _, h11, by decide⟩
      · exact ⟨_, _, h12, by decide⟩
    intro i j i1 i2 j1 j2 he
    obtain ⟨g, l, s, e⟩ := T i i1 i2
    obtain ⟨g', l', s', e'⟩ := T j j1 j2
    rcases Decidable.em (l = l') with hl | hl
    · rw [← e, ← e', hl]
    · exact absurd he (sent_ne s s' hl)
end Go.Proofs.YtgllddebodfhkaaGreatDoor
