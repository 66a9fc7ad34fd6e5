/- The law TapeCuts: plainly; walked. -/
import Derived.Test.YtcfkpkkakdmcpaaDoorTapeJ
namespace Go.Proofs.YtcfkpkkakdmcpaaDoor
open Go.RowKit

/-- Behind power's failing no record is whole. -/
theorem no_rec_part (s : List UInt8) (k : Nat) (hs : s.length ≤ 20000) (hk : k < (recL s).length) : ∀ t r, ¬ IsRec ((recL s).take k) t r := by
  intro t r h
  have h1 : IsRec (recL s) t (r ++ (recL s).drop k) := ⟨by rw [← List.append_assoc, ← h.1, List.take_append_drop], h.2⟩
  have h2 : IsRec (recL s) s [] := ⟨by simp, hs⟩
  obtain ⟨rfl, h3⟩ := h1.unique h2
  have := congrArg List.length h3
  simp at this
  omega

/-- What a disk is while records are appended whose power fails: so many records are whole, then there is a part of one. -/
structure CutIs (d : Dk) (done : List (List UInt8)) : Prop where
  small : ∀ s ∈ done, s.length ≤ 200
  bytes : ∃ rest, d.bs = recsL done ++ rest ∧ rest.length ≤ 300 ∧ (∀ t r, ¬ IsRec rest t r) ∧ (d.off = false → rest = [])
  cut : 0 ≤ d.cut
  cut2 : d.cut ≤ 9223372036854775807

theorem CutIs.start (cut : Int) (h : 0 ≤ cut) (h2 : cut ≤ 9223372036854775807) : CutIs ⟨[], false, cut⟩ [] :=
  ⟨by simp, ⟨[], by simp [recsL], by simp, fun t r h => by
    have := congrArg List.length h.1
    have := recL_length t
    simp at *
    omega, fun _ => rfl⟩, h, h2⟩
theorem CutIs.length {d : Dk} {done : List (List UInt8)} (h : CutIs d done) : d.bs.length ≤ done.length * 208 + 300 := by
  obtain ⟨rest, h1, h2, _⟩ := h.bytes
  have := recsL_le done h.small
  rw [h1, List.length_append]; omega
/-- One more. -/
theorem CutIs.step {d : Dk} {done : List (List UInt8)} (h : CutIs d done) (s : List UInt8) (hs : s.length ≤ 200) (hd : done.length ≤ 40) :
    ((appD d s).1 = 0 ∧ CutIs (appD d s).2 (done ++ [s])) ∨ ((appD d s).1 = 12 ∧ CutIs (appD d s).2 done) := by
  have hl := h.length
  have h3 := recL_le2 s (by omega)
  have e : appD d s = wrD d (recL s) := by unfold appD; rw [if_neg (by omega), if_neg (by omega)]
  rw [e]
  obtain ⟨rest, b1, b2, b3, b4⟩ := h.bytes
  unfold wrD
  by_cases ho : d.off = true
  · rw [if_pos ho]
    exact .inr ⟨rfl, h⟩
  · rw [if_neg ho]
    have hr := b4 (by simpa using ho)
    subst hr
    rw [List.append_nil] at b1
    by_cases hc : 0 ≤ d.cut ∧ d.cut < (recL s).length
    · rw [if_pos hc]
      refine .inr ⟨rfl, ⟨h.small, ⟨(recL s).take d.cut.toNat, by simp only; rw [b1], by rw [List.length_take]; omega, no_rec_part s _ (by omega) (by omega), fun h => by cases h⟩, h.cut, h.cut2⟩⟩
    · rw [if_neg hc]
      have h0 := h.cut
      have h2 := h.cut2
      refine .inl ⟨rfl, ⟨fun x hx => ?_, ⟨[], by simp only; rw [b1, recsL_snoc, List.append_nil], by simp, b3, fun _ => rfl⟩, by simp only; rw [if_pos h0]; omega, by simp only; rw [if_pos h0]; omega⟩⟩
      rcases List.mem_append.1 hx with hx | hx
      · exact h.small x hx
      · simp at hx; subst hx; exact hs
/-- What is recovered. -/
theorem CutIs.read {d : Dk} {done : List (List UInt8)} (h : CutIs d done) : ReadIs d.bs done (recsL done).length := by
  obtain ⟨rest, b1, _, b3, _⟩ := h.bytes
  have := read_join (l := done) (fun s hs => by have := h.small s hs; omega) (ReadIs.stop b3)
  rw [List.append_nil, Nat.add_zero, ← b1] at this
  exact this
theorem CutIs.take {d : Dk} {done : List (List UInt8)} (h : CutIs d done) : d.bs.take (recsL done).length = recsL done := by
  obtain ⟨rest, b1, _, _, _⟩ := h.bytes
  rw [b1, List.take_left]
def oneMore : List UInt8 := [111, 110, 101, 32, 109, 111, 114, 101]

theorem own_onlyD {w w' : World} {B e size n p g : Nat} {v : Value} {xs : List Value} (h : w.ownsRow B e size v n xs) (ho : OnlyD p g w w') (hv : ∀ a, v.ownBlock = some a → a ≠ p ∧ a ≠ g) : w'.ownsRow B e size v n xs := by
  refine ⟨h.1, ?_⟩
  rcases h.2 with h0 | ⟨k, cap, cur, h1, h2, h3, h4⟩
  · exact .inl h0
  · have := hv k (by rw [h1]; rfl)
    exact .inr ⟨k, cap, cur, h1, h2, (ho.block k (heap_lt h3) this.1 this.2).trans h3, h4⟩

set_option maxHeartbeats 800000 in
set_option maxRecDepth 100000 in
theorem cuts_out (E : Nat → Addr) (A : Option Addr) (len cap : Nat) (cut : Int) (w : World) (hG : TapeG E w) (h : 30 < len ∨ cut < 0) :
    Calls Tryd.prog 5 #[.slice A len cap, .int .i64 cut] w fun e w' => e = .returned (.bool true) ∧ Below w.heap.size w w' := by
  by_cases h1 : 30 < len
  · go_enter Tryd.func5, Tryd.ntmps5
    go_wp2_with fail
    refine (taped_any E _ hG).mono ?_
    rintro e w1 ⟨rfl, b1⟩
    go_wp2
    go_ret
    exact ⟨rfl, b1⟩
  · have h2 : cut < 0 := by omega
    go_enter Tryd.func5, Tryd.ntmps5
    go_wp2_with fail
    refine (taped_any E _ hG).mono ?_
    rintro e w1 ⟨rfl, b1⟩
    go_wp2
    go_ret
    exact ⟨rfl, b1⟩

set_option maxHeartbeats 1600000 in
set_option maxRecDepth 100000 in
theorem cuts_in (E : Nat → Addr) (A : Option Addr) (cap : Nat) (xs : List (List UInt8)) (cut : Int) (w : World) (hG : TapeG E w) (hX : StrsAt w A xs) (h1 : xs.length ≤ 30) (h2 : 0 ≤ cut) (h3 : cut ≤ 9223372036854775807) :
    Calls Tryd.prog 5 #[.slice A xs.length cap, .int .i64 cut] w fun e w' => e = .returned (.bool true) ∧ Below w.heap.size w w' := by
  obtain ⟨i0, hi, hz0, hz1, hz2⟩ := info_parts stringInfo1
  obtain ⟨n, hn⟩ : ∃ n, n = xs.length := ⟨_, rfl⟩
  have H3 := Lib.hid h3
  have HX := Lib.hid hX
  have HN := Lib.hid hn
  rw [← hn] at h1 ⊢
  clear hX hn h3
  have hoff : 3 < w.heap.size := lt_of_cell hG.off
  go_enter Tryd.func5, Tryd.ntmps5
  go_wp2_with fail
  refine (taped_any E _ hG).mono ?_
  rintro e w1 ⟨rfl, b1⟩
  go_wp2_with fail
  refine (newDisk_any [] (by simp) w1).mono ?_
  rintro e w2 ⟨p, g0, rfl, hD, hp, hg, bb2⟩
  have b2 := b1.trans (bb2.mono b1.size)
  have hp' : w.heap.size ≤ p := Nat.le_trans b1.size hp
  have hg' : w.heap.size ≤ g0 := Nat.le_trans b1.size hg
  have hcd := cutd_any p g0 E _ cut w2 (hG.below b2) hD
  have ec : cutD ⟨[], false, -1⟩ cut = (0, ⟨[], false, cut⟩) := by unfold cutD; rw [if_neg (by omega)]; rfl
  rw [ec] at hcd
  have HCD := Lib.hid hcd
  clear hD bb2 hp hg b1 hcd ec
  go_wp2_with fail
  refine HCD.out.mono ?_
  rintro e w3 ⟨he3, hD, ho⟩
  have he3' : e = .returned .nilIface := he3
  subst he3'
  clear he3
  have b3 := ho.below b2 hp' hg' b2.size
  have HD := Lib.hid hD
  clear hD ho b2 HCD
  go_wp2_with fail
  have hsz3 := b3.size
  go_loopw [8, 9] (fun dn i wr => ∃ (k g m : Nat) (d : Dk) (done : List (List UInt8)), k ≤ n ∧ i = .int .i64 k ∧ m ≤ k ∧ w.heap.size ≤ g ∧ Hid (m = done.length ∧ CutIs d done ∧ DiskAt wr p g d ∧ wr.ownsRow w.heap.size 9 1 dn m (strVals done) ∧ (∀ a, dn.ownBlock = some a → a ≠ p ∧ a ≠ g)) ∧ Below w.heap.size w wr) (fun _ i _ => n - (intOf i).toNat)
  case atStart => exact ⟨0, g0, 0, _, [], by omega, rfl, by omega, hg', ⟨rfl, CutIs.start cut h2 H3.out, HD.out, World.ownsRow_nil _ _ _ _, by simp [Value.ownBlock]⟩, b3⟩
  case round =>
    obtain ⟨k, g, m, d, done, hk, rfl, hmk, hg2, HR, hb⟩ := hrel
    by_cases hkl : k < n
    · have hkx : k < xs.length := by rw [← HN.out]; exact hkl
      obtain ⟨bx, ox, rfl, lx, cx⟩ := HX.out.resolve_left (fun h => by rw [h] at hkx; simp at hkx)
      have dx : wr.cell? ⟨bx, ox + k, none⟩ = some (.string ⟨xs[k].toArray⟩) := (hb.cell (p := ⟨bx, ox + k, none⟩) lx).trans (cx k hkx)
      obtain ⟨x, hx⟩ : ∃ x, x = xs[k] := ⟨_, rfl⟩
      have HXK := Lib.hid hx
      rw [← hx] at dx
      have dx0 : w.cell? ⟨bx, ox + k, none⟩ = some (.string ⟨x.toArray⟩) := by rw [HXK.out]; exact cx k hkx
      have DX0 := Lib.hid dx0
      have hsx : (⟨x.toArray⟩ : ByteArray).size = x.length := by simp [ByteArray.size]
      clear cx hx dx0
      have HB := Lib.hid hb
      clear hb
      by_cases hxl : 200 < x.length
      · go_wp2
        go_ret
        exact ⟨rfl, HB.out⟩
      · obtain ⟨r1, r2, r3, r4, r5⟩ := HR.out
        have hlen := r2.length
        have HAL := Lib.hid (append_any p g E d x wr (hG.below HB.out) (by omega) (by omega) r3 (by omega) (by omega) r2.cut2)
        have HST := Lib.hid (r2.step x (by omega) (by omega))
        clear r1 r2 r3 r4 r5 hlen
        go_wp2_with fail
        refine HAL.out.mono ?_
        intro e w4 h4
        have H4 := Lib.hid h4
        obtain ⟨q1, g4, q2, q3, q4⟩ := H4.out
        have hsz := HB.out.size
        have b4 := q3.below HB.out hp' hg2 hsz
        have hg4 : w.heap.size ≤ g4 := by omega
        have s4 := q3.size
        have ro := HR.out.2.2.2.1
        have r5 := HR.out.2.2.2.2
        have own4 := own_onlyD ro q3 r5
        have ol := ro.lt
        have ov4 : ∀ a, u8.ownBlock = some a → a ≠ p ∧ a ≠ g4 := fun a ha => by
          have h1 := r5 a ha
          have h2 := ol a ha
          omega
        have pl := q2.lt
        have O4 := Lib.hid own4
        have V4 := Lib.hid ov4
        have D4 := Lib.hid q2
        have OL := Lib.hid ol
        have B4 := Lib.hid b4
        have d4 := (b4.cell (p := ⟨bx, ox + k, none⟩) lx).trans DX0.out
        clear ro r5 own4 ol ov4 q2 b4 H4 h4 HAL q3 q4 dx
        rcases HST.out with ⟨c1, c2⟩ | ⟨c1, c2⟩
        · have q1' : e = .returned .nilIface := by rw [q1, c1]; rfl
          subst q1'
          have C2 := Lib.hid c2
          clear q1 c1 c2
          go_wp2_with (at_builtin; refine wpList_append_lies _ rfl (.tmp 60) (.tmp 65) 36 rfl w.heap.size 9 i0 (.string ⟨#[]⟩) 1 16 Tryd.underlying36 hi hz0 hz1 hz2 rfl (by decide) u8 m (strVals done) rfl (O4.out.alloc _) _ 1 1 [.string ⟨x.toArray⟩] rfl rfl (World.news_of_block (cs := #[.string ⟨x.toArray⟩]) (t := 9) (fr := (0, 0)) (heap_alloc_new _ _)) (by simp [Value.oneCell']) (by omega) (by unfold maxLen; omega) (by omega) (by simp; omega) _ rfl ?_; intro gg cap' w5 hown5 hgrow hat hlt5; have HK := Lib.hid (And.intro hown5 (And.intro hgrow hat)); clear hown5 hgrow hat)
          obtain ⟨hown5, hgrow, hat⟩ := HK.out
          have hb5 : Below w.heap.size w w5 := (B4.out.alloc B4.out.size _).grown hgrow (by simp; omega) (fun j hj => (OL.out j hj).1)
          have keep : ∀ j, j < w4.heap.size → (∀ a, u8.ownBlock = some a → a ≠ j) → w5.heap[j]? = w4.heap[j]? := fun j hj hne => by
            rw [hgrow.block j (by simp; omega) (fun h => hne j h.symm rfl)]
            exact heap_alloc_old _ _ hj
          have hD5 : DiskAt w5 p g4 _ := D4.out.keep (keep p pl.1 (fun a ha => (V4.out a ha).1)) (keep g4 pl.2 (fun a ha => (V4.out a ha).2))
          refine ⟨⟨k + 1, g4, m + 1, _, done ++ [x], by omega, by simp, by omega, hg4, ⟨by rw [List.length_append, ← HR.out.1]; rfl, C2.out, hD5, ?_, ?_⟩, hb5⟩, by simp [intOf]; omega⟩
          · have e : strVals (done ++ [x]) = strVals done ++ [.string ⟨x.toArray⟩] := by simp [strVals]
            rw [e]; exact hown5
          · intro a ha
            have ha' : gg = a := by simpa [Value.ownBlock] using ha
            subst ha'
            rcases hat with h | h
            · exact V4.out _ h
            · simp at h; omega
        · have q1' : e = .returned (.iface 199 (.pointer (some (E 12)))) := by rw [q1, c1]; rfl
          subst q1'
          have C2 := Lib.hid c2
          clear q1 c1 c2
          go_wp2
          go_roundw
          case rel => exact ⟨k + 1, g4, m, _, done, by omega, by go_num, by omega, hg4, ⟨HR.out.1, C2.out, D4.out, O4.out, V4.out⟩, B4.out⟩
          case measure => simp [intOf]; omega
    · obtain ⟨r1, r2, r3, r4, r5⟩ := HR.out
      have hlen := r2.length
      have HD := Lib.hid r3
      have HC := Lib.hid r2
      have HO := Lib.hid r4
      have HV := Lib.hid r5
      have HM := Lib.hid r1
      have hm40 : done.length ≤ 30 := by omega
      clear r1 r2 r3 r4 r5 HR
      have hrec := recover_any p g E d w wr hG hb hp' hg2 HD.out (by omega)
      have HRC := Lib.hid hrec
      have HB := Lib.hid hb
      clear hrec hlen hb
      go_wp2_with fail
      refine HRC.out.mono ?_
      rintro e w4 ⟨l, n4, A4, c4, hr, -, -, rfl, hS, -, hD4, ho4⟩
      obtain ⟨rfl, rfl⟩ := hr.unique HC.out.read
      rw [HC.out.take] at hD4
      have hown := own_onlyD HO.out ho4 HV.out
      rw [HM.out] at hown
      obtain ⟨A5, c5, hv5, hS5, -⟩ := StrsAt.of_own hown
      have b4 := ho4.below HB.out hp' hg2 HB.out.size
      have hv5' := hv5
      rw [← HM.out] at hv5'
      subst hv5'
      have hs1 := sameTexts_any A4 A5 c4 c5 l l w4 hS hS5 (by omega)
      rw [decide_eq_true rfl] at hs1
      have HS1 := Lib.hid hs1
      have hm := HM.out
      subst hm
      have HD4 := Lib.hid hD4
      have HB4 := Lib.hid b4
      clear hr hS hD4 ho4 hown hv5 hS5 b4 hs1 HRC HO HV HD HB
      go_wp2_with fail
      refine HS1.out.mono ?_
      rintro e w5 ⟨rfl, bb5⟩
      have b5 := HB4.out.trans (bb5.mono HB4.out.size)
      have HD5 := Lib.hid (HD4.out.below bb5)
      have HB5 := Lib.hid b5
      clear bb5 b5 HS1 HD4
      go_wp2_with fail
      refine (power_any p g _ w5 HD5.out).mono ?_
      rintro e w6 ⟨rfl, rfl⟩
      have hrl := recsL_le l HC.out.small
      have hal := append_any p g E _ oneMore w5 (hG.below HB5.out) (by omega) (by omega) HD5.out (by simp [oneMore]) (by show (recsL l).length ≤ _; omega) (by show (-1 : Int) ≤ _; omega)
      rw [appD_fits _ _ (by simp [oneMore]) (by omega)] at hal
      have HAL := Lib.hid hal
      clear hal hrl
      go_wp2_with fail
      refine HAL.out.mono ?_
      intro e w6 h6
      obtain ⟨rfl, g6, hD6, ho6, hg6⟩ := h6.err0
      have b6 := ho6.below HB5.out hp' hg2 HB5.out.size
      have hsm : ∀ s ∈ l ++ [oneMore], s.length ≤ 200 := fun s hs => by
        rcases List.mem_append.1 hs with hs | hs
        · exact HC.out.small s hs
        · simp at hs; subst hs; simp [oneMore]
      have hrl6 := recsL_le _ hsm
      rw [← recsL_snoc] at hD6
      have hrd := read_recs (l := l ++ [oneMore]) (fun s hs => by have := hsm s hs; omega)
      have HRD := Lib.hid hrd
      have HD6 := Lib.hid hD6
      have hql : (recsL (l ++ [oneMore])).length ≤ 20000 := by simp at hrl6; omega
      obtain ⟨q, hq⟩ : ∃ q, q = recsL (l ++ [oneMore]) := ⟨_, rfl⟩
      have HQ := Lib.hid hq
      rw [← hq] at hql
      have hdq := HD6.out
      rw [← hq] at hdq
      have HDQ := Lib.hid hdq
      have G6 := hG.below b6
      have HB6 := Lib.hid b6
      clear h6 hD6 ho6 hg6 b6 hsm hrl6 hrd hq hdq HAL HD6
      go_wp2_with fail
      refine (bytes_any p g6 _ w6 HDQ.out).mono ?_
      rintro e w7 ⟨rfl, rfl⟩
      go_wp2_with fail
      refine (tread_any q (by omega) w6 G6.tab G6.atoi G6.max).mono ?_
      rintro e w7 ⟨l7, n7, A7, c7, hr7, -, -, rfl, hS7, -, bb7⟩
      have hu := HRD.out
      rw [← HQ.out] at hu
      obtain ⟨rfl, rfl⟩ := hr7.unique hu
      have b7 := HB6.out.trans (bb7.mono HB6.out.size)
      have hD7 := HDQ.out.below bb7
      have hqs : (⟨q.toArray⟩ : ByteArray).size = q.length := by simp [ByteArray.size]
      obtain ⟨bx, ox, rfl, lx, cx⟩ := hS7.resolve_left (by simp)
      have d7 := cx l.length (by simp)
      have e7 : (l ++ [oneMore])[l.length]'(by simp) = oneMore := by simp
      rw [e7] at d7
      have hll : (l ++ [oneMore]).length = l.length + 1 := by simp
      have HD7 := Lib.hid hD7
      have HB7 := Lib.hid b7
      have d7' : w7.cell? ⟨bx, ox + l.length, none⟩ = some (.string ⟨#[111, 110, 101, 32, 109, 111, 114, 101]⟩) := d7
      rw [hll]
      clear hr7 hu bb7 b7 hD7 hS7 cx d7 e7 hll G6
      go_wp2_with fail
      refine (bytes_any p g6 _ w7 HD7.out).mono ?_
      rintro e w8 ⟨rfl, rfl⟩
      go_wp2
      go_ret
      exact ⟨rfl, HB7.out⟩

theorem tapeCuts_walk (E : Nat → Addr) (A : Option Addr) (cap : Nat) (xs : List (List UInt8)) (cut : Int) (w : World) (hG : TapeG E w) (hX : StrsAt w A xs) (hc : -9223372036854775808 ≤ cut ∧ cut ≤ 9223372036854775807) :
    Calls Tryd.prog 5 #[.slice A xs.length cap, .int .i64 cut] w fun e w' => e = .returned (.bool true) ∧ Below w.heap.size w w' := by
  by_cases h : 30 < xs.length ∨ cut < 0
  · exact cuts_out E A xs.length cap cut w hG h
  · exact cuts_in E A cap xs cut w hG hX (by omega) (by omega) hc.2
end Go.Proofs.YtcfkpkkakdmcpaaDoor
