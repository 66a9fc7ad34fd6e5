/- The law TapeActs, walked. -/
import Derived.Test.YtcmjdaalhokmdaaDoorRDisk
import Derived.Test.YtcmjdaalhokmdaaDoorTaped
import Derived.Test.YtcmjdaalhokmdaaDoorCodedC
import Derived.Test.YtcmjdaalhokmdaaDoorErrG
import Derived.Test.YtcmjdaalhokmdaaDoorWriteV
import Derived.Test.YtcmjdaalhokmdaaDoorWith
import Derived.Deep.RegionHeld3
namespace Go.Proofs.YtcmjdaalhokmdaaDoor
open Go.RowKit

/-- What the law leans on. -/
structure ActsG (E : Nat → Addr) (w : World) : Prop where
  err : ErrG E w
  tape : TapeG E w
theorem ActsG.below {E : Nat → Addr} {w w' : World} (h : ActsG E w) (hb : Below w.heap.size w w') : ActsG E w' := ⟨h.err.below hb, h.tape.below hb⟩

theorem recL_small (s : List UInt8) (h : s.length ≤ 200) : (recL s).length ≤ 206 := by
  have := dec_len_le s.length 3 (by omega) (by omega)
  simp only [recL, List.length_append, List.length_cons, List.length_nil]
  omega
theorem wrD_keeps (d : Dk) (r : List UInt8) (hr : r.length ≤ 206) (hc : d.cut ≤ 9223372036854775807) : (wrD d r).2.bs.length ≤ d.bs.length + 206 ∧ (wrD d r).2.cut ≤ 9223372036854775807 ∧ (wrD d r).1 ≤ 12 := by
  unfold wrD
  split
  · exact ⟨Nat.le_add_right _ _, hc, Nat.le_refl _⟩
  · split
    · refine ⟨?_, hc, Nat.le_refl _⟩
      simp only [List.length_append, List.length_take]
      omega
    · refine ⟨by simp only [List.length_append]; omega, ?_, Nat.zero_le _⟩
      simp only
      split <;> omega
theorem appD_keeps (d : Dk) (s : List UInt8) (h : s.length ≤ 200 ∨ s.length = 20001) (hc : d.cut ≤ 9223372036854775807) : (appD d s).2.bs.length ≤ d.bs.length + 206 ∧ (appD d s).2.cut ≤ 9223372036854775807 ∧ (appD d s).1 ≤ 12 := by
  unfold appD
  split
  · exact ⟨Nat.le_add_right _ _, hc, by show 2 ≤ 12; omega⟩
  · rename_i h1
    split
    · exact ⟨Nat.le_add_right _ _, hc, by show 8 ≤ 12; omega⟩
    · exact wrD_keeps d _ (recL_small s (by omega)) hc
theorem cutD_keeps (d : Dk) (n : Int) (hn : n ≤ 9223372036854775807) (hc : d.cut ≤ 9223372036854775807) : (cutD d n).2.bs.length ≤ d.bs.length ∧ (cutD d n).2.cut ≤ 9223372036854775807 ∧ (cutD d n).1 ≤ 12 := by
  unfold cutD
  split
  · exact ⟨Nat.le_refl _, hc, by show 2 ≤ 12; omega⟩
  · split
    · exact ⟨Nat.le_refl _, hc, by show 12 ≤ 12; omega⟩
    · exact ⟨Nat.le_refl _, hn, by show 0 ≤ 12; omega⟩

theorem coded3_same (E : Nat → Addr) (k : Nat) (hk : k ≤ 12) (w : World) (hG : ErrG E w) : Calls Tryd.prog 12 #[errOf E k, .int .i64 (k : Nat)] w fun e w' => e = .returned (.bool true) ∧ Below w.heap.size w w' := by
  have := coded3 E k hk (k : Nat) w hG
  rwa [beq_self_eq_true] at this

set_option maxHeartbeats 1600000 in
set_option maxRecDepth 100000 in
theorem acts_out (E : Nat → Addr) (b : List UInt8) (A : Option Addr) (n cap : Nat) (w : World) (hG : ActsG E w) (h : 2000 < b.length ∨ 50 < n) :
    Calls Tryd.prog 4 #[.string ⟨b.toArray⟩, .slice A n cap] w fun e w' => e = .returned (.bool true) ∧ Below w.heap.size w w' := by
  have hbs : (⟨b.toArray⟩ : ByteArray).size = b.length := by simp [ByteArray.size]
  have h' : 2000 < b.length ∨ ¬ 2000 < b.length ∧ 50 < n := by omega
  clear h
  rcases h' with h | ⟨h1, h2⟩
  all_goals
    go_enter Tryd.func4, Tryd.ntmps4
    go_wp2_with fail
    refine (taped_any E _ hG.tape).mono ?_
    rintro e w1 ⟨rfl, b1⟩
    go_wp2
    go_ret
    exact ⟨rfl, b1⟩

theorem calls_flip {f : Nat} {args : Array Value} {w : World} {v : Value} (h : Calls Tryd.prog f args w fun e w' => e = .returned v ∧ w = w') : Calls Tryd.prog f args w fun e w' => e = .returned v ∧ w' = w := h.mono fun _ _ ⟨a, b⟩ => ⟨a, b.symm⟩
theorem blk_ne {g g4 q s : Nat} (h : g4 = g ∨ s ≤ g4) (hg : g ≠ q) (hq : q < s) : g4 ≠ q := by omega
theorem blk_ge {g g4 B s : Nat} (h : g4 = g ∨ s ≤ g4) (hg : B ≤ g) (hs : B ≤ s) : B ≤ g4 := by omega
theorem OnlyD.disk {p g q : Nat} {w w' : World} {d : Dk} (h : DiskAt w p g d) (ho : OnlyD q q w w') (hp : p ≠ q) (hg : g ≠ q) : DiskAt w' p g d :=
  h.keep (ho.block p h.lt.1 hp hp) (ho.block g h.lt.2 hg hg)
theorem OnlyD.rdisk {p g q : Nat} {w w' : World} {d : Dk} (h : RDiskAt w q d) (ho : OnlyD p g w w') (hp : q ≠ p) (hg : q ≠ g) : RDiskAt w' q d :=
  (ho.block q (heap_lt h) hp hg).trans h
theorem OnlyD.cell {p g : Nat} {w w' : World} {b o : Nat} {v : Value} (h : w.cell? ⟨b, o, none⟩ = some v) (ho : OnlyD p g w w') (hp : b ≠ p) (hg : b ≠ g) : w'.cell? ⟨b, o, none⟩ = some v :=
  (World.cell?_of_block (ho.block b (lt_of_cell h) hp hg)).trans h

set_option maxHeartbeats 4000000 in
set_option maxRecDepth 100000 in
theorem acts_in (E : Nat → Addr) (b : List UInt8) (A : Option Addr) (cap : Nat) (xs : List WrV) (w : World) (hG : ActsG E w) (hX : RowAt encWr 3 w A xs) (h1 : b.length ≤ 2000) (h2 : xs.length ≤ 50) (hN : ∀ x ∈ xs, x.2.2 ≤ 9223372036854775807) :
    Calls Tryd.prog 4 #[.string ⟨b.toArray⟩, .slice A xs.length cap] w fun e w' => e = .returned (.bool true) ∧ Below w.heap.size w w' := by
  have hbs : (⟨b.toArray⟩ : ByteArray).size = b.length := by simp [ByteArray.size]
  obtain ⟨n, hn⟩ : ∃ n, n = xs.length := ⟨_, rfl⟩
  have HN := Lib.hid hn
  have HX := Lib.hid hX
  have HNB := Lib.hid hN
  rw [← hn] at h2 ⊢
  clear hX hn hN
  go_enter Tryd.func4, Tryd.ntmps4
  go_wp2_with fail
  refine (taped_any E _ hG.tape).mono ?_
  rintro e w1 ⟨rfl, b1⟩
  go_wp2_with fail
  refine (newDisk_any b (by omega) w1).mono ?_
  rintro e w2 ⟨p, g0, rfl, hD, hp, hg, bb2⟩
  have b2 := b1.trans (bb2.mono b1.size)
  have hp' : w.heap.size ≤ p := Nat.le_trans b1.size hp
  have hg' : w.heap.size ≤ g0 := Nat.le_trans b1.size hg
  have B2 := Lib.hid b2
  have HD := Lib.hid hD
  have HG := Lib.hid (fun W (h : Below w.heap.size w W) => hG.below h)
  clear hD bb2 b1 b2 hp hg hG
  go_wp2_with fail
  have hQ : RDiskAt (w2.alloc (.cells #[.string ⟨b.toArray⟩, .bool false, .int .i64 (-1)] 42)) w2.heap.size ⟨b, false, -1⟩ := heap_alloc_new _ _
  have hD3 := HD.out.below (below_one w2 (.cells #[.string ⟨b.toArray⟩, .bool false, .int .i64 (-1)] 42))
  have hpq : p < w2.heap.size ∧ g0 < w2.heap.size := HD.out.lt
  have b3 := B2.out.alloc B2.out.size (.cells #[.string ⟨b.toArray⟩, .bool false, .int .i64 (-1)] 42)
  obtain ⟨q, hq⟩ : ∃ q, q = w2.heap.size := ⟨_, rfl⟩
  have hqw : w.heap.size ≤ q := by rw [hq]; exact B2.out.size
  have hpq' : p ≠ q := by omega
  have hgq : g0 ≠ q := by omega
  rw [← hq] at hQ ⊢
  generalize w2.alloc (.cells #[.string ⟨b.toArray⟩, .bool false, .int .i64 (-1)] 42) = W3 at hQ hD3 b3 ⊢
  have H3 := Lib.hid (And.intro hD3 (And.intro hQ b3))
  clear hQ hD3 b3 hq HD B2 hpq
  go_loopw [9] (fun i wr => ∃ (k g : Nat) (d : Dk), k ≤ n ∧ i = .int .i64 k ∧ w.heap.size ≤ g ∧ g ≠ q ∧ Hid (DiskAt wr p g d ∧ RDiskAt wr q d) ∧ d.bs.length ≤ 2000 + 206 * k ∧ d.cut ≤ 9223372036854775807 ∧ Below w.heap.size w wr) (fun i _ => n - (intOf i).toNat)
  case atStart => exact ⟨0, g0, ⟨b, false, -1⟩, by omega, rfl, hg', hgq, ⟨H3.out.1, H3.out.2.1⟩, by show b.length ≤ _; omega, by show (-1 : Int) ≤ _; omega, H3.out.2.2⟩
  case round =>
    obtain ⟨k, g, d, hk, rfl, hgw, hgq, HD, hdl, hdc, hb⟩ := hrel
    have HB := Lib.hid hb
    clear hb
    by_cases hkl : k < n
    · have hkx : k < xs.length := by rw [← HN.out]; exact hkl
      have hlen0 : xs ≠ [] := fun h => by rw [h] at hkx; simp at hkx
      obtain ⟨bx, ox, rfl, lx, cx⟩ := HX.out.resolve_left hlen0
      obtain ⟨x, hx⟩ : ∃ x, x = xs[k] := ⟨_, rfl⟩
      have hxn := HNB.out x (by rw [hx]; exact List.getElem_mem hkx)
      have e0 := (HB.out.cell (p := ⟨bx, ox + k * 3 + 0, none⟩) lx).trans (cx k hkx 0 _ rfl)
      have e1 := (HB.out.cell (p := ⟨bx, ox + k * 3 + 1, none⟩) lx).trans (cx k hkx 1 _ rfl)
      have e2 := (HB.out.cell (p := ⟨bx, ox + k * 3 + 2, none⟩) lx).trans (cx k hkx 2 _ rfl)
      rw [Nat.add_zero] at e0
      rw [← hx] at e0 e1 e2
      clear hx cx
      obtain ⟨x1, x2, x3⟩ := x
      simp only at e0 e1 e2 hxn
      have s2 : (⟨x2.toArray⟩ : ByteArray).size = x2.length := by simp [ByteArray.size]
      by_cases hs : x2.length ≤ 200 ∨ x2.length = 20001
      · have hsl : x2.length ≤ 2000000 := by omega
        have hcond : (200 < x2.length ∧ ((x2.length : Int) != 20001) = false) ∨ ¬ 200 < x2.length := by
          rcases hs with h | h
          · exact .inr (by omega)
          · exact .inl ⟨by omega, by rw [h]; rfl⟩
        have HSL := Lib.hid hs
        clear hs
        have hW : Hid (DiskAt (wr.alloc (.cells #[.string ⟨x1.toArray⟩, .string ⟨x2.toArray⟩, .int .i64 x3] 44)) p g d ∧ RDiskAt (wr.alloc (.cells #[.string ⟨x1.toArray⟩, .string ⟨x2.toArray⟩, .int .i64 x3] 44)) q d ∧ Below w.heap.size w (wr.alloc (.cells #[.string ⟨x1.toArray⟩, .string ⟨x2.toArray⟩, .int .i64 x3] 44))) :=
          ⟨HD.out.1.below (below_one _ _), HD.out.2.below (below_one _ _), HB.out.alloc HB.out.size _⟩
        have hpl := HD.out.1.lt
        have hql := heap_lt HD.out.2
        obtain ⟨ab, hab⟩ : ∃ ab, ab = wr.heap.size := ⟨_, rfl⟩
        have hapq : ab ≠ p ∧ ab ≠ g ∧ ab ≠ q := by omega
        obtain ⟨ap, ag, aq⟩ := hapq
        have hgE : 3 < w.heap.size := lt_of_cell (HG.out w (Below.refl _ _)).tape.off
        have hppE : 3 ≠ p := by omega
        have hggE : 3 ≠ g := by omega
        have hc0 : (wr.alloc (.cells #[.string ⟨x1.toArray⟩, .string ⟨x2.toArray⟩, .int .i64 x3] 44)).cell? ⟨wr.heap.size, 1, none⟩ = some (.string ⟨x2.toArray⟩) := cell_of_row _ _ _ _ _ _ (heap_alloc_new _ _)
        have hc9 : (wr.alloc (.cells #[.string ⟨x1.toArray⟩, .string ⟨x2.toArray⟩, .int .i64 x3] 44)).cell? ⟨wr.heap.size, 2, none⟩ = some (.int .i64 x3) := cell_of_row _ _ _ _ _ _ (heap_alloc_new _ _)
        have hsz0 : wr.heap.size < (wr.alloc (.cells #[.string ⟨x1.toArray⟩, .string ⟨x2.toArray⟩, .int .i64 x3] 44)).heap.size := by simp
        have hqp : q < (wr.alloc (.cells #[.string ⟨x1.toArray⟩, .string ⟨x2.toArray⟩, .int .i64 x3] 44)).heap.size := by simp; omega
        rw [← hab] at hc0 hc9 hsz0
        have HC := Lib.hid (And.intro hc0 hc9)
        have HAB := Lib.hid hab
        clear hc0 hc9 hab
        rcases hcond with ⟨hc1, hc2⟩ | hc1
        all_goals
          go_wp2_with fail
          · rw [← HAB.out]
            generalize wr.alloc (.cells #[.string ⟨x1.toArray⟩, .string ⟨x2.toArray⟩, .int .i64 x3] 44) = W0 at hW HC hsz0 hqp ⊢
            have hk := appD_keeps d x2 HSL.out hdc
            have hAP := append_any p g E d x2 W0.drew (HG.out _ hW.out.2.2.drew).tape hppE hggE (hW.out.1.keep rfl rfl) hsl (by omega) hdc
            have HAP := Lib.hid hAP
            obtain ⟨d4, hd4⟩ : ∃ d4, d4 = (appD d x2).2 := ⟨_, rfl⟩
            obtain ⟨n4, hn4⟩ : ∃ n4, n4 = (appD d x2).1 := ⟨_, rfl⟩
            rw [← hd4, ← hn4] at hk
            have HRA := Lib.hid (fun W (h : RDiskAt W q d) => rappend_any q d x2 W h hsl (by omega) hdc)
            have HD4 := Lib.hid (And.intro hd4 hn4)
            obtain ⟨hl4, hc4, hn12⟩ := hk
            have K0 : W0.drew.cell? ⟨ab, 1, none⟩ = some (.string ⟨x2.toArray⟩) := HC.out.1
            clear hAP hd4 hn4
            go_region_held3 (fun w' => w'.cell? ⟨ab, 1, none⟩ = some (.string ⟨x2.toArray⟩))
              (first | exact K0 | exact K4 | exact K5 | exact K6 | go_keep)
              (first
                | (go_at_call 13; refine HAP.out.mono ?_; rintro e w4 ⟨rfl, g4, q2, q3, q4⟩; have K4 := q3.cell K0 ap ag; have r4 := q3.rdisk (show RDiskAt W0.drew q d from hW.out.2.1) (fun e => hpq' e.symm) (fun e => hgq e.symm); have b4 := q3.below hW.out.2.2.drew hp' hgw hW.out.2.2.size; have hgq4 : g4 ≠ q := blk_ne q4 hgq hqp; have hg4 : w.heap.size ≤ g4 := blk_ge q4 hgw hW.out.2.2.size)
                | (go_at_call 14; refine (HRA.out _ r4).mono ?_; rintro e w5 ⟨rfl, r5, o5⟩; have K5 := o5.cell K4 aq aq; have b5 := o5.below b4 hqw hqw b4.size; have q5 := o5.disk q2 hpq' hgq4)
                | (go_at_call 12; refine (coded3_same E _ (by rw [← HD4.out.2]; exact hn12) w5 (HG.out _ b5).err).mono ?_; rintro e w6 ⟨rfl, bb6⟩; have F6 : Hid (DiskAt w6 p g4 d4 ∧ RDiskAt w6 q d4 ∧ Below w.heap.size w w6) := ⟨by rw [HD4.out.1]; exact q5.below bb6, by rw [HD4.out.1]; exact r5.below bb6, b5.trans (bb6.mono b5.size)⟩; have K6 := (bb6.cell (p := ⟨ab, 1, none⟩) (lt_of_cell K5)).trans K5))
            all_goals
              clear K0 K4 K5 K6 q2 q3 q4 r4 b4 r5 o5 b5 q5 bb6 HAP HRA HD4
              obtain ⟨f1, f2, f3⟩ := F6.out
              obtain ⟨z0, z1, z2⟩ := f2.cells
              have HBY := Lib.hid (fun m => calls_flip (bytes_any p g4 d4 (w6.drewN m) (f1.keep rfl rfl)))
              have HPW := Lib.hid (fun m => calls_flip (power_any p g4 d4 (w6.drewN m) (f1.keep rfl rfl)))
              clear f1 f2 f3
              obtain ⟨bs4, off4, cut4⟩ := d4
              simp only at HBY HPW z0 z1 z2 hl4 hc4
              cases off4
              all_goals
                go_wp2_with fail
                go_quiet (first | (go_at_call 21; exact Calls.quiet_of_same (HBY.out _)) | (go_at_call 22; exact Calls.quiet_of_same (HPW.out _)))
                go_wp2_with fail
                go_roundw
                case rel => exact ⟨k + 1, g4, _, by omega, by go_num, hg4, hgq4, ⟨F6.out.1.keep rfl rfl, F6.out.2.1⟩, by show bs4.length ≤ _; omega, hc4, below_drewN F6.out.2.2 _⟩
                case measure => simp [intOf]; omega
          · rw [← HAB.out]
            generalize wr.alloc (.cells #[.string ⟨x1.toArray⟩, .string ⟨x2.toArray⟩, .int .i64 x3] 44) = W0 at hW HC hsz0 hqp ⊢
            have hk := cutD_keeps d x3 hxn hdc
            have hAP := cutd_any p g E d x3 W0.drew (HG.out _ hW.out.2.2.drew).tape (hW.out.1.keep rfl rfl)
            have HAP := Lib.hid hAP
            obtain ⟨d4, hd4⟩ : ∃ d4, d4 = (cutD d x3).2 := ⟨_, rfl⟩
            obtain ⟨n4, hn4⟩ : ∃ n4, n4 = (cutD d x3).1 := ⟨_, rfl⟩
            rw [← hd4, ← hn4] at hk
            have HRA := Lib.hid (fun W (h : RDiskAt W q d) => rset_any q d x3 W h)
            have HD4 := Lib.hid (And.intro hd4 hn4)
            obtain ⟨hl4', hc4, hn12⟩ := hk
            have hl4 : d4.bs.length ≤ d.bs.length + 206 := by omega
            have K0 : W0.drew.cell? ⟨ab, 2, none⟩ = some (.int .i64 x3) := HC.out.2
            have hg4 := hgw
            have hgq4 := hgq
            obtain ⟨g4, rfl⟩ : ∃ g4, g4 = g := ⟨_, rfl⟩
            clear hAP hd4 hn4 hl4'
            go_region_held3 (fun w' => w'.cell? ⟨ab, 2, none⟩ = some (.int .i64 x3))
              (first | exact K0 | exact K4 | exact K5 | exact K6 | go_keep)
              (first
                | (go_at_call 15; refine HAP.out.mono ?_; rintro e w4 ⟨rfl, q2, q3⟩; have K4 := q3.cell K0 ap ag; have r4 := q3.rdisk (show RDiskAt W0.drew q d from hW.out.2.1) (fun e => hpq' e.symm) (fun e => hgq e.symm); have b4 := q3.below hW.out.2.2.drew hp' hgw hW.out.2.2.size)
                | (go_at_call 16; refine (HRA.out _ r4).mono ?_; rintro e w5 ⟨rfl, r5, o5⟩; have K5 := o5.cell K4 aq aq; have b5 := o5.below b4 hqw hqw b4.size; have q5 := o5.disk q2 hpq' hgq4)
                | (go_at_call 12; refine (coded3_same E _ (by rw [← HD4.out.2]; exact hn12) w5 (HG.out _ b5).err).mono ?_; rintro e w6 ⟨rfl, bb6⟩; have F6 : Hid (DiskAt w6 p g4 d4 ∧ RDiskAt w6 q d4 ∧ Below w.heap.size w w6) := ⟨by rw [HD4.out.1]; exact q5.below bb6, by rw [HD4.out.1]; exact r5.below bb6, b5.trans (bb6.mono b5.size)⟩; have K6 := (bb6.cell (p := ⟨ab, 2, none⟩) (lt_of_cell K5)).trans K5))
            all_goals
              clear K0 K4 K5 K6 q2 q3 r4 b4 r5 o5 b5 q5 bb6 HAP HRA HD4
              obtain ⟨f1, f2, f3⟩ := F6.out
              obtain ⟨z0, z1, z2⟩ := f2.cells
              have HBY := Lib.hid (fun m => calls_flip (bytes_any p g4 d4 (w6.drewN m) (f1.keep rfl rfl)))
              have HPW := Lib.hid (fun m => calls_flip (power_any p g4 d4 (w6.drewN m) (f1.keep rfl rfl)))
              clear f1 f2 f3
              obtain ⟨bs4, off4, cut4⟩ := d4
              simp only at HBY HPW z0 z1 z2 hl4 hc4
              cases off4
              all_goals
                go_wp2_with fail
                go_quiet (first | (go_at_call 21; exact Calls.quiet_of_same (HBY.out _)) | (go_at_call 22; exact Calls.quiet_of_same (HPW.out _)))
                go_wp2_with fail
                go_roundw
                case rel => exact ⟨k + 1, g4, _, by omega, by go_num, hg4, hgq4, ⟨F6.out.1.keep rfl rfl, F6.out.2.1⟩, by show bs4.length ≤ _; omega, hc4, below_drewN F6.out.2.2 _⟩
                case measure => simp [intOf]; omega
          · rw [← HAB.out]
            generalize wr.alloc (.cells #[.string ⟨x1.toArray⟩, .string ⟨x2.toArray⟩, .int .i64 x3] 44) = W0 at hW HC hsz0 hqp ⊢
            refine (on_any p g d W0 hW.out.1).mono ?_
            rintro e w4 ⟨rfl, q2, q3⟩
            have r4 := q3.rdisk hW.out.2.1 (fun e => hpq' e.symm) (fun e => hgq e.symm)
            have b4 := q3.below hW.out.2.2 hp' hgw hW.out.2.2.size
            obtain ⟨z0, z1, z2⟩ := r4.cells
            have y1 := freeB r4 1
            have y2 := freeB r4 2
            have hg4 := hgw
            have hgq4 := hgq
            obtain ⟨g4, rfl⟩ : ∃ g4, g4 = g := ⟨_, rfl⟩
            have F4 : Hid (DiskAt w4 p g4 ⟨d.bs, false, -1⟩ ∧ RDiskAt w4 q d ∧ Below w.heap.size w w4) := ⟨q2, r4, b4⟩
            clear q2 q3 r4 b4
            go_wp2_with fail
            have F6 : Hid (DiskAt ((w4.setCell ⟨q, 1, none⟩ (.bool false)).setCell ⟨q, 2, none⟩ (.int .i64 (-1))) p g4 ⟨d.bs, false, -1⟩ ∧ RDiskAt ((w4.setCell ⟨q, 1, none⟩ (.bool false)).setCell ⟨q, 2, none⟩ (.int .i64 (-1))) q ⟨d.bs, false, -1⟩ ∧ Below w.heap.size w ((w4.setCell ⟨q, 1, none⟩ (.bool false)).setCell ⟨q, 2, none⟩ (.int .i64 (-1)))) := by
              obtain ⟨a1, a2, a3⟩ := F4.out
              have o1 := (onlyQ_set (q := q) (i := 1) (w := w4) (.bool false)).trans (onlyQ_set (i := 2) (.int .i64 (-1))) (.inl rfl)
              have g1 := heap_setCell_same w4 q 1 _ _ (.bool false) a2
              have g2 := heap_setCell_same _ q 2 _ _ (.int .i64 (-1)) g1
              refine ⟨o1.disk a1 hpq' hgq4, by simpa [RDiskAt] using g2, o1.below a3 hqw hqw a3.size⟩
            generalize (w4.setCell ⟨q, 1, none⟩ (.bool false)).setCell ⟨q, 2, none⟩ (.int .i64 (-1)) = w6 at F6 ⊢
            obtain ⟨d4, hd4⟩ : ∃ d4 : Dk, d4 = ⟨d.bs, false, -1⟩ := ⟨_, rfl⟩
            have hl4 : d4.bs.length ≤ d.bs.length + 206 := by rw [hd4]; show d.bs.length ≤ _; omega
            have hc4 : d4.cut ≤ 9223372036854775807 := by rw [hd4]; show (-1 : Int) ≤ _; omega
            rw [← hd4] at F6
            clear hd4 F4 z0 z1 z2 y1 y2
            obtain ⟨f1, f2, f3⟩ := F6.out
            obtain ⟨z0, z1, z2⟩ := f2.cells
            have HBY := Lib.hid (fun m => calls_flip (bytes_any p g4 d4 (w6.drewN m) (f1.keep rfl rfl)))
            have HPW := Lib.hid (fun m => calls_flip (power_any p g4 d4 (w6.drewN m) (f1.keep rfl rfl)))
            clear f1 f2 f3
            obtain ⟨bs4, off4, cut4⟩ := d4
            simp only at HBY HPW z0 z1 z2 hl4 hc4
            cases off4
            all_goals
              go_wp2_with fail
              go_quiet (first | (go_at_call 21; exact Calls.quiet_of_same (HBY.out _)) | (go_at_call 22; exact Calls.quiet_of_same (HPW.out _)))
              go_wp2_with fail
              go_roundw
              case rel => exact ⟨k + 1, g4, _, by omega, by go_num, hg4, hgq4, ⟨F6.out.1.keep rfl rfl, F6.out.2.1⟩, by show bs4.length ≤ _; omega, hc4, below_drewN F6.out.2.2 _⟩
              case measure => simp [intOf]; omega
          · rw [← HAB.out]
            generalize wr.alloc (.cells #[.string ⟨x1.toArray⟩, .string ⟨x2.toArray⟩, .int .i64 x3] 44) = W0 at hW HC hsz0 hqp ⊢
            refine (recover_any p g E d w W0 (HG.out w (Below.refl _ _)).tape hW.out.2.2 hp' hgw hW.out.1 (by omega)).mono ?_
            rintro e w4 ⟨l, n4, A4, c4, hr, -, hll, rfl, hS, hA4, q2, q3⟩
            have r4 := q3.rdisk hW.out.2.1 (fun e => hpq' e.symm) (fun e => hgq e.symm)
            have b4 := q3.below hW.out.2.2 hp' hgw hW.out.2.2.size
            have HRR := Lib.hid (rrecover_any q d w4 r4 (by omega))
            have F4 : Hid (ReadIs d.bs l n4 ∧ StrsAt w4 A4 l ∧ (∀ a, A4 = some a → W0.heap.size ≤ a.block) ∧ DiskAt w4 p g ⟨d.bs.take n4, false, -1⟩ ∧ Below w.heap.size w w4) := ⟨hr, hS, hA4, q2, b4⟩
            clear hr hS hA4 q2 q3 r4 b4
            go_wp2_with fail
            refine HRR.out.mono ?_
            rintro e w5 ⟨l5, n5, A5, c5, hr5, -, -, rfl, hS5, -, r5, o5⟩
            obtain ⟨rfl, rfl⟩ := hr5.unique F4.out.1
            have hst := sameTexts_any A4 A5 c4 c5 l5 l5 w5 (F4.out.2.1.only o5 (fun a ha => by have := F4.out.2.2.1 a ha; omega)) hS5 (by omega)
            rw [decide_eq_true rfl] at hst
            have HST := Lib.hid hst
            have hg4 := hgw
            have hgq4 := hgq
            obtain ⟨g4, rfl⟩ : ∃ g4, g4 = g := ⟨_, rfl⟩
            have F5 : Hid (DiskAt w5 p g4 ⟨d.bs.take n5, false, -1⟩ ∧ RDiskAt w5 q ⟨d.bs.take n5, false, -1⟩ ∧ Below w.heap.size w w5) := ⟨o5.disk F4.out.2.2.2.1 hpq' hgq4, r5, o5.below F4.out.2.2.2.2 hqw hqw F4.out.2.2.2.2.size⟩
            clear hr5 hS5 r5 o5 hst F4 HRR
            go_wp2_with fail
            refine HST.out.mono ?_
            rintro e w6 ⟨rfl, bb6⟩
            obtain ⟨d4, hd4⟩ : ∃ d4 : Dk, d4 = ⟨d.bs.take n5, false, -1⟩ := ⟨_, rfl⟩
            have hl4 : d4.bs.length ≤ d.bs.length + 206 := by rw [hd4]; show (d.bs.take n5).length ≤ _; rw [List.length_take]; omega
            have hc4 : d4.cut ≤ 9223372036854775807 := by rw [hd4]; show (-1 : Int) ≤ _; omega
            have F6 : Hid (DiskAt w6 p g4 d4 ∧ RDiskAt w6 q d4 ∧ Below w.heap.size w w6) := by rw [hd4]; exact ⟨F5.out.1.below bb6, F5.out.2.1.below bb6, F5.out.2.2.trans (bb6.mono F5.out.2.2.size)⟩
            clear hd4 F5 bb6 HST hll
            go_wp2_with fail
            obtain ⟨f1, f2, f3⟩ := F6.out
            obtain ⟨z0, z1, z2⟩ := f2.cells
            have HBY := Lib.hid (fun m => calls_flip (bytes_any p g4 d4 (w6.drewN m) (f1.keep rfl rfl)))
            have HPW := Lib.hid (fun m => calls_flip (power_any p g4 d4 (w6.drewN m) (f1.keep rfl rfl)))
            clear f1 f2 f3
            obtain ⟨bs4, off4, cut4⟩ := d4
            simp only at HBY HPW z0 z1 z2 hl4 hc4
            cases off4
            all_goals
              go_wp2_with fail
              go_quiet (first | (go_at_call 21; exact Calls.quiet_of_same (HBY.out _)) | (go_at_call 22; exact Calls.quiet_of_same (HPW.out _)))
              go_wp2_with fail
              go_roundw
              case rel => exact ⟨k + 1, g4, _, by omega, by go_num, hg4, hgq4, ⟨F6.out.1.keep rfl rfl, F6.out.2.1⟩, by show bs4.length ≤ _; omega, hc4, below_drewN F6.out.2.2 _⟩
              case measure => simp [intOf]; omega
      · have hs1 : 200 < x2.length := by omega
        have hs2 : ((x2.length : Int) != 20001) = true := by simp; omega
        have hc0 : (wr.alloc (.cells #[.string ⟨x1.toArray⟩, .string ⟨x2.toArray⟩, .int .i64 x3] 44)).cell? ⟨wr.heap.size, 1, none⟩ = some (.string ⟨x2.toArray⟩) := cell_of_row _ _ _ _ _ _ (heap_alloc_new _ _)
        have B5 := Lib.hid (HB.out.alloc HB.out.size (.cells #[.string ⟨x1.toArray⟩, .string ⟨x2.toArray⟩, .int .i64 x3] 44))
        go_wp2
        go_ret
        exact ⟨rfl, B5.out⟩
    · obtain rfl : k = n := by omega
      obtain ⟨z0, z1, z2⟩ := HD.out.2.cells
      have HG4 := Lib.hid (HG.out wr HB.out).tape
      have hds : (⟨d.bs.toArray⟩ : ByteArray).size = d.bs.length := by simp [ByteArray.size]
      go_wp2_with fail
      refine (tread_any d.bs (by omega) wr HG4.out.tab HG4.out.atoi HG4.out.max).mono ?_
      rintro e w4 ⟨l, n4, A4, c4, hr, -, hll, rfl, hS, -, b4⟩
      obtain ⟨y0, -, -⟩ := (HD.out.2.below b4).cells
      have hrb := refReadB ⟨d.bs.toArray⟩ (by rw [hds]; omega) w4
      rw [show bts ⟨d.bs.toArray⟩ = d.bs from rfl] at hrb
      have HRB := Lib.hid hrb
      have F4 := Lib.hid (And.intro hr (And.intro hS (HB.out.trans (b4.mono HB.out.size))))
      clear hr hS b4 hrb
      go_wp2_with fail
      refine HRB.out.mono ?_
      rintro e w5 ⟨l5, n5, A5, c5, hr5, -, -, rfl, hS5, -, b5⟩
      obtain ⟨rfl, rfl⟩ := hr5.unique F4.out.1
      have hst := sameTexts_any A4 A5 c4 c5 l5 l5 w5 (F4.out.2.1.below b5) hS5 (by omega)
      rw [decide_eq_true rfl] at hst
      have HST := Lib.hid hst
      have B5 := Lib.hid (F4.out.2.2.trans (b5.mono F4.out.2.2.size))
      clear hst hr5 hS5 b5
      go_wp2_with fail
      refine HST.out.mono ?_
      rintro e w6 ⟨rfl, b6⟩
      have B6 := Lib.hid (B5.out.trans (b6.mono B5.out.size))
      clear b6
      go_wp2_with fail
      go_ret
      exact ⟨rfl, B6.out⟩

theorem tapeActs_walk (E : Nat → Addr) (s : ByteArray) (A : Option Addr) (cap : Nat) (xs : List WrV) (w : World) (hG : ActsG E w) (hX : RowAt encWr 3 w A xs) (hN : ∀ x ∈ xs, x.2.2 ≤ 9223372036854775807) :
    Calls Tryd.prog 4 #[.string s, .slice A xs.length cap] w fun e w' => e = .returned (.bool true) ∧ Below w.heap.size w w' := by
  obtain ⟨⟨b⟩⟩ := s
  by_cases h : 2000 < b.length ∨ 50 < xs.length
  · exact acts_out E b A xs.length cap w hG h
  · exact acts_in E b A cap xs w hG hX (by omega) (by omega) hN
end Go.Proofs.YtcmjdaalhokmdaaDoor
