/- Package tape: a new disk; its bytes; power; what is recovered. -/
import Derived.Test.YtcmjdaalhokmdaaDoorAppend
import Derived.Test.YtcmjdaalhokmdaaDoorTread
namespace Go.Proofs.YtcmjdaalhokmdaaDoor
open Go.RowKit

/-- What NewDisk leaves. -/
def NewDiskEnds (b : List UInt8) (w : World) (e : Ending) (w' : World) : Prop :=
  ∃ p g, e = .returned (.tuple #[.pointer (some ⟨p, 0, none⟩), .nilIface]) ∧ DiskAt w' p g ⟨b, false, -1⟩ ∧ w.heap.size ≤ p ∧ w.heap.size ≤ g ∧ Below w.heap.size w w'

set_option maxHeartbeats 400000 in
theorem newDisk_any (b : List UInt8) (hb : b.length ≤ 1048576) (w : World) :
    Calls Tryd.prog 11 #[.string ⟨b.toArray⟩] w (NewDiskEnds b w) := by
  have hsb : (⟨b.toArray⟩ : ByteArray).size = b.length := by simp [ByteArray.size]
  have kc := Lib.run_convert_string_bytes (P := Tryd.prog) w 9 78 5 ⟨b.toArray⟩ Tryd.underlying9 Tryd.underlying78 Tryd.underlying5
  have hrow := rowB_of_string w b (by omega)
  have hbel := below_bytesWorld w ⟨b.toArray⟩
  have hsz := Lib.bytesWorld_size w 5 ⟨b.toArray⟩
  rw [hsb] at kc
  generalize Lib.bytesWorld w 5 ⟨b.toArray⟩ = W at kc hrow hbel hsz
  generalize grownCap w b.length 0 5 = cap at kc hrow
  have HR := Lib.hid hrow
  have HZ := Lib.hid hsz
  have HB := Lib.hid hbel
  clear hrow hsz hbel
  have hb' : ¬ 1048576 < b.length := by omega
  have hbi : ¬ (1048576 : Int) < b.length := by omega
  go_enter Tryd.func11, Tryd.ntmps11
  go_wp2_with fail
  go_ret2
  have hz := HZ.out
  refine ⟨W.heap.size, w.heap.size, rfl, ⟨by omega, cap, heap_alloc_new _ _, HR.out.keep (heap_alloc_old _ _ (by omega))⟩, by omega, Nat.le_refl _, HB.out.alloc (by omega) _⟩

set_option maxHeartbeats 400000 in
theorem bytes_any (p g : Nat) (d : Dk) (w : World) (hD : DiskAt w p g d) : Calls Tryd.prog 21 #[.pointer (some ⟨p, 0, none⟩)] w fun e w' => e = .returned (.string ⟨d.bs.toArray⟩) ∧ w = w' := by
  obtain ⟨_, cap, hA, hR⟩ := hD
  have c0 : w.cell? ⟨p, 0, none⟩ = some (.slice (some ⟨g, 0, none⟩) d.bs.length cap) := by rw [cellB hA]; rfl
  have kc := run_string_rowB 78 9 Tryd.underlying78 Tryd.underlying9 w g cap cap d.bs hR
  clear hA hR
  go_enter Tryd.func21, Tryd.ntmps21
  go_wp2
  go_ret
  exact ⟨rfl, rfl⟩

set_option maxHeartbeats 400000 in
theorem power_any (p g : Nat) (d : Dk) (w : World) (hD : DiskAt w p g d) : Calls Tryd.prog 22 #[.pointer (some ⟨p, 0, none⟩)] w fun e w' => e = .returned (.bool (!d.off)) ∧ w = w' := by
  obtain ⟨_, cap, hA, hR⟩ := hD
  have c0 : w.cell? ⟨p, 1, none⟩ = some (.bool d.off) := by rw [cellB hA]; rfl
  clear hA hR
  go_enter Tryd.func22, Tryd.ntmps22
  go_wp2
  go_ret
  exact ⟨rfl, rfl⟩

set_option maxHeartbeats 400000 in
theorem on_any (p g : Nat) (d : Dk) (w : World) (hD : DiskAt w p g d) : Calls Tryd.prog 17 #[.pointer (some ⟨p, 0, none⟩)] w fun e w' => e = .returned (.tuple #[]) ∧ DiskAt w' p g ⟨d.bs, false, -1⟩ ∧ OnlyD p g w w' := by
  obtain ⟨hne, cap, hA, hR⟩ := hD
  have c1 : w.cell? ⟨p, 1, none⟩ = some (.bool d.off) := by rw [cellB hA]; rfl
  have c2 : w.cell? ⟨p, 2, none⟩ = some (.int .i64 d.cut) := by rw [cellB hA]; rfl
  have f1 := freeB hA 1
  have f2 := freeB hA 2
  have HA := Lib.hid hA
  clear hA
  go_enter Tryd.func17, Tryd.ntmps17
  go_wp2
  go_end0
  have h1 := heap_setCell_same w p 1 _ _ (.bool false) HA.out
  have h2 := heap_setCell_same _ p 2 _ _ (.int .i64 (-1)) h1
  refine ⟨rfl, ⟨hne, cap, by simpa using h2, hR.keep ?_⟩, ⟨rfl, rfl, rfl, by simp, fun k _ k1 _ => ?_⟩⟩
  · rw [heap_setCell_other _ _ _ _ hne, heap_setCell_other _ _ _ _ hne]
  · rw [heap_setCell_other _ _ _ _ k1, heap_setCell_other _ _ _ _ k1]

/-- Power is to fail later. -/
def cutD (d : Dk) (n : Int) : Nat × Dk := if n < 0 then (2, d) else if d.off then (12, d) else (0, { d with cut := n })
set_option maxHeartbeats 400000 in
theorem cutd_any (p g : Nat) (E : Nat → Addr) (d : Dk) (n : Int) (w : World) (hG : TapeG E w) (hD : DiskAt w p g d) : Calls Tryd.prog 15 #[.pointer (some ⟨p, 0, none⟩), .int .i64 n] w fun e w' =>
    e = .returned (errOf E (cutD d n).1) ∧ DiskAt w' p g (cutD d n).2 ∧ OnlyD p g w w' := by
  have HD := Lib.hid hD
  obtain ⟨hne, cap, hA, hR⟩ := hD
  have c1 : w.cell? ⟨p, 1, none⟩ = some (.bool d.off) := by rw [cellB hA]; rfl
  have c2 : w.cell? ⟨p, 2, none⟩ = some (.int .i64 d.cut) := by rw [cellB hA]; rfl
  have f2 := freeB hA 2
  have hE1 := hG.bound
  have hE2 := hG.off
  unfold ErrAt at hE1 hE2
  have HA := Lib.hid hA
  clear hA hG
  by_cases h0 : n < 0
  · have HW := Lib.hid (show cutD d n = (2, d) by unfold cutD; rw [if_pos h0])
    go_enter Tryd.func15, Tryd.ntmps15
    go_wp2
    go_ret
    rw [HW.out]
    exact ⟨rfl, HD.out, OnlyD.of_below (Below.refl _ _)⟩
  · cases ho : d.off with
    | true =>
      have HW := Lib.hid (show cutD d n = (12, d) by unfold cutD; rw [if_neg h0, if_pos ho])
      rw [ho] at c1
      clear ho
      go_enter Tryd.func15, Tryd.ntmps15
      go_wp2
      go_ret
      rw [HW.out]
      exact ⟨rfl, HD.out, OnlyD.of_below (Below.refl _ _)⟩
    | false =>
      have HW := Lib.hid (show cutD d n = (0, ⟨d.bs, false, n⟩) by unfold cutD; rw [if_neg h0, if_neg (by simp [ho]), ← ho])
      have HO := Lib.hid ho
      rw [ho] at c1
      clear ho
      go_enter Tryd.func15, Tryd.ntmps15
      go_wp2
      go_ret
      rw [HW.out]
      have h2 := heap_setCell_same w p 2 _ _ (.int .i64 n) HA.out
      refine ⟨rfl, ⟨hne, cap, by rw [HO.out] at h2; simpa using h2, hR.keep ?_⟩, ⟨rfl, rfl, rfl, by simp, fun k _ k1 _ => ?_⟩⟩
      · rw [heap_setCell_other _ _ _ _ hne]
      · rw [heap_setCell_other _ _ _ _ k1]

/-- What Recover leaves. -/
def RecEnds (p g : Nat) (d : Dk) (w : World) (e : Ending) (w' : World) : Prop :=
  ∃ l n A cap, ReadIs d.bs l n ∧ n ≤ d.bs.length ∧ l.length ≤ d.bs.length ∧ e = .returned (.tuple #[.slice A l.length cap, .nilIface]) ∧ StrsAt w' A l ∧ (∀ a, A = some a → w.heap.size ≤ a.block) ∧ DiskAt w' p g ⟨d.bs.take n, false, -1⟩ ∧ OnlyD p g w w'

theorem StrsAt.only {w w' : World} {A : Option Addr} {l : List (List UInt8)} {p g : Nat} (h : StrsAt w A l) (ho : OnlyD p g w w') (hA : ∀ a, A = some a → a.block ≠ p ∧ a.block ≠ g) : StrsAt w' A l := by
  rcases h with h | ⟨b, o, rfl, h2, h3⟩
  · exact .inl h
  · have := hA _ rfl
    exact .inr ⟨b, o, rfl, Nat.lt_of_lt_of_le h2 ho.size, fun i hi => (World.cell?_of_block (ho.block b h2 this.1 this.2)).trans (h3 i hi)⟩

theorem RowB.cutAt {w : World} {g cap : Nat} {bs : List UInt8} (h : RowB w g cap bs) (n : Nat) (hn : n ≤ bs.length) : n ≤ cap := by
  obtain ⟨_, _, _, _, h1, _⟩ := h
  omega

set_option maxHeartbeats 800000 in
theorem recover_any (p g : Nat) (E : Nat → Addr) (d : Dk) (w0 w : World) (hG : TapeG E w0) (hb0 : Below w0.heap.size w0 w) (hp : w0.heap.size ≤ p) (hg : w0.heap.size ≤ g) (hD : DiskAt w p g d) (hb : d.bs.length ≤ 1048576) :
    Calls Tryd.prog 18 #[.pointer (some ⟨p, 0, none⟩)] w (RecEnds p g d w) := by
  have HP := Lib.hid hD.lt
  go_enter Tryd.func18, Tryd.ntmps18
  go_wp2_with fail
  refine (on_any p g d w hD).mono ?_
  rintro e w1 ⟨rfl, hD1, ho1⟩
  have hG1 := hG.below (ho1.below hb0 hp hg hb0.size)
  have HT := Lib.hid hG1.tab
  have HA := Lib.hid hG1.atoi
  have HM := Lib.hid hG1.max
  obtain ⟨hne, cap, hA, hR⟩ := hD1
  have c0 : w1.cell? ⟨p, 0, none⟩ = some (.slice (some ⟨g, 0, none⟩) d.bs.length cap) := by rw [cellB hA]; rfl
  have kc := run_string_rowB 78 9 Tryd.underlying78 Tryd.underlying9 w1 g cap cap d.bs hR
  have HO := Lib.hid ho1
  have HA1 := Lib.hid hA
  have HR1 := Lib.hid hR
  clear hA hR ho1 hG1 hG hD
  go_wp2_with fail
  refine (tread_any d.bs (by omega) _ HT.out HA.out HM.out).mono ?_
  rintro e w2 ⟨l, n, A, lc, hr, hn, hl, rfl, hS, hA3, b2⟩
  have hA2 := (b2.block p (heap_lt HA1.out)).trans HA1.out
  have hR2 := HR1.out.below b2
  have hnc := hR2.cutAt n hn
  have d0 : w2.cell? ⟨p, 0, none⟩ = some (.slice (some ⟨g, 0, none⟩) d.bs.length cap) := by rw [cellB hA2]; rfl
  have f0 := freeB hA2 0
  have HS := Lib.hid hS
  have H3 := Lib.hid hA3
  have HA2 := Lib.hid hA2
  have HR2 := Lib.hid hR2
  have HRD := Lib.hid hr
  have B2 := Lib.hid b2
  have hn' : (n : Int) ≤ cap := by omega
  clear kc c0 hS hA2 hR2 hr b2 hA3
  go_wp2_with fail
  go_ret2
  have h2 := heap_setCell_same w2 p 0 _ _ (.slice (some ⟨g, 0, none⟩) n n) HA2.out
  have hO2 : OnlyD p g w2 (w2.setCell ⟨p, 0, none⟩ (.slice (some ⟨g, 0, none⟩) n n)) := ⟨rfl, rfl, rfl, by simp, fun k _ k1 _ => heap_setCell_other _ _ _ _ k1⟩
  have hsz := HO.out.size
  have hpl := HP.out
  refine ⟨l, n, A, lc, HRD.out, hn, hl, rfl, HS.out.only hO2 (fun a ha => ?_), (fun a ha => ?_), ⟨hne, n, ?_, ?_⟩, HO.out.trans ((OnlyD.of_below B2.out).trans hO2 (.inl rfl)) (.inl rfl)⟩
  · have := H3.out a ha
    omega
  · have := H3.out a ha
    omega
  · have e : (d.bs.take n).length = n := by rw [List.length_take]; omega
    simp only [e]
    simpa using h2
  · exact (HR2.out.cut n hn).keep (heap_setCell_other _ _ _ _ hne)
end Go.Proofs.YtcmjdaalhokmdaaDoor
