/- Package tape: a record appended. -/
import Derived.Test.YtcmjdaalhokmdaaDoorWrite
import Derived.Test.YtcmjdaalhokmdaaDoorOne
import Derived.IntWalk
namespace Go.Proofs.YtcmjdaalhokmdaaDoor
open Go.RowKit

/-- The errors that a tape tells. -/
structure TapeG (E : Nat → Addr) (w : World) : Prop where
  bound : ErrAt 0 (E 2) w
  shape : ErrAt 2 (E 3) w
  full : ErrAt 1 (E 8) w
  off : ErrAt 3 (E 12) w
  tab : TabG w
  atoi : AtoiG w
  max : MaxG w
theorem TapeG.below {E : Nat → Addr} {w w' : World} (h : TapeG E w) (hb : Below w.heap.size w w') : TapeG E w' :=
  ⟨h.bound.below hb, h.shape.below hb, h.full.below hb, h.off.below hb, h.tab.below hb, h.atoi.below hb, h.max.below hb⟩

theorem WrEnds.more {E : Nat → Addr} {p g : Nat} {w w1 : World} {x : Nat × Dk} {e : Ending} {w' : World} (hb : Below w.heap.size w w1) (h : WrEnds E p g w1 x e w') : WrEnds E p g w x e w' := by
  obtain ⟨h1, g', h2, h3, h4⟩ := h
  exact ⟨h1, g', h2, (OnlyD.of_below hb).trans h3 (.inl rfl), by have := hb.size; omega⟩

set_option maxHeartbeats 800000 in
theorem append_any (p g : Nat) (E : Nat → Addr) (d : Dk) (s : List UInt8) (w : World) (hG : TapeG E w) (hpe : 3 ≠ p) (hge : 3 ≠ g) (hD : DiskAt w p g d) (hs : s.length ≤ 2000000) (hb : d.bs.length ≤ 1048576) (hc : d.cut ≤ 9223372036854775807) :
    Calls Tryd.prog 13 #[.pointer (some ⟨p, 0, none⟩), .string ⟨s.toArray⟩] w (WrEnds E p g w (appD d s)) := by
  have hsr : (⟨s.toArray⟩ : ByteArray).size = s.length := by simp [ByteArray.size]
  have c0 : ∃ cap, w.cell? ⟨p, 0, none⟩ = some (.slice (some ⟨g, 0, none⟩) d.bs.length cap) := by obtain ⟨_, cap, h, _⟩ := hD; exact ⟨cap, by rw [cellB h]; rfl⟩
  obtain ⟨cap, c0⟩ := c0
  have hp := hD.lt.1
  have HG := Lib.hid hG
  have HD := Lib.hid hD
  clear hD hG
  by_cases h1 : 20000 < s.length
  · have HW := Lib.hid (show appD d s = (2, d) by unfold appD; rw [if_pos h1])
    have hE := HG.out.bound
    unfold ErrAt at hE
    go_enter Tryd.func13, Tryd.ntmps13
    go_wp2_with fail
    go_ret
    rw [HW.out]
    exact ⟨rfl, g, HD.out, OnlyD.of_below (Below.refl _ _), .inl rfl⟩
  · have hl := recL_le s (by omega)
    have hsz : (⟨(recL s).toArray⟩ : ByteArray).size = (recL s).length := by simp [ByteArray.size]
    have HT := Lib.hid (show ∀ W, TabG W → Calls Tryd.prog 35 #[.string ⟨s.toArray⟩] W fun e w' => e = .returned (.string ⟨(recL s).toArray⟩) ∧ Below W.heap.size W w' from fun W h => record_any s (by omega) W h)
    have HWr := Lib.hid (show ∀ W, Below w.heap.size w W → Calls Tryd.prog 36 #[.pointer (some ⟨p, 0, none⟩), .string ⟨(recL s).toArray⟩] W (WrEnds E p g w (wrD d (recL s))) from fun W h =>
      (write_any p g E d (recL s) W (HG.out.below h).off hpe hge (HD.out.below h) (by omega) (by omega) hc).mono fun _ _ hh => WrEnds.more h hh)
    have HA := Lib.hid (show appD d s = if 1048576 < d.bs.length + (recL s).length then (8, d) else wrD d (recL s) by unfold appD; rw [if_neg h1])
    generalize (recL s) = r at *
    by_cases h2 : 1048576 < d.bs.length + r.length
    · have hx : (1048576 : Int) - d.bs.length < r.length := by omega
      have HE := Lib.hid (show ∀ W, Below w.heap.size w W → ErrAt 1 (E 8) W from fun W h => (HG.out.below h).full)
      go_enter Tryd.func13, Tryd.ntmps13
      go_wp2_with fail
      have hwr : IntKind.i64.wrap (1048576 - (d.bs.length : Int)) = 1048576 - (d.bs.length : Int) := IntWalk.i64_in _ (by omega)
      have hTd : TabG w.drew := HG.out.tab
      have b0 : Below w.heap.size w w.drew := (Below.refl _ _).drew
      go_region_held3 (fun w' => w'.cell? ⟨p, 0, none⟩ = some (.slice (some ⟨g, 0, none⟩) d.bs.length cap) ∧ Below w.heap.size w w')
        (first | exact ⟨c0, b0⟩ | exact ⟨(b1.cell hp).trans c0, b1⟩ | go_keep)
        (first | (go_at_call 35; refine (HT.out _ hTd).mono ?_; rintro e w1 ⟨rfl, bb1⟩; have b1 : Below w.heap.size w w1 := b0.trans bb1))
      have hE1 := HE.out _ b1
      unfold ErrAt at hE1
      have B1 := Lib.hid b1
      clear bb1 b1 b0 c0 hwr
      go_wp2_with fail
      go_ret
      rw [HA.out, if_pos h2]
      exact ⟨rfl, g, HD.out.below B1.out, OnlyD.of_below B1.out, .inl rfl⟩
    · have hx : ¬ (1048576 : Int) - d.bs.length < r.length := by omega
      go_enter Tryd.func13, Tryd.ntmps13
      go_wp2_with fail
      have hwr : IntKind.i64.wrap (1048576 - (d.bs.length : Int)) = 1048576 - (d.bs.length : Int) := IntWalk.i64_in _ (by omega)
      have hTd : TabG w.drew := HG.out.tab
      have b0 : Below w.heap.size w w.drew := (Below.refl _ _).drew
      go_region_held3 (fun w' => w'.cell? ⟨p, 0, none⟩ = some (.slice (some ⟨g, 0, none⟩) d.bs.length cap) ∧ Below w.heap.size w w')
        (first | exact ⟨c0, b0⟩ | exact ⟨(b1.cell hp).trans c0, b1⟩ | go_keep)
        (first | (go_at_call 35; refine (HT.out _ hTd).mono ?_; rintro e w1 ⟨rfl, bb1⟩; have b1 : Below w.heap.size w w1 := b0.trans bb1))
      have hT1 := (HG.out.below b1).tab
      have B1 := Lib.hid b1
      clear bb1 b1 b0 c0 hwr
      go_wp2_with fail
      refine (HT.out _ hT1).mono ?_
      rintro e w2 ⟨rfl, b2⟩
      have B2 := B1.out.trans (b2.mono B1.out.size)
      go_wp2_with fail
      refine (HWr.out _ B2).mono ?_
      rintro e w3 ⟨rfl, hh⟩
      have HH := Lib.hid hh
      clear hh b2 B2
      go_wp2_with fail
      go_ret
      rw [HA.out, if_neg h2]
      exact ⟨rfl, HH.out⟩
end Go.Proofs.YtcmjdaalhokmdaaDoor
