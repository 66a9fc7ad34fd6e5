/- Package tape: a disk's write. -/
import Derived.Test.YtcmjdaalhokmdaaDoorDisk
namespace Go.Proofs.YtcmjdaalhokmdaaDoor
open Go.RowKit

/-- What a write leaves. -/
def WrEnds (E : Nat → Addr) (p g : Nat) (w : World) (x : Nat × Dk) (e : Ending) (w' : World) : Prop :=
  e = .returned (errOf E x.1) ∧ ∃ g', DiskAt w' p g' x.2 ∧ OnlyD p g w w' ∧ (g' = g ∨ w.heap.size ≤ g')

/-- The slice's store behind an append. -/
theorem DiskAt.put {w w1 : World} {p g g' cap' n : Nat} {v : Value} {bs : List UInt8} {off : Bool} {cut : Int} (hne : g ≠ p) (hA : w.heap[p]? = some (.cells #[v, .bool off, .int .i64 cut] 80 (0, 0)))
    (hR : RowB w1 g' cap' bs) (hg : g' = g ∨ w.heap.size ≤ g') (h1 : w1.os = w.os) (h2 : w1.tape = w.tape) (h3 : w1.output = w.output) (h4 : w.heap.size ≤ w1.heap.size) (h5 : ∀ k, k < w.heap.size → k ≠ g → w1.heap[k]? = w.heap[k]?) (hn : n = bs.length) :
    DiskAt (w1.setCell ⟨p, 0, none⟩ (.slice (some ⟨g', 0, none⟩) n cap')) p g' ⟨bs, off, cut⟩ ∧ OnlyD p g w (w1.setCell ⟨p, 0, none⟩ (.slice (some ⟨g', 0, none⟩) n cap')) := by
  subst hn
  have hp := heap_lt hA
  have hgp : g' ≠ p := by omega
  have bA := (h5 p hp (Ne.symm hne)).trans hA
  have p3 := heap_setCell_same _ p 0 _ _ (.slice (some ⟨g', 0, none⟩) bs.length cap') bA
  refine ⟨⟨hgp, cap', by simpa using p3, hR.keep (heap_setCell_other _ _ _ _ hgp)⟩, ⟨h1, h2, h3, by simpa using h4, fun k hk k1 k2 => ?_⟩⟩
  rw [heap_setCell_other _ _ _ _ k1]
  exact h5 k hk k2

/-- What an append of bytes leaves. -/
structure AppB (w : World) (g : Nat) (w1 : World) (g' cap' : Nat) (bs : List UInt8) : Prop where
  row : RowB w1 g' cap' bs
  at_ : g' = g ∨ w.heap.size ≤ g'
  os : w1.os = w.os
  tape : w1.tape = w.tape
  output : w1.output = w.output
  size : w.heap.size ≤ w1.heap.size
  block : ∀ k, k < w.heap.size → k ≠ g → w1.heap[k]? = w.heap[k]?

theorem wpList_append_disk {ops : Array Oper} {rest : List Oper} {o : Oper} {a : Act} {Q : Exit → Act → World → Prop} (w : World) (hgd : o.guard = none) (sl x : Operand) (u : TypeId)
    (ho : o.op = .call { callee := .builtin .append, args := #[sl, x], argTypes := #[78, u] }) (hu : Tryd.prog.underlying u = some .string)
    (p g cap : Nat) (bs s : List UInt8) (hs : a.eval sl = .slice (some ⟨g, 0, none⟩) bs.length cap) (h : RowB w g cap bs) (hx : a.eval x = .string ⟨s.toArray⟩) (hlen : bs.length + s.length ≤ 1000000000)
    {cs : Array Value} {t : TypeId} (hA : Hid (w.heap[p]? = some (.cells cs t (0, 0)))) (hne : g ≠ p) {v : Value} (hv : cs[0]? = some v)
    (hK : ∀ g' cap' w', Hid (AppB w g w' g' cap' (bs ++ s)) → w'.cell? ⟨p, 0, none⟩ = some v → w'.frozen? ⟨p, 0, none⟩ = false →
      wpList Tryd.prog ops Q rest (a.put o.dst (.slice (some ⟨g', 0, none⟩) (bs.length + s.length) cap')) w') : wpList Tryd.prog ops Q (o :: rest) a w :=
  wpList_append_rowB w hgd sl x u ho hu g cap bs s hs h hx hlen fun g' cap' w' r1 r2 r3 r4 r5 r6 r7 => by
    have hp := (r7 p (heap_lt hA.out) (Ne.symm hne)).trans hA.out
    exact hK g' cap' w' ⟨r1, r2, r3, r4, r5, r6, r7⟩ (by rw [cellB hp]; exact hv) (freeB hp 0)
theorem step_append_disk {ops : Array Oper} {o : Oper} {a : Act} {K : Act → World → Prop} {Q : Exit → Act → World → Prop} {F : Prop} (w : World) (hgd : o.guard = none) (sl x : Operand) (u : TypeId)
    (ho : o.op = .call { callee := .builtin .append, args := #[sl, x], argTypes := #[78, u] }) (hu : Tryd.prog.underlying u = some .string)
    (p g cap : Nat) (bs s : List UInt8) (hs : a.eval sl = .slice (some ⟨g, 0, none⟩) bs.length cap) (h : RowB w g cap bs) (hx : a.eval x = .string ⟨s.toArray⟩) (hlen : bs.length + s.length ≤ 1000000000)
    {cs : Array Value} {t : TypeId} (hA : Hid (w.heap[p]? = some (.cells cs t (0, 0)))) (hne : g ≠ p) {v : Value} (hv : cs[0]? = some v)
    (hK : ∀ g' cap' w', Hid (AppB w g w' g' cap' (bs ++ s)) → w'.cell? ⟨p, 0, none⟩ = some v → w'.frozen? ⟨p, 0, none⟩ = false →
      K (a.put o.dst (.slice (some ⟨g', 0, none⟩) (bs.length + s.length) cap')) w') : if Region.wanted o (yielded ops a.tmps) = true then Oper.wp Tryd.prog o a w K Q else F :=
  step_append_rowB w hgd sl x u ho hu g cap bs s hs h hx hlen fun g' cap' w' r1 r2 r3 r4 r5 r6 r7 => by
    have hp := (r7 p (heap_lt hA.out) (Ne.symm hne)).trans hA.out
    exact hK g' cap' w' ⟨r1, r2, r3, r4, r5, r6, r7⟩ (by rw [cellB hp]; exact hv) (freeB hp 0)

set_option maxHeartbeats 400000 in
theorem write_off (E : Nat → Addr) (p g : Nat) (d : Dk) (r : List UInt8) (w : World) (hE : ErrAt 3 (E 12) w) (hD : DiskAt w p g d) (ho : d.off = true) :
    Calls Tryd.prog 36 #[.pointer (some ⟨p, 0, none⟩), .string ⟨r.toArray⟩] w (WrEnds E p g w (wrD d r)) := by
  have HD := Lib.hid hD
  obtain ⟨hne, cap, hA, hR⟩ := hD
  have c1 : w.cell? ⟨p, 1, none⟩ = some (.bool true) := by rw [cellB hA, ← ho]; rfl
  have HW := Lib.hid (show wrD d r = (12, d) by unfold wrD; rw [if_pos ho])
  unfold ErrAt at hE
  clear hA hR ho
  go_enter Tryd.func36, Tryd.ntmps36
  go_wp2
  go_ret
  rw [HW.out]
  exact ⟨rfl, g, HD.out, OnlyD.of_below (Below.refl _ _), .inl rfl⟩

set_option maxHeartbeats 800000 in
theorem write_plain (E : Nat → Addr) (p g : Nat) (bs : List UInt8) (cut : Int) (r : List UInt8) (w : World) (hD : DiskAt w p g ⟨bs, false, cut⟩) (hr : r.length ≤ 2000000) (hb : bs.length ≤ 2000000) (hc : cut < 0) :
    Calls Tryd.prog 36 #[.pointer (some ⟨p, 0, none⟩), .string ⟨r.toArray⟩] w (WrEnds E p g w (0, ⟨bs ++ r, false, cut⟩)) := by
  obtain ⟨hne, cap, hA, hR⟩ := hD
  have hg := hR.lt
  have c0 : w.cell? ⟨p, 0, none⟩ = some (.slice (some ⟨g, 0, none⟩) bs.length cap) := by rw [cellB hA]; rfl
  have c1 : w.cell? ⟨p, 1, none⟩ = some (.bool false) := by rw [cellB hA]; rfl
  have c2 : w.cell? ⟨p, 2, none⟩ = some (.int .i64 cut) := by rw [cellB hA]; rfl
  have HA := Lib.hid hA
  have HR := Lib.hid hR
  clear hA hR
  have hc' : ¬ 0 ≤ cut := by omega
  go_enter Tryd.func36, Tryd.ntmps36
  go_wp2_with (at_builtin; refine wpList_append_disk _ rfl (.tmp 60) (.tmp 61) 9 rfl Tryd.underlying9 p g cap bs r rfl HR.out rfl (by omega) HA hne rfl ?_; intro g' cap' w1 KK hcp hfp)
  go_ret
  obtain ⟨k1, k2, k3, k4, k5, k6, k7⟩ := KK.out
  obtain ⟨q1, q2⟩ := DiskAt.put (n := bs.length + r.length) hne HA.out k1 k2 k3 k4 k5 k6 k7 (by simp)
  exact ⟨rfl, g', q1, q2, k2⟩

set_option maxHeartbeats 800000 in
theorem write_count (p g : Nat) (E : Nat → Addr) (bs : List UInt8) (cut : Int) (r : List UInt8) (w : World) (hD : DiskAt w p g ⟨bs, false, cut⟩) (hr : r.length ≤ 2000000) (hb : bs.length ≤ 2000000) (hc : 0 ≤ cut) (hc2 : (r.length : Int) ≤ cut) (hc3 : cut ≤ 9223372036854775807) :
    Calls Tryd.prog 36 #[.pointer (some ⟨p, 0, none⟩), .string ⟨r.toArray⟩] w (WrEnds E p g w (0, ⟨bs ++ r, false, cut - r.length⟩)) := by
  obtain ⟨hne, cap, hA, hR⟩ := hD
  have hg := hR.lt
  have c0 : w.cell? ⟨p, 0, none⟩ = some (.slice (some ⟨g, 0, none⟩) bs.length cap) := by rw [cellB hA]; rfl
  have c1 : w.cell? ⟨p, 1, none⟩ = some (.bool false) := by rw [cellB hA]; rfl
  have c2 : w.cell? ⟨p, 2, none⟩ = some (.int .i64 cut) := by rw [cellB hA]; rfl
  have f2 := freeB hA 2
  have hA2 := heap_setCell_same w p 2 _ _ (.int .i64 (cut - r.length)) hA
  have hR2 : RowB (w.setCell ⟨p, 2, none⟩ (.int .i64 (cut - r.length))) g cap bs := hR.keep (heap_setCell_other _ _ _ _ hne)
  have hO : OnlyD p g w (w.setCell ⟨p, 2, none⟩ (.int .i64 (cut - r.length))) := ⟨rfl, rfl, rfl, by simp, fun k _ k1 _ => heap_setCell_other _ _ _ _ k1⟩
  have hsz : (w.setCell ⟨p, 2, none⟩ (.int .i64 (cut - r.length))).heap.size = w.heap.size := by simp
  have c0' : (w.setCell ⟨p, 2, none⟩ (.int .i64 (cut - r.length))).cell? ⟨p, 0, none⟩ = some (.slice (some ⟨g, 0, none⟩) bs.length cap) := by rw [cellB hA2]; rfl
  have HA := Lib.hid hA2
  have HR := Lib.hid hR2
  have HO := Lib.hid hO
  have HZ := Lib.hid hsz
  clear hA hR hA2 hR2 hO hsz
  have hc' : ¬ cut < r.length := by omega
  have hsr : (⟨r.toArray⟩ : ByteArray).size = r.length := by simp [ByteArray.size]
  go_enter Tryd.func36, Tryd.ntmps36
  go_wp2_with (at_builtin; refine wpList_append_disk _ rfl (.tmp 60) (.tmp 61) 9 rfl Tryd.underlying9 p g cap bs r rfl HR.out rfl (by omega) HA hne rfl ?_; intro g' cap' w1 KK hcp hfp)
  go_ret
  obtain ⟨k1, k2, k3, k4, k5, k6, k7⟩ := KK.out
  obtain ⟨q1, q2⟩ := DiskAt.put (n := bs.length + r.length) hne HA.out k1 k2 k3 k4 k5 k6 k7 (by simp)
  exact ⟨rfl, g', q1, HO.out.trans q2 (.inl rfl), by rw [HZ.out] at k2; exact k2⟩

set_option maxHeartbeats 800000 in
theorem write_fails (p g : Nat) (E : Nat → Addr) (bs : List UInt8) (cut : Nat) (r : List UInt8) (w : World) (hE : ErrAt 3 (E 12) w) (hpe : 3 ≠ p) (hge : 3 ≠ g) (hD : DiskAt w p g ⟨bs, false, cut⟩) (hr : r.length ≤ 2000000) (hb : bs.length ≤ 2000000) (hc2 : cut < r.length) :
    Calls Tryd.prog 36 #[.pointer (some ⟨p, 0, none⟩), .string ⟨r.toArray⟩] w (WrEnds E p g w (12, ⟨bs ++ r.take cut, true, cut⟩)) := by
  obtain ⟨hne, cap, hA, hR⟩ := hD
  have hg := hR.lt
  have c0 : w.cell? ⟨p, 0, none⟩ = some (.slice (some ⟨g, 0, none⟩) bs.length cap) := by rw [cellB hA]; rfl
  have c1 : w.cell? ⟨p, 1, none⟩ = some (.bool false) := by rw [cellB hA]; rfl
  have c2 : w.cell? ⟨p, 2, none⟩ = some (.int .i64 (cut : Nat)) := by rw [cellB hA]; rfl
  have HA := Lib.hid hA
  have HR := Lib.hid hR
  clear hA hR
  have hc' : (cut : Int) < r.length := by omega
  have hc0 : (0 : Int) ≤ cut := by omega
  have hsr : (⟨r.toArray⟩ : ByteArray).size = r.length := by simp [ByteArray.size]
  go_enter Tryd.func36, Tryd.ntmps36
  go_wp2_with fail
  have hx : (⟨r.toArray⟩ : ByteArray).extract 0 cut = ⟨(r.take cut).toArray⟩ := by
    apply ByteArray.ext
    rw [ByteArray.data_extract]
    simp
  have HX := Lib.hid hx
  have hle : cut ≤ r.length := by omega
  have hrl : (r.take cut).length = cut := by rw [List.length_take]; omega
  have HRL := Lib.hid hrl
  clear hx hrl
  have R1 : RowB w.drew g cap bs := HR.out
  have A1 : Hid (w.drew.heap[p]? = some (.cells #[.slice (some ⟨g, 0, none⟩) bs.length cap, .bool false, .int .i64 (cut : Nat)] 80 (0, 0))) := HA
  go_region_law (first | (refine step_append_disk _ rfl (.tmp 28) (.tmp 34) 9 rfl Tryd.underlying9 p g cap bs (r.take cut) (by rfl) R1 (by exact congrArg Value.string HX.out) (by rw [HRL.out]; omega) A1 hne rfl ?_; intro g' cap' w1 KK hcp hfp))
  all_goals
    have hne' : g' ≠ p := by have := KK.out.at_; have := heap_lt HA.out; simp at *; omega
    have hq := DiskAt.put (n := bs.length + cut) (w := w.drew) hne HA.out KK.out.row KK.out.at_ KK.out.os KK.out.tape KK.out.output KK.out.size KK.out.block (by rw [List.length_append, HRL.out])
    have hk := KK.out.at_
    obtain ⟨q1, q2⟩ := hq
    generalize w1.setCell ⟨p, 0, none⟩ (.slice (some ⟨g', 0, none⟩) (bs.length + cut) cap') = W at q1 q2 ⊢
    have hE2 : W.cell? ⟨3, 0, none⟩ = some (.iface 211 (.pointer (some (E 12)))) := by
      rw [show W.cell? ⟨3, 0, none⟩ = w.cell? ⟨3, 0, none⟩ from World.cell?_of_block (q2.block _ (lt_of_cell hE) hpe hge)]
      exact hE
    have d1 : W.cell? ⟨p, 1, none⟩ = some (.bool false) := by obtain ⟨_, _, h, _⟩ := q1; rw [cellB h]; rfl
    have f1 : W.frozen? ⟨p, 1, none⟩ = false := by obtain ⟨_, _, h, _⟩ := q1; exact freeB h 1
    have Q1 := Lib.hid q1
    have Q2 := Lib.hid q2
    have HK := Lib.hid hk
    clear q1 q2 hk KK hcp hfp
    go_wp2
    go_ret
    obtain ⟨z1, cap2, z2, z3⟩ := Q1.out
    refine ⟨rfl, g', ⟨hne', cap2, ?_, z3.keep (heap_setCell_other _ _ _ _ hne')⟩, ⟨Q2.out.os, Q2.out.tape, Q2.out.output, by simpa using Q2.out.size, fun k k0 k1 k2 => ?_⟩, by simpa using HK.out⟩
    · have := heap_setCell_same W p 1 _ _ (.bool true) z2
      simpa using this
    · rw [heap_setCell_other _ _ _ _ k1]; exact Q2.out.block k k0 k1 k2

theorem write_any (p g : Nat) (E : Nat → Addr) (d : Dk) (r : List UInt8) (w : World) (hE : ErrAt 3 (E 12) w) (hpe : 3 ≠ p) (hge : 3 ≠ g) (hD : DiskAt w p g d) (hr : r.length ≤ 2000000) (hb : d.bs.length ≤ 2000000) (hc : d.cut ≤ 9223372036854775807) :
    Calls Tryd.prog 36 #[.pointer (some ⟨p, 0, none⟩), .string ⟨r.toArray⟩] w (WrEnds E p g w (wrD d r)) := by
  obtain ⟨bs, off, cut⟩ := d
  cases off with
  | true => exact write_off E p g _ r w hE hD rfl
  | false =>
    by_cases h1 : 0 ≤ cut ∧ cut < r.length
    · obtain ⟨k, rfl⟩ : ∃ k : Nat, cut = k := ⟨cut.toNat, by omega⟩
      have h := write_fails p g E bs k r w hE hpe hge hD hr hb (by omega)
      unfold wrD
      rw [if_neg (by simp), if_pos h1]
      exact h
    · unfold wrD
      rw [if_neg (by simp), if_neg h1]
      by_cases h2 : 0 ≤ cut
      · simp only [if_pos h2]
        exact write_count p g E bs cut r w hD hr hb h2 (by omega) hc
      · simp only [if_neg h2]
        exact write_plain E p g bs cut r w hD hr hb (by omega)
end Go.Proofs.YtcmjdaalhokmdaaDoor
