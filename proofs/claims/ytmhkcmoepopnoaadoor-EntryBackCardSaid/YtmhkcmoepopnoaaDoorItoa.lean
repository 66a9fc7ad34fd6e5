/- strconv.Itoa, strconv.Atoi and goods.Number as the statements need them: what was there stays as it was. -/
import Derived.Test.YtmhkcmoepopnoaaDoorBase
import Derived.Test.YtmhkcmoepopnoaaDoorShelf
import Derived.Test.YtmhkcmoepopnoaaDoorNum
import Derived.Lib.SmallJoins
import Derived.Lib.QuietBelow
namespace Go.Proofs.YtmhkcmoepopnoaaDoor
open Go.RowKit

theorem below_grow (w : World) (q : Nat) (os : Array Obj) : Below w.heap.size w (Sort.grow (w.drewN q) os) :=
  ⟨rfl, rfl, rfl, by simp [Sort.grow, World.drewN], fun k hk => by simp [Sort.grow, World.drewN, Array.getElem?_append, hk]⟩

theorem itoa_any (n : Int) (h0 : -9223372036854775808 ≤ n) (h1 : n ≤ 9223372036854775807) (w : World) (hT : TabG w) :
    Calls Tryd.prog 18 #[.int .i64 n] w fun e w' => e = .returned (.string ⟨(Lib.itoa n).toArray⟩) ∧ Below w.heap.size w w' :=
  (Tryd.strconv_Itoa n h0 h1 w hT.1).mono fun e w' h => by
    obtain ⟨he, k, os, rfl⟩ := h
    exact ⟨he, below_grow _ _ _⟩

theorem atoi_ok (s : ByteArray) (hs : s.size ≤ 281474976710656) (v : Int) (h : Lib.atoiAll s.data.toList = .ok v) (w : World) :
    Calls Tryd.prog 36 #[.string s] w fun e w' => e = .returned (.tuple #[.int .i64 v, .nilIface]) ∧ Below w.heap.size w w' :=
  (Tryd.strconv_Atoi_ok s (by omega) v h w).mono fun e w' hh => by
    obtain ⟨he, hw⟩ := hh
    refine ⟨he, ?_⟩
    rcases hw with rfl | ⟨t, rfl⟩
    · exact Below.refl _ _
    · exact Joins.below_bytesWorld _ _ _ _ (Nat.le_refl _)

/-- What Atoi leaves where it tells an error. -/
def AtoiFails (w : World) (e : Ending) (w' : World) : Prop :=
  ∃ (m : Int) (p : Addr), -9223372036854775808 ≤ m ∧ m ≤ 9223372036854775807 ∧ e = .returned (.tuple #[.int .i64 m, .iface 104 (.pointer (some p))]) ∧ Below w.heap.size w w'

theorem atoi_no (s : ByteArray) (hs : s.size ≤ 281474976710656) (h : ∀ v, Lib.atoiAll s.data.toList ≠ .ok v) (w : World) (hA : AtoiG w) :
    Calls Tryd.prog 36 #[.string s] w (AtoiFails w) := by
  obtain ⟨⟨t1, p1, h1⟩, ⟨t2, p2, h2⟩⟩ := hA
  cases hx : Lib.atoiAll s.data.toList with
  | ok v => exact absurd hx (h v)
  | _ =>
    first
    | exact (Tryd.strconv_Atoi_range s hs hx _ w h2 (Or.inr ⟨_, _, rfl⟩)).mono fun e w' hh => by
        obtain ⟨N, he, _, _, hb⟩ := hh
        exact ⟨_, _, (Lib.atoiSat_bounds _).1, (Lib.atoiSat_bounds _).2, he, hb⟩
    | exact (show Calls Tryd.prog 36 #[.string s] w fun e w' => ∃ N, e = .returned (.tuple #[.int .i64 (0), .iface 104 (.pointer (some ⟨N, 0, none⟩))]) ∧ w.heap.size ≤ N ∧ w'.heap[N]? = some (.cells #[.string ⟨#[65, 116, 111, 105]⟩, .string s, .iface t1 p1] 124 (0, 0)) ∧ Below w.heap.size w w' from Any.strconv_Atoi_syntax Tryd.laysC172 s hs hx _ w h1 (Or.inr ⟨_, _, rfl⟩)).mono fun e w' hh => by
        obtain ⟨N, he, _, _, hb⟩ := hh
        exact ⟨0, _, by omega, by omega, he, hb⟩

/-- What goods.Number leaves where a text is no such numeral. -/
def NumFails (w : World) (e : Ending) (w' : World) : Prop :=
  ∃ m : Int, -9223372036854775808 ≤ m ∧ m ≤ 9223372036854775807 ∧ e = .returned (.tuple #[.int .i64 m, .bool false]) ∧ Below w.heap.size w w'

set_option maxHeartbeats 400000 in
theorem number_yes (s : ByteArray) (d n : Nat) (h : NumIs s.data.toList d n) (hd : d ≤ 100) (w : World) (hT : TabG w) :
    Calls Tryd.prog 25 #[.string s, .int .i64 d] w fun e w' => e = .returned (.tuple #[.int .i64 n, .bool true]) ∧ Below w.heap.size w w' := by
  obtain ⟨h1, h2, h3⟩ := h
  have hsz : s.size = s.data.toList.length := by rw [Array.length_toList]; rfl
  have ha := atoi_dec n h3
  rw [← h1] at ha
  have hi := itoa_nat n (by omega)
  rw [Int.toNat_natCast, ← h1] at hi
  have hs : s.size ≤ d := by omega
  have hs' : decide (s.size ≤ d) = true := by simpa using hs
  have hA := atoi_ok s (by omega) n ha w
  have HI := Lib.hid hi
  have HA := Lib.hid hA
  clear hi hA ha h1 h2 hsz
  go_enter Tryd.func25, Tryd.ntmps25
  go_wp2_with fail
  refine HA.out.mono ?_
  rintro e w1 ⟨rfl, hb⟩
  go_wp2_with fail
  refine (itoa_any n (by omega) (by omega) _ (hT.below hb)).mono ?_
  rintro e w2 ⟨rfl, hb2⟩
  go_wp2_with fail
  go_ret2
  refine ⟨?_, hb.trans (hb2.mono hb.size)⟩
  rw [HI.out]
  simp [Lib.toList_data]

set_option maxHeartbeats 400000 in
theorem number_no (s : ByteArray) (d : Nat) (hs : s.size ≤ 281474976710656) (h : ∀ n, ¬ NumIs s.data.toList d n) (_ : d ≤ 100) (w : World) (hT : TabG w) (hG : AtoiG w) :
    Calls Tryd.prog 25 #[.string s, .int .i64 d] w (NumFails w) := by
  have hsz : s.size = s.data.toList.length := by rw [Array.length_toList]; rfl
  by_cases hx : ∃ v, Lib.atoiAll s.data.toList = .ok v
  · obtain ⟨v, hv⟩ := hx
    obtain ⟨b0, b1⟩ := Lib.atoiAll_bounds hv
    have hA := atoi_ok s hs v hv w
    have hfin : ¬ (s.size ≤ d ∧ 0 ≤ v ∧ Lib.itoa v = s.data.toList) := by
      rintro ⟨q1, q2, q3⟩
      rw [itoa_nat v q2] at q3
      exact h v.toNat ⟨q3.symm, by omega, by omega⟩
    have HA := Lib.hid hA
    have HF := Lib.hid hfin
    clear hA hfin h hv hG hsz
    by_cases hl : s.size ≤ d
    · have hl' : decide (s.size ≤ d) = true := by simpa using hl
      by_cases hp : 0 ≤ v
      · go_enter Tryd.func25, Tryd.ntmps25
        go_wp2_with fail
        refine HA.out.mono ?_
        rintro e w1 ⟨rfl, hb⟩
        go_wp2_with fail
        refine (itoa_any v (by omega) (by omega) _ (hT.below hb)).mono ?_
        rintro e w2 ⟨rfl, hb2⟩
        go_wp2_with fail
        go_ret2
        refine ⟨v, b0, b1, ?_, hb.trans (hb2.mono hb.size)⟩
        have : ¬ Lib.itoa v = s.data.toList := fun q => HF.out ⟨hl, hp, q⟩
        simp [this, Lib.toList_data]
      · go_enter Tryd.func25, Tryd.ntmps25
        go_wp2_with fail
        refine HA.out.mono ?_
        rintro e w1 ⟨rfl, hb⟩
        go_wp2_with fail
        go_ret2
        exact ⟨v, b0, b1, by simp, hb⟩
    · have hl' : decide (s.size ≤ d) = false := by simpa using hl
      go_enter Tryd.func25, Tryd.ntmps25
      go_wp2_with fail
      refine HA.out.mono ?_
      rintro e w1 ⟨rfl, hb⟩
      go_wp2_with fail
      go_ret2
      exact ⟨v, b0, b1, by simp, hb⟩
  · have hA := atoi_no s hs (fun v hv => hx ⟨v, hv⟩) w hG
    have HA := Lib.hid hA
    clear hA h hx hG hsz
    go_enter Tryd.func25, Tryd.ntmps25
    go_wp2_with fail
    refine HA.out.mono ?_
    rintro e w1 ⟨m, p, b0, b1, rfl, hb⟩
    go_wp2_with fail
    go_ret2
    exact ⟨m, b0, b1, by simp, hb⟩

/-- How goods.Number ends. -/
def NumEnds (l : List UInt8) (d : Nat) (w : World) (e : Ending) (w' : World) : Prop :=
  (∃ n : Nat, numQ l d = some n ∧ NumIs l d n ∧ e = .returned (.tuple #[.int .i64 n, .bool true]) ∧ Below w.heap.size w w') ∨ (numQ l d = none ∧ NumFails w e w')

theorem number_any (s : ByteArray) (d : Nat) (hs : s.size ≤ 281474976710656) (hd : d ≤ 100) (w : World) (hT : TabG w) (hG : AtoiG w) :
    Calls Tryd.prog 25 #[.string s, .int .i64 d] w (NumEnds s.data.toList d w) := by
  cases h : numQ s.data.toList d with
  | none => exact (number_no s d hs (numQ_none _ _ h) hd w hT hG).mono fun e w' hh => Or.inr ⟨h, hh⟩
  | some n =>
    have hn := (numQ_iff _ _ _).1 h
    exact (number_yes s d n hn hd w hT).mono fun e w' hh => Or.inl ⟨n, h, hn, hh⟩
end Go.Proofs.YtmhkcmoepopnoaaDoor
