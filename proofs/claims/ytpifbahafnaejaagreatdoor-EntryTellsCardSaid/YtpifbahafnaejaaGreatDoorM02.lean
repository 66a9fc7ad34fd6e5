/- strconv.Itoa, strconv.Atoi and goods.Number as the statements need them: what was there stays as it was. Places: Text. Lots, as they lie in memory; equal lots. Lots: Check, Text; the closed fact. Plain facts: a text cut at one byte; pieces are read as they were written. No program in sight but what goods.Text and goods.Read compute. Plain facts: the document's reading of a numeral, held against strconv's. No program in sight. The document's NumberOf, walked. Parts of a text, plainly. Texts cut by a byte, plainly: strings.Split's answer and the document's. Slices of strings, as a walk reads them; the same texts? strings.Split at one byte, walked. A result that lies in memory, beside one that doesn't; a struct stored cell by cell. -/
import Derived.Lib.SmallJoins
import Derived.Lib.QuietBelow
import Derived.Lib.ItoaLen
import Derived.Laws.StructEq
import Derived.Lib.IndexLaws
import Derived.Lib.SplitLaws
import Derived.Laws.AppendOwn
import Derived.Deep.AppendLies
import Derived.Laws.ResultCell
import Derived.Laws.Rows
import Derived.Test.YtpifbahafnaejaaGreatDoorM01
namespace Go.Proofs.YtpifbahafnaejaaGreatDoor
open Go.RowKit

theorem below_grow (w : World) (q : Nat) (os : Array Obj) : Below w.heap.size w (Sort.grow (w.drewN q) os) :=
  ⟨rfl, rfl, rfl, by simp [Sort.grow, World.drewN], fun k hk => by simp [Sort.grow, World.drewN, Array.getElem?_append, hk]⟩

theorem itoa_any (n : Int) (h0 : -9223372036854775808 ≤ n) (h1 : n ≤ 9223372036854775807) (w : World) (hT : TabG w) :
    Calls Tryz.prog 34 #[.int .i64 n] w fun e w' => e = .returned (.string ⟨(Lib.itoa n).toArray⟩) ∧ Below w.heap.size w w' :=
  (Tryz.strconv_Itoa n h0 h1 w hT.1).mono fun e w' h => by
    obtain ⟨he, k, os, rfl⟩ := h
    exact ⟨he, below_grow _ _ _⟩

theorem atoi_ok (s : ByteArray) (hs : s.size ≤ 281474976710656) (v : Int) (h : Lib.atoiAll s.data.toList = .ok v) (w : World) :
    Calls Tryz.prog 57 #[.string s] w fun e w' => e = .returned (.tuple #[.int .i64 v, .nilIface]) ∧ Below w.heap.size w w' :=
  (Tryz.strconv_Atoi_ok s (by omega) v h w).mono fun e w' hh => by
    obtain ⟨he, hw⟩ := hh
    refine ⟨he, ?_⟩
    rcases hw with rfl | ⟨t, rfl⟩
    · exact Below.refl _ _
    · exact Joins.below_bytesWorld _ _ _ _ (Nat.le_refl _)

/-- What Atoi leaves where it tells an error. -/
def AtoiFails (w : World) (e : Ending) (w' : World) : Prop :=
  ∃ (m : Int) (p : Addr), -9223372036854775808 ≤ m ∧ m ≤ 9223372036854775807 ∧ e = .returned (.tuple #[.int .i64 m, .iface 151 (.pointer (some p))]) ∧ Below w.heap.size w w'

theorem atoi_no (s : ByteArray) (hs : s.size ≤ 281474976710656) (h : ∀ v, Lib.atoiAll s.data.toList ≠ .ok v) (w : World) (hA : AtoiG w) :
    Calls Tryz.prog 57 #[.string s] w (AtoiFails w) := by
  obtain ⟨⟨t1, p1, h1⟩, ⟨t2, p2, h2⟩⟩ := hA
  cases hx : Lib.atoiAll s.data.toList with
  | ok v => exact absurd hx (h v)
  | _ =>
    first
    | exact (Tryz.strconv_Atoi_range s hs hx _ w h2 (Or.inr ⟨_, _, rfl⟩)).mono fun e w' hh => by
        obtain ⟨N, he, _, _, hb⟩ := hh
        exact ⟨_, _, (Lib.atoiSat_bounds _).1, (Lib.atoiSat_bounds _).2, he, hb⟩
    | exact (show Calls Tryz.prog 57 #[.string s] w fun e w' => ∃ N, e = .returned (.tuple #[.int .i64 (0), .iface 151 (.pointer (some ⟨N, 0, none⟩))]) ∧ w.heap.size ≤ N ∧ w'.heap[N]? = some (.cells #[.string ⟨#[65, 116, 111, 105]⟩, .string s, .iface t1 p1] 172 (0, 0)) ∧ Below w.heap.size w w' from Any.strconv_Atoi_syntax Tryz.laysC172 s hs hx _ w h1 (Or.inr ⟨_, _, rfl⟩)).mono fun e w' hh => by
        obtain ⟨N, he, _, _, hb⟩ := hh
        exact ⟨0, _, by omega, by omega, he, hb⟩

/-- What goods.Number leaves where a text is no such numeral. -/
def NumFails (w : World) (e : Ending) (w' : World) : Prop :=
  ∃ m : Int, -9223372036854775808 ≤ m ∧ m ≤ 9223372036854775807 ∧ e = .returned (.tuple #[.int .i64 m, .bool false]) ∧ Below w.heap.size w w'

set_option maxHeartbeats 400000 in
theorem number_yes (s : ByteArray) (d n : Nat) (h : NumIs s.data.toList d n) (hd : d ≤ 100) (w : World) (hT : TabG w) :
    Calls Tryz.prog 41 #[.string s, .int .i64 d] w fun e w' => e = .returned (.tuple #[.int .i64 n, .bool true]) ∧ Below w.heap.size w w' := by
  obtain ⟨h1, h2, h3⟩ := h
  have hsz : s.size = s.data.toList.length := by rw [Array.length_toList]; rfl
  have ha := atoi_dec n h3
  rw [← h1] at ha
  have hi := itoa_nat n (by omega)
  rw [Int.toNat_natCast, ← h1] at hi
  have hs : s.size ≤ d := by omega
  have hs' : decide (s.size ≤ d) = true := by simpa using hs
  have hA := atoi_ok s (by omega) n ha w
  have HI := Lib.hid hi
  have HA := Lib.hid hA
  clear hi hA ha h1 h2 hsz
  go_enter Tryz.func41, Tryz.ntmps41
  go_wp2_with fail
  refine HA.out.mono ?_
  rintro e w1 ⟨rfl, hb⟩
  go_wp2_with fail
  refine (itoa_any n (by omega) (by omega) _ (hT.below hb)).mono ?_
  rintro e w2 ⟨rfl, hb2⟩
  go_wp2_with fail
  go_ret2
  refine ⟨?_, hb.trans (hb2.mono hb.size)⟩
  rw [HI.out]
  simp [Lib.toList_data]

set_option maxHeartbeats 400000 in
theorem number_no (s : ByteArray) (d : Nat) (hs : s.size ≤ 281474976710656) (h : ∀ n, ¬ NumIs s.data.toList d n) (_ : d ≤ 100) (w : World) (hT : TabG w) (hG : AtoiG w) :
    Calls Tryz.prog 41 #[.string s, .int .i64 d] w (NumFails w) := by
  have hsz : s.size = s.data.toList.length := by rw [Array.length_toList]; rfl
  by_cases hx : ∃ v, Lib.atoiAll s.data.toList = .ok v
  · obtain ⟨v, hv⟩ := hx
    obtain ⟨b0, b1⟩ := Lib.atoiAll_bounds hv
    have hA := atoi_ok s hs v hv w
    have hfin : ¬ (s.size ≤ d ∧ 0 ≤ v ∧ Lib.itoa v = s.data.toList) := by
      rintro ⟨q1, q2, q3⟩
      rw [itoa_nat v q2] at q3
      exact h v.toNat ⟨q3.symm, by omega, by omega⟩
    have HA := Lib.hid hA
    have HF := Lib.hid hfin
    clear hA hfin h hv hG hsz
    by_cases hl : s.size ≤ d
    · have hl' : decide (s.size ≤ d) = true := by simpa using hl
      by_cases hp : 0 ≤ v
      · go_enter Tryz.func41, Tryz.ntmps41
        go_wp2_with fail
        refine HA.out.mono ?_
        rintro e w1 ⟨rfl, hb⟩
        go_wp2_with fail
        refine (itoa_any v (by omega) (by omega) _ (hT.below hb)).mono ?_
        rintro e w2 ⟨rfl, hb2⟩
        go_wp2_with fail
        go_ret2
        refine ⟨v, b0, b1, ?_, hb.trans (hb2.mono hb.size)⟩
        have : ¬ Lib.itoa v = s.data.toList := fun q => HF.out ⟨hl, hp, q⟩
        simp [this, Lib.toList_data]
      · go_enter Tryz.func41, Tryz.ntmps41
        go_wp2_with fail
        refine HA.out.mono ?_
        rintro e w1 ⟨rfl, hb⟩
        go_wp2_with fail
        go_ret2
        exact ⟨v, b0, b1, by simp, hb⟩
    · have hl' : decide (s.size ≤ d) = false := by simpa using hl
      go_enter Tryz.func41, Tryz.ntmps41
      go_wp2_with fail
      refine HA.out.mono ?_
      rintro e w1 ⟨rfl, hb⟩
      go_wp2_with fail
      go_ret2
      exact ⟨v, b0, b1, by simp, hb⟩
  · have hA := atoi_no s hs (fun v hv => hx ⟨v, hv⟩) w hG
    have HA := Lib.hid hA
    clear hA h hx hG hsz
    go_enter Tryz.func41, Tryz.ntmps41
    go_wp2_with fail
    refine HA.out.mono ?_
    rintro e w1 ⟨m, p, b0, b1, rfl, hb⟩
    go_wp2_with fail
    go_ret2
    exact ⟨m, b0, b1, by simp, hb⟩

/-- How goods.Number ends. -/
def NumEnds (l : List UInt8) (d : Nat) (w : World) (e : Ending) (w' : World) : Prop :=
  (∃ n : Nat, numQ l d = some n ∧ NumIs l d n ∧ e = .returned (.tuple #[.int .i64 n, .bool true]) ∧ Below w.heap.size w w') ∨ (numQ l d = none ∧ NumFails w e w')

theorem number_any (s : ByteArray) (d : Nat) (hs : s.size ≤ 281474976710656) (hd : d ≤ 100) (w : World) (hT : TabG w) (hG : AtoiG w) :
    Calls Tryz.prog 41 #[.string s, .int .i64 d] w (NumEnds s.data.toList d w) := by
  cases h : numQ s.data.toList d with
  | none => exact (number_no s d hs (numQ_none _ _ h) hd w hT hG).mono fun e w' hh => Or.inr ⟨h, hh⟩
  | some n =>
    have hn := (numQ_iff _ _ _).1 h
    exact (number_yes s d n hn hd w hT).mono fun e w' hh => Or.inl ⟨n, h, hn, hh⟩
end Go.Proofs.YtpifbahafnaejaaGreatDoor
namespace Go.Proofs.YtpifbahafnaejaaGreatDoor
open Go.RowKit Go.Sort Go.Proofs

/-- A place's text. -/
def placeText (x : PlaceV) : List UInt8 := if placeE x = 0 then x.1 ++ [45] ++ Lib.itoa x.2.1 ++ [45] ++ Lib.itoa x.2.2 else []
set_option maxHeartbeats 800000 in
theorem textPlace_any (E : Nat → Addr) (x : PlaceV) (w : World) (hG : PlaceG E w) :
    Calls Tryz.prog 36 #[.agg (encPlace x).toArray] w fun e w' => e = .returned (.string ⟨(placeText x).toArray⟩) ∧ Below w.heap.size w w' := by
  have HCK := Lib.hid (fun W h => checkPlace_any E x W h)
  by_cases hE : placeE x = 0
  · have hx := placeE_zero.1 hE
    have l1 := (nameB_len hx.1).2
    have HTX := Lib.hid (show placeText x = x.1 ++ [45] ++ Lib.itoa x.2.1 ++ [45] ++ Lib.itoa x.2.2 by unfold placeText; rw [if_pos hE])
    have HCK' := Lib.hid (show ∀ W, PlaceG E W → Calls Tryz.prog 52 #[.agg (encPlace x).toArray] W fun e w' => e = .returned .nilIface ∧ Below W.heap.size W w' from fun W h => by have := HCK.out W h; rw [hE] at this; exact this)
    obtain ⟨a1, a2, a3⟩ := x
    simp only [encPlace] at HCK' HTX ⊢
    simp only at hx l1
    obtain ⟨-, x1, x2, x3, x4⟩ := hx
    have HG := Lib.hid hG
    clear hG HCK hE
    have n2 := Lib.itoa_length_le a2 (by omega) (by omega)
    have n3 := Lib.itoa_length_le a3 (by omega) (by omega)
    have s1 : (⟨a1.toArray⟩ : ByteArray).size = a1.length := by simp [ByteArray.size]
    go_enter Tryz.func36, Tryz.ntmps36
    go_wp2_with fail
    have b0 : Below w.heap.size w (w.alloc (.cells #[.string ⟨a1.toArray⟩, .int .i64 a2, .int .i64 a3] 27)) := (Below.refl _ _).alloc (Nat.le_refl _) _
    refine (HCK'.out _ (HG.out.below b0)).mono ?_
    rintro e w1 ⟨rfl, bb1⟩
    have lw := heap_two bb1
    obtain ⟨hc, hf⟩ := bcell bb1
    have b1 := b0.trans (bb1.mono (by simp))
    have c0 : w1.cell? ⟨w.heap.size, 0, none⟩ = some (.string ⟨a1.toArray⟩) := by rw [hc _ _ (by simp)]; go_simp
    have c1 : w1.cell? ⟨w.heap.size, 1, none⟩ = some (.int .i64 a2) := by rw [hc _ _ (by simp)]; go_simp
    have c2 : w1.cell? ⟨w.heap.size, 2, none⟩ = some (.int .i64 a3) := by rw [hc _ _ (by simp)]; go_simp
    clear hc hf b0 bb1 HCK'
    go_wp2_with fail
    have hd : Below w.heap.size w w1.drew := b1.drew
    have HT := Lib.hid (show ∀ W, Below w.heap.size w W → TabG W from fun W h => (HG.out.below h).tab)
    have v1 : ¬ 9223372036854775807 < a1.length + 1 := by omega
    have v2 : ¬ 9223372036854775807 < a1.length + 1 + (Lib.itoa a2).length := by omega
    have v3 : ¬ 9223372036854775807 < a1.length + 1 + (Lib.itoa a2).length + 1 := by omega
    have v4 : ¬ 9223372036854775807 < a1.length + 1 + (Lib.itoa a2).length + 1 + (Lib.itoa a3).length := by omega
    go_region_held3 (fun w' => w'.cell? ⟨w.heap.size, 0, none⟩ = some (.string ⟨a1.toArray⟩) ∧ w'.cell? ⟨w.heap.size, 1, none⟩ = some (.int .i64 a2) ∧ w'.cell? ⟨w.heap.size, 2, none⟩ = some (.int .i64 a3) ∧ Below w.heap.size w w')
      (first | exact ⟨c0, c1, c2, hd⟩ | exact ⟨(q4.cell lw).trans c0, (q4.cell lw).trans c1, (q4.cell lw).trans c2, b4⟩ | exact ⟨(q3.cell lw).trans c0, (q3.cell lw).trans c1, (q3.cell lw).trans c2, b3⟩ | go_keep)
      (first
        | (go_at_call_of 34 (Value.int .i64 a2); refine (itoa_any a2 (by omega) (by omega) _ (HT.out _ hd)).mono ?_; rintro e w3 ⟨rfl, bb3⟩; have q3 : Below w1.heap.size w1 w3 := (Below.refl w1.heap.size w1).drew.trans bb3; have b3 := b1.trans (q3.mono b1.size))
        | (go_at_call_of 34 (Value.int .i64 a3); refine (itoa_any a3 (by omega) (by omega) _ (HT.out _ b3)).mono ?_; rintro e w4 ⟨rfl, bb4⟩; have q4 := q3.trans (bb4.mono q3.size); have b4 := b1.trans (q4.mono b1.size)))
    all_goals
      have B4 := Lib.hid b4
      clear b4 q4 q3 b3 bb3 bb4 hd b1 c0 c1 c2
      go_wp2_with fail
      go_ret
      refine ⟨?_, B4.out⟩
      rw [HTX.out]
      show Ending.returned (.string ((⟨a1.toArray⟩ : ByteArray) ++ (⟨#[45]⟩ : ByteArray) ++ (⟨(Lib.itoa a2).toArray⟩ : ByteArray) ++ (⟨#[45]⟩ : ByteArray) ++ (⟨(Lib.itoa a3).toArray⟩ : ByteArray))) = _
      rw [show (⟨#[45]⟩ : ByteArray) = ⟨[45].toArray⟩ from rfl, mk_app, mk_app, mk_app, mk_app]
  · have HTX := Lib.hid (show placeText x = [] by unfold placeText; rw [if_neg hE])
    have HCK' := Lib.hid (show ∀ W, PlaceG E W → Calls Tryz.prog 52 #[.agg (encPlace x).toArray] W fun e w' => e = .returned (.iface 177 (.pointer (some (E (placeE x))))) ∧ Below W.heap.size W w' from fun W h => by have := HCK.out W h; rw [errOf_pos _ _ hE] at this; exact this)
    generalize placeE x = k at HCK'
    obtain ⟨a1, a2, a3⟩ := x
    simp only [encPlace] at HCK' ⊢
    have HG := Lib.hid hG
    clear hG HCK hE
    go_enter Tryz.func36, Tryz.ntmps36
    go_wp2_with fail
    have b0 : Below w.heap.size w (w.alloc (.cells #[.string ⟨a1.toArray⟩, .int .i64 a2, .int .i64 a3] 27)) := (Below.refl _ _).alloc (Nat.le_refl _) _
    refine (HCK'.out _ (HG.out.below b0)).mono ?_
    rintro e w1 ⟨rfl, bb1⟩
    have b1 := b0.trans (bb1.mono (by simp))
    clear b0 bb1
    go_wp2_with fail
    go_ret
    rw [HTX.out]
    exact ⟨rfl, b1⟩
end Go.Proofs.YtpifbahafnaejaaGreatDoor
namespace Go.Proofs.YtpifbahafnaejaaGreatDoor
open Go.RowKit Go.Sort Go.Proofs

/-- A lot: its ID, its goods' code, the last day, what a piece cost. -/
abbrev LotV := List UInt8 × List UInt8 × Int × Int
def encLot (x : LotV) : List Value := [.string ⟨x.1.toArray⟩, .string ⟨x.2.1.toArray⟩, .int .i64 x.2.2.1, .int .i64 x.2.2.2]
theorem encLot_len (x : LotV) : (encLot x).length = 4 := rfl
theorem encLot_one (x : LotV) : ∀ v ∈ encLot x, v.oneCell' = true := fun v hv => by
  simp [encLot] at hv
  rcases hv with rfl | rfl | rfl | rfl <;> rfl

/-- Equal lots. -/
theorem eqLot (x y : LotV) (W : World) : (binOp .eql 25 (.agg (encLot x).toArray) (.agg (encLot y).toArray)).run Tryz.prog W = .ok (.bool (decide (x = y))) W := by
  have u3 := Tryz.underlying3
  have u9 := Tryz.underlying9
  have hS : Tryz.prog.underlying 25 = some (.struct (Tryz.prog.fieldsOf 25)) := by kernel_rfl
  have hp : Tryz.prog.stoodInHeld 25 = false := by kernel_rfl
  simp only [encLot]
  rw [run_eql_struct, show (10000 : Nat) = 9999 + 1 from rfl, run_equalIn_agg W 9999 25 _ _ hS hp]
  simp only [Program.fieldsOf, Tryz.underlying25]
  go_simp
  obtain ⟨a1, a2, a3, a4⟩ := x
  obtain ⟨b1, b2, b3, b4⟩ := y
  by_cases h1 : a1 = b1 <;> by_cases h2 : a2 = b2 <;> by_cases h3 : a3 = b3 <;> by_cases h4 : a4 = b4 <;> simp [h1, h2, h3, h4]
theorem eqInLotV (x y : LotV) (W : World) : (Op.equalIn 10000 25 (.agg (encLot x).toArray) (.agg (encLot y).toArray)).run Tryz.prog W = .ok (decide (x = y)) W := by
  have h := eqLot x y W
  rw [run_eql_struct] at h
  cases hr : (Op.equalIn 10000 25 (.agg (encLot x).toArray) (.agg (encLot y).toArray)).run Tryz.prog W with
  | ok b w' =>
    rw [hr] at h
    simp [Result.andThen] at h
    rw [h.1, h.2]
  | _ => rw [hr] at h; simp [Result.andThen] at h
theorem neqLot0 (x : LotV) (W : World) : (binOp .neq 25 (.agg (encLot x).toArray) (.agg (encLot x).toArray)).run Tryz.prog W = .ok (.bool false) W := by
  rw [run_neq_struct, eqInLotV]
  simp [Result.andThen]
end Go.Proofs.YtpifbahafnaejaaGreatDoor
namespace Go.Proofs.YtpifbahafnaejaaGreatDoor
open Go.RowKit Go.Sort Go.Proofs

/-- The number of a lot's error. -/
def lotE (x : LotV) : Nat := if (nameB x.1 && nameB x.2.1) = false then 5 else if x.2.2.1 < 0 ∨ 100000 < x.2.2.1 ∨ x.2.2.2 < 0 ∨ 1048576 < x.2.2.2 then 2 else 0
/-- A lot's text. -/
def lotText (x : LotV) : List UInt8 := if lotE x = 0 then x.1 ++ [32] ++ x.2.1 ++ [32] ++ Lib.itoa x.2.2.1 ++ [32] ++ Lib.itoa x.2.2.2 else []
structure LotG (E : Nat → Addr) (w : World) : Prop where
  name : ErrAt 4 (E 5) w
  bound : ErrAt 3 (E 2) w
  tab : TabG w
theorem LotG.below {E : Nat → Addr} {w w' : World} (h : LotG E w) (hb : Below w.heap.size w w') : LotG E w' := ⟨h.name.below hb, h.bound.below hb, h.tab.below hb⟩

set_option maxHeartbeats 800000 in
theorem checkLot_any (E : Nat → Addr) (x : LotV) (h1 : x.1.length ≤ 1000000000) (h2 : x.2.1.length ≤ 1000000000) (w : World) (hG : LotG E w) :
    Calls Tryz.prog 28 #[.agg (encLot x).toArray] w fun e w' => e = .returned (errOf E (lotE x)) ∧ Below w.heap.size w w' := by
  obtain ⟨a1, a2, a3, a4⟩ := x
  simp only [encLot]
  have h1 : a1.length ≤ 1000000000 := h1
  have h2 : a2.length ≤ 1000000000 := h2
  have HE := Lib.hid (show lotE (a1, a2, a3, a4) = if (nameB a1 && nameB a2) = false then 5 else if a3 < 0 ∨ 100000 < a3 ∨ a4 < 0 ∨ 1048576 < a4 then 2 else 0 from rfl)
  have HN1 := Lib.hid (fun W => name_any a1 h1 W)
  have HN2 := Lib.hid (fun W => name_any a2 h2 W)
  have HG := Lib.hid hG
  clear hG
  have b0 : Below w.heap.size w (w.alloc (.cells #[.string ⟨a1.toArray⟩, .string ⟨a2.toArray⟩, .int .i64 a3, .int .i64 a4] 25)) := (Below.refl _ _).alloc (Nat.le_refl _) _
  have c0 : (w.alloc (.cells #[.string ⟨a1.toArray⟩, .string ⟨a2.toArray⟩, .int .i64 a3, .int .i64 a4] 25)).heap[w.heap.size]? = some (.cells #[.string ⟨a1.toArray⟩, .string ⟨a2.toArray⟩, .int .i64 a3, .int .i64 a4] 25 (0, 0)) := heap_alloc_new _ _
  have l0 : w.heap.size < (w.alloc (.cells #[.string ⟨a1.toArray⟩, .string ⟨a2.toArray⟩, .int .i64 a3, .int .i64 a4] 25)).heap.size := by simp
  have B0 := Lib.hid b0
  have C0 := Lib.hid c0
  have L0 := Lib.hid l0
  clear b0 c0 l0
  have cells : ∀ W', Below (w.alloc (.cells #[.string ⟨a1.toArray⟩, .string ⟨a2.toArray⟩, .int .i64 a3, .int .i64 a4] 25)).heap.size (w.alloc (.cells #[.string ⟨a1.toArray⟩, .string ⟨a2.toArray⟩, .int .i64 a3, .int .i64 a4] 25)) W' →
      Below w.heap.size w W' ∧ W'.cell? ⟨w.heap.size, 1, none⟩ = some (.string ⟨a2.toArray⟩) ∧ W'.cell? ⟨w.heap.size, 2, none⟩ = some (.int .i64 a3) ∧ W'.cell? ⟨w.heap.size, 3, none⟩ = some (.int .i64 a4) ∧ LotG E W' := fun W' hb => by
    have hh := (hb.block _ L0.out).trans C0.out
    have hw := B0.out.trans (hb.mono (by simp))
    exact ⟨hw, by rw [cell_of_row W' _ _ _ _ _ hh]; rfl, by rw [cell_of_row W' _ _ _ _ _ hh]; rfl, by rw [cell_of_row W' _ _ _ _ _ hh]; rfl, HG.out.below hw⟩
  have CL := Lib.hid cells
  clear cells
  cases hn1 : nameB a1 with
  | false =>
    rw [hn1] at HN1 HE
    go_enter Tryz.func28, Tryz.ntmps28
    go_wp2_with fail
    refine (HN1.out _).mono ?_
    rintro e w1 ⟨rfl, b1⟩
    obtain ⟨bw, c1, c2, c3, G1⟩ := CL.out w1 b1
    have hE := G1.name
    unfold ErrAt at hE
    have BW := Lib.hid bw
    clear b1 bw c1 c2 c3 G1
    go_wp2_with fail
    go_ret
    rw [HE.out, if_pos (by simp)]
    exact ⟨rfl, BW.out⟩
  | true =>
    cases hn2 : nameB a2 with
    | false =>
      rw [hn1] at HN1 HE
      rw [hn2] at HN2 HE
      clear hn1 hn2
      go_enter Tryz.func28, Tryz.ntmps28
      go_wp2_with fail
      refine (HN1.out _).mono ?_
      rintro e w1 ⟨rfl, b1⟩
      obtain ⟨bw, c1, c2, c3, G1⟩ := CL.out w1 b1
      have B1 := Lib.hid b1
      clear b1 bw c2 c3 G1
      go_wp2_with fail
      refine (HN2.out _).mono ?_
      rintro e w2 ⟨rfl, b2⟩
      obtain ⟨bw, c1, c2, c3, G1⟩ := CL.out w2 (B1.out.trans (b2.mono B1.out.size))
      have hE := G1.name
      unfold ErrAt at hE
      have BW := Lib.hid bw
      clear b2 bw c1 c2 c3 G1
      go_wp2_with fail
      go_ret
      rw [HE.out, if_pos (by simp)]
      exact ⟨rfl, BW.out⟩
    | true =>
      rw [hn1] at HN1 HE
      rw [hn2] at HN2 HE
      clear hn1 hn2
      by_cases h3 : a3 < 0 ∨ 100000 < a3
      · have h4 : a3 < 0 ∨ 100000 < a3 ∨ a4 < 0 ∨ 1048576 < a4 := by omega
        have H4 := Lib.hid h4
        have H3 := Lib.hid h3
        clear h3 h4
        go_enter Tryz.func28, Tryz.ntmps28
        go_wp2_with fail
        refine (HN1.out _).mono ?_
        rintro e w1 ⟨rfl, b1⟩
        obtain ⟨bw, c1, c2, c3, G1⟩ := CL.out w1 b1
        have B1 := Lib.hid b1
        clear b1 bw c2 c3 G1
        go_wp2_with fail
        refine (HN2.out _).mono ?_
        rintro e w2 ⟨rfl, b2⟩
        obtain ⟨bw, c1, c2, c3, G1⟩ := CL.out w2 (B1.out.trans (b2.mono B1.out.size))
        have hE := G1.bound
        unfold ErrAt at hE
        have BW := Lib.hid bw
        clear b2 bw c1 c3 G1
        go_wp2_with fail
        refine (within_no a3 0 100000 _ H3.out).mono ?_
        rintro e w3 ⟨rfl, rfl⟩
        go_wp2_with fail
        go_ret
        rw [HE.out, if_neg (by simp), if_pos H4.out]
        exact ⟨rfl, BW.out⟩
      · by_cases h4 : a4 < 0 ∨ 1048576 < a4
        · have H5 := Lib.hid (show a3 < 0 ∨ 100000 < a3 ∨ a4 < 0 ∨ 1048576 < a4 by omega)
          have H4 := Lib.hid h4
          have H3 := Lib.hid (show 0 ≤ a3 ∧ a3 ≤ 100000 by omega)
          clear h3 h4
          go_enter Tryz.func28, Tryz.ntmps28
          go_wp2_with fail
          refine (HN1.out _).mono ?_
          rintro e w1 ⟨rfl, b1⟩
          obtain ⟨bw, c1, c2, c3, G1⟩ := CL.out w1 b1
          have B1 := Lib.hid b1
          clear b1 bw c2 c3 G1
          go_wp2_with fail
          refine (HN2.out _).mono ?_
          rintro e w2 ⟨rfl, b2⟩
          obtain ⟨bw, c1, c2, c3, G1⟩ := CL.out w2 (B1.out.trans (b2.mono B1.out.size))
          have hE := G1.bound
          unfold ErrAt at hE
          have BW := Lib.hid bw
          clear b2 bw c1 G1
          go_wp2_with fail
          refine (within_yes a3 0 100000 _ H3.out.1 H3.out.2).mono ?_
          rintro e w3 ⟨rfl, rfl⟩
          go_wp2_with fail
          refine (within_no a4 0 1048576 _ H4.out).mono ?_
          rintro e w3 ⟨rfl, rfl⟩
          go_wp2_with fail
          go_ret
          rw [HE.out, if_neg (by simp), if_pos H5.out]
          exact ⟨rfl, BW.out⟩
        · have H5 := Lib.hid (show ¬ (a3 < 0 ∨ 100000 < a3 ∨ a4 < 0 ∨ 1048576 < a4) by omega)
          have H4 := Lib.hid (show 0 ≤ a4 ∧ a4 ≤ 1048576 by omega)
          have H3 := Lib.hid (show 0 ≤ a3 ∧ a3 ≤ 100000 by omega)
          clear h3 h4
          go_enter Tryz.func28, Tryz.ntmps28
          go_wp2_with fail
          refine (HN1.out _).mono ?_
          rintro e w1 ⟨rfl, b1⟩
          obtain ⟨bw, c1, c2, c3, G1⟩ := CL.out w1 b1
          have B1 := Lib.hid b1
          clear b1 bw c2 c3 G1
          go_wp2_with fail
          refine (HN2.out _).mono ?_
          rintro e w2 ⟨rfl, b2⟩
          obtain ⟨bw, c1, c2, c3, G1⟩ := CL.out w2 (B1.out.trans (b2.mono B1.out.size))
          have BW := Lib.hid bw
          clear b2 bw c1 G1
          go_wp2_with fail
          refine (within_yes a3 0 100000 _ H3.out.1 H3.out.2).mono ?_
          rintro e w3 ⟨rfl, rfl⟩
          go_wp2_with fail
          refine (within_yes a4 0 1048576 _ H4.out.1 H4.out.2).mono ?_
          rintro e w3 ⟨rfl, rfl⟩
          go_wp2_with fail
          go_ret
          rw [HE.out, if_neg (by simp), if_neg H5.out]
          exact ⟨rfl, BW.out⟩

set_option maxHeartbeats 800000 in
theorem textLot_any (E : Nat → Addr) (x : LotV) (h1 : x.1.length ≤ 1000000000) (h2 : x.2.1.length ≤ 1000000000) (w : World) (hG : LotG E w) :
    Calls Tryz.prog 35 #[.agg (encLot x).toArray] w fun e w' => e = .returned (.string ⟨(lotText x).toArray⟩) ∧ Below w.heap.size w w' := by
  have HCK := Lib.hid (fun W h => checkLot_any E x h1 h2 W h)
  by_cases hE : lotE x = 0
  · have hx : 0 ≤ x.2.2.1 ∧ x.2.2.1 ≤ 100000 ∧ 0 ≤ x.2.2.2 ∧ x.2.2.2 ≤ 1048576 ∧ nameB x.1 = true ∧ nameB x.2.1 = true := by
      unfold lotE at hE
      split at hE
      · omega
      · split at hE
        · omega
        · rename_i q1 q2
          have : nameB x.1 = true ∧ nameB x.2.1 = true := by simpa using q1
          exact ⟨by omega, by omega, by omega, by omega, this.1, this.2⟩
    have hl8 : ∀ l, nameB l = true → l.length ≤ 8 := fun l h => by
      unfold nameB at h
      simp at h
      exact h.1.2
    have l1 := hl8 _ hx.2.2.2.2.1
    have l2 := hl8 _ hx.2.2.2.2.2
    have HTX := Lib.hid (show lotText x = x.1 ++ [32] ++ x.2.1 ++ [32] ++ Lib.itoa x.2.2.1 ++ [32] ++ Lib.itoa x.2.2.2 by unfold lotText; rw [if_pos hE])
    have HCK' := Lib.hid (show ∀ W, LotG E W → Calls Tryz.prog 28 #[.agg (encLot x).toArray] W fun e w' => e = .returned .nilIface ∧ Below W.heap.size W w' from fun W h => by have := HCK.out W h; rw [hE] at this; exact this)
    obtain ⟨a1, a2, a3, a4⟩ := x
    simp only [encLot] at HCK' HTX ⊢
    simp only at hx l1 l2
    obtain ⟨x1, x2, x3, x4, -, -⟩ := hx
    have HG := Lib.hid hG
    clear hG HCK hE hl8
    have n3 := Lib.itoa_length_le a3 (by omega) (by omega)
    have n4 := Lib.itoa_length_le a4 (by omega) (by omega)
    go_enter Tryz.func35, Tryz.ntmps35
    go_wp2_with fail
    have b0 : Below w.heap.size w (w.alloc (.cells #[.string ⟨a1.toArray⟩, .string ⟨a2.toArray⟩, .int .i64 a3, .int .i64 a4] 25)) := (Below.refl _ _).alloc (Nat.le_refl _) _
    have hh0 : (w.alloc (.cells #[.string ⟨a1.toArray⟩, .string ⟨a2.toArray⟩, .int .i64 a3, .int .i64 a4] 25)).heap[w.heap.size]? = some (.cells #[.string ⟨a1.toArray⟩, .string ⟨a2.toArray⟩, .int .i64 a3, .int .i64 a4] 25 (0, 0)) := heap_alloc_new _ _
    have l0 : w.heap.size < (w.alloc (.cells #[.string ⟨a1.toArray⟩, .string ⟨a2.toArray⟩, .int .i64 a3, .int .i64 a4] 25)).heap.size := by simp
    refine (HCK'.out _ (HG.out.below b0)).mono ?_
    rintro e w1 ⟨rfl, bb1⟩
    have hh := (bb1.block _ l0).trans hh0
    have b1 := b0.trans (bb1.mono (by simp))
    have c0 : w1.cell? ⟨w.heap.size, 0, none⟩ = some (.string ⟨a1.toArray⟩) := by rw [cell_of_row w1 _ _ _ _ _ hh]; rfl
    have c1 : w1.cell? ⟨w.heap.size, 1, none⟩ = some (.string ⟨a2.toArray⟩) := by rw [cell_of_row w1 _ _ _ _ _ hh]; rfl
    have c2 : w1.cell? ⟨w.heap.size, 2, none⟩ = some (.int .i64 a3) := by rw [cell_of_row w1 _ _ _ _ _ hh]; rfl
    have c3 : w1.cell? ⟨w.heap.size, 3, none⟩ = some (.int .i64 a4) := by rw [cell_of_row w1 _ _ _ _ _ hh]; rfl
    have lw : w.heap.size < w1.heap.size := Nat.lt_of_lt_of_le l0 bb1.size
    clear hh0 hh l0 b0 bb1
    go_wp2_with fail
    have hd : Below w.heap.size w w1.drew := b1.drew
    have HT := Lib.hid (show ∀ W, Below w.heap.size w W → TabG W from fun W h => (HG.out.below h).tab)
    have s1 : (⟨a1.toArray⟩ : ByteArray).size = a1.length := by simp [ByteArray.size]
    have s2 : (⟨a2.toArray⟩ : ByteArray).size = a2.length := by simp [ByteArray.size]
    have v1 : ¬ 9223372036854775807 < a1.length + 1 := by omega
    have v2 : ¬ 9223372036854775807 < a1.length + 1 + a2.length := by omega
    have v3 : ¬ 9223372036854775807 < a1.length + 1 + a2.length + 1 := by omega
    have v4 : ¬ 9223372036854775807 < a1.length + 1 + a2.length + 1 + (Lib.itoa a3).length := by omega
    have v5 : ¬ 9223372036854775807 < a1.length + 1 + a2.length + 1 + (Lib.itoa a3).length + 1 := by omega
    have v6 : ¬ 9223372036854775807 < a1.length + 1 + a2.length + 1 + (Lib.itoa a3).length + 1 + (Lib.itoa a4).length := by omega
    go_region_held3 (fun w' => w'.cell? ⟨w.heap.size, 0, none⟩ = some (.string ⟨a1.toArray⟩) ∧ w'.cell? ⟨w.heap.size, 1, none⟩ = some (.string ⟨a2.toArray⟩) ∧ w'.cell? ⟨w.heap.size, 2, none⟩ = some (.int .i64 a3) ∧ w'.cell? ⟨w.heap.size, 3, none⟩ = some (.int .i64 a4) ∧ Below w.heap.size w w')
      (first | exact ⟨c0, c1, c2, c3, hd⟩ | exact ⟨(q4.cell lw).trans c0, (q4.cell lw).trans c1, (q4.cell lw).trans c2, (q4.cell lw).trans c3, b4⟩ | exact ⟨(q3.cell lw).trans c0, (q3.cell lw).trans c1, (q3.cell lw).trans c2, (q3.cell lw).trans c3, b3⟩ | go_keep)
      (first
        | (go_at_call_of 34 (Value.int .i64 a3); refine (itoa_any a3 (by omega) (by omega) _ (HT.out _ hd)).mono ?_; rintro e w3 ⟨rfl, bb3⟩; have q3 : Below w1.heap.size w1 w3 := (Below.refl w1.heap.size w1).drew.trans bb3; have b3 := b1.trans (q3.mono b1.size))
        | (go_at_call_of 34 (Value.int .i64 a4); refine (itoa_any a4 (by omega) (by omega) _ (HT.out _ b3)).mono ?_; rintro e w4 ⟨rfl, bb4⟩; have q4 := q3.trans (bb4.mono q3.size); have b4 := b1.trans (q4.mono b1.size)))
    all_goals
      have B4 := Lib.hid b4
      clear b4 q4 q3 b3 bb3 bb4 hd b1 c0 c1 c2 c3
      go_wp2_with fail
      go_ret
      refine ⟨?_, B4.out⟩
      rw [HTX.out]
      show Ending.returned (.string ((⟨a1.toArray⟩ : ByteArray) ++ (⟨#[32]⟩ : ByteArray) ++ (⟨a2.toArray⟩ : ByteArray) ++ (⟨#[32]⟩ : ByteArray) ++ (⟨(Lib.itoa a3).toArray⟩ : ByteArray) ++ (⟨#[32]⟩ : ByteArray) ++ (⟨(Lib.itoa a4).toArray⟩ : ByteArray))) = _
      rw [show (⟨#[32]⟩ : ByteArray) = ⟨[32].toArray⟩ from rfl, mk_app, mk_app, mk_app, mk_app, mk_app, mk_app]
  · have HTX := Lib.hid (show lotText x = [] by unfold lotText; rw [if_neg hE])
    have HCK' := Lib.hid (show ∀ W, LotG E W → Calls Tryz.prog 28 #[.agg (encLot x).toArray] W fun e w' => e = .returned (.iface 177 (.pointer (some (E (lotE x))))) ∧ Below W.heap.size W w' from fun W h => by have := HCK.out W h; rw [errOf_pos _ _ hE] at this; exact this)
    generalize lotE x = k at HCK'
    obtain ⟨a1, a2, a3, a4⟩ := x
    simp only [encLot] at HCK' ⊢
    have HG := Lib.hid hG
    clear hG HCK hE
    go_enter Tryz.func35, Tryz.ntmps35
    go_wp2_with fail
    have b0 : Below w.heap.size w (w.alloc (.cells #[.string ⟨a1.toArray⟩, .string ⟨a2.toArray⟩, .int .i64 a3, .int .i64 a4] 25)) := (Below.refl _ _).alloc (Nat.le_refl _) _
    refine (HCK'.out _ (HG.out.below b0)).mono ?_
    rintro e w1 ⟨rfl, bb1⟩
    have b1 := b0.trans (bb1.mono (by simp))
    clear b0 bb1
    go_wp2_with fail
    go_ret
    rw [HTX.out]
    exact ⟨rfl, b1⟩
end Go.Proofs.YtpifbahafnaejaaGreatDoor
namespace Go.Proofs.YtpifbahafnaejaaGreatDoor

theorem occ_one (l : List UInt8) (c : UInt8) (i : Nat) : Lib.occAt l [c] i = true ↔ l[i]? = some c := by
  unfold Lib.occAt
  rw [← List.head?_drop]
  cases l.drop i with
  | nil => simp
  | cons x r =>
    simp [List.isPrefixOf]
    exact ⟨fun h => h.symm, fun h => h.symm⟩

theorem cut_none (l : List UInt8) (c : UInt8) (h : c ∉ l) : Lib.cut l [c] = (l, [], false) := by
  unfold Lib.cut
  have hi : Lib.index l [c] = -1 := Lib.index_none (fun j _ => by
    rw [← Bool.not_eq_true, occ_one]
    intro hj
    exact h (List.mem_of_getElem? hj))
  rw [hi, if_neg (by omega)]

theorem cut_at (a b : List UInt8) (c : UInt8) (h : c ∉ a) : Lib.cut (a ++ c :: b) [c] = (a, b, true) := by
  unfold Lib.cut
  have hi : Lib.index (a ++ c :: b) [c] = (a.length : Nat) := Lib.index_first (by simp) ((occ_one _ _ _).2 (by simp)) (fun j hj => by
    rw [← Bool.not_eq_true, occ_one]
    intro hh
    rw [List.getElem?_append_left hj] at hh
    exact h (List.mem_of_getElem? hh))
  rw [hi, if_pos (by omega)]
  simp

theorem cut_cases (l : List UInt8) (c : UInt8) : (c ∉ l ∧ Lib.cut l [c] = (l, [], false)) ∨ ∃ a b, l = a ++ c :: b ∧ c ∉ a ∧ Lib.cut l [c] = (a, b, true) := by
  by_cases h : c ∈ l
  · refine Or.inr ?_
    obtain ⟨a, b, hl, ha⟩ := List.eq_append_cons_of_mem h
    exact ⟨a, b, hl, ha, hl ▸ cut_at a b c ha⟩
  · exact Or.inl ⟨h, cut_none l c h⟩
end Go.Proofs.YtpifbahafnaejaaGreatDoor
namespace Go.Proofs.YtpifbahafnaejaaGreatDoor
open Go.Lib

def isDig (c : UInt8) : Bool := decide (48 ≤ c.toNat) && decide (c.toNat ≤ 57)
def valN (l : List UInt8) : Nat := l.foldl (fun a c => 10 * a + (c.toNat - 48)) 0
theorem valN_snoc (r : List UInt8) (c : UInt8) : valN (r ++ [c]) = 10 * valN r + (c.toNat - 48) := by simp [valN]
theorem valN_one (c : UInt8) : valN [c] = c.toNat - 48 := by simp [valN]
theorem valN_nil : valN [] = 0 := rfl

theorem snoc_ind {P : List UInt8 → Prop} (h0 : P []) (h1 : ∀ l a, P l → P (l ++ [a])) (l : List UInt8) : P l := by
  have : ∀ r : List UInt8, P r.reverse := fun r => by
    induction r with
    | nil => exact h0
    | cons a r ih => rw [List.reverse_cons]; exact h1 _ _ ih
  have h := this l.reverse
  rwa [List.reverse_reverse] at h

theorem dec_small {u : Nat} (h : u < 10) : decDigits u = [UInt8.ofNat (48 + u)] := by rw [decDigits, dif_pos h]
theorem dec_big {u : Nat} (h : ¬ u < 10) : decDigits u = decDigits (u / 10) ++ [UInt8.ofNat (48 + u % 10)] := by rw [decDigits, dif_neg h]

theorem dec_val (n : Nat) : valN (decDigits n) = n := by
  induction n using Nat.strongRecOn with
  | _ n ih =>
    by_cases h : n < 10
    · rw [dec_small h, valN_one, digit_toNat n h]; omega
    · rw [dec_big h, valN_snoc, ih (n / 10) (by omega), digit_toNat _ (Nat.mod_lt _ (by omega))]; omega
theorem dec_head (n : Nat) (h0 : 0 < n) : (decDigits n).head? ≠ some 48 := by
  induction n using Nat.strongRecOn with
  | _ n ih =>
    by_cases h : n < 10
    · rw [dec_small h]
      simp only [List.head?_cons, ne_eq, Option.some.injEq]
      intro e
      have := congrArg UInt8.toNat e
      rw [digit_toNat n h] at this
      simp at this; omega
    · rw [dec_big h]
      have hne := dec_ne_nil (n / 10)
      have hi := ih (n / 10) (by omega) (by omega)
      cases hd : decDigits (n / 10) with
      | nil => exact absurd hd hne
      | cons x r => rw [hd] at hi; simpa using hi

theorem digits_all (l : List UInt8) : l.all isDig = true ↔ ∀ c ∈ l, 48 ≤ c.toNat ∧ c.toNat ≤ 57 := by
  simp [isDig, List.all_eq_true]
theorem dec_of_val (l : List UInt8) : l.all isDig = true → l ≠ [] → (l.length = 1 ∨ l.head? ≠ some 48) → decDigits (valN l) = l := by
  induction l using snoc_ind with
  | h0 => intro _ h; exact absurd rfl h
  | h1 r c ih =>
    intro ha _ hz
    have ha' := (digits_all _).1 ha
    have hc := ha' c (by simp)
    have hcn : UInt8.ofNat (48 + (c.toNat - 48)) = c := by
      apply UInt8.toNat_inj.1
      rw [digit_toNat _ (by omega)]; omega
    cases r with
    | nil =>
      rw [List.nil_append, valN_one, dec_small (by omega), hcn]
    | cons x q =>
      have hx : x ≠ 48 := by
        rcases hz with hz | hz
        · simp at hz
        · simpa using hz
      have h1 := ih ((digits_all _).2 fun d hd => ha' d (List.mem_append_left _ hd)) (by simp) (.inr (by simpa using hx))
      have hv : 0 < valN (x :: q) := by
        rcases Nat.eq_zero_or_pos (valN (x :: q)) with h | h
        · rw [h, dec_small (by omega)] at h1
          simp at h1
          exact absurd h1.1.symm hx
        · exact h
      rw [valN_snoc, dec_big (by omega), show (10 * valN (x :: q) + (c.toNat - 48)) / 10 = valN (x :: q) by omega, show (10 * valN (x :: q) + (c.toNat - 48)) % 10 = c.toNat - 48 by omega, h1, hcn]
theorem valN_lt (l : List UInt8) (h : l.all isDig = true) : valN l < 10 ^ l.length := by
  induction l using snoc_ind with
  | h0 => simp [valN]
  | h1 r c ih =>
    have ha' := (digits_all _).1 h
    have hc := ha' c (by simp)
    have := ih ((digits_all _).2 fun d hd => ha' d (List.mem_append_left _ hd))
    rw [valN_snoc, List.length_append, List.length_singleton, Nat.pow_succ]; omega

/-- The document's number of a text (-1: none). -/
def refNum (l : List UInt8) (d : Nat) : Int := if l.length < 1 ∨ d < l.length ∨ (1 < l.length ∧ l.head? = some 48) ∨ l.all isDig = false then -1 else (valN l : Int)
theorem refNum_eq (l : List UInt8) (d : Nat) (hd : d ≤ 18) : refNum l d = match numQ l d with | some n => (n : Int) | none => -1 := by
  unfold refNum
  split
  · rename_i h
    cases hq : numQ l d with
    | none => rfl
    | some n =>
      exfalso
      obtain ⟨h1, h2, h3⟩ := (numQ_iff l d n).1 hq
      rcases h with h | h | ⟨h, h'⟩ | h
      · have := dec_ne_nil n
        rw [← h1] at this
        cases l <;> simp_all
      · omega
      · rcases Nat.eq_zero_or_pos n with h0 | h0
        · subst h0
          rw [h1, dec_small (by omega)] at h
          simp at h
        · rw [h1] at h'; exact dec_head n h0 h'
      · have : l.all isDig = true := (digits_all l).2 (by rw [h1]; exact dec_digit n)
        rw [h] at this; cases this
  · rename_i h
    have hn : l ≠ [] := by rintro rfl; simp at h
    have ha : l.all isDig = true := by
      cases hh : l.all isDig
      · exact absurd (.inr (.inr (.inr hh))) h
      · rfl
    have hz : l.length = 1 ∨ l.head? ≠ some 48 := by
      by_cases h1 : l.length = 1
      · exact .inl h1
      · refine .inr fun h2 => h (.inr (.inr (.inl ⟨?_, h2⟩)))
        have := List.length_pos_iff.2 hn
        omega
    have hd1 := dec_of_val l ha hn hz
    have hl : l.length ≤ d := by omega
    have hv := valN_lt l ha
    have : 10 ^ l.length ≤ 10 ^ 18 := Nat.pow_le_pow_right (by omega) (by omega)
    rw [(numQ_iff l d (valN l)).2 ⟨hd1.symm, hl, by omega⟩]
end Go.Proofs.YtpifbahafnaejaaGreatDoor
namespace Go.Proofs.YtpifbahafnaejaaGreatDoor
open Go.RowKit

theorem ret_i64 {a b : Int} (h : a = b) : Ending.returned (.int .i64 a) = .returned (.int .i64 b) := by rw [h]
theorem take_snocL (l : List UInt8) (k : Nat) (h : k < l.length) : l.take (k + 1) = l.take k ++ [l[k]] := List.take_succ_eq_append_getElem h
/-- The first bytes of a text. -/
def bts (s : ByteArray) : List UInt8 := s.data.toList
theorem bts_length (s : ByteArray) : (bts s).length = s.size := rfl
theorem bts_get (s : ByteArray) (k : Nat) (h : k < s.size) : (bts s)[k]'(by rw [bts_length]; exact h) = s[k] := rfl
theorem bts_snoc (s : ByteArray) (k : Nat) (h : k < s.size) : (bts s).take (k + 1) = (bts s).take k ++ [s[k]] := take_snocL (bts s) k (by rw [bts_length]; exact h)
theorem bts_all (s : ByteArray) : (bts s).take s.size = bts s := List.take_of_length_le (by rw [bts_length]; exact Nat.le_refl _)
theorem bts_head (s : ByteArray) (h : 0 < s.size) : (bts s).head? = some s[0] := by
  rw [← bts_get s 0 h]
  have h' : 0 < (bts s).length := by rw [bts_length]; exact h
  rw [List.head?_eq_getElem?, List.getElem?_eq_getElem h']
theorem all_false {p : UInt8 → Bool} (s : ByteArray) (k : Nat) (h : k < s.size) (hc : p s[k] = false) : (bts s).all p = false := by
  cases ha : (bts s).all p
  · rfl
  · have := List.all_eq_true.1 ha _ (List.getElem_mem (by rw [bts_length]; exact h) : (bts s)[k]'(by rw [bts_length]; exact h) ∈ bts s)
    rw [bts_get s k h, hc] at this; cases this
theorem all_snoc {p : UInt8 → Bool} (s : ByteArray) (k : Nat) (h : k < s.size) (ha : ((bts s).take k).all p = true) (hc : p s[k] = true) : ((bts s).take (k + 1)).all p = true := by
  rw [bts_snoc s k h, List.all_append, ha]; simp [hc]

set_option maxHeartbeats 1000000 in
theorem refNumberB (s : ByteArray) (d : Nat) (hd : d ≤ 18) (hl : s.size ≤ 1000000000) (w : World) :
    Calls Tryz.prog 21 #[.string s, .int .i64 d] w fun e w' => e = .returned (.int .i64 (refNum (bts s) d)) ∧ w = w' := by
  by_cases h1 : s.size < 1
  · have HR := Lib.hid (show refNum (bts s) d = -1 by unfold refNum; rw [if_pos (.inl h1)])
    go_enter Tryz.func21, Tryz.ntmps21
    go_wp2
    go_ret
    exact ⟨ret_i64 HR.out.symm, rfl⟩
  by_cases h2 : d < s.size
  · have HR := Lib.hid (show refNum (bts s) d = -1 by unfold refNum; rw [if_pos (.inr (.inl h2))])
    go_enter Tryz.func21, Tryz.ntmps21
    go_wp2
    go_ret
    exact ⟨ret_i64 HR.out.symm, rfl⟩
  have hb1 : 0 < s.size := by omega
  have HH := Lib.hid (bts_head s hb1)
  by_cases h3 : 1 < s.size ∧ s[0] = 48
  · obtain ⟨h4, h5⟩ := h3
    have HR := Lib.hid (show refNum (bts s) d = -1 by unfold refNum; rw [if_pos (.inr (.inr (.inl ⟨h4, by rw [HH.out, h5]⟩)))])
    have hb0 : ((s[0].toNat : Int) == 48) = true := by rw [h5]; rfl
    clear h5
    go_enter Tryz.func21, Tryz.ntmps21
    go_wp2
    go_ret
    exact ⟨ret_i64 HR.out.symm, rfl⟩
  have HEq : Hid (refNum (bts s) d = if (bts s).all isDig = false then -1 else (valN (bts s) : Int)) := by
    show _ = _
    unfold refNum
    have e : (bts s).length = s.size := rfl
    by_cases ha : (bts s).all isDig = false
    · rw [if_pos (.inr (.inr (.inr ha))), if_pos ha]
    · rw [if_neg (by
        rintro (h | h | ⟨h, h'⟩ | h)
        · omega
        · omega
        · rw [HH.out] at h'
          exact h3 ⟨h, by simpa using h'⟩
        · exact ha h), if_neg ha]
  have hz : ¬ 1 < s.size ∨ (1 < s.size ∧ ((s[0].toNat : Int) == 48) = false) := by
    by_cases h4 : 1 < s.size
    · refine .inr ⟨h4, ?_⟩
      have : s[0] ≠ 48 := fun h0 => h3 ⟨h4, h0⟩
      have : s[0].toNat ≠ 48 := fun h0 => this (UInt8.toNat_inj.1 h0)
      simpa using by omega
    · exact .inl h4
  clear h3
  have hl18 : s.size ≤ 18 := by omega
  rcases hz with hz | ⟨hz, hz'⟩
  all_goals
    go_enter Tryz.func21, Tryz.ntmps21
    go_wp2
    go_loop [5, 6] (fun n i => ∃ k : Nat, k ≤ s.size ∧ i = .int .i64 k ∧ n = .int .i64 (valN ((bts s).take k)) ∧ Hid (((bts s).take k).all isDig = true)) (fun _ i => s.size - (intOf i).toNat)
    case atStart => exact ⟨0, by omega, rfl, rfl, rfl⟩
    case round =>
      obtain ⟨k, hk, rfl, rfl, HA⟩ := hrel
      by_cases hlt : k < s.size
      · have hv := valN_lt ((bts s).take k) HA.out
        have hv2 : 10 ^ ((bts s).take k).length ≤ 10 ^ 17 := Nat.pow_le_pow_right (by omega) (by rw [List.length_take]; omega)
        have hv4 : (valN ((bts s).take k) : Int) ≤ 100000000000000000 := by omega
        have hv5 : (0 : Int) ≤ (valN ((bts s).take k) : Int) := Int.natCast_nonneg _
        clear hv hv2
        have HS := Lib.hid (bts_snoc s k hlt)
        by_cases hlo : s[k].toNat < 48
        · have HF := Lib.hid (all_false (p := isDig) s k hlt (by unfold isDig; simp; omega))
          have hlo' : (s[k].toNat : Int) < 48 := by omega
          clear hlo HS
          go_wp2
          go_ret
          exact ⟨ret_i64 (by rw [HEq.out, if_pos HF.out]), rfl⟩
        by_cases hhi : 57 < s[k].toNat
        · have HF := Lib.hid (all_false (p := isDig) s k hlt (by unfold isDig; simp; omega))
          have hlo' : ¬ (s[k].toNat : Int) < 48 := by omega
          have hhi' : 57 < (s[k].toNat : Int) := by omega
          clear hlo hhi HS
          go_wp2
          go_ret
          exact ⟨ret_i64 (by rw [HEq.out, if_pos HF.out]), rfl⟩
        have HD := Lib.hid (show isDig s[k] = true by unfold isDig; simp; omega)
        have hlo' : 48 ≤ (s[k].toNat : Int) := by omega
        have hhi' : (s[k].toNat : Int) ≤ 57 := by omega
        clear hlo hhi
        go_wp2
        go_round
        case rel =>
          refine ⟨k + 1, by omega, by go_num, ?_, Lib.hid (all_snoc s k hlt HA.out HD.out)⟩
          rw [HS.out, valN_snoc]; go_num
        case measure => simp [intOf]; omega
      · obtain rfl : k = s.size := by omega
        have ha := HA.out
        rw [bts_all] at ha
        have HT := Lib.hid (bts_all s)
        have HA2 := Lib.hid ha
        clear ha
        go_wp2
        go_ret
        refine ⟨ret_i64 ?_, rfl⟩
        rw [HEq.out, HT.out, if_neg (by rw [HA2.out]; simp)]
theorem refNumber_any (l : List UInt8) (d : Nat) (hd : d ≤ 18) (hl : l.length ≤ 1000000000) (w : World) :
    Calls Tryz.prog 21 #[.string ⟨l.toArray⟩, .int .i64 d] w fun e w' => e = .returned (.int .i64 (refNum l d)) ∧ w = w' :=
  refNumberB ⟨l.toArray⟩ d hd (by simpa [ByteArray.size] using hl) w
end Go.Proofs.YtpifbahafnaejaaGreatDoor
namespace Go.Proofs.YtpifbahafnaejaaGreatDoor
open Go.RowKit

theorem ext_data (s : ByteArray) (l : List UInt8) (h : bts s = l) : s = ⟨l.toArray⟩ := by
  apply ByteArray.ext
  rw [← h]
  simp [bts]
theorem bts_extract (s : ByteArray) (i j : Nat) : bts (s.extract i j) = ((bts s).take j).drop i := by
  show (s.extract i j).data.toList = _
  rw [ByteArray.data_extract, Array.toList_extract, List.extract_eq_take_drop, List.drop_take]
  rfl
theorem _root_.List.drop_take_comm' (l : List UInt8) (i j : Nat) : (l.drop i).take (j - i) = (l.take j).drop i := by rw [List.drop_take]
end Go.Proofs.YtpifbahafnaejaaGreatDoor
namespace Go.Proofs.YtpifbahafnaejaaGreatDoor
open Go.RowKit

/-- Pieces between a byte. -/
def splitL (c : UInt8) : List UInt8 → List (List UInt8)
  | [] => [[]]
  | x :: r => if x = c then [] :: splitL c r else match splitL c r with
    | [] => [[x]]
    | p :: q => (x :: p) :: q
theorem splitL_ne (c : UInt8) (l : List UInt8) : splitL c l ≠ [] := by
  cases l with
  | nil => simp [splitL]
  | cons x r =>
    rw [splitL]
    split
    · simp
    · split <;> simp
theorem splitL_none {c : UInt8} {l : List UInt8} (h : c ∉ l) : splitL c l = [l] := by
  induction l with
  | nil => rfl
  | cons x r ih =>
    rw [splitL, if_neg (fun e => h (by rw [e]; exact List.mem_cons_self)), ih (fun e => h (List.mem_cons_of_mem _ e))]
theorem splitL_at {c : UInt8} (a b : List UInt8) (h : c ∉ a) : splitL c (a ++ c :: b) = a :: splitL c b := by
  induction a with
  | nil => rw [List.nil_append, splitL, if_pos rfl]
  | cons x r ih =>
    rw [List.cons_append, splitL, if_neg (fun e => h (by rw [e]; exact List.mem_cons_self)), ih (fun e => h (List.mem_cons_of_mem _ e))]
theorem splitL_snoc_sep (c : UInt8) (l : List UInt8) : splitL c (l ++ [c]) = splitL c l ++ [[]] := by
  induction l with
  | nil => simp [splitL]
  | cons x r ih =>
    rw [List.cons_append, splitL, splitL, ih]
    by_cases h : x = c
    · rw [if_pos h, if_pos h]; rfl
    · rw [if_neg h, if_neg h]
      cases hs : splitL c r with
      | nil => exact absurd hs (splitL_ne c r)
      | cons p q => rfl
theorem splitL_snoc {c x : UInt8} (l : List UInt8) (hx : x ≠ c) (out : List (List UInt8)) (cur : List UInt8) (h : splitL c l = out ++ [cur]) : splitL c (l ++ [x]) = out ++ [cur ++ [x]] := by
  induction l generalizing out cur with
  | nil =>
    have : out = [] ∧ cur = [] := by
      cases out with
      | nil => simpa [splitL] using h
      | cons p q => simp [splitL] at h
    rw [this.1, this.2]
    simp [splitL, hx]
  | cons y r ih =>
    rw [List.cons_append, splitL]
    rw [splitL] at h
    by_cases hy : y = c
    · rw [if_pos hy] at h ⊢
      cases out with
      | nil =>
        exfalso
        have := congrArg List.length h
        have h2 := List.length_pos_iff.2 (splitL_ne c r)
        simp at this
        exact splitL_ne c r this
      | cons p q =>
        simp only [List.cons_append, List.cons.injEq] at h
        rw [ih q cur h.2, h.1]; rfl
    · rw [if_neg hy] at h ⊢
      cases hs : splitL c r with
      | nil => exact absurd hs (splitL_ne c r)
      | cons p q =>
        rw [hs] at h
        cases out with
        | nil =>
          simp only [List.nil_append, List.cons.injEq] at h
          obtain ⟨rfl, rfl⟩ := h
          rw [ih [] p (by rw [hs]; rfl)]; rfl
        | cons p' q' =>
          simp only [List.cons_append, List.cons.injEq] at h
          obtain ⟨rfl, h2⟩ := h
          rw [ih (p :: q') cur (by rw [hs, h2]; rfl)]; rfl

theorem index_miss {l : List UInt8} {c : UInt8} (h : c ∉ l) : Lib.index l [c] = -1 := Lib.index_none (fun j _ => by
  rw [← Bool.not_eq_true, occ_one]
  intro hj
  exact h (List.mem_of_getElem? hj))
theorem index_hit {a b : List UInt8} {c : UInt8} (h : c ∉ a) : Lib.index (a ++ c :: b) [c] = (a.length : Nat) := Lib.index_first (by simp) ((occ_one _ _ _).2 (by simp)) (fun j hj => by
  rw [← Bool.not_eq_true, occ_one]
  intro hh
  rw [List.getElem?_append_left hj] at hh
  exact h (List.mem_of_getElem? hh))
theorem splitK_is (c : UInt8) (n : Nat) : ∀ l : List UInt8, l.length ≤ n → Lib.splitK [c] 0 (l.count c) l = splitL c l := by
  induction n with
  | zero =>
    intro l hl
    obtain rfl := List.eq_nil_of_length_eq_zero (Nat.le_zero.1 hl)
    rfl
  | succ n ih =>
    intro l hl
    by_cases h : c ∈ l
    · obtain ⟨a, b, rfl, ha⟩ := List.eq_append_cons_of_mem h
      have hcount : (a ++ c :: b).count c = b.count c + 1 := by
        rw [List.count_append, List.count_cons_self, List.count_eq_zero.2 ha, Nat.zero_add]
      rw [hcount, Lib.splitK, index_hit ha, if_neg (by simp), splitL_at a b ha]
      have h1 : ((a.length : Nat) : Int).toNat = a.length := by omega
      rw [h1, Nat.add_zero, List.take_left]
      have h2 : (a ++ c :: b).drop (a.length + [c].length) = b := by
        rw [← List.drop_drop, List.drop_left]; rfl
      rw [h2, ih b (by simp at hl; omega)]
    · rw [List.count_eq_zero.2 h, splitL_none h]; rfl
theorem splitB_is (s : ByteArray) (c : UInt8) : (Lib.splitB ⟨#[c]⟩ 0 (Lib.countB s ⟨#[c]⟩) s).map (·.data.toList) = splitL c (bts s) := by
  rw [Lib.splitB_data]
  have : Lib.countB s ⟨#[c]⟩ = (bts s).count c := by
    show Lib.count s.data.toList [c] = _
    rw [Lib.count_one]; rfl
  rw [this]
  exact splitK_is c _ (bts s) (Nat.le_refl _)
end Go.Proofs.YtpifbahafnaejaaGreatDoor
namespace Go.Proofs.YtpifbahafnaejaaGreatDoor
open Go.RowKit

/-- The slice at A reads as the texts xs. -/
def StrsAt (w : World) (A : Option Addr) (xs : List (List UInt8)) : Prop :=
  xs = [] ∨ ∃ b o, A = some ⟨b, o, none⟩ ∧ b < w.heap.size ∧ ∀ i (h : i < xs.length), w.cell? ⟨b, o + i, none⟩ = some (.string ⟨xs[i].toArray⟩)
theorem StrsAt.below {w w' : World} {A : Option Addr} {xs : List (List UInt8)} (h : StrsAt w A xs) (hb : Below w.heap.size w w') : StrsAt w' A xs := by
  rcases h with h | ⟨b, o, h1, h2, h3⟩
  · exact .inl h
  · exact .inr ⟨b, o, h1, Nat.lt_of_lt_of_le h2 hb.size, fun i hi => (hb.cell h2).trans (h3 i hi)⟩
def strVals (xs : List (List UInt8)) : List Value := xs.map fun x => .string ⟨x.toArray⟩
theorem strVals_length (xs : List (List UInt8)) : (strVals xs).length = xs.length := by simp [strVals]
theorem StrsAt.of_own {w : World} {B : Nat} {v : Value} {xs : List (List UInt8)} (h : w.ownsRow B 9 1 v xs.length (strVals xs)) : ∃ A cap, v = .slice A xs.length cap ∧ StrsAt w A xs ∧ ∀ a, A = some a → B ≤ a.block := by
  rcases h.2 with ⟨rfl, h0⟩ | ⟨g, cap, cur, rfl, hB, hg, _, _, _, ht⟩
  · obtain rfl := List.eq_nil_of_length_eq_zero h0
    exact ⟨_, _, rfl, .inl rfl, fun a ha => by cases ha⟩
  · refine ⟨_, _, rfl, .inr ⟨g, 0, rfl, ?_, fun i hi => ?_⟩, fun a ha => by cases ha; exact hB⟩
    · rcases Nat.lt_or_ge g w.heap.size with hl | hl
      · exact hl
      · rw [Array.getElem?_eq_none hl] at hg; cases hg
    · rw [cell_of_row w g _ cur _ _ hg, Nat.zero_add, ← Array.getElem?_toList, ← List.getElem?_take_of_lt (l := cur.toList) (show i < xs.length * 1 by omega), ht]
      simp [strVals, List.getElem?_eq_getElem hi]

theorem stringInfo1 : (Tryz.prog.info? 9).map (fun i => (i.zero, i.size, i.bytes)) = some (some (.string ⟨#[]⟩), 1, 16) := by kernel_rfl

/-- Two lists are alike up to k. -/
theorem alike_step {xs ys : List (List UInt8)} (k : Nat) (h1 : k < xs.length) (h2 : k < ys.length) (h : xs.take k = ys.take k) (he : xs[k] = ys[k]) : xs.take (k + 1) = ys.take (k + 1) := by
  rw [List.take_succ_eq_append_getElem h1, List.take_succ_eq_append_getElem h2, h, he]

end Go.Proofs.YtpifbahafnaejaaGreatDoor
namespace Go.Proofs.YtpifbahafnaejaaGreatDoor
open Go.RowKit

/-- What a call that hands back texts leaves. -/
def TextsEnds (xs : List (List UInt8)) (w : World) (e : Ending) (w' : World) : Prop :=
  ∃ A cap, e = .returned (.slice A xs.length cap) ∧ StrsAt w' A xs ∧ (∀ a, A = some a → w.heap.size ≤ a.block) ∧ Below w.heap.size w w'

theorem split_any (s : ByteArray) (c : UInt8) (w : World) (hs : s.size ≤ 1000000000) (hM : MaxG w) :
    Calls Tryz.prog 13 #[.string s, .string ⟨#[c]⟩] w (TextsEnds (splitL c (bts s)) w) := by
  obtain ⟨m, hm⟩ := hM
  refine (Tryz.strings_Split s ⟨#[c]⟩ m w (by omega) hm (by show 1 ≤ (#[c] : Array UInt8).size; simp)).mono ?_
  rintro e w' ⟨rfl, rfl⟩
  have hsp := splitB_is s c
  have hl : Lib.countB s ⟨#[c]⟩ + 1 = (splitL c (bts s)).length := by
    rw [← hsp, List.length_map, Lib.splitB_all ⟨#[c]⟩ (by show 1 ≤ (#[c] : Array UInt8).size; simp) 0 _ s rfl]
  refine ⟨some ⟨w.heap.size, 0, none⟩, Lib.countB s ⟨#[c]⟩ + 1, by rw [hl], .inr ⟨w.heap.size, 0, rfl, by simp, fun i hi => ?_⟩, fun a ha => by cases ha; exact Nat.le_refl _, (Below.refl _ _).alloc (Nat.le_refl _) _⟩
  rw [cell_of_row _ _ _ _ _ _ (heap_alloc_new _ _), Nat.zero_add]
  have h2 : i < (Lib.splitB ⟨#[c]⟩ 0 (Lib.countB s ⟨#[c]⟩) s).length := by rw [← hsp, List.length_map] at hi; exact hi
  simp only [List.getElem?_toArray, List.getElem?_map, List.getElem?_eq_getElem h2, Option.map_some]
  have h3 : (splitL c (bts s))[i] = ((Lib.splitB ⟨#[c]⟩ 0 (Lib.countB s ⟨#[c]⟩) s)[i]).data.toList := by
    simp only [← hsp, List.getElem_map]
  rw [h3]
end Go.Proofs.YtpifbahafnaejaaGreatDoor
namespace Go.Proofs.YtpifbahafnaejaaGreatDoor
open Go.RowKit

theorem results_cell_row2 {P : Program} {fn : Func} {p u : Tmp} {ty : TypeId} (h : fn.results = #[.cell p ty, .tmp u]) (tmps : Array Value) (w : World) (g : Nat) (t : TypeId) (cs : Array Value) (fr : Nat × Nat) (d : TypeDesc)
    (hp : tmps.getD p undef = .pointer (some ⟨g, 0, none⟩)) (hg : w.heap[g]? = some (.cells cs t fr))
    (hu : P.underlying ty = some d) (hd : (match d with | .struct _ | .array _ _ => true | _ => false) = true) (hi : (P.info? ty).map (·.size) = some cs.size) :
    (results fn tmps).run P w = .ok (.tuple #[.agg cs, tmps.getD u undef]) w := by
  have hp' : tmps[p]?.getD undef = .pointer (some ⟨g, 0, none⟩) := by simpa using hp
  rw [results_cell_tmp h]
  simp [hp', asAddr, run_loadVar_row w g t ty cs fr d hg hu hd hi, Result.andThen]

theorem row_lt {w : World} {b : Nat} {o : Obj} (h : w.heap[b]? = some o) : b < w.heap.size := by
  rcases Nat.lt_or_ge b w.heap.size with hl | hl
  · exact hl
  · rw [Array.getElem?_eq_none hl] at h; cases h
/-- Cells stored one behind the other. -/
def puts (w : World) (g i : Nat) : List Value → World
  | [] => w
  | v :: r => puts (w.setCell ⟨g, i, none⟩ v) g (i + 1) r
theorem puts_rowAt {g : Nat} {t : TypeId} (vs : List Value) : ∀ (w : World) (pre rest : List Value), rest.length = vs.length → w.heap[g]? = some (.cells (pre ++ rest).toArray t (0, 0)) → (puts w g pre.length vs).heap[g]? = some (.cells (pre ++ vs).toArray t (0, 0)) := by
  induction vs with
  | nil => intro w pre rest hl h; rw [List.eq_nil_of_length_eq_zero hl] at h; exact h
  | cons v r ih =>
    intro w pre rest hl h
    match rest, hl with
    | x :: q, hl =>
      have h2 := heap_setCell_same w g pre.length _ _ v h
      have e : (pre ++ x :: q).toArray.setIfInBounds pre.length v = (pre ++ v :: q).toArray := by
        apply Array.ext'
        simp [List.set_append_right]
      rw [e] at h2
      have h3 := ih (w.setCell ⟨g, pre.length, none⟩ v) (pre ++ [v]) q (by simpa using hl) (by simpa using h2)
      rw [List.length_append, List.length_singleton] at h3
      simpa [puts] using h3
theorem puts_row {w : World} {g : Nat} {t : TypeId} {cs : Array Value} (vs : List Value) (h : w.heap[g]? = some (.cells cs t (0, 0))) (hl : cs.size = vs.length) : (puts w g 0 vs).heap[g]? = some (.cells vs.toArray t (0, 0)) := by
  have := puts_rowAt (g := g) (t := t) vs w [] cs.toList (by simpa using hl) (by simpa using h)
  simpa using this
theorem puts_below {B : Nat} {w0 : World} {g : Nat} (hg : B ≤ g) (vs : List Value) : ∀ (w : World) (i : Nat), Below B w0 w → Below B w0 (puts w g i vs) := by
  induction vs with
  | nil => intro w i h; exact h
  | cons v r ih => intro w i h; exact ih _ _ (h.setCell (p := ⟨g, i, none⟩) hg v)
end Go.Proofs.YtpifbahafnaejaaGreatDoor
