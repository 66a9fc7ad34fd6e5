/- faulted, of tithebarnlaw2: an error's number and place. The law CostOf, walked. The twelve sentinels together. -/
import Derived.Test.YtphgakobfegpcaaGreatDoorM37
import Derived.Test.YtphgakobfegpcaaGreatDoorM38
import Derived.Test.YtphgakobfegpcaaGreatDoorM39
import Derived.Test.YtphgakobfegpcaaGreatDoorLCostOf04
import Derived.Test.YtphgakobfegpcaaGreatDoorLCostOf05
import Derived.Test.YtphgakobfegpcaaGreatDoorLCostOf08
namespace Go.Proofs.YtphgakobfegpcaaGreatDoor
open Go.RowKit

set_option maxHeartbeats 800000 in
theorem faulted2_of (v : Value) (c n : Int) (w : World) (HC : Hid (∀ W, Below w.heap.size w W → Calls Tryz.prog 60 #[v] W fun e w' => e = .returned (.tuple #[.int .i64 c, .int .i64 n]) ∧ Below W.heap.size W w')) :
    Calls Tryz.prog 13 #[v, .agg #[.int .i64 c, .int .i64 n]] w fun e w' => e = .returned (.bool true) ∧ Below w.heap.size w w' := by
  have b0 := below_one w (.cells #[.int .i64 c, .int .i64 n] 32)
  have hx := heap_alloc_new w (.cells #[.int .i64 c, .int .i64 n] 32)
  by_cases hc0 : c = 0
  · subst hc0
    go_enter Tryz.func13, Tryz.ntmps13
    go_wp2_with fail
    refine (HC.out _ b0).mono ?_
    rintro e w1 ⟨rfl, b1⟩
    have hx1 := (b1.block _ (row_lt hx)).trans hx
    have c0 : w1.cell? ⟨w.heap.size, 0, none⟩ = some (.int .i64 0) := cell_of_row _ _ _ _ _ _ hx1
    have B1 := Lib.hid (b0.trans (b1.mono b0.size))
    clear b1 b0 hx hx1
    go_wp2
    go_ret
    exact ⟨rfl, B1.out⟩
  · have hcb : (c == 0) = false := by simpa using hc0
    go_enter Tryz.func13, Tryz.ntmps13
    go_wp2_with fail
    refine (HC.out _ b0).mono ?_
    rintro e w1 ⟨rfl, b1⟩
    have hx1 := (b1.block _ (row_lt hx)).trans hx
    have c0 : w1.cell? ⟨w.heap.size, 0, none⟩ = some (.int .i64 c) := cell_of_row _ _ _ _ _ _ hx1
    have c1 : w1.cell? ⟨w.heap.size, 1, none⟩ = some (.int .i64 n) := cell_of_row _ _ _ _ _ _ hx1
    have B1 := Lib.hid (b0.trans (b1.mono b0.size))
    clear b1 b0 hx hx1
    go_wp2
    go_ret
    exact ⟨rfl, B1.out⟩
/-- An error with a place, or none; an error without one. -/
theorem faulted2_some (E : Nat → Addr) (k i : Nat) (h2 : k ≤ 12) (v : Value) (w : World) (hG : ErrG E w) (hf : FltAt E (some (k, i)) v w) :
    Calls Tryz.prog 13 #[v, .agg #[.int .i64 (k : Nat), .int .i64 (i : Nat)]] w fun e w' => e = .returned (.bool true) ∧ Below w.heap.size w w' := by
  obtain ⟨h0, b, rfl, hb⟩ := hf
  rw [errOf_pos _ _ h0] at hb
  refine faulted2_of _ _ _ w fun W hw => ?_
  have hb' := (hw.block _ (row_lt hb)).trans hb
  have h := code_hit E ⟨b, 0, none⟩ (i : Nat) k W (hG.below hw) h2 (cell_of_row _ _ 0 _ _ _ hb') (isK_fault E b 0 k (by omega) h2 W (hG.below hw) (cell_of_row _ _ 1 _ _ _ hb'))
  rwa [show codeOf k = (k : Int) by unfold codeOf; rw [if_neg (by omega)]] at h
theorem faulted2_fine (w : World) : Calls Tryz.prog 13 #[.nilIface, .agg #[.int .i64 0, .int .i64 (-1)]] w fun e w' => e = .returned (.bool true) ∧ Below w.heap.size w w' :=
  faulted2_of _ _ _ w fun W hw => (code_nil W).mono fun e w' ⟨he, h⟩ => by
    subst he
    subst h
    exact ⟨rfl, Below.refl _ _⟩
theorem faulted2_sent (E : Nat → Addr) (c : Nat) (h1 : 1 ≤ c) (h2 : c ≤ 12) (w : World) (hG : ErrG E w) :
    Calls Tryz.prog 13 #[errOf E c, .agg #[.int .i64 (c : Nat), .int .i64 (-1)]] w fun e w' => e = .returned (.bool true) ∧ Below w.heap.size w w' := by
  rw [errOf_pos _ _ (by omega)]
  exact faulted2_of _ _ _ w fun W hb => code_sent E c h1 h2 W (hG.below hb)
end Go.Proofs.YtphgakobfegpcaaGreatDoor
namespace Go.Proofs.YtphgakobfegpcaaGreatDoor
open Go.RowKit Go.Sort Go.Proofs

set_option maxHeartbeats 800000 in
set_option maxRecDepth 100000 in
theorem costO_out (A0 : Option Addr) (cap0 : Nat) (xs0 : List EntV) (code : List UInt8) (w : World) (hT : TabG w) (hX0 : RowAt encEnt 14 w A0 xs0) (h : longL xs0 40 = 1 ∨ (longL xs0 40 = 0 ∧ 30 < code.length)) :
    Calls Tryz.prog 3 #[.slice A0 xs0.length cap0, .string ⟨code.toArray⟩] w fun e w' => e = .returned (.bool true) ∧ Below w.heap.size w w' := by
  have HC := Lib.hid (cheap_any w hT)
  have HL := Lib.hid (fun W (hb : Below w.heap.size w W) => longEntries_any A0 cap0 xs0 40 W (by decide) (hX0.below hb))
  clear hT hX0
  rcases h with h | ⟨h, hc⟩
  · rw [h] at HL
    clear h
    go_enter Tryz.func3, Tryz.ntmps3
    go_wp2_with fail
    refine HC.out.mono ?_
    rintro e w1 ⟨rfl, b1⟩
    have B1 := Lib.hid b1
    clear b1
    go_wp2_with fail
    refine (HL.out w1 B1.out).mono ?_
    rintro e w2 ⟨rfl, b2⟩
    have B2 := Lib.hid (B1.out.trans (b2.mono B1.out.size))
    clear b2
    go_wp2_with fail
    go_ret
    exact ⟨rfl, B2.out⟩
  · rw [h] at HL
    have hc1 : (30 : Int) < (code.length : Nat) := by omega
    clear h
    go_enter Tryz.func3, Tryz.ntmps3
    go_wp2_with fail
    refine HC.out.mono ?_
    rintro e w1 ⟨rfl, b1⟩
    have B1 := Lib.hid b1
    clear b1
    go_wp2_with fail
    refine (HL.out w1 B1.out).mono ?_
    rintro e w2 ⟨rfl, b2⟩
    have B2 := Lib.hid (B1.out.trans (b2.mono B1.out.size))
    clear b2
    go_wp2_with fail
    go_ret
    exact ⟨rfl, B2.out⟩

set_option maxHeartbeats 1600000 in
set_option maxRecDepth 100000 in
theorem costO_in (E : Nat → Addr) (A0 : Option Addr) (cap0 : Nat) (xs0 : List EntV) (code : List UInt8) (w : World) (hG : BkG E w) (hE : ErrG E w) (hT : TabG w) (hX0 : RowAt encEnt 14 w A0 xs0) (h : longL xs0 40 = 0) (hc : code.length ≤ 30) :
    Calls Tryz.prog 3 #[.slice A0 xs0.length cap0, .string ⟨code.toArray⟩] w fun e w' => e = .returned (.bool true) ∧ Below w.heap.size w w' := by
  have HC := Lib.hid (cheap_any w hT)
  have HL := Lib.hid (fun W (hb : Below w.heap.size w W) => longEntries_any A0 cap0 xs0 40 W (by decide) (hX0.below hb))
  rw [h] at HL
  obtain ⟨s1, s2⟩ := longL_short h
  have hsh : ∀ x ∈ xs0, ShortE x := fun x hx => longN_ShortE (s2 x hx)
  have H1 := Lib.hid (fun W (hb : Below w.heap.size w W) => costOf_any E A0 cap0 xs0 code W (hX0.below hb) (by omega) hsh (hG.below hb))
  have H2 := Lib.hid (fun W (hb : Below w.heap.size w W) => rcostOf_any A0 cap0 xs0 code W (hX0.below hb) (by omega) hsh)
  have HGE : Hid (∀ k i, coGo code bk0 [] 0 0 xs0 = .inr (k, i) → k ≠ 0 ∧ k ≤ 12) := fun k i hr => coGo_err (fun x _ B => doE_tw B x) hr
  have HGO : Hid (∀ B ls a, coGo code bk0 [] 0 0 xs0 = .inl (B, ls, a) → OkL ls ∧ ls.length ≤ 1000000) := fun B ls a hr => by
    obtain ⟨h1, h2⟩ := coGo_ok (ls := []) ⟨by simp [hasL], by simp, by simp⟩ hr
    exact ⟨h1, by simp at h2; omega⟩
  have HT := Lib.hid (fun W (hb : Below w.heap.size w W) => hT.below hb)
  have HE := Lib.hid (fun W (hb : Below w.heap.size w W) => hE.below hb)
  have hc1 : ¬ (30 : Int) < (code.length : Nat) := by omega
  generalize coGo code bk0 [] 0 0 xs0 = r at H1 H2 HGE HGO
  clear hG hE hT hX0 h s1 s2 hsh
  go_enter Tryz.func3, Tryz.ntmps3
  go_wp2_with fail
  refine HC.out.mono ?_
  rintro e w1 ⟨rfl, b1⟩
  have B1 := Lib.hid b1
  clear b1 HC
  go_wp2_with fail
  refine (HL.out w1 B1.out).mono ?_
  rintro e w2 ⟨rfl, b2⟩
  have B2 := Lib.hid (B1.out.trans (b2.mono B1.out.size))
  clear b2 HL B1
  go_wp2_with fail
  refine (H1.out w2 B2.out).mono ?_
  rintro e w3 ⟨h1, b3⟩
  have B3 := Lib.hid (B2.out.trans (b3.mono B2.out.size))
  have hz3 := b3.size
  clear H1
  rcases r with ⟨B, ls, a⟩ | ⟨k, i⟩
  · obtain ⟨ho, hlen⟩ := HGO.out B ls a rfl
    unfold CoAt at h1
    simp only at h1
    by_cases hs : (fG B code).isSome = true
    · rw [if_pos hs] at h1
      obtain ⟨p, g, rfl, hl, hp, hg⟩ := h1
      have HL3 := Lib.hid hl
      have HO := Lib.hid ho
      have HS := Lib.hid hs
      clear hl ho hs HGO HGE b3
      go_wp2_with fail
      refine (H2.out w3 B3.out).mono ?_
      rintro e w4 ⟨h2, b4⟩
      have B4 := Lib.hid (B3.out.trans (b4.mono B3.out.size))
      unfold RCoAt at h2
      simp only at h2
      rw [if_pos HS.out] at h2
      obtain ⟨p2, g2, rfl, hl2, -, -⟩ := h2
      have hba := below_one w4 (.cells #[.int .i64 0, .int .i64 (-1)] 32)
      have HL4 := Lib.hid ((HL3.out.below b4).below hba)
      have HR4 := Lib.hid (hl2.below hba)
      have B5 := Lib.hid (B4.out.trans (hba.mono B4.out.size))
      clear hl2 b4 H2 HL3 hba
      go_upto_region 8 with fail
      generalize w4.alloc (.cells #[.int .i64 0, .int .i64 (-1)] 32) = w5 at HL4 HR4 B5 ⊢
      go_wp2_with fail
      refine (text_any p g ls w5 (HT.out _ B5.out) HL4.out HO.out hlen).mono ?_
      rintro e w6 ⟨rfl, b6⟩
      have B6 := Lib.hid (B5.out.trans (b6.mono B5.out.size))
      have HR6 := Lib.hid (HR4.out.below b6)
      clear b6
      go_wp2_with fail
      refine (rtext_any p2 g2 ls w6 HR6.out HO.out hlen).mono ?_
      rintro e w7 ⟨rfl, b7⟩
      have B7 := Lib.hid (B6.out.trans (b7.mono B6.out.size))
      clear b7
      go_wp2_with fail
      go_ret
      exact ⟨rfl, B7.out⟩
    · rw [if_neg hs] at h1
      subst h1
      have HS := Lib.hid hs
      clear hs ho HGO HGE b3
      go_wp2_with fail
      refine (H2.out w3 B3.out).mono ?_
      rintro e w4 ⟨h2, b4⟩
      have B4 := Lib.hid (B3.out.trans (b4.mono B3.out.size))
      unfold RCoAt at h2
      simp only at h2
      rw [if_neg HS.out] at h2
      subst h2
      clear b4 H2
      have hba := below_one w4 (.cells #[.int .i64 6, .int .i64 (-1)] 32)
      have hx := heap_alloc_new w4 (.cells #[.int .i64 6, .int .i64 (-1)] 32)
      have B5 := Lib.hid (B4.out.trans (hba.mono B4.out.size))
      have HF := Lib.hid (faulted2_sent E 6 (by decide) (by decide) _ (HE.out _ B5.out))
      clear hba
      go_wp2_with (refine wpList_load_at rfl 32 _ rfl w4.heap.size 0 rfl [.int .i64 6, .int .i64 (-1)] (Lies.row _ hx) _ Tryz.underlying32 rfl (by kernel_rfl) ?_)
      refine HF.out.mono ?_
      rintro e w6 ⟨rfl, b6⟩
      have B6 := Lib.hid (B5.out.trans (b6.mono B5.out.size))
      clear b6
      go_wp2_with fail
      go_ret
      exact ⟨rfl, B6.out⟩
  · obtain ⟨h0, h12⟩ := HGE.out k i rfl
    obtain ⟨v, rfl, hv⟩ := h1
    have HV := Lib.hid hv
    clear hv HGO HGE b3
    go_wp2_with fail
    refine (H2.out w3 B3.out).mono ?_
    rintro e w4 ⟨h2, b4⟩
    have B4 := Lib.hid (B3.out.trans (b4.mono B3.out.size))
    have h2' : e = .returned (.tuple #[.pointer none, .int .i64 0, .agg #[.int .i64 (k : Nat), .int .i64 (i : Nat)]]) := h2
    subst h2'
    have hba := below_one w4 (.cells #[.int .i64 (k : Nat), .int .i64 (i : Nat)] 32)
    have hx := heap_alloc_new w4 (.cells #[.int .i64 (k : Nat), .int .i64 (i : Nat)] 32)
    have B5 := Lib.hid (B4.out.trans (hba.mono B4.out.size))
    have hv5 : FltAt E (some (k, i)) v (w4.alloc (.cells #[.int .i64 (k : Nat), .int .i64 (i : Nat)] 32)) := by
      obtain ⟨q0, b, q1, q2⟩ := HV.out
      exact ⟨q0, b, q1, (hba.block _ (by have := row_lt q2; have := b4.size; omega)).trans ((b4.block _ (row_lt q2)).trans q2)⟩
    have HF := Lib.hid (faulted2_some E k i h12 v _ (HE.out _ B5.out) hv5)
    have hpos : (0 : Int) < ((k : Nat) : Int) := by omega
    clear hba b4 h2 H2 hv5 HV
    go_wp2_with (refine wpList_load_at rfl 32 _ rfl w4.heap.size 0 rfl [.int .i64 (k : Nat), .int .i64 (i : Nat)] (Lies.row _ hx) _ Tryz.underlying32 rfl (by kernel_rfl) ?_)
    refine HF.out.mono ?_
    rintro e w6 ⟨rfl, b6⟩
    have B6 := Lib.hid (B5.out.trans (b6.mono B5.out.size))
    clear b6
    go_wp2_with fail
    go_ret
    exact ⟨rfl, B6.out⟩

theorem costOf_walk (E : Nat → Addr) (A0 : Option Addr) (cap0 : Nat) (xs0 : List EntV) (code : List UInt8) (w : World) (hG : BkG E w) (hE : ErrG E w) (hT : TabG w) (hX0 : RowAt encEnt 14 w A0 xs0) :
    Calls Tryz.prog 3 #[.slice A0 xs0.length cap0, .string ⟨code.toArray⟩] w fun e w' => e = .returned (.bool true) ∧ Below w.heap.size w w' := by
  rcases longL_01 xs0 40 with h | h
  · by_cases hc : code.length ≤ 30
    · exact costO_in E A0 cap0 xs0 code w hG hE hT hX0 h hc
    · exact costO_out A0 cap0 xs0 code w hT hX0 (.inr ⟨h, by omega⟩)
  · exact costO_out A0 cap0 xs0 code w hT hX0 (.inl h)
theorem costOf_walkS (E : Nat → Addr) (A0 : Option Addr) (cap0 : Nat) (xs0 : List EntV) (s : ByteArray) (w : World) (hG : BkG E w) (hE : ErrG E w) (hT : TabG w) (hX0 : RowAt encEnt 14 w A0 xs0) :
    Calls Tryz.prog 3 #[.slice A0 xs0.length cap0, .string s] w fun e w' => e = .returned (.bool true) ∧ Below w.heap.size w w' := by
  have h := costOf_walk E A0 cap0 xs0 s.data.toList w hG hE hT hX0
  rw [Array.toArray_toList] at h
  exact h
end Go.Proofs.YtphgakobfegpcaaGreatDoor
namespace Go.Proofs.YtphgakobfegpcaaGreatDoor
open Go.RowKit

/-- The number of a sentinel, by its text. -/
def textNo (l : List UInt8) : Nat :=
  if l = [116, 105, 116, 104, 101, 98, 97, 114, 110, 58, 32, 116, 101, 120, 116] then 1 else
  if l = [116, 105, 116, 104, 101, 98, 97, 114, 110, 58, 32, 98, 111, 117, 110, 100] then 2 else
  if l = [116, 105, 116, 104, 101, 98, 97, 114, 110, 58, 32, 115, 104, 97, 112, 101] then 3 else
  if l = [116, 105, 116, 104, 101, 98, 97, 114, 110, 58, 32, 107, 105, 110, 100] then 4 else
  if l = [116, 105, 116, 104, 101, 98, 97, 114, 110, 58, 32, 110, 97, 109, 101] then 5 else
  if l = [116, 105, 116, 104, 101, 98, 97, 114, 110, 58, 32, 110, 111, 110, 101] then 6 else
  if l = [116, 105, 116, 104, 101, 98, 97, 114, 110, 58, 32, 101, 120, 105, 115, 116] then 7 else
  if l = [116, 105, 116, 104, 101, 98, 97, 114, 110, 58, 32, 102, 117, 108, 108] then 8 else
  if l = [116, 105, 116, 104, 101, 98, 97, 114, 110, 58, 32, 115, 104, 111, 114, 116] then 9 else
  if l = [116, 105, 116, 104, 101, 98, 97, 114, 110, 58, 32, 111, 114, 100, 101, 114] then 10 else
  if l = [116, 105, 116, 104, 101, 98, 97, 114, 110, 58, 32, 115, 116, 97, 116, 101] then 11 else
  if l = [116, 105, 116, 104, 101, 98, 97, 114, 110, 58, 32, 111, 102, 102] then 12 else 0

theorem errG_of {W : World} {a1 a2 a3 a4 a5 a6 a7 a8 a9 a10 a11 a12 : Addr}
    (h1 : Sent 4 a1 [116, 105, 116, 104, 101, 98, 97, 114, 110, 58, 32, 116, 101, 120, 116] W)
    (h2 : Sent 2 a2 [116, 105, 116, 104, 101, 98, 97, 114, 110, 58, 32, 98, 111, 117, 110, 100] W)
    (h3 : Sent 1 a3 [116, 105, 116, 104, 101, 98, 97, 114, 110, 58, 32, 115, 104, 97, 112, 101] W)
    (h4 : Sent 5 a4 [116, 105, 116, 104, 101, 98, 97, 114, 110, 58, 32, 107, 105, 110, 100] W)
    (h5 : Sent 6 a5 [116, 105, 116, 104, 101, 98, 97, 114, 110, 58, 32, 110, 97, 109, 101] W)
    (h6 : Sent 0 a6 [116, 105, 116, 104, 101, 98, 97, 114, 110, 58, 32, 110, 111, 110, 101] W)
    (h7 : Sent 7 a7 [116, 105, 116, 104, 101, 98, 97, 114, 110, 58, 32, 101, 120, 105, 115, 116] W)
    (h8 : Sent 8 a8 [116, 105, 116, 104, 101, 98, 97, 114, 110, 58, 32, 102, 117, 108, 108] W)
    (h9 : Sent 3 a9 [116, 105, 116, 104, 101, 98, 97, 114, 110, 58, 32, 115, 104, 111, 114, 116] W)
    (h10 : Sent 9 a10 [116, 105, 116, 104, 101, 98, 97, 114, 110, 58, 32, 111, 114, 100, 101, 114] W)
    (h11 : Sent 10 a11 [116, 105, 116, 104, 101, 98, 97, 114, 110, 58, 32, 115, 116, 97, 116, 101] W)
    (h12 : Sent 11 a12 [116, 105, 116, 104, 101, 98, 97, 114, 110, 58, 32, 111, 102, 102] W)
    (hty : W.cell? ⟨12, 0, none⟩ = some (.iface 249 (.agg #[.pointer (some ⟨19, 27, none⟩)]))) :
    ErrG (fun k => if k = 1 then a1 else if k = 2 then a2 else if k = 3 then a3 else if k = 4 then a4 else if k = 5 then a5 else if k = 6 then a6 else if k = 7 then a7 else if k = 8 then a8 else if k = 9 then a9 else if k = 10 then a10 else if k = 11 then a11 else a12) W := by
  refine ⟨?_, ?_, ?_, hty⟩
  · intro k k1 k2
    rcases (show k = 1 ∨ k = 2 ∨ k = 3 ∨ k = 4 ∨ k = 5 ∨ k = 6 ∨ k = 7 ∨ k = 8 ∨ k = 9 ∨ k = 10 ∨ k = 11 ∨ k = 12 by omega) with rfl | rfl | rfl | rfl | rfl | rfl | rfl | rfl | rfl | rfl | rfl | rfl
    · exact h1.at_
    · exact h2.at_
    · exact h3.at_
    · exact h4.at_
    · exact h5.at_
    · exact h6.at_
    · exact h7.at_
    · exact h8.at_
    · exact h9.at_
    · exact h10.at_
    · exact h11.at_
    · exact h12.at_
  · intro k k1 k2
    rcases (show k = 1 ∨ k = 2 ∨ k = 3 ∨ k = 4 ∨ k = 5 ∨ k = 6 ∨ k = 7 ∨ k = 8 ∨ k = 9 ∨ k = 10 ∨ k = 11 ∨ k = 12 by omega) with rfl | rfl | rfl | rfl | rfl | rfl | rfl | rfl | rfl | rfl | rfl | rfl
    · exact h1.row
    · exact h2.row
    · exact h3.row
    · exact h4.row
    · exact h5.row
    · exact h6.row
    · exact h7.row
    · exact h8.row
    · exact h9.row
    · exact h10.row
    · exact h11.row
    · exact h12.row
  · have T : ∀ k, 1 ≤ k → k ≤ 12 → ∃ g l, Sent g ((fun k => if k = 1 then a1 else if k = 2 then a2 else if k = 3 then a3 else if k = 4 then a4 else if k = 5 then a5 else if k = 6 then a6 else if k = 7 then a7 else if k = 8 then a8 else if k = 9 then a9 else if k = 10 then a10 else if k = 11 then a11 else a12) k) l W ∧ textNo l = k := by
      intro k k1 k2
      rcases (show k = 1 ∨ k = 2 ∨ k = 3 ∨ k = 4 ∨ k = 5 ∨ k = 6 ∨ k = 7 ∨ k = 8 ∨ k = 9 ∨ k = 10 ∨ k = 11 ∨ k = 12 by omega) with rfl | rfl | rfl | rfl | rfl | rfl | rfl | rfl | rfl | rfl | rfl | rfl
      · exact ⟨_, _, h1, by decide⟩
      · exact ⟨_, _, h2, by decide⟩
      · exact ⟨_, _, h3, by decide⟩
      · exact ⟨_, _, h4, by decide⟩
      · exact ⟨_, _, h5, by decide⟩
      · exact ⟨_, _, h6, by decide⟩
      · exact ⟨_, _, h7, by decide⟩
      · exact ⟨_, _, h8, by decide⟩
      · exact ⟨_, _, h9, by decide⟩
      · exact ⟨_, _, h10, by decide⟩
      · exact ⟨_, _, h11, by decide⟩
      · exact ⟨_, _, h12, by decide⟩
    intro i j i1 i2 j1 j2 he
    obtain ⟨g, l, s, e⟩ := T i i1 i2
    obtain ⟨g', l', s', e'⟩ := T j j1 j2
    rcases Decidable.em (l = l') with hl | hl
    · rw [← e, ← e', hl]
    · exact absurd he (sent_ne s s' hl)
end Go.Proofs.YtphgakobfegpcaaGreatDoor
