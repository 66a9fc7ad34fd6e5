/- The closed fact of the book's laws: a book of one lot. -/
import Derived.Test.YtphgakobfegpcaaGreatDoorM21
import Derived.Test.YtphgakobfegpcaaGreatDoorM22
import Derived.Test.YtphgakobfegpcaaGreatDoorM28
namespace Go.Proofs.YtphgakobfegpcaaGreatDoor
open Go.RowKit Go.Sort Go.Proofs

def st1 : EntV := (kGoods, ([114, 121, 101], 6), zeroLot, zeroPlace, zeroPlace, 0)
def st2 : EntV := (kLot, zeroGoods, ([108, 49], [114, 121, 101], 9, 2), zeroPlace, zeroPlace, 0)
def st3 : EntV := (kIn, zeroGoods, ([108, 49], [], 0, 0), zeroPlace, ([97], 1, 1), 7)
def sB1 : BkV := doB bk0 st1
def sB2 : BkV := doB sB1 st2
def sB3 : BkV := doB sB2 st3
theorem st_e1 : doE bk0 st1 = 0 := by decide
theorem st_e2 : doE sB1 st2 = 0 := by decide
theorem st_e3 : doE sB2 st3 = 0 := by decide
theorem st_has : hasOf sB3 [114, 121, 101] = 7 := by decide
theorem st_sums : sumsOf sB3 [114, 121, 101] = (7, 0, 0, 0) := by decide

/-- Do, the book's blocks from a bound on. -/
theorem do_from (E : Nat → Addr) {n p : Nat} {B : BkV} (x : EntV) {w : World} (H : ∃ F, BookIs w p F B ∧ ∀ k ∈ F, n ≤ k) (hn : n ≤ w.heap.size) (hI : BkI B) (h1 : x.2.2.1.1.length ≤ 1000000000) (h2 : x.2.2.1.2.1.length ≤ 1000000000) (hG : BkG E w) :
    Calls Tryz.prog 35 #[.pointer (some ⟨p, 0, none⟩), .agg (encEnt x).toArray] w fun e w' => e = .returned (errOf E (doE B x)) ∧ (∃ F, BookIs w' p F (doB B x) ∧ ∀ k ∈ F, n ≤ k) ∧ Below n w w' := by
  obtain ⟨F, h, hF⟩ := H
  refine (do_any E x h hI h1 h2 hG).mono ?_
  rintro e w' ⟨he, ⟨F', h6, h7⟩, h8⟩
  exact ⟨he, ⟨F', h6, fun k hk => (h7 k hk).elim (hF k) (fun h => Nat.le_trans hn h)⟩, h8.below hn hF⟩

set_option maxHeartbeats 1600000 in
set_option maxRecDepth 100000 in
theorem started_any (E : Nat → Addr) (w : World) (hG : BkG E w) :
    Calls Tryz.prog 32 #[] w fun e w' => e = .returned (.bool true) ∧ Below w.heap.size w w' := by
  have HG := Lib.hid (fun W (h : Below w.heap.size w W) => hG.below h)
  have H1 : Hid (∀ p W, Below w.heap.size w W → (∃ F, BookIs W p F bk0 ∧ ∀ k ∈ F, w.heap.size ≤ k) → Calls Tryz.prog 35 #[.pointer (some ⟨p, 0, none⟩), .agg #[.string ⟨#[103, 111, 111, 100, 115]⟩, .string ⟨#[114, 121, 101]⟩, .int .i64 6, .string ⟨#[]⟩, .string ⟨#[]⟩, .int .i64 0, .int .i64 0, .string ⟨#[]⟩, .int .i64 0, .int .i64 0, .string ⟨#[]⟩, .int .i64 0, .int .i64 0, .int .i64 0]] W
      fun e w' => e = .returned (errOf E (doE bk0 st1)) ∧ (∃ F, BookIs w' p F sB1 ∧ ∀ k ∈ F, w.heap.size ≤ k) ∧ Below w.heap.size W w') :=
    fun p W hb H => do_from E st1 H hb.size BkI.nil (by decide) (by decide) (HG.out _ hb)
  have H2 : Hid (∀ p W, Below w.heap.size w W → (∃ F, BookIs W p F sB1 ∧ ∀ k ∈ F, w.heap.size ≤ k) → Calls Tryz.prog 35 #[.pointer (some ⟨p, 0, none⟩), .agg #[.string ⟨#[108, 111, 116]⟩, .string ⟨#[]⟩, .int .i64 0, .string ⟨#[108, 49]⟩, .string ⟨#[114, 121, 101]⟩, .int .i64 9, .int .i64 2, .string ⟨#[]⟩, .int .i64 0, .int .i64 0, .string ⟨#[]⟩, .int .i64 0, .int .i64 0, .int .i64 0]] W
      fun e w' => e = .returned (errOf E (doE sB1 st2)) ∧ (∃ F, BookIs w' p F sB2 ∧ ∀ k ∈ F, w.heap.size ≤ k) ∧ Below w.heap.size W w') :=
    fun p W hb H => do_from E st2 H hb.size (BkI.nil.do_ _) (by decide) (by decide) (HG.out _ hb)
  have H3 : Hid (∀ p W, Below w.heap.size w W → (∃ F, BookIs W p F sB2 ∧ ∀ k ∈ F, w.heap.size ≤ k) → Calls Tryz.prog 35 #[.pointer (some ⟨p, 0, none⟩), .agg #[.string ⟨#[105, 110]⟩, .string ⟨#[]⟩, .int .i64 0, .string ⟨#[108, 49]⟩, .string ⟨#[]⟩, .int .i64 0, .int .i64 0, .string ⟨#[]⟩, .int .i64 0, .int .i64 0, .string ⟨#[97]⟩, .int .i64 1, .int .i64 1, .int .i64 7]] W
      fun e w' => e = .returned (errOf E (doE sB2 st3)) ∧ (∃ F, BookIs w' p F sB3 ∧ ∀ k ∈ F, w.heap.size ≤ k) ∧ Below w.heap.size W w') :=
    fun p W hb H => do_from E st3 H hb.size ((BkI.nil.do_ _).do_ _) (by decide) (by decide) (HG.out _ hb)
  have HI := Lib.hid (show BkI sB3 from ((BkI.nil.do_ _).do_ _).do_ _)
  have H4 : Hid (∀ p W, (∃ F, BookIs W p F sB3 ∧ ∀ k ∈ F, w.heap.size ≤ k) → Calls Tryz.prog 38 #[.pointer (some ⟨p, 0, none⟩), .string ⟨#[114, 121, 101]⟩] W fun e w' => e = .returned (.int .i64 7) ∧ Below W.heap.size W w') := fun p W ⟨F, h, _⟩ => by
    have := hasBk_any h HI.out [114, 121, 101] (by rw [st_has]; decide)
    rw [st_has] at this
    exact this
  have H5 : Hid (∀ p W, (∃ F, BookIs W p F sB3 ∧ ∀ k ∈ F, w.heap.size ≤ k) → Calls Tryz.prog 20 #[.pointer (some ⟨p, 0, none⟩), .string ⟨#[114, 121, 101]⟩] W fun e w' => e = .returned (.agg #[.int .i64 7, .int .i64 0, .int .i64 0, .int .i64 0]) ∧ Below W.heap.size W w') := fun p W ⟨F, h, _⟩ => by
    have := sumsBk_any h [114, 121, 101]
    rw [st_sums] at this
    exact this
  have hq : ∀ W, (binOp .eql 47 (.agg #[.int .i64 7, .int .i64 0, .int .i64 0, .int .i64 0]) (.agg #[.int .i64 7, .int .i64 0, .int .i64 0, .int .i64 0])).run Tryz.prog W = .ok (.bool true) W := fun W => eqSums (7, 0, 0, 0) (7, 0, 0, 0) W
  rw [st_e1] at H1
  rw [st_e2] at H2
  rw [st_e3] at H3
  simp only [errOf_zero] at H1 H2 H3
  clear hG
  go_enter Tryz.func32, Tryz.ntmps32
  go_wp2_with fail
  refine (newBook_any w).mono ?_
  rintro e w1 ⟨p, F, rfl, hb, hF, b1⟩
  have HB1 : Hid (∃ F, BookIs w1 p F bk0 ∧ ∀ k ∈ F, w.heap.size ≤ k) := ⟨F, hb, hF⟩
  have B1 := Lib.hid b1
  clear hb hF b1
  go_wp2_with fail
  refine (H1.out p w1 B1.out HB1.out).mono ?_
  rintro e w2 ⟨rfl, hb2, b2⟩
  have HB2 := Lib.hid hb2
  have B2 := Lib.hid (B1.out.trans b2)
  clear hb2 b2
  go_wp2_with fail
  refine (H2.out p w2 B2.out HB2.out).mono ?_
  rintro e w3 ⟨rfl, hb3, b3⟩
  have HB3 := Lib.hid hb3
  have B3 := Lib.hid (B2.out.trans b3)
  clear hb3 b3
  go_wp2_with fail
  refine (H3.out p w3 B3.out HB3.out).mono ?_
  rintro e w4 ⟨rfl, hb4, b4⟩
  have HB4 := Lib.hid hb4
  have B4 := Lib.hid (B3.out.trans b4)
  clear hb4 b4
  go_wp2_with fail
  refine (H4.out p w4 HB4.out).mono ?_
  rintro e w5 ⟨rfl, b5⟩
  have HB5 : Hid (∃ F, BookIs w5 p F sB3 ∧ ∀ k ∈ F, w.heap.size ≤ k) := by
    obtain ⟨F, h, hF⟩ := HB4.out
    exact ⟨F, h.below b5, hF⟩
  have B5 := Lib.hid (B4.out.trans (b5.mono B4.out.size))
  clear b5
  go_wp2_with fail
  refine (H5.out p w5 HB5.out).mono ?_
  rintro e w6 ⟨rfl, b6⟩
  have B6 := Lib.hid (B5.out.trans (b6.mono B5.out.size))
  clear b6
  go_wp2_with fail
  go_ret
  exact ⟨rfl, B6.out⟩
end Go.Proofs.YtphgakobfegpcaaGreatDoor
