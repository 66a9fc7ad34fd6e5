/- Package tape: one record; a record's text. -/
import Derived.Test.YtcmjdaalhokmdaaDoorRec
import Derived.Lib.ItoaMem
import Derived.Lib.ItoaLen
namespace Go.Proofs.YtcmjdaalhokmdaaDoor
open Go.RowKit

set_option maxHeartbeats 400000 in
theorem record_any (s : List UInt8) (hs : s.length ≤ 2000000) (w : World) (hT : TabG w) :
    Calls Tryd.prog 35 #[.string ⟨s.toArray⟩] w fun e w' => e = .returned (.string ⟨(recL s).toArray⟩) ∧ Below w.heap.size w w' := by
  have hsz : (⟨s.toArray⟩ : ByteArray).size = s.length := by simp [ByteArray.size]
  have hl := Lib.itoa_length_le (s.length : Int) (by omega) (by omega)
  go_enter Tryd.func35, Tryd.ntmps35
  go_wp2_with fail
  refine (itoa_any _ (by omega) (by omega) _ hT).mono ?_
  rintro e w1 ⟨rfl, b1⟩
  go_wp2
  go_ret
  refine ⟨?_, b1⟩
  show Ending.returned (.string ((⟨(Lib.itoa (s.length : Int)).toArray⟩ : ByteArray) ++ (⟨#[58]⟩ : ByteArray) ++ (⟨s.toArray⟩ : ByteArray) ++ (⟨#[10, 46]⟩ : ByteArray))) = _
  rw [show (⟨#[58]⟩ : ByteArray) = ⟨[58].toArray⟩ from rfl, show (⟨#[10, 46]⟩ : ByteArray) = ⟨[10, 46].toArray⟩ from rfl, mk_app, mk_app, mk_app, Lib.itoa_nonneg]
  simp [recL]

/-- No record ahead. -/
theorem no_rec_cut {b a c : List UInt8} {f : Bool} (h : Lib.cut b [58] = (a, c, f)) (hn : f = false ∨ (∀ n, ¬ NumIs a 9 n) ∨ (∃ n, NumIs a 9 n ∧ (20000 < n ∨ c.length < n + 2 ∨ (c.drop n).take 2 ≠ [10, 46]))) : ∀ s r, ¬ IsRec b s r := by
  intro s r hr
  have hc := hr.cut
  rw [h] at hc
  simp only [Prod.mk.injEq] at hc
  obtain ⟨rfl, rfl, rfl⟩ := hc
  have hN : NumIs (Lib.decDigits s.length) 9 s.length := ⟨rfl, by have := dec_len_le s.length 9 (by omega) (by have := hr.2; omega); exact this, by have := hr.2; omega⟩
  rcases hn with h | h | ⟨n, h1, h2⟩
  · cases h
  · exact h _ hN
  · have e := dec_inj _ _ (by have := hr.2; omega) h1.2.2 h1.1
    subst e
    rcases h2 with h2 | h2 | h2
    · have := hr.2; omega
    · simp at h2; omega
    · apply h2; simp [List.append_assoc]
theorem yes_rec_cut {b a c : List UInt8} {n : Nat} (hb : b = a ++ 58 :: c) (hN : NumIs a 9 n) (h1 : n ≤ 20000) (h2 : n + 2 ≤ c.length) (h3 : (c.drop n).take 2 = [10, 46]) : IsRec b (c.take n) (c.drop (n + 2)) := by
  refine ⟨?_, by rw [List.length_take]; omega⟩
  have e : c = c.take n ++ ([10, 46] ++ c.drop (n + 2)) := by
    rw [← h3, ← List.drop_drop, List.take_append_drop, List.take_append_drop]
  rw [hb, hN.1]
  have hl : (c.take n).length = n := by rw [List.length_take]; omega
  unfold recL
  rw [hl]
  simp only [List.append_assoc, List.cons_append]
  congr 2

/-- What one tells. -/
def OneEnds (b : List UInt8) (w : World) (e : Ending) (w' : World) : Prop :=
  ((∃ s r, IsRec b s r ∧ e = .returned (.tuple #[.string ⟨s.toArray⟩, .bool true])) ∨ ((∀ s r, ¬ IsRec b s r) ∧ e = .returned (.tuple #[.string ⟨#[]⟩, .bool false]))) ∧ Below w.heap.size w w'

set_option maxHeartbeats 1600000 in
set_option maxRecDepth 100000 in
theorem one_any (b : List UInt8) (hb : b.length ≤ 2000000) (w : World) (hT : TabG w) (hA : AtoiG w) (hM : MaxG w) :
    Calls Tryd.prog 38 #[.string ⟨b.toArray⟩] w (OneEnds b w) := by
  obtain ⟨mx, hM⟩ := hM
  have hsz : (⟨b.toArray⟩ : ByteArray).size = b.length := by simp [ByteArray.size]
  have HC := Lib.hid (Tryd.strings_Cut ⟨b.toArray⟩ ⟨#[58]⟩ mx w (by rw [hsz]; omega) hM)
  obtain ⟨a, c, f, h, hbf, hal, hcl⟩ : ∃ a c f, Lib.cut b [58] = (a, c, f) ∧ (f = true → b = a ++ 58 :: c) ∧ a.length ≤ 2000000 ∧ c.length ≤ 2000000 := by
    rcases cut_cases b 58 with ⟨_, h⟩ | ⟨a, c, h1, _, h⟩
    · exact ⟨_, _, _, h, (fun h => by cases h), hb, by simp⟩
    · refine ⟨_, _, _, h, fun _ => h1, ?_, ?_⟩ <;> (have := congrArg List.length h1; simp at this; omega)
  have e1 : Lib.cut (⟨b.toArray⟩ : ByteArray).data.toList (⟨#[58]⟩ : ByteArray).data.toList = (a, c, f) := h
  rw [e1] at HC
  have H := Lib.hid h
  have HBF := Lib.hid hbf
  clear h hbf e1
  go_enter Tryd.func38, Tryd.ntmps38
  go_wp2_with fail
  refine HC.out.mono ?_
  rintro e w1 ⟨rfl, j, rfl⟩
  go_wp2_with fail
  refine (number_any ⟨a.toArray⟩ 9 (by show a.toArray.size ≤ _; simp; omega) (by omega) _ (hT.drewN j) hA).mono ?_
  have hb1 := below_drewN (Below.refl w.heap.size w) j
  rintro e w2 (⟨n, -, hN, rfl, b2⟩ | ⟨hq, m, m1, m2, rfl, b2⟩)
  · have hN : NumIs a 9 n := hN
    have hb2 := hb1.trans b2
    have HN := Lib.hid hN
    cases f with
    | false =>
      go_wp2
      go_ret2
      exact ⟨.inr ⟨no_rec_cut H.out (.inl rfl), rfl⟩, hb2⟩
    | true =>
      have hnm := hN.2.2
      by_cases h1 : 20000 < n
      · go_wp2
        go_ret2
        exact ⟨.inr ⟨no_rec_cut H.out (.inr (.inr ⟨n, HN.out, .inl h1⟩)), rfl⟩, hb2⟩
      · by_cases h2 : c.length < n + 2
        · go_wp2
          go_ret2
          exact ⟨.inr ⟨no_rec_cut H.out (.inr (.inr ⟨n, HN.out, .inr (.inl h2)⟩)), rfl⟩, hb2⟩
        · have h2' : n + 2 ≤ c.length := by omega
          have hx : ((⟨c.toArray⟩ : ByteArray).extract n (n + 2)).toList = (c.drop n).take 2 := by
            rw [Lib.toList_data, ByteArray.data_extract]
            simp [List.take_drop]
          have hy : (⟨c.toArray⟩ : ByteArray).extract 0 n = ⟨(c.take n).toArray⟩ := by
            apply ByteArray.ext
            rw [ByteArray.data_extract]
            simp
          by_cases h3 : (c.drop n).take 2 = [10, 46]
          · have hz : (((⟨c.toArray⟩ : ByteArray).extract n (n + 2)).toList == [10, 46]) = true := by rw [hx, h3]; rfl
            have HY := Lib.hid hy
            clear hx hy
            go_wp2
            go_ret2
            refine ⟨.inl ⟨_, _, yes_rec_cut (HBF.out trivial) HN.out (by omega) h2' h3, ?_⟩, hb2⟩
            rw [← HY.out]; rfl
          · have hz : (((⟨c.toArray⟩ : ByteArray).extract n (n + 2)).toList == [10, 46]) = false := by rw [hx]; simpa using h3
            clear hx hy
            go_wp2
            go_ret2
            exact ⟨.inr ⟨no_rec_cut H.out (.inr (.inr ⟨n, HN.out, .inr (.inr h3)⟩)), rfl⟩, hb2⟩
  · have hb2 := hb1.trans b2
    have HQ := Lib.hid hq
    cases f with
    | false =>
      go_wp2
      go_ret2
      exact ⟨.inr ⟨no_rec_cut H.out (.inl rfl), rfl⟩, hb2⟩
    | true =>
      go_wp2
      go_ret2
      exact ⟨.inr ⟨no_rec_cut H.out (.inr (.inl (fun n hn => by have := (numQ_iff a 9 n).2 hn; rw [show numQ a 9 = none from HQ.out] at this; cases this))), rfl⟩, hb2⟩
end Go.Proofs.YtcmjdaalhokmdaaDoor
