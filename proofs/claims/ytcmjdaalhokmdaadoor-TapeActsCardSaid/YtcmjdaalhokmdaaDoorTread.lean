/- Package tape: Read. -/
import Derived.Test.YtcmjdaalhokmdaaDoorOne
import Derived.Test.YtcmjdaalhokmdaaDoorStrs
import Derived.Deep.AppendLies
namespace Go.Proofs.YtcmjdaalhokmdaaDoor
open Go.RowKit

/-- What Read tells. -/
def ReadEnds (b : List UInt8) (w : World) (e : Ending) (w' : World) : Prop :=
  ∃ l n A cap, ReadIs b l n ∧ n ≤ b.length ∧ l.length ≤ b.length ∧ e = .returned (.tuple #[.slice A l.length cap, .int .i64 (n : Nat)]) ∧ StrsAt w' A l ∧ (∀ a, A = some a → w.heap.size ≤ a.block) ∧ Below w.heap.size w w'

theorem recsL_ge (l : List (List UInt8)) : l.length ≤ (recsL l).length := by
  induction l with
  | nil => simp [recsL]
  | cons s r ih => have := recL_length s; simp only [recsL, List.length_append, List.length_cons]; omega

theorem own_belowS {w w' : World} {B e size n : Nat} {v : Value} {xs : List Value} (h : w.ownsRow B e size v n xs) (hb : Below w.heap.size w w') : w'.ownsRow B e size v n xs := by
  refine ⟨h.1, ?_⟩
  rcases h.2 with h0 | ⟨g, cap, cur, h1, h2, h3, h4⟩
  · exact .inl h0
  · exact .inr ⟨g, cap, cur, h1, h2, (hb.block g (by
      rcases Nat.lt_or_ge g w.heap.size with hl | hl
      · exact hl
      · rw [Array.getElem?_eq_none hl] at h3; cases h3)).trans h3, h4⟩

set_option maxHeartbeats 1600000 in
set_option maxRecDepth 100000 in
theorem tread_any (b : List UInt8) (hb : b.length ≤ 2000000) (w : World) (hT : TabG w) (hA : AtoiG w) (hM : MaxG w) :
    Calls Tryd.prog 23 #[.string ⟨b.toArray⟩] w (ReadEnds b w) := by
  obtain ⟨i0, hi, hz0, hz1, hz2⟩ := info_parts stringInfo1
  go_enter Tryd.func23, Tryd.ntmps23
  go_wp2
  go_loopw [4, 5] (fun out at_ wr => ∃ (l : List (List UInt8)) (r : List UInt8) (k n : Nat), at_ = .int .i64 n ∧ k ≤ n ∧ n ≤ b.length ∧ Hid (b = recsL l ++ r ∧ n = (recsL l).length ∧ k = l.length ∧ (∀ s ∈ l, s.length ≤ 20000)) ∧ Hid (wr.ownsRow w.heap.size 9 1 out k (strVals l)) ∧ Below w.heap.size w wr) (fun _ at_ _ => b.length - (intOf at_).toNat)
  case atStart => exact ⟨[], b, 0, 0, rfl, by omega, by omega, ⟨by simp [recsL], by simp [recsL], rfl, by simp⟩, World.ownsRow_nil _ _ _ _, Below.refl _ _⟩
  case round =>
    obtain ⟨l, r, k, n, rfl, hkn, hnb, HL, HO, hbel⟩ := hrel
    have hx : (⟨b.toArray⟩ : ByteArray).extract n b.length = ⟨r.toArray⟩ := by
      obtain ⟨e1, e2, _, _⟩ := HL.out
      apply ByteArray.ext
      rw [ByteArray.data_extract]
      have : b.drop n = r := by rw [e1, e2, List.drop_left]
      simp [← this, List.take_of_length_le]
    have HX := Lib.hid hx
    have hrl : r.length ≤ 2000000 := by obtain ⟨e1, _⟩ := HL.out; have := congrArg List.length e1; simp at this; omega
    have hsb : (⟨b.toArray⟩ : ByteArray).size = b.length := by simp [ByteArray.size]
    have HONE := Lib.hid (one_any r hrl wr (hT.below hbel) (hA.below hbel) (hM.below hbel))
    have hn2 : (n : Int) ≤ b.length := by omega
    have HB := Lib.hid hbel
    clear hx hbel hM
    go_wp2_with fail
    rw [HX.out]
    refine HONE.out.mono ?_
    rintro e w1 ⟨(⟨s, r', hrec, rfl⟩ | ⟨hno, rfl⟩), b1⟩
    · have hs := hrec.2
      have hrl' := recL_le s hs
      have hr0 := recL_length s
      have hrr : (recL s).length + r'.length = r.length := by rw [hrec.1]; simp
      have HR := Lib.hid hrec
      have bsz := HB.out.size
      have bsz1 := b1.size
      have HO1 := Lib.hid (own_belowS HO.out b1)
      have hlen : n + r.length = b.length := by obtain ⟨e1, e2, _⟩ := HL.out; rw [e1, e2]; simp
      have hks : k ≤ 2000000 := by omega
      have hB1 : Below w.heap.size w w1 := HB.out.trans (b1.mono HB.out.size)
      have HB1 := Lib.hid hB1
      clear hrec HONE b1 hB1
      have hss : (⟨s.toArray⟩ : ByteArray).size = s.length := by simp [ByteArray.size]
      have hsz : (⟨(recL s).toArray⟩ : ByteArray).size = (recL s).length := by simp [ByteArray.size]
      have HREC := Lib.hid (fun W h => record_any s (by omega) W h)
      have HRL := Lib.hid (show (recL s).length = (recL s).length from rfl)
      generalize hq : recL s = q at HREC hrl' hr0 hrr hsz
      have HQ := Lib.hid hq
      clear hq
      go_wp2_with (at_builtin; refine wpList_append_lies _ rfl (.tmp 19) (.tmp 21) 50 rfl w.heap.size 9 i0 (.string ⟨#[]⟩) 1 16 Tryd.underlying50 hi hz0 hz1 hz2 rfl (by decide) u4 k (strVals l) rfl (HO1.out.alloc _) _ 1 1 [.string ⟨s.toArray⟩] rfl rfl (World.news_of_block (cs := #[.string ⟨s.toArray⟩]) (t := 9) (fr := (0, 0)) (heap_alloc_new _ _)) (by simp [Value.oneCell']) (by omega) (by unfold maxLen; omega) (by omega) (by simp; omega) _ rfl ?_; intro gg cap' w3 hown3 hgrow hat hlt3; have HK := Lib.hid (And.intro hown3 (And.intro hgrow hat)); clear hown3 hgrow hat)
      have hb3 : Below w.heap.size w w3 := (HB1.out.alloc HB1.out.size _).grown HK.out.2.1 (by simp; omega) (fun j hj => (HO1.out.lt j hj).1)
      refine (HREC.out _ (hT.below hb3)).mono ?_
      rintro e w4 ⟨rfl, b4⟩
      have HB4 := Lib.hid (hb3.trans (b4.mono hb3.size))
      have HO4 := Lib.hid (own_belowS HK.out.1 b4)
      clear hb3 b4
      go_wp2
      refine ⟨⟨l ++ [s], r', k + 1, n + q.length, by congr 1, by omega, by omega, ⟨?_, ?_, ?_, ?_⟩, ?_, HB4.out⟩, by simp [intOf]; omega⟩
      · rw [recsL_snoc, List.append_assoc, ← HR.out.1]; exact HL.out.1
      · rw [recsL_snoc, List.length_append, ← HL.out.2.1, HQ.out]
      · rw [List.length_append, ← HL.out.2.2.1]; rfl
      · intro x hx
        rcases List.mem_append.1 hx with hx | hx
        · exact HL.out.2.2.2 x hx
        · simp at hx; subst hx; exact hs
      · have e : strVals (l ++ [s]) = strVals l ++ [.string ⟨s.toArray⟩] := by simp [strVals]
        rw [e]; exact HO4
    · have HN := Lib.hid hno
      clear hno HONE
      have hO := own_belowS HO.out b1
      have hB1 : Below w.heap.size w w1 := HB.out.trans (b1.mono HB.out.size)
      go_wp2
      go_ret2
      obtain ⟨e1, e2, e3, e4⟩ := HL.out
      rw [e3] at hO
      obtain ⟨A, cap, hv, hS, hA'⟩ := StrsAt.of_own hO
      have hv' : u4 = .slice A l.length cap := hv
      subst hv'
      have hr := read_join e4 (ReadIs.stop HN.out)
      rw [List.append_nil, Nat.add_zero, ← e1, ← e2] at hr
      exact ⟨l, n, A, cap, hr, hnb, by omega, rfl, hS, hA', hB1⟩
end Go.Proofs.YtcmjdaalhokmdaaDoor
