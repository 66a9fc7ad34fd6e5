/- goods.Read whole, and the plain law: pieces are read as they were written; of two numbers the text is one only if they are one. -/
import Derived.Test.YtchamhjckindiaaGreatDoorGread
import Derived.Test.YtchamhjckindiaaGreatDoorCut
namespace Go.Proofs.YtchamhjckindiaaGreatDoor
open Go.RowKit

/-- What goods.Read answers of a text: the number; an error's number. -/
def readS (l : List UInt8) (pack : Nat) : Nat × Nat :=
  if (Lib.cut l [99]).2.2 then readQ (Lib.cut l [99]).1 (Lib.cut l [99]).2.1 true pack else readQ (Lib.cut l [99]).1 l false pack

theorem read_any (E : Nat → Addr) (s : ByteArray) (pack : Nat) (w : World) (hp : 1 ≤ pack) (hp2 : pack ≤ 1000) (hs : s.size < 4294967281) (hT : TabG w) (hA : AtoiG w) (hM : MaxG w)
    (h1 : ErrAt 1 (E 1) w) (h2 : ErrAt 0 (E 2) w) :
    Calls Tryz.prog 11 #[.string s, .int .i64 pack] w fun e w' => e = .returned (.tuple #[.int .i64 (readS s.data.toList pack).1, errOf E (readS s.data.toList pack).2]) ∧ Below w.heap.size w w' := by
  have hsz : s.size = s.data.toList.length := by rw [Array.length_toList]; rfl
  rcases cut_cases s.data.toList 99 with ⟨_, hc⟩ | ⟨a, b, hl, _, hc⟩
  · unfold readS
    rw [hc]
    exact read_plain E s pack w hp hp2 hs hT hA hM h1 h2 _ _ hc
  · have hlen : a.length < 4294967281 ∧ b.length < 4294967281 := by
      have := congrArg List.length hl
      simp at this
      have h3 : s.data.size = s.size := rfl
      omega
    unfold readS
    rw [hc]
    exact read_found E s pack w hp hp2 hs hT hA hM h1 h2 _ _ hc hlen.1 hlen.2

theorem no_c (u : Nat) : (99 : UInt8) ∉ Lib.decDigits u := by
  intro h
  have := dec_digit u 99 h
  simp at this

theorem numQ_dec (u : Nat) (h : u < 10000000000000) : numQ (Lib.decDigits u) 13 = some u :=
  (numQ_iff _ _ _).2 ⟨rfl, dec_len_le u 13 (by omega) (by omega), by omega⟩

theorem text_plain {n pack : Nat} (h : pack = 1 ∨ n < pack) : textL n pack = Lib.decDigits n := by unfold textL; rw [if_pos h]
theorem text_even {n pack : Nat} (h : ¬ (pack = 1 ∨ n < pack)) (h2 : n % pack = 0) : textL n pack = Lib.decDigits (n / pack) ++ 99 :: [] := by unfold textL; rw [if_neg h, if_pos h2]
theorem text_odd {n pack : Nat} (h : ¬ (pack = 1 ∨ n < pack)) (h2 : ¬ n % pack = 0) : textL n pack = Lib.decDigits (n / pack) ++ 99 :: Lib.decDigits (n % pack) := by unfold textL; rw [if_neg h, if_neg h2]; simp

theorem back (n pack : Nat) (hn : n ≤ 1099511627776) (hp : 1 ≤ pack) (hp2 : pack ≤ 1000) : readS (textL n pack) pack = (n, 0) := by
  by_cases h : pack = 1 ∨ n < pack
  · rw [text_plain h]
    unfold readS
    rw [cut_none _ _ (no_c n)]
    have h0 := dec_ne_nil n
    unfold readQ
    simp [num_zero, numQ_dec n (by omega), h0, finQ]
    omega
  · have hq1 : 1 ≤ n / pack := by
      have : pack ≤ n := by omega
      exact Nat.div_pos this (by omega)
    have hq2 : n / pack ≤ n := Nat.div_le_self _ _
    have hr : n % pack < pack := Nat.mod_lt _ (by omega)
    have he : n / pack * pack + n % pack = n := by rw [Nat.mul_comm]; exact Nat.div_add_mod n pack
    have hq0 : n / pack ≠ 0 := by omega
    by_cases h2 : n % pack = 0
    · rw [text_even h h2]
      unfold readS
      rw [cut_at _ _ _ (no_c _)]
      simp only [if_true]
      unfold readQ
      simp only [if_true, numQ_dec (n / pack) (by omega)]
      rw [if_neg (by simp; omega), finQ, if_neg (by omega)]
      congr 1; omega
    · rw [text_odd h h2]
      unfold readS
      rw [cut_at _ _ _ (no_c _)]
      simp only [if_true]
      unfold readQ
      simp only [if_true, numQ_dec (n / pack) (by omega), numQ_dec (n % pack) (by omega)]
      rw [if_neg (by simp; omega), if_neg (dec_ne_nil _), if_neg (by simp; omega), finQ, if_neg (by omega)]
      congr 1

theorem text_inj (n m pack : Nat) (hn : n ≤ 1099511627776) (hm : m ≤ 1099511627776) (hp : 1 ≤ pack) (hp2 : pack ≤ 1000) : textL n pack = textL m pack ↔ n = m := by
  constructor
  · intro h
    have h1 := back n pack hn hp hp2
    rw [h, back m pack hm hp hp2] at h1
    injection h1 with h1
    exact h1.symm
  · rintro rfl; rfl

theorem text_len (n pack : Nat) (hn : n ≤ 1099511627776) (hp : 1 ≤ pack) (hp2 : pack ≤ 1000) : (textL n pack).length ≤ 27 := by
  have l0 := dec_len_le n 13 (by omega) (by omega)
  have l1 := dec_len_le (n / pack) 13 (by omega) (by have := Nat.div_le_self n pack; omega)
  have l2 := dec_len_le (n % pack) 13 (by omega) (by have := Nat.mod_lt n (y := pack) (by omega); omega)
  unfold textL
  split
  · omega
  · split <;> simp <;> omega

theorem text_told : textL 38 12 = [51, 99, 50] := by
  rw [text_odd (by omega) (by omega), Lib.decDigits_one (by omega), Lib.decDigits_one (by omega)]; rfl
end Go.Proofs.YtchamhjckindiaaGreatDoor
