/- The twelve sentinels together. -/
import Derived.Test.YtphgakobfegpcaaGreatDoorM37
import Derived.Test.YtphgakobfegpcaaGreatDoorM39
namespace Go.Proofs.YtphgakobfegpcaaGreatDoor
open Go.RowKit

/-- The number of a sentinel, by its text. -/
def textNo (l : List UInt8) : Nat :=
  if l = [116, 105, 116, 104, 101, 98, 97, 114, 110, 58, 32, 116, 101, 120, 116] then 1 else
  if l = [116, 105, 116, 104, 101, 98, 97, 114, 110, 58, 32, 98, 111, 117, 110, 100] then 2 else
  if l = [116, 105, 116, 104, 101, 98, 97, 114, 110, 58, 32, 115, 104, 97, 112, 101] then 3 else
  if l = [116, 105, 116, 104, 101, 98, 97, 114, 110, 58, 32, 107, 105, 110, 100] then 4 else
  if l = [116, 105, 116, 104, 101, 98, 97, 114, 110, 58, 32, 110, 97, 109, 101] then 5 else
  if l = [116, 105, 116, 104, 101, 98, 97, 114, 110, 58, 32, 110, 111, 110, 101] then 6 else
  if l = [116, 105, 116, 104, 101, 98, 97, 114, 110, 58, 32, 101, 120, 105, 115, 116] then 7 else
  if l = [116, 105, 116, 104, 101, 98, 97, 114, 110, 58, 32, 102, 117, 108, 108] then 8 else
  if l = [116, 105, 116, 104, 101, 98, 97, 114, 110, 58, 32, 115, 104, 111, 114, 116] then 9 else
  if l = [116, 105, 116, 104, 101, 98, 97, 114, 110, 58, 32, 111, 114, 100, 101, 114] then 10 else
  if l = [116, 105, 116, 104, 101, 98, 97, 114, 110, 58, 32, 115, 116, 97, 116, 101] then 11 else
  if l = [116, 105, 116, 104, 101, 98, 97, 114, 110, 58, 32, 111, 102, 102] then 12 else 0

theorem errG_of {W : World} {a1 a2 a3 a4 a5 a6 a7 a8 a9 a10 a11 a12 : Addr}
    (h1 : Sent 4 a1 [116, 105, 116, 104, 101, 98, 97, 114, 110, 58, 32, 116, 101, 120, 116] W)
    (h2 : Sent 2 a2 [116, 105, 116, 104, 101, 98, 97, 114, 110, 58, 32, 98, 111, 117, 110, 100] W)
    (h3 : Sent 1 a3 [116, 105, 116, 104, 101, 98, 97, 114, 110, 58, 32, 115, 104, 97, 112, 101] W)
    (h4 : Sent 5 a4 [116, 105, 116, 104, 101, 98, 97, 114, 110, 58, 32, 107, 105, 110, 100] W)
    (h5 : Sent 6 a5 [116, 105, 116, 104, 101, 98, 97, 114, 110, 58, 32, 110, 97, 109, 101] W)
    (h6 : Sent 0 a6 [116, 105, 116, 104, 101, 98, 97, 114, 110, 58, 32, 110, 111, 110, 101] W)
    (h7 : Sent 7 a7 [116, 105, 116, 104, 101, 98, 97, 114, 110, 58, 32, 101, 120, 105, 115, 116] W)
    (h8 : Sent 8 a8 [116, 105, 116, 104, 101, 98, 97, 114, 110, 58, 32, 102, 117, 108, 108] W)
    (h9 : Sent 3 a9 [116, 105, 116, 104, 101, 98, 97, 114, 110, 58, 32, 115, 104, 111, 114, 116] W)
    (h10 : Sent 9 a10 [116, 105, 116, 104, 101, 98, 97, 114, 110, 58, 32, 111, 114, 100, 101, 114] W)
    (h11 : Sent 10 a11 [116, 105, 116, 104, 101, 98, 97, 114, 110, 58, 32, 115, 116, 97, 116, 101] W)
    (h12 : Sent 11 a12 [116, 105, 116, 104, 101, 98, 97, 114, 110, 58, 32, 111, 102, 102] W)
    (hty : W.cell? ⟨12, 0, none⟩ = some (.iface 249 (.agg #[.pointer (some ⟨19, 27, none⟩)]))) :
    ErrG (fun k => if k = 1 then a1 else if k = 2 then a2 else if k = 3 then a3 else if k = 4 then a4 else if k = 5 then a5 else if k = 6 then a6 else if k = 7 then a7 else if k = 8 then a8 else if k = 9 then a9 else if k = 10 then a10 else if k = 11 then a11 else a12) W := by
  refine ⟨?_, ?_, ?_, hty⟩
  · intro k k1 k2
    rcases (show k = 1 ∨ k = 2 ∨ k = 3 ∨ k = 4 ∨ k = 5 ∨ k = 6 ∨ k = 7 ∨ k = 8 ∨ k = 9 ∨ k = 10 ∨ k = 11 ∨ k = 12 by omega) with rfl | rfl | rfl | rfl | rfl | rfl | rfl | rfl | rfl | rfl | rfl | rfl
    · exact h1.at_
    · exact h2.at_
    · exact h3.at_
    · exact h4.at_
    · exact h5.at_
    · exact h6.at_
    · exact h7.at_
    · exact h8.at_
    · exact h9.at_
    · exact h10.at_
    · exact h11.at_
    · exact h12.at_
  · intro k k1 k2
    rcases (show k = 1 ∨ k = 2 ∨ k = 3 ∨ k = 4 ∨ k = 5 ∨ k = 6 ∨ k = 7 ∨ k = 8 ∨ k = 9 ∨ k = 10 ∨ k = 11 ∨ k = 12 by omega) with rfl | rfl | rfl | rfl | rfl | rfl | rfl | rfl | rfl | rfl | rfl | rfl
    · exact h1.row
    · exact h2.row
    · exact h3.row
    · exact h4.row
    · exact h5.row
    · exact h6.row
    · exact h7.row
    · exact h8.row
    · exact h9.row
    · exact h10.row
    · exact h11.row
    · exact h12.row
  · have T : ∀ k, 1 ≤ k → k ≤ 12 → ∃ g l, Sent g ((fun k => if k = 1 then a1 else if k = 2 then a2 else if k = 3 then a3 else if k = 4 then a4 else if k = 5 then a5 else if k = 6 then a6 else if k = 7 then a7 else if k = 8 then a8 else if k = 9 then a9 else if k = 10 then a10 else if k = 11 then a11 else a12) k) l W ∧ textNo l = k := by
      intro k k1 k2
      rcases (show k = 1 ∨ k = 2 ∨ k = 3 ∨ k = 4 ∨ k = 5 ∨ k = 6 ∨ k = 7 ∨ k = 8 ∨ k = 9 ∨ k = 10 ∨ k = 11 ∨ k = 12 by omega) with rfl | rfl | rfl | rfl | rfl | rfl | rfl | rfl | rfl | rfl | rfl | rfl
      · exact ⟨_, _, h1, by decide⟩
      · exact ⟨_, _, h2, by decide⟩
      · exact ⟨_, _, h3, by decide⟩
      · exact ⟨_, _, h4, by decide⟩
      · exact ⟨_, _, h5, by decide⟩
      · exact ⟨_, _, h6, by decide⟩
      · exact ⟨_, _, h7, by decide⟩
      · exact ⟨_, _, h8, by decide⟩
      · exact ⟨_, _, h9, by decide⟩
      · exact ⟨_, _, h10, by decide⟩
      · exact ⟨_, _, h11, by decide⟩
      · exact ⟨_, _, h12, by decide⟩
    intro i j i1 i2 j1 j2 he
    obtain ⟨g, l, s, e⟩ := T i i1 i2
    obtain ⟨g', l', s', e'⟩ := T j j1 j2
    rcases Decidable.em (l = l') with hl | hl
    · rw [← e, ← e', hl]
    · exact absurd he (sent_ne s s' hl)
end Go.Proofs.YtphgakobfegpcaaGreatDoor
