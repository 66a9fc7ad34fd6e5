/- Acts on a tape, as they lie in memory. -/
import Derived.Test.YtcmjdaalhokmdaaDoorRowK
namespace Go.Proofs.YtcmjdaalhokmdaaDoor
open Go.RowKit

/-- An act on a tape: its kind, its text, its number. -/
abbrev WrV := List UInt8 × List UInt8 × Int
def encWr (x : WrV) : List Value := [.string ⟨x.1.toArray⟩, .string ⟨x.2.1.toArray⟩, .int .i64 x.2.2]
theorem encWr_len (x : WrV) : (encWr x).length = 3 := rfl
end Go.Proofs.YtcmjdaalhokmdaaDoor
