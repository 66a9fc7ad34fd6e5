/- Parts of a text, plainly. -/
import Derived.Test.YtmhkcmoepopnoaaDoorRNumber
namespace Go.Proofs.YtmhkcmoepopnoaaDoor
open Go.RowKit

theorem ext_data (s : ByteArray) (l : List UInt8) (h : bts s = l) : s = ⟨l.toArray⟩ := by
  apply ByteArray.ext
  rw [← h]
  simp [bts]
theorem bts_extract (s : ByteArray) (i j : Nat) : bts (s.extract i j) = ((bts s).take j).drop i := by
  show (s.extract i j).data.toList = _
  rw [ByteArray.data_extract, Array.toList_extract, List.extract_eq_take_drop, List.drop_take]
  rfl
theorem _root_.List.drop_take_comm' (l : List UInt8) (i j : Nat) : (l.drop i).take (j - i) = (l.take j).drop i := by rw [List.drop_take]
end Go.Proofs.YtmhkcmoepopnoaaDoor
