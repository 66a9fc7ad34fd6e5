/- What a row's list gives, more: errors' own variable; how large the first heap is; the texts of the sentinels. -/
import Derived.Test.YtmhkcmoepopnoaaDoorLaid
import Derived.LaidHandle
import Derived.Lay
import Derived.Stop.Joined
namespace Go.Proofs.YtmhkcmoepopnoaaDoor
open Go.RowKit Go.ChangeShapes

/-- The first heap holds the table. -/
theorem tab_big {W : World} (h : Lib.TabIs Tryd.prog W "internal/strconv.uint64pow10" .u64 Lib.pow10Tab) : 6 < W.heap.size := by
  have c0 : W.cell? ⟨6, 0, none⟩ = _ := World.var?_cell (P := Tryd.prog) (by kernel_rfl) h 0
  exact lt_of_cell (c0.trans (show _ = some (Value.int .u64 1) from rfl))

theorem oneRow : ((List.range 147).filter fun t => Tryd.prog.rowNamed t [101, 114, 114, 111, 114]) = [33] := by kernel_rfl
theorem tsize : Tryd.prog.types.size = 147 := by kernel_rfl

/-- Two sentinels of unlike texts are unlike. -/
theorem sent_ne {g g' : Nat} {a a' : Addr} {l l' : List UInt8} {w : World} (h : Sent g a l w) (h' : Sent g' a' l' w) (hne : l ≠ l') : a ≠ a' := by
  rintro rfl
  obtain ⟨s, hs, ht⟩ := h.text
  obtain ⟨s', hs', ht'⟩ := h'.text
  rw [hs] at hs'
  injection hs' with hs'
  injection hs' with hs'
  subst hs'
  exact hne (ht.symm.trans ht')

/-- All the listed data laid over a world. -/
theorem laidMet_over {P : Program} {w0 : World} {laid : List (String × DataW Unit)} (args : Array Value)
    (hf : w0.layFits P laid [] = true) (hi : w0.layIfaces P laid (w0.layVars P laid) = true) :
    laidMet P laid ((w0.layVars P laid).forCall (fun _ _ => 0) ⟨#[], args, []⟩).memory := by
  have e1 : (laid.filter fun x => (laid.map (·.1)).contains x.1) = laid := List.filter_eq_self.2 fun x hx => List.contains_iff_mem.2 (List.mem_map.2 ⟨x, hx, rfl⟩)
  have e2 : (laid.filter fun x => !(laid.map (·.1)).contains x.1) = [] := List.filter_eq_nil_iff.2 fun x hx => by rw [List.contains_iff_mem.2 (List.mem_map.2 ⟨x, hx, rfl⟩)]; simp
  have h : laidMet P laid (w0.layVars P laid) := laidMet_layVars (w0 := w0) (laid.map (·.1)) [] (by rw [e1]) (by rw [e1]; exact hf) (by rw [e1]; exact hi) (by rw [e2]; exact LaidIn.none)
  exact h.of_heap (by simp [World.memory, World.forCall, Input.heap])
end Go.Proofs.YtmhkcmoepopnoaaDoor
