/- What a row's list of package-level variables gives the walks: sentinels, strconv's table; what the world's shape gives. -/
import Derived.Test.YtmhkcmoepopnoaaDoorBase
import Derived.LaidLaws
import Derived.Stop.LaidErr
import Derived.Shelf.Vars
namespace Go.Proofs.YtmhkcmoepopnoaaDoor
open Go.RowKit Go.ChangeShapes

/-- A sentinel: the variable g holds a pointer a to a text, in a row that is not frozen. -/
structure Sent (g : Nat) (a : Addr) (text : List UInt8) (w : World) : Prop where
  at_ : ErrAt g a w
  text : ∃ s : ByteArray, w.cell? a = some (.string s) ∧ s.data.toList = text
  row : ∃ cs t, w.heap[a.block]? = some (.cells cs t (0, 0))
theorem Sent.below {g : Nat} {a : Addr} {l : List UInt8} {w w' : World} (h : Sent g a l w) (hb : Below w.heap.size w w') : Sent g a l w' := by
  obtain ⟨s, hs, ht⟩ := h.text
  obtain ⟨cs, t, hr⟩ := h.row
  exact ⟨h.at_.below hb, ⟨s, by rw [hb.cell (lt_of_cell hs)]; exact hs, ht⟩, ⟨cs, t, by rw [hb.block _ (lt_of_cell hs)]; exact hr⟩⟩

theorem errRow : ∀ u, Tryd.prog.typeName? 3 u = some "*errors.errorString" → u = 129 := fun u h =>
  typeName_ptr_named (nm := "errors.errorString") (by kernel_rfl) (by kernel_rfl) (by decide) u h

set_option maxRecDepth 100000 in
theorem sent_of {n : String} {l : List UInt8} {r : List (String × DataW Unit)} {W : World} {g : Nat}
    (h : laidMet Tryd.prog ((n, .iface "*errors.errorString" (.ptr (.agg [.lit (.string l)]))) :: r) W)
    (hg : Tryd.prog.globalNamed n = some g) (ht : (Tryd.prog.globals[g]?).map (·.type) = some 33) : ∃ a, Sent g a l W := by
  obtain ⟨ps, ⟨g0, t0, cs0, f0, p0, q0, hg0, ht0, hv0, hd0, _, e0⟩, _, hrows⟩ := h
  obtain rfl := Option.some.inj (hg.symm.trans hg0)
  obtain rfl := Option.some.inj (ht.symm.trans ht0)
  subst e0
  obtain ⟨l0⟩ := cs0
  have ok0 : ∀ u v, l0 = [.iface u v] → Value.okWide Tryd.prog W .any 0 u v := fun u v e => by
    subst e
    exact (hrows g 0 (by simp [MemPlace.row])).2 u v (by simpa using World.var?_cell hg0 hv0 0)
  obtain ⟨a0, s0, rfl, hc0, hs0, hz0, rfl⟩ := errorString_of_trod Tryd.underlying33 errRow Tryd.underlying129 Tryd.underlying131 rfl rfl Tryd.underlying9 (by kernel_rfl) (by kernel_rfl) hd0 ok0
  obtain ⟨c0, t0, hb0⟩ := (hrows a0.block a0.off (by simp [MemPlace.row])).1
  exact ⟨a0, by unfold ErrAt; simpa using World.var?_cell hg0 hv0 0, ⟨s0, hc0, hs0⟩, ⟨c0, t0, hb0⟩⟩

end Go.Proofs.YtmhkcmoepopnoaaDoor
