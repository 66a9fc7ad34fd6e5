/- The statement EntryBack's region: every two entries. -/
import Derived.Test.YtmhkcmoepopnoaaDoorEntLa
import Derived.Test.YtmhkcmoepopnoaaDoorEntLb
import Derived.Test.YtmhkcmoepopnoaaDoorEntLc
import Derived.Test.YtmhkcmoepopnoaaDoorEntLd
namespace Go.Proofs.YtmhkcmoepopnoaaDoor
open Go.RowKit

theorem entBack_walk (E : Nat → Addr) (x y : EntV) (w : World) (hG : EntG E w) :
    Calls Tryd.prog 3 #[.agg (encEnt x).toArray, .agg (encEnt y).toArray] w fun e w' => e = .returned (.bool true) ∧ Below w.heap.size w w' := by
  rcases longN_01 x with h1 | h1 <;> rcases longN_01 y with h2 | h2
  · by_cases hx : entE x = 0
    · by_cases hy : entE y = 0
      · exact entBack_good E x y w hG h1 h2 hx hy
      · exact entBack_bady E x y w hG h1 h2 hx hy
    · exact entBack_badx E x y w hG h1 h2 hx
  · exact entBack_long01 E x y w hG h1 h2
  · exact entBack_long10 E x y w hG h1 h2
  · exact entBack_long11 E x y w hG h1 h2
end Go.Proofs.YtmhkcmoepopnoaaDoor
