/-
  Contract of point.Around: the order of directions.
-/
import Derived.Test.YtcpojadinkonnaaTurnC
import Derived.Test.YtcpojadinkonnaaTail
namespace Go.Proofs.Ytcpojadinkonnaa
open Go.RowKit
theorem below_same {w w' : World} (h : w = w') : Below w.heap.size w w' := h ▸ Below.refl _ _
end Go.Proofs.Ytcpojadinkonnaa
