/-
  slices.SortFunc at points, laid.
-/
import Derived.Test.YtcpojadinkonnaaGrow
import Derived.Test.YtcpojadinkonnaaSortM
import Derived.Shelf.SlSortCmp.NoneTotal
import Derived.Shelf.Lay
import Derived.Ground.SlsfProg
namespace Go.Proofs.Ytcpojadinkonnaa
open Go.Shelf Go.RowKit Go.Lib Go.Sort

shelf_lay_g SlLaysF0.n6 Slsf 6 at Try 89 as ptSort

end Go.Proofs.Ytcpojadinkonnaa
