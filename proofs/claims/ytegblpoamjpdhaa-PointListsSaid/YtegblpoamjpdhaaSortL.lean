/-
  slices.SortFunc at points, laid.
-/
import Derived.Test.YtegblpoamjpdhaaGrow
import Derived.Test.YtegblpoamjpdhaaSortM
import Derived.Shelf.SlSortCmp.NoneTotal
import Derived.Shelf.Lay
import Derived.Ground.SlsfProg
namespace Go.Proofs.Ytegblpoamjpdhaa
open Go.Shelf Go.RowKit Go.Lib Go.Sort

shelf_lay_g SlLaysF0.n6 Slsf 6 at Try 70 as ptSort

end Go.Proofs.Ytegblpoamjpdhaa
