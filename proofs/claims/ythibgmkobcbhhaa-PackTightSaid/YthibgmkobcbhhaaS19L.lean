/- The library's sort laid at this program. Conditions: none. -/
import Derived.Shelf.SlSortCmp.WholeK
import Derived.Shelf.Lay
import Derived.Shelf.SlGeneric
import Derived.Ground.SlsfProg
import Derived.Test.YthibgmkobcbhhaaProg
namespace Go.Proofs
open Go.Shelf Go.RowKit Go.Lib Go.Sort
shelf_lay_g SlLaysF0.n6 Slsf 6 at Try 26 as Try.sortPair
shelf_lay_g SlLaysF0.n6 Slsf 6 at Try 39 as Try.sortReg
#check @Try.sortPair
#check @Try.sortReg
end Go.Proofs
