/- The library's sort laid at this program. Conditions: none. -/
import Derived.Shelf.SlSortCmp.WholeK
import Derived.Shelf.Lay
import Derived.Shelf.SlGeneric
import Derived.Ground.SlsfProg
import Derived.Test.YthibgmkobcbhhaaGreatProg
namespace Go.Proofs
open Go.Shelf Go.RowKit Go.Lib Go.Sort
shelf_lay_g SlLaysF0.n6 Slsf 6 at Tryz 46 as Tryz.sortPair
shelf_lay_g SlLaysF0.n6 Slsf 6 at Tryz 21 as Tryz.sortReg
#check @Tryz.sortPair
#check @Tryz.sortReg
end Go.Proofs
