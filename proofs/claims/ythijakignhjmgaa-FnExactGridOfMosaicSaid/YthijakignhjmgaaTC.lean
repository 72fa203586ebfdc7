/- The comparison of grids as slices.SortFunc asks for it. The comparison of states as slices.SortFunc asks for it. -/
import Derived.Test.YthijakignhjmgaaGB
import Derived.Shelf.SlSortCmp.WholeK
import Derived.Test.YthijakignhjmgaaFL
import Derived.Test.YthijakignhjmgaaTP
namespace Go.Proofs.Ythijakignhjmgaa
open Go Go.RowKit SL
end Go.Proofs.Ythijakignhjmgaa
namespace Go.Proofs.Ythijakignhjmgaa
open Go Go.RowKit SL
end Go.Proofs.Ythijakignhjmgaa
