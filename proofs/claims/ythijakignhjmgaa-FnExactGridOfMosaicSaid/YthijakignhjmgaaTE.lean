/- slices.SortFunc at lists of states lies in this program as the library's text says. slices.SortFunc over a row of states of the caller's. -/
import Derived.Test.YthijakignhjmgaaTC
import Derived.Test.YthijakignhjmgaaGE
namespace Go.Proofs.Ythijakignhjmgaa
open Go Go.Shelf Go.RowKit
end Go.Proofs.Ythijakignhjmgaa
namespace Go.Proofs.Ythijakignhjmgaa
open Go Go.Shelf Go.RowKit SL
open Go.Sort (flatK HoldsK size_flatK)
end Go.Proofs.Ythijakignhjmgaa
