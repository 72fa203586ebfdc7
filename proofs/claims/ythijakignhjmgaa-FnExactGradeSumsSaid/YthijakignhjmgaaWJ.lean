/- Walks: grids told to be equal; shifts. Walks: the order of grids. -/
import Derived.Test.YthijakignhjmgaaDr
import Derived.Test.YthijakignhjmgaaWB
import Derived.Test.YthijakignhjmgaaPC
namespace Go.Proofs.Ythijakignhjmgaa
open Go Go.RowKit SL
end Go.Proofs.Ythijakignhjmgaa
namespace Go.Proofs.Ythijakignhjmgaa
open Go Go.RowKit SL
/-! Three-way comparisons. -/
end Go.Proofs.Ythijakignhjmgaa
