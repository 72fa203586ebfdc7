/- Walks: rectangles, followers and boundaries, in the program. -/
import Derived.Test.YthijakignhjmgaaHB
import Derived.Test.YthijakignhjmgaaWB
namespace Go.Proofs.Ythijakignhjmgaa
open Go Go.RowKit SL
end Go.Proofs.Ythijakignhjmgaa
