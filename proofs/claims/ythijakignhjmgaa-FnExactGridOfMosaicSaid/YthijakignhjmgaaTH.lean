/- Walks: what stands an odd number of times in a list of states. -/
import Derived.Test.YthijakignhjmgaaTE
import Derived.Test.YthijakignhjmgaaMR
import Derived.Test.YthijakignhjmgaaAP
namespace Go.Proofs.Ythijakignhjmgaa
open Go Go.RowKit SL
end Go.Proofs.Ythijakignhjmgaa
