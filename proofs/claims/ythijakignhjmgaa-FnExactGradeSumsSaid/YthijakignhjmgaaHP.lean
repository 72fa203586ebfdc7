/- Walks: places of states in a list. -/
import Derived.Test.YthijakignhjmgaaTH
import Derived.Test.YthijakignhjmgaaUK
namespace Go.Proofs.Ythijakignhjmgaa
open Go Go.RowKit SL
end Go.Proofs.Ythijakignhjmgaa
