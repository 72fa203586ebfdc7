/- Walks: the reference's states of a grade. Walks: the reference's matrix of a grade. -/
import Derived.Test.YthijakignhjmgaaHL
import Derived.Test.YthijakignhjmgaaHM
import Derived.Test.YthijakignhjmgaaHB
import Derived.Test.YthijakignhjmgaaIB
import Derived.Test.YthijakignhjmgaaST
namespace Go.Proofs.Ythijakignhjmgaa
open Go Go.RowKit SL
end Go.Proofs.Ythijakignhjmgaa
namespace Go.Proofs.Ythijakignhjmgaa
open Go Go.RowKit SL
end Go.Proofs.Ythijakignhjmgaa
