/- Plain laws: the least of all shifts. -/
import Derived.Test.YthijakignhjmgaaPC
import Derived.Test.YthijakignhjmgaaWJ
namespace Go.Proofs.Ythijakignhjmgaa
end Go.Proofs.Ythijakignhjmgaa
