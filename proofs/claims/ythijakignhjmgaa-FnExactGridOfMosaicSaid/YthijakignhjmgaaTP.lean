/- Plain laws: sums of states: lists in order, what is in just one of two. -/
import Derived.Test.YthijakignhjmgaaFL
import Derived.Test.YthijakignhjmgaaPO
import Derived.Test.YthijakignhjmgaaPC
namespace Go.Proofs.Ythijakignhjmgaa
section
variable {α : Type} (rk : α → Int)
variable {rk}
end
end Go.Proofs.Ythijakignhjmgaa
