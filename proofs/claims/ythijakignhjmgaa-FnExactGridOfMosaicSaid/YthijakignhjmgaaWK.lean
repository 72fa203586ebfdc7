/- Walks: shifts of grids. -/
import Derived.Test.YthijakignhjmgaaPC
import Derived.Test.YthijakignhjmgaaDr
import Derived.Test.YthijakignhjmgaaWB
namespace Go.Proofs.Ythijakignhjmgaa
open Go Go.RowKit SL
theorem wrap8 {r : Nat} (h : r < 256) : IntKind.u8.wrap (r : Int) = (r : Int) := IntWalk.u8_in _ (by omega)
end Go.Proofs.Ythijakignhjmgaa
