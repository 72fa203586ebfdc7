/- The comparison of grades as slices.SortFunc asks for it. -/
import Derived.Test.YthijakignhjmgaaTC
import Derived.Test.YthijakignhjmgaaFL
import Derived.Test.YthijakignhjmgaaPG
import Derived.Test.YthijakignhjmgaaTG
namespace Go.Proofs.Ythijakignhjmgaa
open Go Go.RowKit SL
abbrev GrB : Type := Int × Int
def encGr (g : GrB) : List Value := [.int .i64 g.1, .int .i64 g.2]
end Go.Proofs.Ythijakignhjmgaa
