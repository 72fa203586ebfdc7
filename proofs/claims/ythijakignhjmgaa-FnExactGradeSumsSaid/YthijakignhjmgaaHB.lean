/- Walks: the reference's rectangles, followers and boundary. -/
import Derived.Test.YthijakignhjmgaaHA
import Derived.Test.YthijakignhjmgaaTG
import Derived.Test.YthijakignhjmgaaPG
import Derived.Test.YthijakignhjmgaaAP
import Derived.Test.YthijakignhjmgaaGE
import Derived.Test.YthijakignhjmgaaSH
import Derived.Test.YthijakignhjmgaaTK
namespace Go.Proofs.Ythijakignhjmgaa
open Go Go.RowKit SL
theorem filt_len {α : Type} {p : α → Bool} {L : List α} {k : Nat} : ((L.take k).filter p).length ≤ L.length := Nat.le_trans (List.length_filter_le _ _) (by rw [List.length_take]; omega)
end Go.Proofs.Ythijakignhjmgaa
