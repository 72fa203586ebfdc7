/- Walks: Maslov gradings, in both texts. -/
import Derived.Test.YthijakignhjmgaaPG
import Derived.Test.YthijakignhjmgaaWB
import Derived.Test.YthijakignhjmgaaGE
namespace Go.Proofs.Ythijakignhjmgaa
open Go Go.RowKit SL
namespace SL
section
variable {P : Program} {B : Nat} {w0 : World} {n : Nat} {Q : Po} {F : Fr} {H : Hp} {ops : Array Oper} {l : List Oper} {ty : TypeId} {pos : String} {af : Array Edge} {d : Nat}
end
end SL
/-! States. -/
end Go.Proofs.Ythijakignhjmgaa
