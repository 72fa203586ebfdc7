/- Walks: the reading of lists of states: out of arguments, equal, marked, held. -/
import Derived.Test.YthijakignhjmgaaFL
import Derived.Test.YthijakignhjmgaaAP
import Derived.Test.YthijakignhjmgaaWB
namespace Go.Proofs.Ythijakignhjmgaa
open Go Go.RowKit SL
namespace SL
section
variable {P : Program} {B : Nat} {w0 : World} {n : Nat} {Q : Po} {F : Fr} {H H1 H2 : Hp} {ops : Array Oper} {l : List Oper} {ty : TypeId} {pos : String} {af : Array Edge} {d : Nat} {dst : Option Tmp} {g : Option (Nat × Bool)}
end
end SL
end Go.Proofs.Ythijakignhjmgaa
