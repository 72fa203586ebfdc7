/- Plain: rectangles, the states they lead to, and sums of states. -/
import Derived.Test.YthijakignhjmgaaTH
import Derived.Test.YthijakignhjmgaaYB
import Derived.Test.YthijakignhjmgaaSP
import Derived.Test.YthijakignhjmgaaTP
namespace Go.Proofs.Ythijakignhjmgaa
open Go SL
structure Rec where
  le : Nat
  bo : Nat
  wi : Nat
  he : Nat
  xs : Nat
  os : Nat
instance : Inhabited Rec := ⟨⟨0, 0, 0, 0, 0, 0⟩⟩
/-! Sums. -/
end Go.Proofs.Ythijakignhjmgaa
