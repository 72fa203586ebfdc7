/- Walks: places of marks, strands of gaps, the braid index. -/
import Derived.Test.YthijakignhjmgaaDr
import Derived.Test.YthijakignhjmgaaWB
namespace Go.Proofs.Ythijakignhjmgaa
open Go Go.RowKit SL
/-! ### A gap's strands: the two tests are one -/
def covI (n x o i : Nat) : Prop := ((i : Int) - o - 1 + 2 * n) % n < ((x : Int) - o + n) % n
def covS (n x o i : Nat) : Prop := 0 ≤ ((i : Int) - o - 1 + n) % n ∧ ((i : Int) - o - 1 + n) % n ≤ ((x : Int) - o - 1 + n) % n
instance (n x o i : Nat) : Decidable (covI n x o i) := by unfold covI; infer_instance
instance (n x o i : Nat) : Decidable (covS n x o i) := by unfold covS; infer_instance
end Go.Proofs.Ythijakignhjmgaa
