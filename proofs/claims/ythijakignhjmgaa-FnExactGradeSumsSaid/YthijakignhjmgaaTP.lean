/- Plain laws: sums of states: lists in order, what is in just one of two. -/
import Derived.Test.YthijakignhjmgaaFL
import Derived.Test.YthijakignhjmgaaPO
import Derived.Test.YthijakignhjmgaaPC
namespace Go.Proofs.Ythijakignhjmgaa
section
variable {α : Type} (rk : α → Int)
variable {rk}
end
/-- The number by which states are in order. -/
def rkT (x : StB) : Int := (key x.1 : Nat)
/-- A sum of states of a grid. -/
def sumOK (n : Int) (X O : List Nat) (l : List StB) : Prop := okG n X O ∧ (∀ x ∈ l, isPerm x.1 n.toNat) ∧ Asc rkT l
end Go.Proofs.Ythijakignhjmgaa
