/- Walks: sums of states, as the reference tells them. -/
import Derived.Test.YthijakignhjmgaaFL
import Derived.Test.YthijakignhjmgaaAP
import Derived.Test.YthijakignhjmgaaWB
import Derived.Test.YthijakignhjmgaaPC
import Derived.Test.YthijakignhjmgaaPG
import Derived.Test.YthijakignhjmgaaGE
namespace Go.Proofs.Ythijakignhjmgaa
open Go Go.RowKit SL
namespace SL
section
variable {P : Program} {B : Nat} {w0 : World} {n : Nat} {Q : Po} {F : Fr} {H : Hp} {ops : Array Oper} {l : List Oper}
/-- A row's slice is one cell. -/
theorem J_row1' {v : Value} {e sz : Nat} {xs : List Value} (hm : It.row v e sz xs ∈ H) (k : v.oneCell' = true → v.cells = #[v] → J false P B w0 n ops Q l F H) : J false P B w0 n ops Q l F H := by
  unfold J at *
  intro a w ha hw
  obtain ⟨m, _, h2⟩ := hw.row_slice hm
  have h3 : v.oneCell' = true ∧ v.cells = #[v] := by rcases h2 with ⟨rfl, _⟩ | ⟨_, _, _, rfl, _⟩ <;> exact ⟨rfl, rfl⟩
  exact k h3.1 h3.2 a w ha hw
end
end SL
end Go.Proofs.Ythijakignhjmgaa
