/- Plain laws: lists in strict order by a number. -/
namespace Go.Proofs.Ythijakignhjmgaa
section
variable {α : Type} (rk : α → Int)
variable {rk}
end
end Go.Proofs.Ythijakignhjmgaa
