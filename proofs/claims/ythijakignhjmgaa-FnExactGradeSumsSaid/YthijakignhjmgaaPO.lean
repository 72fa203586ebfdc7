/- Plain laws: lists in strict order by a number. -/
namespace Go.Proofs.Ythijakignhjmgaa
section
variable {α : Type} (rk : α → Int)
/-- In strict order. -/
def Asc (l : List α) : Prop := l.Pairwise fun x y => rk x < rk y
variable {rk}
end
end Go.Proofs.Ythijakignhjmgaa
