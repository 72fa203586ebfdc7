/- Plain: lists of things of s cells each, one after the other. -/
import Derived.Test.YthijakignhjmgaaV
namespace Go.Proofs.Ythijakignhjmgaa
open Go
section
variable {α : Type} {enc : α → List Value} {s : Nat}
end
/-- States: eight bytes. -/
abbrev StB : Type := { x : List Nat // isB x }
theorem isB_zero : isB Z8 := ⟨rfl, fun i => by
  rw [List.getD_eq_getElem?_getD, List.getElem?_replicate]
  split <;> simp⟩
instance : Inhabited StB := ⟨⟨Z8, isB_zero⟩⟩
def encS (x : StB) : List Value := u8s x.1
end Go.Proofs.Ythijakignhjmgaa
