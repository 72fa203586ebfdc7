/- Walks: the order of grids of whatever sizes; one more grid into a list in order. -/
import Derived.Test.YtmbbcmebdefggaaGreatDoorGB
import Derived.Test.YtmbbcmebdefggaaGreatDoorAP
import Derived.Test.YtmbbcmebdefggaaGreatDoorGE
namespace Go.Proofs.YtmbbcmebdefggaaGreatDoor
open Go Go.RowKit SL
namespace SL
section
variable {P : Program} {B : Nat} {w0 : World} {n : Nat} {Q : Po} {F : Fr} {H H1 H2 : Hp} {ops : Array Oper} {l : List Oper} {ty : TypeId} {pos : String} {af : Array Edge} {d : Nat} {dst : Option Tmp} {g : Option (Nat × Bool)}
theorem q_partL {T e s by' : Nat} {z : Value} [hS : IS P T e s by' z] {x y : Operand} {v : Value} {k : IntKind} {i m : Nat} {xs : List Value} (hx : ev F x = some v) (hy : ev F y = some (.int k (i : Int)))
    (hm : It.row v e s xs ∈ H) (hl : xs.length = m * s) (hs : 0 < s) (him : i ≤ m) : OpQ P B w0 n H F ⟨dst, .slice T x (some y) none none, ty, pos, af, g⟩ (partV s v i m) :=
  q_part hx (.inr ⟨y, k, rfl, hy⟩) (.inl ⟨rfl, rfl⟩) hm hl hs him (Nat.le_refl _)
end
end SL
end Go.Proofs.YtmbbcmebdefggaaGreatDoor
