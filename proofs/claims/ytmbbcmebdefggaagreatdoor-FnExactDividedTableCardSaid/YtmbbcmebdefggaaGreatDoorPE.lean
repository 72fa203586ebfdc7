/- Plain laws: tables of tiles; the kinds of corners; the tiles of a grid. -/
import Derived.Test.YtmbbcmebdefggaaGreatDoorPG
import Derived.Test.YtmbbcmebdefggaaGreatDoorWC
import Derived.Test.YtmbbcmebdefggaaGreatDoorGE
namespace Go.Proofs.YtmbbcmebdefggaaGreatDoor
/-! Kinds. -/
def btw (x a b : Nat) : Prop := min a b < x ∧ x < max a b
instance (x a b : Nat) : Decidable (btw x a b) := by unfold btw; infer_instance
section
variable {p q : Prop} [Decidable p] [Decidable q]
end
end Go.Proofs.YtmbbcmebdefggaaGreatDoor
