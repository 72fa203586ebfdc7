/- Grids of bytes: their cells, one after the other; their order, by a number. -/
import Derived.Test.YtmbbcmebdefggaaGreatDoorPK
import Derived.Test.YtmbbcmebdefggaaGreatDoorPO
namespace Go.Proofs.YtmbbcmebdefggaaGreatDoor
open Go Go.RowKit SL
/-- Grids of bytes. -/
abbrev GridB : Type := { p : Int × List Nat × List Nat // isB p.2.1 ∧ isB p.2.2 }
theorem isB8 : isB Z8 := ⟨rfl, fun i => by
  rw [List.getD_eq_getElem?_getD, List.getElem?_replicate]
  split <;> simp⟩
instance : Inhabited GridB := ⟨⟨(0, Z8, Z8), isB8, isB8⟩⟩
end Go.Proofs.YtmbbcmebdefggaaGreatDoor
