/- Walks: shifts of grids. Walks: sources of numbers. Walks: drawn grids. -/
import Derived.Test.YtmbbcmebdefggaaGreatDoorPC
import Derived.Test.YtmbbcmebdefggaaGreatDoorDr
import Derived.Test.YtmbbcmebdefggaaGreatDoorWC
import Derived.Test.YtmbbcmebdefggaaGreatDoorGE
import Derived.Test.YtmbbcmebdefggaaGreatDoorMA
namespace Go.Proofs.YtmbbcmebdefggaaGreatDoor
open Go Go.RowKit SL
theorem wrap8 {r : Nat} (h : r < 256) : IntKind.u8.wrap (r : Int) = (r : Int) := IntWalk.u8_in _ (by omega)
end Go.Proofs.YtmbbcmebdefggaaGreatDoor
namespace Go.Proofs.YtmbbcmebdefggaaGreatDoor
open Go Go.RowKit SL
end Go.Proofs.YtmbbcmebdefggaaGreatDoor
namespace Go.Proofs.YtmbbcmebdefggaaGreatDoor
open Go Go.RowKit SL
theorem isB_set {X : List Nat} (h : isB X) {j v : Nat} (hv : v < 256) : isB (X.set j v) := ⟨by rw [List.length_set]; exact h.1, fun i => by
  rw [List.getD_eq_getElem?_getD, List.getElem?_set]
  split
  · split
    · simpa using hv
    · simp
  · rw [← List.getD_eq_getElem?_getD]; exact h.2 i⟩
theorem isB_Z8 : isB Z8 := ⟨rfl, fun i => by
  rw [List.getD_eq_getElem?_getD, List.getElem?_replicate]
  split <;> simp⟩
end Go.Proofs.YtmbbcmebdefggaaGreatDoor
