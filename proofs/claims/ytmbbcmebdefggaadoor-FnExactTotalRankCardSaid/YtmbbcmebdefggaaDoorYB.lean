/- Walks: shifts of grids. Walks: sources of numbers. Walks: drawn grids. -/
import Derived.Test.YtmbbcmebdefggaaDoorPC
import Derived.Test.YtmbbcmebdefggaaDoorDr
import Derived.Test.YtmbbcmebdefggaaDoorWC
import Derived.Test.YtmbbcmebdefggaaDoorGE
import Derived.Test.YtmbbcmebdefggaaDoorMA
namespace Go.Proofs.YtmbbcmebdefggaaDoor
open Go Go.RowKit SL
theorem wrap8 {r : Nat} (h : r < 256) : IntKind.u8.wrap (r : Int) = (r : Int) := IntWalk.u8_in _ (by omega)
end Go.Proofs.YtmbbcmebdefggaaDoor
namespace Go.Proofs.YtmbbcmebdefggaaDoor
open Go Go.RowKit SL
end Go.Proofs.YtmbbcmebdefggaaDoor
namespace Go.Proofs.YtmbbcmebdefggaaDoor
open Go Go.RowKit SL
theorem isB_set {X : List Nat} (h : isB X) {j v : Nat} (hv : v < 256) : isB (X.set j v) := ⟨by rw [List.length_set]; exact h.1, fun i => by
  rw [List.getD_eq_getElem?_getD, List.getElem?_set]
  split
  · split
    · simpa using hv
    · simp
  · rw [← List.getD_eq_getElem?_getD]; exact h.2 i⟩
theorem isB_Z8 : isB Z8 := ⟨rfl, fun i => by
  rw [List.getD_eq_getElem?_getD, List.getElem?_replicate]
  split <;> simp⟩
end Go.Proofs.YtmbbcmebdefggaaDoor
