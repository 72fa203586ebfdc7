/- Walks: sources of numbers. Walks: drawn grids. -/
import Derived.Test.YtmbbcmebdefggaaDoorGE
import Derived.Test.YtmbbcmebdefggaaDoorMA
import Derived.Test.YtmbbcmebdefggaaDoorWK
namespace Go.Proofs.YtmbbcmebdefggaaDoor
open Go Go.RowKit SL
end Go.Proofs.YtmbbcmebdefggaaDoor
namespace Go.Proofs.YtmbbcmebdefggaaDoor
open Go Go.RowKit SL
theorem isB_set {X : List Nat} (h : isB X) {j v : Nat} (hv : v < 256) : isB (X.set j v) := ⟨by rw [List.length_set]; exact h.1, fun i => by
  rw [List.getD_eq_getElem?_getD, List.getElem?_set]
  split
  · split
    · simpa using hv
    · simp
  · rw [← List.getD_eq_getElem?_getD]; exact h.2 i⟩
theorem isB_Z8 : isB Z8 := ⟨rfl, fun i => by
  rw [List.getD_eq_getElem?_getD, List.getElem?_replicate]
  split <;> simp⟩
end Go.Proofs.YtmbbcmebdefggaaDoor
