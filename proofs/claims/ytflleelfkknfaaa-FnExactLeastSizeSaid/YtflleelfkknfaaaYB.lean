/- Walks: sources of numbers. Walks: drawn grids. -/
import Derived.Test.YtflleelfkknfaaaGE
import Derived.Test.YtflleelfkknfaaaMA
import Derived.Test.YtflleelfkknfaaaWK
namespace Go.Proofs.Ytflleelfkknfaaa
open Go Go.RowKit SL
end Go.Proofs.Ytflleelfkknfaaa
namespace Go.Proofs.Ytflleelfkknfaaa
open Go Go.RowKit SL
theorem isB_set {X : List Nat} (h : isB X) {j v : Nat} (hv : v < 256) : isB (X.set j v) := ⟨by rw [List.length_set]; exact h.1, fun i => by
  rw [List.getD_eq_getElem?_getD, List.getElem?_set]
  split
  · split
    · simpa using hv
    · simp
  · rw [← List.getD_eq_getElem?_getD]; exact h.2 i⟩
end Go.Proofs.Ytflleelfkknfaaa
