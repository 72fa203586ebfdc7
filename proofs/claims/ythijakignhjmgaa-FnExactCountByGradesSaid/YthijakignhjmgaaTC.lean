/- The comparison of grids as slices.SortFunc asks for it. The comparison of states as slices.SortFunc asks for it. -/
import Derived.Test.YthijakignhjmgaaGB
import Derived.Shelf.SlSortCmp.WholeK
import Derived.Test.YthijakignhjmgaaFL
import Derived.Test.YthijakignhjmgaaTP
namespace Go.Proofs.Ythijakignhjmgaa
open Go Go.RowKit SL
theorem grown_of_blw {W W' : World} (h : Blw W.heap.size W W') : ∃ q os', W' = Go.Sort.grow (W.drewN q) os' := by
  refine ⟨W'.drawn - W.drawn, W'.heap.extract W.heap.size W'.heap.size, ?_⟩
  have hd := h.drawn
  have hs := h.size
  have hb := h.block
  have h := h.lo
  obtain ⟨heap', tape', drawn', os', output'⟩ := W'
  have e1 : os' = W.os := h.os
  have e2 : tape' = W.tape := h.tape
  have e3 : output' = W.output := h.output
  subst e1 e2 e3
  have hd' : W.drawn ≤ drawn' := hd
  have hs' : W.heap.size ≤ heap'.size := hs
  have hb' : ∀ k, k < W.heap.size → heap'[k]? = W.heap[k]? := hb
  have eh : heap' = W.heap ++ heap'.extract W.heap.size heap'.size := by
    apply Array.ext_getElem?
    intro k
    by_cases hk : k < W.heap.size
    · rw [Array.getElem?_append_left hk]; exact hb' k hk
    · rw [Array.getElem?_append_right (by omega), Array.getElem?_extract]
      by_cases hk2 : k < heap'.size
      · rw [if_pos (by omega)]; congr 1; omega
      · rw [if_neg (by omega), Array.getElem?_eq_none (by omega)]
  have ed : drawn' = W.drawn + (drawn' - W.drawn) := by omega
  simp only [Go.Sort.grow, World.drewN]
  congr 1
end Go.Proofs.Ythijakignhjmgaa
namespace Go.Proofs.Ythijakignhjmgaa
open Go Go.RowKit SL
end Go.Proofs.Ythijakignhjmgaa
