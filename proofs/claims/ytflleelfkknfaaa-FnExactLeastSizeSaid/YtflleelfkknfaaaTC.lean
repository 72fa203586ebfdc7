/- The comparison of grids as slices.SortFunc asks for it. The comparison of states as slices.SortFunc asks for it. -/
import Derived.Test.YtflleelfkknfaaaGB
import Derived.Test.YtflleelfkknfaaaFL
import Derived.Test.YtflleelfkknfaaaPO
import Derived.Test.YtflleelfkknfaaaPC
import Derived.Shelf.SlSortCmp.WholeK
namespace Go.Proofs.Ytflleelfkknfaaa
open Go Go.RowKit SL
def cfG (p q : GridB) : Int := cmpG p.1.1 q.1.1 p.1.2.1 p.1.2.2 q.1.2.1 q.1.2.2
theorem grown_of_blw {W W' : World} (h : Blw W.heap.size W W') : ∃ q os', W' = Go.Sort.grow (W.drewN q) os' := by
  refine ⟨W'.drawn - W.drawn, W'.heap.extract W.heap.size W'.heap.size, ?_⟩
  have hd := h.drawn
  have hs := h.size
  have hb := h.block
  have h := h.lo
  obtain ⟨heap', tape', drawn', os', output'⟩ := W'
  have e1 : os' = W.os := h.os
  have e2 : tape' = W.tape := h.tape
  have e3 : output' = W.output := h.output
  subst e1 e2 e3
  have hd' : W.drawn ≤ drawn' := hd
  have hs' : W.heap.size ≤ heap'.size := hs
  have hb' : ∀ k, k < W.heap.size → heap'[k]? = W.heap[k]? := hb
  have eh : heap' = W.heap ++ heap'.extract W.heap.size heap'.size := by
    apply Array.ext_getElem?
    intro k
    by_cases hk : k < W.heap.size
    · rw [Array.getElem?_append_left hk]; exact hb' k hk
    · rw [Array.getElem?_append_right (by omega), Array.getElem?_extract]
      by_cases hk2 : k < heap'.size
      · rw [if_pos (by omega)]; congr 1; omega
      · rw [if_neg (by omega), Array.getElem?_eq_none (by omega)]
  have ed : drawn' = W.drawn + (drawn' - W.drawn) := by omega
  simp only [Go.Sort.grow, World.drewN]
  congr 1
theorem cmpLaysG (blk off size : Nat) (w : World) : CmpLays Try.prog 38 #[] encG 17 cfG blk off size w := fun m os dk _ x y => by
  have h := compare_gives x.1.1 y.1.1 x.1.2.1 x.1.2.2 y.1.2.1 y.1.2.2 x.2.1 x.2.2 y.2.1 y.2.2 (sortWorldK encG 17 w blk off m dk os)
  unfold Gives at h
  exact h.mono fun e w' ⟨he, hb⟩ => ⟨he, grown_of_blw hb⟩
theorem orL3 (a b c : Int) : orL [a, b, c] = if a ≠ 0 then a else if b ≠ 0 then b else c := by
  unfold orL
  by_cases ha : a = 0
  · by_cases hb : b = 0
    · by_cases hc : c = 0 <;> simp [List.find?, ha, hb, hc]
    · simp [List.find?, ha, hb]
  · simp [List.find?, ha]
theorem cfG_lt (x y : GridB) : cfG x y < 0 ↔ (x.1.1 < y.1.1 ∨ (x.1.1 = y.1.1 ∧ (key x.1.2.1 < key y.1.2.1 ∨ (key x.1.2.1 = key y.1.2.1 ∧ key x.1.2.2 < key y.1.2.2)))) := by
  unfold cfG cmpG cmpL
  rw [orL3]
  generalize key x.1.2.1 = a
  generalize key y.1.2.1 = b
  generalize key x.1.2.2 = c
  generalize key y.1.2.2 = d
  generalize x.1.1 = n
  generalize y.1.1 = m
  unfold cmp3
  by_cases h1 : n < m
  · rw [if_pos h1]; simp; omega
  · rw [if_neg h1]
    by_cases h2 : m < n
    · rw [if_pos h2]; simp; omega
    · rw [if_neg h2]
      by_cases h3 : (a : Int) < (b : Int)
      · rw [if_pos h3]; simp; omega
      · rw [if_neg h3]
        by_cases h4 : (b : Int) < (a : Int)
        · rw [if_pos h4]; simp; omega
        · rw [if_neg h4]
          by_cases h5 : (c : Int) < (d : Int)
          · rw [if_pos h5]; simp; omega
          · rw [if_neg h5]
            by_cases h6 : (d : Int) < (c : Int)
            · rw [if_pos h6]; simp; omega
            · rw [if_neg h6]; simp; omega
theorem swoG : Go.Sort.SWO (Go.Proofs.ltOf cfG) where
  irrefl x := by unfold Go.Proofs.ltOf; simp only [decide_eq_false_iff_not, cfG_lt]; omega
  trans x y z h1 h2 := by unfold Go.Proofs.ltOf at *; simp only [decide_eq_true_eq, cfG_lt] at *; omega
  ntrans x y z h1 h2 := by unfold Go.Proofs.ltOf at *; simp only [decide_eq_false_iff_not, cfG_lt] at *; omega
end Go.Proofs.Ytflleelfkknfaaa
namespace Go.Proofs.Ytflleelfkknfaaa
open Go Go.RowKit SL
end Go.Proofs.Ytflleelfkknfaaa
