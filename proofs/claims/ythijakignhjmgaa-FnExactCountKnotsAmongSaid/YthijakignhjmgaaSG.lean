/- Plain laws: the canonical grids among pairs of states. -/
import Derived.Test.YthijakignhjmgaaSE
import Derived.Test.YthijakignhjmgaaSB
import Derived.Test.YthijakignhjmgaaWM
namespace Go.Proofs.Ythijakignhjmgaa
open Classical in
/-- A canonical grid. -/
noncomputable def sel (n : Nat) (x o : List Nat) : Bool := decide (okG (n : Int) x o ∧ can n (x, o) = (x, o))
/-- Those of x with o among the first j states. -/
noncomputable def selJ (n : Nat) (L : List (List Nat)) (x : List Nat) (j : Nat) : List (List Nat × List Nat) := ((L.take j).filter (sel n x)).map fun o => (x, o)
/-- Those of the first i states x. -/
noncomputable def selI (n : Nat) (L : List (List Nat)) (i : Nat) : List (List Nat × List Nat) := (L.take i).flatMap fun x => selJ n L x L.length
def cellsP (n : Int) (l : List (List Nat × List Nat)) : List Value := l.flatMap fun p => gv n p.1 p.2
theorem selJ_zero (n : Nat) (L : List (List Nat)) (x : List Nat) : selJ n L x 0 = [] := rfl
theorem selJ_succ {n : Nat} {L : List (List Nat)} {x o : List Nat} {j : Nat} (h : L[j]? = some o) : selJ n L x (j + 1) = selJ n L x j ++ if sel n x o then [(x, o)] else [] := by
  unfold selJ
  rw [List.take_add_one, h, Option.toList_some, List.filter_append, List.map_append]
  congr 1
  by_cases hs : sel n x o = true
  · rw [if_pos hs, List.filter_cons_of_pos hs]; rfl
  · rw [if_neg hs, List.filter_cons_of_neg hs]; rfl
theorem selI_succ {n : Nat} {L : List (List Nat)} {x : List Nat} {i : Nat} (h : L[i]? = some x) : selI n L (i + 1) = selI n L i ++ selJ n L x L.length := by
  unfold selI
  rw [List.take_add_one, h, Option.toList_some, List.flatMap_append]
  simp
theorem cellsP_append (n : Int) (a b : List (List Nat × List Nat)) : cellsP n (a ++ b) = cellsP n a ++ cellsP n b := by unfold cellsP; rw [List.flatMap_append]
end Go.Proofs.Ythijakignhjmgaa
