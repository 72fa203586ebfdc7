/- Walks: ReachedFrom, in both texts. -/
import Derived.Test.YtflleelfkknfaaaLB
import Derived.Test.YtflleelfkknfaaaLC
import Derived.Test.YtflleelfkknfaaaSE
import Derived.Test.YtflleelfkknfaaaWA
namespace Go.Proofs.Ytflleelfkknfaaa
open Go Go.RowKit SL
theorem rnds_none {p : GridB} {j k : Nat} (h : rnds p j = none) (hk : j ≤ k) : rnds p k = none := by
  induction k with
  | zero => obtain rfl : j = 0 := by omega
            exact h
  | succ k ih =>
    by_cases e : j = k + 1
    · subst e; exact h
    · show (rnds p k).bind rnd = none
      rw [ih (by omega)]
      rfl
theorem rnds_succ {p : GridB} {j : Nat} {q : RSt} (h : rnds p j = some q) : rnds p (j + 1) = rnd q := by
  show (rnds p j).bind rnd = _
  rw [h]; rfl
namespace SL
theorem J_app3 {P : Program} {B : Nat} {w0 : World} {n : Nat} {Q : Po} {F : Fr} {H : Hp} {ops : Array Oper} {l : List Oper} {dr : Bool} {x y z : It} (k : J dr P B w0 n ops Q l F (x :: y :: z :: H)) : J dr P B w0 n ops Q l F ([x, y, z] ++ H) := k
end SL
/-! The program's. -/
end Go.Proofs.Ytflleelfkknfaaa
