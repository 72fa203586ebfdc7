/- Walks: FnExactNeighboursOf. -/
import Derived.Test.YtflleelfkknfaaaSH
import Derived.Test.YtflleelfkknfaaaWJ
import Derived.Test.YtflleelfkknfaaaAP
import Derived.Test.YtflleelfkknfaaaMN
import Derived.Test.YtflleelfkknfaaaMO
namespace Go.Proofs.Ytflleelfkknfaaa
open Go Go.RowKit SL
namespace SL
theorem J_app1 {P : Program} {B : Nat} {w0 : World} {n : Nat} {Q : Po} {F : Fr} {H : Hp} {ops : Array Oper} {l : List Oper} {dr : Bool} {x : It} (k : J dr P B w0 n ops Q l F (x :: H)) : J dr P B w0 n ops Q l F ([x] ++ H) := k
end SL
theorem nbR_mine {p : GridB} (v : Value) (its : Hp) (h : nbR p v its) : ∀ x, x ∈ its → x.mine = true := by
  obtain ⟨l, _, _, _, rfl⟩ := h; simp [It.mine]
end Go.Proofs.Ytflleelfkknfaaa
