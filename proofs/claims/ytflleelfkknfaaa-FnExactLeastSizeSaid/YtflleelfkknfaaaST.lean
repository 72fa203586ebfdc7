/- Strings as lists of numbers; rules for them. -/
import Derived.Test.YtflleelfkknfaaaGE
namespace Go.Proofs.Ytflleelfkknfaaa
open Go Go.RowKit SL
namespace SL
section
variable {P : Program} {B : Nat} {w0 : World} {n : Nat} {Q : Po} {F : Fr} {H : Hp} {ops : Array Oper} {l : List Oper} {ty : TypeId} {pos : String} {af : Array Edge} {d : Nat} {dst : Option Tmp} {g : Option (Nat × Bool)}
theorem q_subwR {T T' : TypeId} {x y : Operand} {k : IntKind} {a b r : Int} (hx : ev F x = some (.int k a)) (hy : ev F y = some (.int k b)) (hr : k.wrap (a - b) = r) :
    OpQ P B w0 n H F ⟨dst, .binOp .sub T x y T', ty, pos, af, g⟩ (.int k r) := by subst hr; exact q_subw hx hy
theorem Jq_subwR {dr : Bool} {T T' : TypeId} {x y : Operand} {k : IntKind} {a b r : Int} (hdn : Nat.blt d n = true) (hx : ev F x = some (.int k a)) (hy : ev F y = some (.int k b)) (hr : k.wrap (a - b) = r) (kk : J dr P B w0 n ops Q l ((d, .int k r) :: F) H) :
    J dr P B w0 n ops Q (⟨some d, .binOp .sub T x y T', ty, pos, af, none⟩ :: l) F H := J_q hdn (q_subwR hx hy hr) kk
theorem q_addwR {T T' : TypeId} {x y : Operand} {k : IntKind} {a b r : Int} (hx : ev F x = some (.int k a)) (hy : ev F y = some (.int k b)) (hr : k.wrap (a + b) = r) :
    OpQ P B w0 n H F ⟨dst, .binOp .add T x y T', ty, pos, af, g⟩ (.int k r) := by subst hr; exact q_addw hx hy
end
end SL
end Go.Proofs.Ytflleelfkknfaaa
