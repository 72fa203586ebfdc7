/- Plain: spaces of functions with values modulo two: how many vectors there are, dimensions. Plain: cycles and boundaries in grades; operations that undo each other up to boundaries split the homology evenly. -/
import Derived.Test.YtmbbcmebdefggaaDoorVF
namespace Go.Proofs.YtmbbcmebdefggaaDoor
/-- The sum of two vectors. -/
def va {α : Type} (u v : α → Bool) : α → Bool := fun x => u x ^^ v x
section
variable {α β : Type}
end
end Go.Proofs.YtmbbcmebdefggaaDoor
namespace Go.Proofs.YtmbbcmebdefggaaDoor
section
variable {α : Type}
/-- The vectors of a grade. -/
def Cg (L : List α) (gr : α → Int × Int) (g : Int × Int) (v : α → Bool) : Prop := ∀ x, v x = true → x ∈ L ∧ gr x = g
def sh (g : Int × Int) (a m : Int) : Int × Int := (g.1 + a, g.2 + m)
/-- A linear operation that shifts grades. -/
structure Lin (L : List α) (gr : α → Int × Int) (a m : Int) (f : (α → Bool) → α → Bool) : Prop where
  add : ∀ u v, f (va u v) = va (f u) (f v)
  to : ∀ g v, Cg L gr g v → Cg L gr (sh g a m) (f v)
section
variable {L : List α} {gr : α → Int × Int} {d : (α → Bool) → α → Bool}
variable {k : Nat} {D F : Nat → (α → Bool) → α → Bool}
end
end
end Go.Proofs.YtmbbcmebdefggaaDoor
