/- Walks: rows of rows of numbers: alike, marked, held. Rows of rows, the newest first. -/
import Derived.Test.YtflleelfkknfaaaDr
import Derived.Test.YtflleelfkknfaaaV
import Derived.Test.YtflleelfkknfaaaPC
import Derived.Test.YtflleelfkknfaaaTF
import Derived.Test.YtflleelfkknfaaaFL
import Derived.Test.YtflleelfkknfaaaPO
import Derived.Test.YtflleelfkknfaaaWB
import Derived.Test.YtflleelfkknfaaaGE
import Derived.Test.YtflleelfkknfaaaAP
namespace Go.Proofs.Ytflleelfkknfaaa
open Go Go.RowKit SL
/-- Rows of numbers behind slices. -/
def rwI (L : List (Value × List Value)) : Hp := L.map fun p => It.row p.1 2 1 p.2
end Go.Proofs.Ytflleelfkknfaaa
namespace Go.Proofs.Ytflleelfkknfaaa
open Go Go.RowKit SL
namespace SL
instance (priority := low) RB_A {v : Value} {A H : Hp} {e sz : Nat} {xs : List Value} [h : RB v H e sz xs] : RB v (A ++ H) e sz xs := ⟨List.mem_append.2 (.inr h.out)⟩
instance (priority := low) MB_A {b : Nat} {A H : Hp} {cs : List Value} {E : TypeId} [h : MB b H cs E] : MB b (A ++ H) cs E := ⟨List.mem_append.2 (.inr h.out)⟩
end SL
def rwR (L : List (Value × List Value)) : Hp := rwI L.reverse
theorem rwR_snoc (L : List (Value × List Value)) (p : Value × List Value) : rwR (L ++ [p]) = It.row p.1 2 1 p.2 :: rwR L := by
  unfold rwR
  rw [List.reverse_append]; rfl
theorem rwR_perm (L : List (Value × List Value)) : (rwR L).Perm (rwI L) := (List.reverse_perm L).map _
/-- The same, without the code. -/
def ssV (M : List (List Value)) (H : Hp) (v' : Value) (H' : Hp) : Prop := ∃ L, L.map (·.2) = M ∧ H' = .row v' 94 1 (L.map (·.1)) :: (rwI L ++ H)
theorem sp_rows {x : It} {A A' C D : Hp} (hA : A.Perm A') (hs : List.Sublist C D) : SP (x :: (A' ++ C)) (x :: (A ++ D)) :=
  ⟨x :: (A ++ C), (hA.append_right C).cons x, (List.Sublist.append_left hs A).cons_cons x⟩
end Go.Proofs.Ytflleelfkknfaaa
