/- Plain: lists of things of s cells each, one after the other. -/
import Derived.Test.YtflleelfkknfaaaV
namespace Go.Proofs.Ytflleelfkknfaaa
open Go
section
variable {α : Type} {enc : α → List Value} {s : Nat}
theorem fl_drop (hs : ∀ x, (enc x).length = s) : ∀ (l : List α) (i : Nat), (l.flatMap enc).drop (i * s) = (l.drop i).flatMap enc
  | l, 0 => by rw [Nat.zero_mul]; rfl
  | [], i + 1 => by simp
  | y :: l, i + 1 => by
    rw [List.flatMap_cons, show (i + 1) * s = (enc y).length + i * s by rw [hs, Nat.add_mul]; omega, List.drop_append, List.drop_eq_nil_of_le (by omega), List.nil_append, Nat.add_sub_cancel_left, List.drop_succ_cons]
    exact fl_drop hs l i
theorem fl_at (hs : ∀ x, (enc x).length = s) {l : List α} {j : Nat} {x : α} (h : l[j]? = some x) : ((l.flatMap enc).drop (j * s)).take s = enc x := by
  rw [fl_drop hs, List.drop_eq_getElem_cons (List.getElem?_eq_some_iff.1 h).1, (List.getElem?_eq_some_iff.1 h).2, List.flatMap_cons, List.take_left' (hs x)]
end
/-- States: eight bytes. -/
abbrev StB : Type := { x : List Nat // isB x }
theorem isB_zero : isB Z8 := ⟨rfl, fun i => by
  rw [List.getD_eq_getElem?_getD, List.getElem?_replicate]
  split <;> simp⟩
instance : Inhabited StB := ⟨⟨Z8, isB_zero⟩⟩
end Go.Proofs.Ytflleelfkknfaaa
