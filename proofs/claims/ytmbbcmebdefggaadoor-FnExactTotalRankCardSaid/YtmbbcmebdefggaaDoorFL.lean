/- Plain: lists of things of s cells each, one after the other. -/
import Derived.Test.YtmbbcmebdefggaaDoorV
namespace Go.Proofs.YtmbbcmebdefggaaDoor
open Go
section
variable {α : Type} {enc : α → List Value} {s : Nat}
theorem fl_len (hs : ∀ x, (enc x).length = s) (l : List α) : (l.flatMap enc).length = l.length * s := by
  induction l with
  | nil => simp
  | cons x l ih => rw [List.flatMap_cons, List.length_append, ih, hs, List.length_cons, Nat.add_mul]; omega
theorem fl_one (h1 : ∀ x, ∀ u ∈ enc x, u.oneCell' = true) (l : List α) : ∀ u ∈ l.flatMap enc, u.oneCell' = true := fun u hu => by
  obtain ⟨x, _, h⟩ := List.mem_flatMap.1 hu
  exact h1 x u h
theorem fl_drop (hs : ∀ x, (enc x).length = s) : ∀ (l : List α) (i : Nat), (l.flatMap enc).drop (i * s) = (l.drop i).flatMap enc
  | l, 0 => by rw [Nat.zero_mul]; rfl
  | [], i + 1 => by simp
  | y :: l, i + 1 => by
    rw [List.flatMap_cons, show (i + 1) * s = (enc y).length + i * s by rw [hs, Nat.add_mul]; omega, List.drop_append, List.drop_eq_nil_of_le (by omega), List.nil_append, Nat.add_sub_cancel_left, List.drop_succ_cons]
    exact fl_drop hs l i
theorem fl_take (hs : ∀ x, (enc x).length = s) : ∀ (l : List α) (i : Nat), (l.flatMap enc).take (i * s) = (l.take i).flatMap enc
  | l, 0 => by rw [Nat.zero_mul]; simp
  | [], i + 1 => by simp
  | y :: l, i + 1 => by
    rw [List.flatMap_cons, show (i + 1) * s = (enc y).length + i * s by rw [hs, Nat.add_mul]; omega, List.take_length_add_append, List.take_succ_cons, List.flatMap_cons, fl_take hs l i]
theorem fl_at (hs : ∀ x, (enc x).length = s) {l : List α} {j : Nat} {x : α} (h : l[j]? = some x) : ((l.flatMap enc).drop (j * s)).take s = enc x := by
  rw [fl_drop hs, List.drop_eq_getElem_cons (List.getElem?_eq_some_iff.1 h).1, (List.getElem?_eq_some_iff.1 h).2, List.flatMap_cons, List.take_left' (hs x)]
theorem fl_snoc {l : List α} {x : α} : l.flatMap enc ++ enc x = (l ++ [x]).flatMap enc := by rw [List.flatMap_append]; simp
/-- The single cells, of things of s cells. -/
theorem fl_cell (hs : ∀ x, (enc x).length = s) {l : List α} {j t : Nat} {x : α} {v : Value} (h : l[j]? = some x) (ht : (enc x)[t]? = some v) : (l.flatMap enc)[j * s + t]? = some v := by
  have h1 := fl_at hs h
  have h2 : ((l.flatMap enc).drop (j * s))[t]? = some v := by
    have hlt : t < s := by rw [← hs x]; exact (List.getElem?_eq_some_iff.1 ht).1
    rw [← List.getElem?_take_of_lt hlt, h1, ht]
  rwa [List.getElem?_drop] at h2
end
/-- States: eight bytes. -/
abbrev StB : Type := { x : List Nat // isB x }
theorem isB_zero : isB Z8 := ⟨rfl, fun i => by
  rw [List.getD_eq_getElem?_getD, List.getElem?_replicate]
  split <;> simp⟩
instance : Inhabited StB := ⟨⟨Z8, isB_zero⟩⟩
def encS (x : StB) : List Value := u8s x.1
theorem encS_len (x : StB) : (encS x).length = 8 := (u8s_len x.1).trans x.2.1
theorem encS_one (x : StB) : ∀ u ∈ encS x, u.oneCell' = true := u8s_one x.1
end Go.Proofs.YtmbbcmebdefggaaDoor
