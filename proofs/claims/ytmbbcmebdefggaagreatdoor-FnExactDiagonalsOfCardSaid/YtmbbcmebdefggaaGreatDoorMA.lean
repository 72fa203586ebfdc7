/- Plain laws: exchanges, stabilizations and destabilizations of grids. -/
import Derived.Test.YtmbbcmebdefggaaGreatDoorV
namespace Go.Proofs.YtmbbcmebdefggaaGreatDoor
theorem getD_set8' {X : List Nat} (h : X.length = 8) {i v : Nat} (hi : i < 8) (j : Nat) : (X.set i v).getD j 0 = if i = j then v else X.getD j 0 := by
  rw [List.getD_eq_getElem?_getD, List.getD_eq_getElem?_getD, List.getElem?_set]
  by_cases e : i = j
  · subst e
    rw [if_pos rfl, if_pos rfl, if_pos (by omega)]; rfl
  · rw [if_neg e, if_neg e]
theorem perm_swap {x : List Nat} {n i j : Nat} (h : isPerm x n) (lx : x.length = 8) (h8 : n ≤ 8) (hi : i < n) (hj : j < n) : isPerm ((x.set i (x.getD j 0)).set j (x.getD i 0)) n := by
  obtain ⟨h1, h2, h3⟩ := h
  have e : ∀ m, ((x.set i (x.getD j 0)).set j (x.getD i 0)).getD m 0 = if j = m then x.getD i 0 else if i = m then x.getD j 0 else x.getD m 0 := fun m => by
    rw [getD_set8' (by rw [List.length_set]; exact lx) (by omega), getD_set8' lx (by omega)]
  have z1 := h1 i hi
  have z2 := h1 j hj
  refine ⟨fun m hm => ?_, fun a b ha hb hab => ?_, fun m hm => ?_⟩
  · have z3 := h1 m hm
    rw [e]
    split
    · omega
    · split <;> omega
  · rw [e, e] at hab
    have k1 := h2 i j hi hj
    have k2 := h2 i b hi hb
    have k3 := h2 j b hj hb
    have k4 := h2 a i ha hi
    have k5 := h2 a j ha hj
    have k6 := h2 a b ha hb
    have k7 := h2 j i hj hi
    split at hab <;> split at hab <;> (try split at hab) <;> (try split at hab) <;> omega
  · rw [e, if_neg (by omega), if_neg (by omega)]
    exact h3 m hm
/-! Lists of eight entries by a function. -/
/-! Exchanges. -/
/-- Two spans have no end in common, and lie beside or within each other. -/
def aprt (a b c d : Nat) : Prop := a ≠ c ∧ a ≠ d ∧ b ≠ c ∧ b ≠ d ∧ ((min a b < c ∧ c < max a b) ↔ (min a b < d ∧ d < max a b))
instance (a b c d : Nat) : Decidable (aprt a b c d) := by unfold aprt; exact inferInstance
/-! Destabilizations. -/
/-- A row, when r has become two rows. -/
def lift (r u x : Nat) : Nat := if r < x then x + 1 else if x = r then r + u else x
/-- The grid looks as one that has been stabilized. -/
def stb (i r d u : Nat) (A B : List Nat) : Prop := A.getD (i + d) 0 = r + 1 - u ∧ A.getD (i + 1 - d) 0 = r + u ∧ B.getD (i + 1 - d) 0 = r + 1 - u ∧ B.getD (i + d) 0 ≠ r + u
instance (i r d u : Nat) (A B : List Nat) : Decidable (stb i r d u A B) := by unfold stb; exact inferInstance
section
variable {n i r d u : Nat} {A B : Nat → Nat}
end
section
variable {n i r d u : Nat} {A B : List Nat}
end
/-! The stabilization, column by column. -/
/-! The destabilization, column by column. -/
/-! Exchanged rows, column by column. -/
end Go.Proofs.YtmbbcmebdefggaaGreatDoor
