/- Law: FnExactGridOfMosaic. -/
import Derived.Test.YthijakignhjmgaaND
import Derived.Test.YthijakignhjmgaaWP
namespace Go.Proofs.Ythijakignhjmgaa
open Go Go.RowKit SL
theorem alongS_len {n : Nat} {c : Nat → Nat → Bool} {st row : Nat} : ∀ (f i r : Nat) (X O : List Nat) (D : List Bool), (alongS n c st row f i r (X, O, D)).2.1.length = X.length ∧ (alongS n c st row f i r (X, O, D)).2.2.1.length = O.length
  | 0, _, _, _, _, _ => ⟨rfl, rfl⟩
  | f + 1, i, r, X, O, D => by
    unfold alongS
    split
    · exact ⟨rfl, rfl⟩
    · split
      · exact ⟨List.length_set, rfl⟩
      · split
        · exact ⟨List.length_set, List.length_set⟩
        · obtain ⟨h1, h2⟩ := alongS_len (n := n) (c := c) (st := st) (row := row) f (oR n c (oC n c i r).toNat i).toNat (oC n c i r).toNat (X.set i r) (O.set i (oC n c i r).toNat) (D.set i true)
          exact ⟨h1.trans List.length_set, h2.trans List.length_set⟩
theorem gridS_len {n : Nat} {c : Nat → Nat → Bool} : ∀ (k : Nat) (X O : List Nat) (D : List Bool), gridS n c (Z8, Z8, F8) k = some (X, O, D) → X.length = 8 ∧ O.length = 8
  | 0, X, O, D, h => by
    unfold gridS at h
    injection h with h
    injection h with h1 h2
    injection h2 with h2 h3
    exact ⟨by rw [← h1]; rfl, by rw [← h2]; rfl⟩
  | k + 1, X, O, D, h => by
    unfold gridS at h
    cases hk : gridS n c (Z8, Z8, F8) k with
    | none => rw [hk] at h; cases h
    | some s =>
      obtain ⟨X1, O1, D1⟩ := s
      have ih := gridS_len k X1 O1 D1 hk
      rw [hk] at h
      dsimp only at h
      split at h
      · injection h with h
        injection h with h1 h2
        injection h2 with h2 h3
        rw [← h1, ← h2]
        exact ih
      · split at h
        · cases h
        · split at h
          · injection h with h
            have h1 := alongS_len (n := n) (c := c) (st := k) (row := (lowD (fun r => c r k) n n).toNat) (n + 1) k (lowD (fun r => c r k) n n).toNat X1 O1 D1
            rw [h] at h1
            exact ⟨h1.1.trans ih.1, h1.2.trans ih.2⟩
          · cases h
theorem endG_form (n : Nat) (T : List Nat) : ∃ (m : Int) (X O : List Nat) (c : Int), X.length = 8 ∧ O.length = 8 ∧ endG n T (gridS n (crT n T) (Z8, Z8, F8) n) = .tuple #[.agg (gv m X O).toArray, .int .i64 c] := by
  cases h : gridS n (crT n T) (Z8, Z8, F8) n with
  | none => exact ⟨0, Z8, Z8, 5, rfl, rfl, rfl⟩
  | some s =>
    obtain ⟨X, O, D⟩ := s
    have hl := gridS_len n X O D h
    by_cases hk : okG (n : Int) X O ∧ mosT n (tile n X O) = T
    · exact ⟨n, X, O, 0, hl.1, hl.2, if_pos hk⟩
    · exact ⟨0, Z8, Z8, 5, rfl, rfl, if_neg hk⟩
end Go.Proofs.Ythijakignhjmgaa
