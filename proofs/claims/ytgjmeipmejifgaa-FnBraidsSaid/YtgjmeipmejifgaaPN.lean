/- Plain laws: each gap has equally many strands. -/
import Derived.Test.YtgjmeipmejifgaaWC
namespace Go.Proofs.Ytgjmeipmejifgaa
theorem covS_step {n x o i : Nat} (h2 : 2 ≤ n) (h8 : n ≤ 8) (hx : x < n) (ho : o < n) (hi : i < n) (_hne : x ≠ o) (hxi : x ≠ i) (hoi : o ≠ i) : covS n x o i ↔ covS n x o ((i + 1) % n) := by
  unfold covS
  obtain rfl | rfl | rfl | rfl | rfl | rfl | rfl : n = 2 ∨ n = 3 ∨ n = 4 ∨ n = 5 ∨ n = 6 ∨ n = 7 ∨ n = 8 := by omega
  all_goals omega
theorem covS_X {n o i : Nat} (h2 : 2 ≤ n) (h8 : n ≤ 8) (ho : o < n) (hi : i < n) (hne : i ≠ o) : covS n i o i ∧ ¬ covS n i o ((i + 1) % n) := by
  unfold covS
  obtain rfl | rfl | rfl | rfl | rfl | rfl | rfl : n = 2 ∨ n = 3 ∨ n = 4 ∨ n = 5 ∨ n = 6 ∨ n = 7 ∨ n = 8 := by omega
  all_goals omega
theorem covS_O {n x i : Nat} (h2 : 2 ≤ n) (h8 : n ≤ 8) (hx : x < n) (hi : i < n) (hne : x ≠ i) : ¬ covS n x i i ∧ covS n x i ((i + 1) % n) := by
  unfold covS
  obtain rfl | rfl | rfl | rfl | rfl | rfl | rfl : n = 2 ∨ n = 3 ∨ n = 4 ∨ n = 5 ∨ n = 6 ∨ n = 7 ∨ n = 8 := by omega
  all_goals omega
theorem countP_at {n A : Nat} (hA : A < n) (p : Nat → Bool) : (List.range n).countP p = (if p A then 1 else 0) + (List.range n).countP (fun r => p r && r != A) := by
  induction n with
  | zero => omega
  | succ n ih =>
    rw [List.range_succ, List.countP_append, List.countP_append]
    by_cases e : A = n
    · subst e
      have h0 : (List.range A).countP p = (List.range A).countP (fun r => p r && r != A) := by
        refine List.countP_congr fun r hr => ?_
        have : r < A := by simpa using hr
        have hne : r ≠ A := by omega
        simp [hne]
      rw [h0]
      cases hp : p A <;> simp [hp, Nat.add_comm]
    · rw [ih (by omega)]
      have hne : n ≠ A := fun h => e h.symm
      have : [n].countP p = [n].countP (fun r => p r && r != A) := by
        cases hp : p n <;> simp [hp, hne]
      rw [this]
      omega
theorem countP_swap {n A C : Nat} (hA : A < n) (hC : C < n) (hne : A ≠ C) (p p' : Nat → Bool) (h1 : p A = true) (h2 : p C = false) (h3 : p' A = false) (h4 : p' C = true) (h : ∀ r, r < n → r ≠ A → r ≠ C → p r = p' r) :
    (List.range n).countP p = (List.range n).countP p' := by
  rw [countP_at hA p, countP_at hC p', h1, h4]
  congr 1
  refine List.countP_congr fun r hr => ?_
  have hr : r < n := by simpa using hr
  by_cases eA : r = A
  · subst eA; simp [h3]
  · by_cases eC : r = C
    · subst eC; simp [h2]
    · rw [h r hr eA eC]; simp [eA, eC]
theorem strS_len_step {n : Nat} {X O : List Nat} {i : Nat} (g : okG (n : Int) X O) (hi : i < n) : (strS n X O ((i + 1) % n) n).length = (strS n X O i n).length := by
  obtain ⟨⟨h2, h8⟩, pX, pO, hne⟩ := g
  simp only [Int.toNat_natCast] at pX pO hne
  have key : ∀ r, r < n → posF X n r < n ∧ posF O n r < n ∧ posF X n r ≠ posF O n r := fun r hr => by
    have sX := pX.posF_spec hr
    have sO := pO.posF_spec hr
    refine ⟨sX.1, sO.1, fun e => ?_⟩
    have := hne _ sX.1
    rw [sX.2, e, sO.2] at this
    exact this rfl
  have hA := pX.1 i hi
  have hC := pO.1 i hi
  have eA := pX.posF_eq hi
  have eC := pO.posF_eq hi
  have kA := key _ hA
  have kC := key _ hC
  rw [eA] at kA
  rw [eC] at kC
  unfold strS
  rw [← List.countP_eq_length_filter, ← List.countP_eq_length_filter]
  symm
  refine countP_swap hA hC (hne i hi) _ _ ?_ ?_ ?_ ?_ fun r hr h1 h2' => ?_
  · rw [decide_eq_true_eq, eA]; exact (covS_X (by omega) (by omega) kA.2.1 hi kA.2.2).1
  · rw [decide_eq_false_iff_not, eC]; exact (covS_O (by omega) (by omega) kC.1 hi kC.2.2).1
  · rw [decide_eq_false_iff_not, eA]; exact (covS_X (by omega) (by omega) kA.2.1 hi kA.2.2).2
  · rw [decide_eq_true_eq, eC]; exact (covS_O (by omega) (by omega) kC.1 hi kC.2.2).2
  · have kr := key r hr
    refine decide_eq_decide.2 (covS_step (by omega) (by omega) kr.1 kr.2.1 hi kr.2.2 (fun e => h1 ?_) (fun e => h2' ?_))
    · rw [← (pX.posF_spec hr).2, e]
    · rw [← (pO.posF_spec hr).2, e]
theorem strS_len {n : Nat} {X O : List Nat} (g : okG (n : Int) X O) : ∀ i, i < n → (strS n X O i n).length = (strS n X O 0 n).length
  | 0, _ => rfl
  | i + 1, hi => by
    have := strS_len_step g (i := i) (by omega)
    rw [Nat.mod_eq_of_lt hi] at this
    rw [this]
    exact strS_len g i (by omega)
end Go.Proofs.Ytgjmeipmejifgaa
