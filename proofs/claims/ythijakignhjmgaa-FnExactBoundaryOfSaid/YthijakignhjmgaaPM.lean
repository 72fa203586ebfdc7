/- Plain: sums of small numbers; the Maslov grading of marks. -/
import Derived.Test.YthijakignhjmgaaPG
import Derived.Test.YthijakignhjmgaaV
namespace Go.Proofs.Ythijakignhjmgaa
theorem nn_le {n : Nat} (h8 : n ≤ 8) : n * n ≤ 64 := Nat.mul_le_mul h8 h8
theorem sm_bd {f : Nat → Int} (h : ∀ i, 0 ≤ f i ∧ f i ≤ 1) : ∀ n : Nat, 0 ≤ sm f n ∧ sm f n ≤ n
  | 0 => by simp [sm]
  | n + 1 => by
    have := sm_bd h n
    have := h n
    rw [sm]
    omega
def mX (n : Nat) (X O : List Nat) : Int := mas n (fun i => X.getD i 0) (fun i => O.getD i 0)
end Go.Proofs.Ythijakignhjmgaa
