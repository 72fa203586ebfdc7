/- Plain laws: mosaics that are closed, told in two ways. -/
import Derived.Test.YthijakignhjmgaaPE
namespace Go.Proofs.Ythijakignhjmgaa
def okM (n : Int) (T : List Nat) : Prop := (2 ≤ n ∧ n ≤ 8) ∧ ∀ k, k < 64 → T.getD k 0 ≤ 7 ∧ (n * n ≤ k → T.getD k 0 = 0)
def tl (n : Nat) (T : List Nat) (r i : Int) : Nat := if 0 ≤ r ∧ r ≤ (n : Int) - 1 ∧ 0 ≤ i ∧ i ≤ (n : Int) - 1 then T.getD (n * r.toNat + i.toNat) 0 else 0
theorem tl_at {n r i : Nat} {T : List Nat} (hr : r < n) (hi : i < n) : tl n T r i = T.getD (n * r + i) 0 := by
  rw [tl, if_pos (by omega), Int.toNat_natCast, Int.toNat_natCast]
theorem tl_out {n : Nat} {T : List Nat} {r i : Int} (h : ¬ (0 ≤ r ∧ r ≤ (n : Int) - 1 ∧ 0 ≤ i ∧ i ≤ (n : Int) - 1)) : tl n T r i = 0 := if_neg h
end Go.Proofs.Ythijakignhjmgaa
