/- The column behind a column; how many components. -/
import Derived.Test.YthijakignhjmgaaPJ
import Derived.Test.YthijakignhjmgaaWC
namespace Go.Proofs.Ythijakignhjmgaa
def nxt (n : Nat) (X O : List Nat) : Nat → Nat := fun i => (plc X n).getD (O.getD i 0) 0
theorem permF_of {n : Nat} {X : List Nat} (p : isPerm X n) : permF (fun i => X.getD i 0) n := ⟨p.1, p.2.1⟩
theorem nxt_next {n : Nat} {X O : List Nat} (g : okG (n : Int) X O) : isNext n (fun i => X.getD i 0) (fun i => O.getD i 0) (nxt n X O) := by
  obtain ⟨⟨h2, h8⟩, pX, pO, hne⟩ := g
  simp only [Int.toNat_natCast] at pX pO
  refine ⟨fun i hi => plc_lt pX (by omega) (pO.1 i hi), fun i hi => ?_⟩
  show X.getD ((plc X n).getD (O.getD i 0) 0) 0 = O.getD i 0
  rw [plc_pos pX (by omega) (pO.1 i hi)]
  exact (pX.posF_spec (pO.1 i hi)).2
theorem nxt_perm {n : Nat} {X O : List Nat} (g : okG (n : Int) X O) : permF (nxt n X O) n :=
  (nxt_next g).perm (permF_of (by have := g.2.2.1; simpa using this))
/-- How many components a grid has. -/
noncomputable def comps (n : Nat) (X O : List Nat) : Nat := nrep (nxt n X O) n
end Go.Proofs.Ythijakignhjmgaa
