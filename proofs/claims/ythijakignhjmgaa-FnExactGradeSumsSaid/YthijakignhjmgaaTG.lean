/- Walks: sums of states, as the reference tells them. -/
import Derived.Test.YthijakignhjmgaaTF
import Derived.Test.YthijakignhjmgaaTP
import Derived.Test.YthijakignhjmgaaXA
namespace Go.Proofs.Ythijakignhjmgaa
open Go Go.RowKit SL
namespace SL
section
variable {P : Program} {B : Nat} {w0 : World} {n : Nat} {Q : Po} {F : Fr} {H : Hp} {ops : Array Oper} {l : List Oper}
/-- A row's slice is one cell. -/
theorem J_row1' {v : Value} {e sz : Nat} {xs : List Value} (hm : It.row v e sz xs ∈ H) (k : v.oneCell' = true → v.cells = #[v] → J false P B w0 n ops Q l F H) : J false P B w0 n ops Q l F H := by
  unfold J at *
  intro a w ha hw
  obtain ⟨m, _, h2⟩ := hw.row_slice hm
  have h3 : v.oneCell' = true ∧ v.cells = #[v] := by rcases h2 with ⟨rfl, _⟩ | ⟨_, _, _, rfl, _⟩ <;> exact ⟨rfl, rfl⟩
  exact k h3.1 h3.2 a w ha hw
end
/-- At an end with nil and a code: nil is an empty row. -/
theorem eT2nil {P : Program} {B : Nat} {w0 : World} {n : Nat} {fn : Func} {e : Exit} {F : Fr} {H H' : Hp} {R : Value → Hp → Prop} {t u : Tmp} {T sz : Nat} {v2 : Value} (he : isEnd e = true) (h : fn.results = #[.tmp t, .tmp u]) (hv : look F t = some (.slice none 0 0)) (hv' : look F u = some v2) (hi : Ent [] H [] H') (hR : R (.tuple #[.slice none 0 0, v2]) (.row (.slice none 0 0) T sz [] :: H')) : eQ P B w0 n fn R e F H :=
  eQ_mk he hR fun _ w' ha hw => ⟨results2 h ha hv hv' w', (hi.holds hw).nilrow⟩
end SL
open Classical in
noncomputable def codeS (n : Int) (X O : List Nat) (Ls : List (List StB)) : Int := if okG n X O ∧ ∀ l ∈ Ls, sumOK n X O l then (if 6 < n then 2 else 0) else 1
end Go.Proofs.Ythijakignhjmgaa
