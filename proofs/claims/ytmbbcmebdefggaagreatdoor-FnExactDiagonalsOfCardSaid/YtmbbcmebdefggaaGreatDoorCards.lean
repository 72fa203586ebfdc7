/-
  DERIVED. GIVEN WITH THE SEED: THE CARDS: each row of YtmbbcmebdefggaaGreatDoorRows.lean that lists a variable, with what it lists TIED to the program's text (the seventh form; the later family's looks); each row that meets fmt, with fmt's text TOLD by the authors' own Lean function (tested against real Go, not proved from fmt's source: count such statements apart). THE CARD IS WHAT COUNTS. Prove the row's statement (the work); the ties are given (YtmbbcmebdefggaaGreatDoorTie.lean); close each card by the builder's one call (the guide's Derived/Test/ToyasCard.lean, 'card_holds'). Laid BY PROGRAM, IN A SANDBOX (cutbox-door.mjs). By AI agents, Wed Nov 11 2026. No macro, syntax, notation, axiom, sorry.
-/
import Derived.Test.YtmbbcmebdefggaaGreatDoorRows
import GoSem.ClaimSeven
namespace Go.Proofs.YtmbbcmebdefggaaGreatDoor
namespace Rows

/-- THE TIED CARD OF 'laws.FnExactBlockedTable'. -/
def fnExactBlockedTableCard : Claim7 := { stood := { row := fnExactBlockedTableRow, standIns := [], harness := (true, "bca8aa1f7a49b771289e0b1fe02e94b62c3f4cac8a6b31bef44cfad45aaf4d78"), looks := false }, kinds := [], alts := [], laidByText := true, laidKinds := [.data], laidTests := true, laidLooks := .later }
def FnExactBlockedTableCardSaid : Prop := Claim7.holds Tryz.pinned (.plain (OpenSpec.ofChange fnExactBlockedTableSpec)) fnExactBlockedTableCard

/-- THE TIED CARD OF 'laws.FnBoundaries'. -/
def fnBoundariesCard : Claim7 := { stood := { row := fnBoundariesRow, standIns := [], harness := (true, "bca8aa1f7a49b771289e0b1fe02e94b62c3f4cac8a6b31bef44cfad45aaf4d78"), looks := false }, kinds := [], alts := [], laidByText := true, laidKinds := [.data], laidTests := true, laidLooks := .later }
def FnBoundariesCardSaid : Prop := Claim7.holds Tryz.pinned (.plain (OpenSpec.ofChange fnBoundariesSpec)) fnBoundariesCard

/-- THE TIED CARD OF 'laws.FnExactKnotGenus'. -/
def fnExactKnotGenusCard : Claim7 := { stood := { row := fnExactKnotGenusRow, standIns := [], harness := (true, "bca8aa1f7a49b771289e0b1fe02e94b62c3f4cac8a6b31bef44cfad45aaf4d78"), looks := false }, kinds := [], alts := [], laidByText := true, laidKinds := [.data], laidTests := true, laidLooks := .later }
def FnExactKnotGenusCardSaid : Prop := Claim7.holds Tryz.pinned (.plain (OpenSpec.ofChange fnExactKnotGenusSpec)) fnExactKnotGenusCard

/-- THE TIED CARD OF 'laws.FnExactIsUnknot'. -/
def fnExactIsUnknotCard : Claim7 := { stood := { row := fnExactIsUnknotRow, standIns := [], harness := (true, "bca8aa1f7a49b771289e0b1fe02e94b62c3f4cac8a6b31bef44cfad45aaf4d78"), looks := false }, kinds := [], alts := [], laidByText := true, laidKinds := [.data], laidTests := true, laidLooks := .later }
def FnExactIsUnknotCardSaid : Prop := Claim7.holds Tryz.pinned (.plain (OpenSpec.ofChange fnExactIsUnknotSpec)) fnExactIsUnknotCard

/-- THE TIED CARD OF 'laws.FnExactIsFibred'. -/
def fnExactIsFibredCard : Claim7 := { stood := { row := fnExactIsFibredRow, standIns := [], harness := (true, "bca8aa1f7a49b771289e0b1fe02e94b62c3f4cac8a6b31bef44cfad45aaf4d78"), looks := false }, kinds := [], alts := [], laidByText := true, laidKinds := [.data], laidTests := true, laidLooks := .later }
def FnExactIsFibredCardSaid : Prop := Claim7.holds Tryz.pinned (.plain (OpenSpec.ofChange fnExactIsFibredSpec)) fnExactIsFibredCard

/-- THE TIED CARD OF 'laws.FnExactDividedTable'. -/
def fnExactDividedTableCard : Claim7 := { stood := { row := fnExactDividedTableRow, standIns := [], harness := (true, "bca8aa1f7a49b771289e0b1fe02e94b62c3f4cac8a6b31bef44cfad45aaf4d78"), looks := false }, kinds := [], alts := [], laidByText := true, laidKinds := [.data], laidTests := true, laidLooks := .later }
def FnExactDividedTableCardSaid : Prop := Claim7.holds Tryz.pinned (.plain (OpenSpec.ofChange fnExactDividedTableSpec)) fnExactDividedTableCard

/-- THE TIED CARD OF 'laws.FnExactEulerPolynomial'. -/
def fnExactEulerPolynomialCard : Claim7 := { stood := { row := fnExactEulerPolynomialRow, standIns := [], harness := (true, "bca8aa1f7a49b771289e0b1fe02e94b62c3f4cac8a6b31bef44cfad45aaf4d78"), looks := false }, kinds := [], alts := [], laidByText := true, laidKinds := [.data], laidTests := true, laidLooks := .later }
def FnExactEulerPolynomialCardSaid : Prop := Claim7.holds Tryz.pinned (.plain (OpenSpec.ofChange fnExactEulerPolynomialSpec)) fnExactEulerPolynomialCard

/-- THE TIED CARD OF 'laws.FnExactDiagonalsOf'. -/
def fnExactDiagonalsOfCard : Claim7 := { stood := { row := fnExactDiagonalsOfRow, standIns := [], harness := (true, "bca8aa1f7a49b771289e0b1fe02e94b62c3f4cac8a6b31bef44cfad45aaf4d78"), looks := false }, kinds := [], alts := [], laidByText := true, laidKinds := [.data], laidTests := true, laidLooks := .later }
def FnExactDiagonalsOfCardSaid : Prop := Claim7.holds Tryz.pinned (.plain (OpenSpec.ofChange fnExactDiagonalsOfSpec)) fnExactDiagonalsOfCard

/-- THE SECOND FORM's CARD OF 'laws.FnExactBlockedTable'. -/
def fnExactBlockedTableUptoCard : Claim7 := { stood := { row := fnExactBlockedTableUptoRow, standIns := [], harness := (true, "bca8aa1f7a49b771289e0b1fe02e94b62c3f4cac8a6b31bef44cfad45aaf4d78"), looks := false }, kinds := [], alts := [], laidByText := true, laidKinds := [.data], laidTests := true, laidLooks := .later }
def FnExactBlockedTableUptoCardSaid : Prop := Claim7.holds Tryz.pinned (.plain (OpenSpec.upto fnExactBlockedTableSpec)) fnExactBlockedTableUptoCard

/-- THE SECOND FORM's CARD OF 'laws.FnBoundaries'. -/
def fnBoundariesUptoCard : Claim7 := { stood := { row := fnBoundariesUptoRow, standIns := [], harness := (true, "bca8aa1f7a49b771289e0b1fe02e94b62c3f4cac8a6b31bef44cfad45aaf4d78"), looks := false }, kinds := [], alts := [], laidByText := true, laidKinds := [.data], laidTests := true, laidLooks := .later }
def FnBoundariesUptoCardSaid : Prop := Claim7.holds Tryz.pinned (.plain (OpenSpec.upto fnBoundariesSpec)) fnBoundariesUptoCard

/-- THE SECOND FORM's CARD OF 'laws.FnExactKnotGenus'. -/
def fnExactKnotGenusUptoCard : Claim7 := { stood := { row := fnExactKnotGenusUptoRow, standIns := [], harness := (true, "bca8aa1f7a49b771289e0b1fe02e94b62c3f4cac8a6b31bef44cfad45aaf4d78"), looks := false }, kinds := [], alts := [], laidByText := true, laidKinds := [.data], laidTests := true, laidLooks := .later }
def FnExactKnotGenusUptoCardSaid : Prop := Claim7.holds Tryz.pinned (.plain (OpenSpec.upto fnExactKnotGenusSpec)) fnExactKnotGenusUptoCard

/-- THE SECOND FORM's CARD OF 'laws.FnExactIsUnknot'. -/
def fnExactIsUnknotUptoCard : Claim7 := { stood := { row := fnExactIsUnknotUptoRow, standIns := [], harness := (true, "bca8aa1f7a49b771289e0b1fe02e94b62c3f4cac8a6b31bef44cfad45aaf4d78"), looks := false }, kinds := [], alts := [], laidByText := true, laidKinds := [.data], laidTests := true, laidLooks := .later }
def FnExactIsUnknotUptoCardSaid : Prop := Claim7.holds Tryz.pinned (.plain (OpenSpec.upto fnExactIsUnknotSpec)) fnExactIsUnknotUptoCard

/-- THE SECOND FORM's CARD OF 'laws.FnExactIsFibred'. -/
def fnExactIsFibredUptoCard : Claim7 := { stood := { row := fnExactIsFibredUptoRow, standIns := [], harness := (true, "bca8aa1f7a49b771289e0b1fe02e94b62c3f4cac8a6b31bef44cfad45aaf4d78"), looks := false }, kinds := [], alts := [], laidByText := true, laidKinds := [.data], laidTests := true, laidLooks := .later }
def FnExactIsFibredUptoCardSaid : Prop := Claim7.holds Tryz.pinned (.plain (OpenSpec.upto fnExactIsFibredSpec)) fnExactIsFibredUptoCard

/-- THE SECOND FORM's CARD OF 'laws.FnExactDividedTable'. -/
def fnExactDividedTableUptoCard : Claim7 := { stood := { row := fnExactDividedTableUptoRow, standIns := [], harness := (true, "bca8aa1f7a49b771289e0b1fe02e94b62c3f4cac8a6b31bef44cfad45aaf4d78"), looks := false }, kinds := [], alts := [], laidByText := true, laidKinds := [.data], laidTests := true, laidLooks := .later }
def FnExactDividedTableUptoCardSaid : Prop := Claim7.holds Tryz.pinned (.plain (OpenSpec.upto fnExactDividedTableSpec)) fnExactDividedTableUptoCard

/-- THE SECOND FORM's CARD OF 'laws.FnExactEulerPolynomial'. -/
def fnExactEulerPolynomialUptoCard : Claim7 := { stood := { row := fnExactEulerPolynomialUptoRow, standIns := [], harness := (true, "bca8aa1f7a49b771289e0b1fe02e94b62c3f4cac8a6b31bef44cfad45aaf4d78"), looks := false }, kinds := [], alts := [], laidByText := true, laidKinds := [.data], laidTests := true, laidLooks := .later }
def FnExactEulerPolynomialUptoCardSaid : Prop := Claim7.holds Tryz.pinned (.plain (OpenSpec.upto fnExactEulerPolynomialSpec)) fnExactEulerPolynomialUptoCard

/-- THE SECOND FORM's CARD OF 'laws.FnExactDiagonalsOf'. -/
def fnExactDiagonalsOfUptoCard : Claim7 := { stood := { row := fnExactDiagonalsOfUptoRow, standIns := [], harness := (true, "bca8aa1f7a49b771289e0b1fe02e94b62c3f4cac8a6b31bef44cfad45aaf4d78"), looks := false }, kinds := [], alts := [], laidByText := true, laidKinds := [.data], laidTests := true, laidLooks := .later }
def FnExactDiagonalsOfUptoCardSaid : Prop := Claim7.holds Tryz.pinned (.plain (OpenSpec.upto fnExactDiagonalsOfSpec)) fnExactDiagonalsOfUptoCard
end Rows
end Go.Proofs.YtmbbcmebdefggaaGreatDoor
