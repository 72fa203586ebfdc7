/-
  DERIVED. GIVEN WITH THE SEED: THE CARDS: each row of YtmbbcmebdefggaaDoorRows.lean that lists a variable, with what it lists TIED to the program's text (the seventh form; the later family's looks); each row that meets fmt, with fmt's text TOLD by the authors' own Lean function (tested against real Go, not proved from fmt's source: count such statements apart). THE CARD IS WHAT COUNTS. Prove the row's statement (the work); the ties are given (YtmbbcmebdefggaaDoorTie.lean); close each card by the builder's one call (the guide's Derived/Test/ToyasCard.lean, 'card_holds'). Laid BY PROGRAM, IN A SANDBOX (cutbox-door.mjs). By AI agents, Wed Nov 11 2026. No macro, syntax, notation, axiom, sorry.
-/
import Derived.Test.YtmbbcmebdefggaaDoorRows
import GoSem.ClaimSeven
namespace Go.Proofs.YtmbbcmebdefggaaDoor
namespace Rows

/-- THE TIED CARD OF 'laws.FnExactIsBoundarySum'. -/
def fnExactIsBoundarySumCard : Claim7 := { stood := { row := fnExactIsBoundarySumRow, standIns := [], harness := (true, "e28d260a28346c84d6b6f529407132981111a6136b5fa541e183c46f84afd2a0"), looks := false }, kinds := [], alts := [], laidByText := true, laidKinds := [.data], laidTests := true, laidLooks := .later }
def FnExactIsBoundarySumCardSaid : Prop := Claim7.holds Tryd.pinned (.plain (OpenSpec.ofChange fnExactIsBoundarySumSpec)) fnExactIsBoundarySumCard

/-- THE TIED CARD OF 'laws.FnExactGradeRank'. -/
def fnExactGradeRankCard : Claim7 := { stood := { row := fnExactGradeRankRow, standIns := [], harness := (true, "e28d260a28346c84d6b6f529407132981111a6136b5fa541e183c46f84afd2a0"), looks := false }, kinds := [], alts := [], laidByText := true, laidKinds := [.data], laidTests := true, laidLooks := .later }
def FnExactGradeRankCardSaid : Prop := Claim7.holds Tryd.pinned (.plain (OpenSpec.ofChange fnExactGradeRankSpec)) fnExactGradeRankCard

/-- THE TIED CARD OF 'laws.FnExactTotalRank'. -/
def fnExactTotalRankCard : Claim7 := { stood := { row := fnExactTotalRankRow, standIns := [], harness := (true, "e28d260a28346c84d6b6f529407132981111a6136b5fa541e183c46f84afd2a0"), looks := false }, kinds := [], alts := [], laidByText := true, laidKinds := [.data], laidTests := true, laidLooks := .later }
def FnExactTotalRankCardSaid : Prop := Claim7.holds Tryd.pinned (.plain (OpenSpec.ofChange fnExactTotalRankSpec)) fnExactTotalRankCard

/-- THE SECOND FORM's CARD OF 'laws.FnExactIsBoundarySum'. -/
def fnExactIsBoundarySumUptoCard : Claim7 := { stood := { row := fnExactIsBoundarySumUptoRow, standIns := [], harness := (true, "e28d260a28346c84d6b6f529407132981111a6136b5fa541e183c46f84afd2a0"), looks := false }, kinds := [], alts := [], laidByText := true, laidKinds := [.data], laidTests := true, laidLooks := .later }
def FnExactIsBoundarySumUptoCardSaid : Prop := Claim7.holds Tryd.pinned (.plain (OpenSpec.upto fnExactIsBoundarySumSpec)) fnExactIsBoundarySumUptoCard

/-- THE SECOND FORM's CARD OF 'laws.FnExactGradeRank'. -/
def fnExactGradeRankUptoCard : Claim7 := { stood := { row := fnExactGradeRankUptoRow, standIns := [], harness := (true, "e28d260a28346c84d6b6f529407132981111a6136b5fa541e183c46f84afd2a0"), looks := false }, kinds := [], alts := [], laidByText := true, laidKinds := [.data], laidTests := true, laidLooks := .later }
def FnExactGradeRankUptoCardSaid : Prop := Claim7.holds Tryd.pinned (.plain (OpenSpec.upto fnExactGradeRankSpec)) fnExactGradeRankUptoCard

/-- THE SECOND FORM's CARD OF 'laws.FnExactTotalRank'. -/
def fnExactTotalRankUptoCard : Claim7 := { stood := { row := fnExactTotalRankUptoRow, standIns := [], harness := (true, "e28d260a28346c84d6b6f529407132981111a6136b5fa541e183c46f84afd2a0"), looks := false }, kinds := [], alts := [], laidByText := true, laidKinds := [.data], laidTests := true, laidLooks := .later }
def FnExactTotalRankUptoCardSaid : Prop := Claim7.holds Tryd.pinned (.plain (OpenSpec.upto fnExactTotalRankSpec)) fnExactTotalRankUptoCard
end Rows
end Go.Proofs.YtmbbcmebdefggaaDoor
