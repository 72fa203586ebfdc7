/-
  No cell of these rows narrows 'for every input' (looked for: loops, veiled, ifaces, maps, wideKeys, modest, calm, conditions, laid).
  DERIVED. THE GIVEN ROWS OF THIS SEAT. 12 by the template 'for every input the law returns true; each argument reads behind the call as it read before'; 0 by the template 'total and deterministic' (their statements: YtlgoepajebnilaaTotals.lean).
  GIVEN WITH THE SEED: the statements are not yours to turn. If you find one false, say at which input.
  Laid BY PROGRAM, IN A SANDBOX (cutbox-rows.mjs): the forced cells as the released guide's own fill.sh prints them over the translation cc25202111d8824a… (all of the seat's roots in one cut). By AI agents, Wed Nov 11 2026. No macro, syntax, notation, axiom, sorry.
-/
import Derived.Test.YtlgoepajebnilaaChecked
import GoSem.Claim
import GoSem.ClaimJoined
import GoSem.ClaimMapViews
import Derived.JoinedTies
import Derived.KernelRfl
namespace Go.Proofs.Ytlgoepajebnilaa
/- THE CELL 'sum', in the pinned program and in every row, IS THE sha256 OF THE DUMP (.gsa) THAT YtlgoepajebnilaaProg.lean LOADS. Nothing in Lean hashes anything: it is a label: what it is worth is what the hold of that sum in a sandbox is worth. -/
noncomputable def Try.pinned : Pinned := { name := "ytlgoepajebnilaa", sum := "cc25202111d8824a0ae55b0d6608fea90d669e29d75cbd75e5a9b05053ea65c8", checked := Try.checked }
namespace Rows
def none {H : Type} : Left H := { results := [], args := [] }

/-- 'laws.FnExactIsDesk': WHATEVER THE INPUT: true; the input reads as it did. -/
def fnExactIsDeskSpec : ChangeSpec := { name := "fnExactIsDesk", fn := fun _ => fun
  | [d] => { results := [.lit (.bool true)], args := [d] }
  | _ => none }
def fnExactIsDeskRow : OpenClaim := { program := "ytlgoepajebnilaa", sum := "cc25202111d8824a0ae55b0d6608fea90d669e29d75cbd75e5a9b05053ea65c8", func := "loop.example/g01228/laws.FnExactIsDesk", spec := "fnExactIsDesk", apart := false }
def FnExactIsDeskSaid : Prop := fnExactIsDeskRow.holds Try.pinned (OpenSpec.ofChange fnExactIsDeskSpec)

/-- ITS FALSE NEIGHBOUR: 'it returns false'. Refute it at one input. -/
def fnExactIsDeskWrong : ChangeSpec := { name := "fnExactIsDesk", fn := fun _ => fun
  | [d] => { results := [.lit (.bool false)], args := [d] }
  | _ => none }
def FnExactIsDeskWrongFalsely : Prop := fnExactIsDeskRow.holds Try.pinned (OpenSpec.ofChange fnExactIsDeskWrong)

/-- 'laws.FnExactNewDesk': WHATEVER THE INPUT: true; the input reads as it did. -/
def fnExactNewDeskSpec : ChangeSpec := { name := "fnExactNewDesk", fn := fun _ => fun
  | [] => { results := [.lit (.bool true)], args := [] }
  | _ => none }
def fnExactNewDeskRow : OpenClaim := { program := "ytlgoepajebnilaa", sum := "cc25202111d8824a0ae55b0d6608fea90d669e29d75cbd75e5a9b05053ea65c8", func := "loop.example/g01228/laws.FnExactNewDesk", spec := "fnExactNewDesk", apart := false }
def FnExactNewDeskSaid : Prop := fnExactNewDeskRow.holds Try.pinned (OpenSpec.ofChange fnExactNewDeskSpec)

/-- ITS FALSE NEIGHBOUR: 'it returns false'. Refute it at one input. -/
def fnExactNewDeskWrong : ChangeSpec := { name := "fnExactNewDesk", fn := fun _ => fun
  | [] => { results := [.lit (.bool false)], args := [] }
  | _ => none }
def FnExactNewDeskWrongFalsely : Prop := fnExactNewDeskRow.holds Try.pinned (OpenSpec.ofChange fnExactNewDeskWrong)

/-- 'laws.FnExactIsClosedMosaic': WHATEVER THE INPUT: true; the input reads as it did. -/
def fnExactIsClosedMosaicSpec : ChangeSpec := { name := "fnExactIsClosedMosaic", fn := fun _ => fun
  | [d] => { results := [.lit (.bool true)], args := [d] }
  | _ => none }
def fnExactIsClosedMosaicRow : OpenClaim := { program := "ytlgoepajebnilaa", sum := "cc25202111d8824a0ae55b0d6608fea90d669e29d75cbd75e5a9b05053ea65c8", func := "loop.example/g01228/laws.FnExactIsClosedMosaic", spec := "fnExactIsClosedMosaic", apart := false }
def FnExactIsClosedMosaicSaid : Prop := fnExactIsClosedMosaicRow.holds Try.pinned (OpenSpec.ofChange fnExactIsClosedMosaicSpec)

/-- ITS FALSE NEIGHBOUR: 'it returns false'. Refute it at one input. -/
def fnExactIsClosedMosaicWrong : ChangeSpec := { name := "fnExactIsClosedMosaic", fn := fun _ => fun
  | [d] => { results := [.lit (.bool false)], args := [d] }
  | _ => none }
def FnExactIsClosedMosaicWrongFalsely : Prop := fnExactIsClosedMosaicRow.holds Try.pinned (OpenSpec.ofChange fnExactIsClosedMosaicWrong)

/-- 'laws.FnExactBraidIndex': WHATEVER THE INPUT: true; the input reads as it did. -/
def fnExactBraidIndexSpec : ChangeSpec := { name := "fnExactBraidIndex", fn := fun _ => fun
  | [d] => { results := [.lit (.bool true)], args := [d] }
  | _ => none }
def fnExactBraidIndexRow : OpenClaim := { program := "ytlgoepajebnilaa", sum := "cc25202111d8824a0ae55b0d6608fea90d669e29d75cbd75e5a9b05053ea65c8", func := "loop.example/g01228/laws.FnExactBraidIndex", spec := "fnExactBraidIndex", unfollowed := true, recurses := true, apart := false }
def FnExactBraidIndexSaid : Prop := fnExactBraidIndexRow.holds Try.pinned (OpenSpec.ofChange fnExactBraidIndexSpec)

/-- ITS FALSE NEIGHBOUR: 'it returns false'. Refute it at one input. -/
def fnExactBraidIndexWrong : ChangeSpec := { name := "fnExactBraidIndex", fn := fun _ => fun
  | [d] => { results := [.lit (.bool false)], args := [d] }
  | _ => none }
def FnExactBraidIndexWrongFalsely : Prop := fnExactBraidIndexRow.holds Try.pinned (OpenSpec.ofChange fnExactBraidIndexWrong)

/-- 'laws.FnExactStrandsOf': WHATEVER THE INPUT: true; the input reads as it did. -/
def fnExactStrandsOfSpec : ChangeSpec := { name := "fnExactStrandsOf", fn := fun _ => fun
  | [d1, d2] => { results := [.lit (.bool true)], args := [d1, d2] }
  | _ => none }
def fnExactStrandsOfRow : OpenClaim := { program := "ytlgoepajebnilaa", sum := "cc25202111d8824a0ae55b0d6608fea90d669e29d75cbd75e5a9b05053ea65c8", func := "loop.example/g01228/laws.FnExactStrandsOf", spec := "fnExactStrandsOf", apart := false }
def FnExactStrandsOfSaid : Prop := fnExactStrandsOfRow.holds Try.pinned (OpenSpec.ofChange fnExactStrandsOfSpec)

/-- ITS FALSE NEIGHBOUR: 'it returns false'. Refute it at one input. -/
def fnExactStrandsOfWrong : ChangeSpec := { name := "fnExactStrandsOf", fn := fun _ => fun
  | [d1, d2] => { results := [.lit (.bool false)], args := [d1, d2] }
  | _ => none }
def FnExactStrandsOfWrongFalsely : Prop := fnExactStrandsOfRow.holds Try.pinned (OpenSpec.ofChange fnExactStrandsOfWrong)

/-- 'laws.FnTop': WHATEVER THE INPUT: true; the input reads as it did. -/
def fnTopSpec : ChangeSpec := { name := "fnTop", fn := fun _ => fun
  | [d] => { results := [.lit (.bool true)], args := [d] }
  | _ => none }
def fnTopRow : OpenClaim := { program := "ytlgoepajebnilaa", sum := "cc25202111d8824a0ae55b0d6608fea90d669e29d75cbd75e5a9b05053ea65c8", func := "loop.example/g01228/laws.FnTop", spec := "fnTop", unfollowed := true, recurses := true, apart := false }
def FnTopSaid : Prop := fnTopRow.holds Try.pinned (OpenSpec.ofChange fnTopSpec)

/-- ITS FALSE NEIGHBOUR: 'it returns false'. Refute it at one input. -/
def fnTopWrong : ChangeSpec := { name := "fnTop", fn := fun _ => fun
  | [d] => { results := [.lit (.bool false)], args := [d] }
  | _ => none }
def FnTopWrongFalsely : Prop := fnTopRow.holds Try.pinned (OpenSpec.ofChange fnTopWrong)

/-- 'laws.FnExactSameUpToShifts': WHATEVER THE INPUT: true; the input reads as it did. -/
def fnExactSameUpToShiftsSpec : ChangeSpec := { name := "fnExactSameUpToShifts", fn := fun _ => fun
  | [d1, d2] => { results := [.lit (.bool true)], args := [d1, d2] }
  | _ => none }
def fnExactSameUpToShiftsRow : OpenClaim := { program := "ytlgoepajebnilaa", sum := "cc25202111d8824a0ae55b0d6608fea90d669e29d75cbd75e5a9b05053ea65c8", func := "loop.example/g01228/laws.FnExactSameUpToShifts", spec := "fnExactSameUpToShifts", unfollowed := true, recurses := true, apart := false }
def FnExactSameUpToShiftsSaid : Prop := fnExactSameUpToShiftsRow.holds Try.pinned (OpenSpec.ofChange fnExactSameUpToShiftsSpec)

/-- ITS FALSE NEIGHBOUR: 'it returns false'. Refute it at one input. -/
def fnExactSameUpToShiftsWrong : ChangeSpec := { name := "fnExactSameUpToShifts", fn := fun _ => fun
  | [d1, d2] => { results := [.lit (.bool false)], args := [d1, d2] }
  | _ => none }
def FnExactSameUpToShiftsWrongFalsely : Prop := fnExactSameUpToShiftsRow.holds Try.pinned (OpenSpec.ofChange fnExactSameUpToShiftsWrong)

/-- 'laws.FnExactBraidWord': WHATEVER THE INPUT: true; the input reads as it did. -/
def fnExactBraidWordSpec : ChangeSpec := { name := "fnExactBraidWord", fn := fun _ => fun
  | [d] => { results := [.lit (.bool true)], args := [d] }
  | _ => none }
def fnExactBraidWordRow : OpenClaim := { program := "ytlgoepajebnilaa", sum := "cc25202111d8824a0ae55b0d6608fea90d669e29d75cbd75e5a9b05053ea65c8", func := "loop.example/g01228/laws.FnExactBraidWord", spec := "fnExactBraidWord", unfollowed := true, recurses := true, apart := false }
def FnExactBraidWordSaid : Prop := fnExactBraidWordRow.holds Try.pinned (OpenSpec.ofChange fnExactBraidWordSpec)

/-- ITS FALSE NEIGHBOUR: 'it returns false'. Refute it at one input. -/
def fnExactBraidWordWrong : ChangeSpec := { name := "fnExactBraidWord", fn := fun _ => fun
  | [d] => { results := [.lit (.bool false)], args := [d] }
  | _ => none }
def FnExactBraidWordWrongFalsely : Prop := fnExactBraidWordRow.holds Try.pinned (OpenSpec.ofChange fnExactBraidWordWrong)

/-- 'laws.FnExactMosaicOf': WHATEVER THE INPUT: true; the input reads as it did. -/
def fnExactMosaicOfSpec : ChangeSpec := { name := "fnExactMosaicOf", fn := fun _ => fun
  | [d] => { results := [.lit (.bool true)], args := [d] }
  | _ => none }
def fnExactMosaicOfRow : OpenClaim := { program := "ytlgoepajebnilaa", sum := "cc25202111d8824a0ae55b0d6608fea90d669e29d75cbd75e5a9b05053ea65c8", func := "loop.example/g01228/laws.FnExactMosaicOf", spec := "fnExactMosaicOf", unfollowed := true, recurses := true, apart := false }
def FnExactMosaicOfSaid : Prop := fnExactMosaicOfRow.holds Try.pinned (OpenSpec.ofChange fnExactMosaicOfSpec)

/-- ITS FALSE NEIGHBOUR: 'it returns false'. Refute it at one input. -/
def fnExactMosaicOfWrong : ChangeSpec := { name := "fnExactMosaicOf", fn := fun _ => fun
  | [d] => { results := [.lit (.bool false)], args := [d] }
  | _ => none }
def FnExactMosaicOfWrongFalsely : Prop := fnExactMosaicOfRow.holds Try.pinned (OpenSpec.ofChange fnExactMosaicOfWrong)

/-- 'laws.FnExactCanonicalGrid': WHATEVER THE INPUT: true; the input reads as it did. -/
def fnExactCanonicalGridSpec : ChangeSpec := { name := "fnExactCanonicalGrid", fn := fun _ => fun
  | [d] => { results := [.lit (.bool true)], args := [d] }
  | _ => none }
def fnExactCanonicalGridRow : OpenClaim := { program := "ytlgoepajebnilaa", sum := "cc25202111d8824a0ae55b0d6608fea90d669e29d75cbd75e5a9b05053ea65c8", func := "loop.example/g01228/laws.FnExactCanonicalGrid", spec := "fnExactCanonicalGrid", unfollowed := true, recurses := true, apart := false }
def FnExactCanonicalGridSaid : Prop := fnExactCanonicalGridRow.holds Try.pinned (OpenSpec.ofChange fnExactCanonicalGridSpec)

/-- ITS FALSE NEIGHBOUR: 'it returns false'. Refute it at one input. -/
def fnExactCanonicalGridWrong : ChangeSpec := { name := "fnExactCanonicalGrid", fn := fun _ => fun
  | [d] => { results := [.lit (.bool false)], args := [d] }
  | _ => none }
def FnExactCanonicalGridWrongFalsely : Prop := fnExactCanonicalGridRow.holds Try.pinned (OpenSpec.ofChange fnExactCanonicalGridWrong)

/-- 'laws.FnExactBraidEnds': WHATEVER THE INPUT: true; the input reads as it did. -/
def fnExactBraidEndsSpec : ChangeSpec := { name := "fnExactBraidEnds", fn := fun _ => fun
  | [d] => { results := [.lit (.bool true)], args := [d] }
  | _ => none }
def fnExactBraidEndsRow : OpenClaim := { program := "ytlgoepajebnilaa", sum := "cc25202111d8824a0ae55b0d6608fea90d669e29d75cbd75e5a9b05053ea65c8", func := "loop.example/g01228/laws.FnExactBraidEnds", spec := "fnExactBraidEnds", unfollowed := true, recurses := true, apart := false }
def FnExactBraidEndsSaid : Prop := fnExactBraidEndsRow.holds Try.pinned (OpenSpec.ofChange fnExactBraidEndsSpec)

/-- ITS FALSE NEIGHBOUR: 'it returns false'. Refute it at one input. -/
def fnExactBraidEndsWrong : ChangeSpec := { name := "fnExactBraidEnds", fn := fun _ => fun
  | [d] => { results := [.lit (.bool false)], args := [d] }
  | _ => none }
def FnExactBraidEndsWrongFalsely : Prop := fnExactBraidEndsRow.holds Try.pinned (OpenSpec.ofChange fnExactBraidEndsWrong)

/-- 'laws.FnPromiseOfAll': WHATEVER THE INPUT: true; the input reads as it did. -/
def fnPromiseOfAllSpec : ChangeSpec := { name := "fnPromiseOfAll", fn := fun _ => fun
  | [d1, d2, d3, d4] => { results := [.lit (.bool true)], args := [d1, d2, d3, d4] }
  | _ => none }
def fnPromiseOfAllRow : OpenClaim := { program := "ytlgoepajebnilaa", sum := "cc25202111d8824a0ae55b0d6608fea90d669e29d75cbd75e5a9b05053ea65c8", func := "loop.example/g01228/laws.FnPromiseOfAll", spec := "fnPromiseOfAll", unfollowed := true, recurses := true, apart := false }
def FnPromiseOfAllSaid : Prop := fnPromiseOfAllRow.holds Try.pinned (OpenSpec.ofChange fnPromiseOfAllSpec)

/-- ITS FALSE NEIGHBOUR: 'it returns false'. Refute it at one input. -/
def fnPromiseOfAllWrong : ChangeSpec := { name := "fnPromiseOfAll", fn := fun _ => fun
  | [d1, d2, d3, d4] => { results := [.lit (.bool false)], args := [d1, d2, d3, d4] }
  | _ => none }
def FnPromiseOfAllWrongFalsely : Prop := fnPromiseOfAllRow.holds Try.pinned (OpenSpec.ofChange fnPromiseOfAllWrong)

/- THE SECOND FORM. 'bulk': how many values and letters a reading holds, each counted each time it is reached (what is shared counts as often as it is met; a slice's spare places count too). A statement '..UptoSaid' is the law's where the arguments, and the package variables that the reading takes, are together of bulk at most 1048576: NARROWER than '..Said'. Prove '..Said' where nothing that the law and all that it calls make is longer than what came in: it says more and counts as full. Else prove '..UptoSaid'. A law counts once. -/
mutual
def uptoBulk {H : Type} : DataW H → Nat
  | .lit (.string bytes) => bytes.length + 1
  | .lit _ => 1
  | .nil => 1
  | .ptr d => uptoBulk d + 1
  | .slice elems spare => uptoBulkAll elems + uptoBulkAll spare + 1
  | .agg parts => uptoBulkAll parts + 1
  | .iface _ d => uptoBulk d + 1
  | .map entries => uptoBulkEntries entries + 1
  | .held _ => 1
def uptoBulkAll {H : Type} : List (DataW H) → Nat
  | [] => 0
  | d :: r => uptoBulk d + uptoBulkAll r
def uptoBulkEntries {H : Type} : List (Lit × DataW H) → Nat
  | [] => 0
  | x :: r => uptoBulkEntry x + uptoBulkEntries r
def uptoBulkEntry {H : Type} : Lit × DataW H → Nat
  | (.string bytes, d) => bytes.length + uptoBulk d + 1
  | (_, d) => uptoBulk d + 1
 end
def uptoSmall : (H : Type) → List (DataW H) → Bool := fun _ ds => decide (uptoBulkAll ds ≤ 1048576)
def OpenSpec.upto (s : _root_.Go.ChangeSpec) : _root_.Go.OpenSpec := { _root_.Go.OpenSpec.ofChange s with cond := some uptoSmall }

/-- 'laws.FnExactIsDesk', WHERE WHAT IT READS IS OF BULK AT MOST 1048576: true; the input reads as it did. -/
def fnExactIsDeskUptoRow : OpenClaim := { program := "ytlgoepajebnilaa", sum := "cc25202111d8824a0ae55b0d6608fea90d669e29d75cbd75e5a9b05053ea65c8", func := "loop.example/g01228/laws.FnExactIsDesk", spec := "fnExactIsDesk", apart := false, narrowed := true }
def FnExactIsDeskUptoSaid : Prop := fnExactIsDeskUptoRow.holds Try.pinned (OpenSpec.upto fnExactIsDeskSpec)

/-- 'laws.FnExactNewDesk', WHERE WHAT IT READS IS OF BULK AT MOST 1048576: true; the input reads as it did. -/
def fnExactNewDeskUptoRow : OpenClaim := { program := "ytlgoepajebnilaa", sum := "cc25202111d8824a0ae55b0d6608fea90d669e29d75cbd75e5a9b05053ea65c8", func := "loop.example/g01228/laws.FnExactNewDesk", spec := "fnExactNewDesk", apart := false, narrowed := true }
def FnExactNewDeskUptoSaid : Prop := fnExactNewDeskUptoRow.holds Try.pinned (OpenSpec.upto fnExactNewDeskSpec)

/-- 'laws.FnExactIsClosedMosaic', WHERE WHAT IT READS IS OF BULK AT MOST 1048576: true; the input reads as it did. -/
def fnExactIsClosedMosaicUptoRow : OpenClaim := { program := "ytlgoepajebnilaa", sum := "cc25202111d8824a0ae55b0d6608fea90d669e29d75cbd75e5a9b05053ea65c8", func := "loop.example/g01228/laws.FnExactIsClosedMosaic", spec := "fnExactIsClosedMosaic", apart := false, narrowed := true }
def FnExactIsClosedMosaicUptoSaid : Prop := fnExactIsClosedMosaicUptoRow.holds Try.pinned (OpenSpec.upto fnExactIsClosedMosaicSpec)

/-- 'laws.FnExactBraidIndex', WHERE WHAT IT READS IS OF BULK AT MOST 1048576: true; the input reads as it did. -/
def fnExactBraidIndexUptoRow : OpenClaim := { program := "ytlgoepajebnilaa", sum := "cc25202111d8824a0ae55b0d6608fea90d669e29d75cbd75e5a9b05053ea65c8", func := "loop.example/g01228/laws.FnExactBraidIndex", spec := "fnExactBraidIndex", unfollowed := true, recurses := true, apart := false, narrowed := true }
def FnExactBraidIndexUptoSaid : Prop := fnExactBraidIndexUptoRow.holds Try.pinned (OpenSpec.upto fnExactBraidIndexSpec)

/-- 'laws.FnExactStrandsOf', WHERE WHAT IT READS IS OF BULK AT MOST 1048576: true; the input reads as it did. -/
def fnExactStrandsOfUptoRow : OpenClaim := { program := "ytlgoepajebnilaa", sum := "cc25202111d8824a0ae55b0d6608fea90d669e29d75cbd75e5a9b05053ea65c8", func := "loop.example/g01228/laws.FnExactStrandsOf", spec := "fnExactStrandsOf", apart := false, narrowed := true }
def FnExactStrandsOfUptoSaid : Prop := fnExactStrandsOfUptoRow.holds Try.pinned (OpenSpec.upto fnExactStrandsOfSpec)

/-- 'laws.FnTop', WHERE WHAT IT READS IS OF BULK AT MOST 1048576: true; the input reads as it did. -/
def fnTopUptoRow : OpenClaim := { program := "ytlgoepajebnilaa", sum := "cc25202111d8824a0ae55b0d6608fea90d669e29d75cbd75e5a9b05053ea65c8", func := "loop.example/g01228/laws.FnTop", spec := "fnTop", unfollowed := true, recurses := true, apart := false, narrowed := true }
def FnTopUptoSaid : Prop := fnTopUptoRow.holds Try.pinned (OpenSpec.upto fnTopSpec)

/-- 'laws.FnExactSameUpToShifts', WHERE WHAT IT READS IS OF BULK AT MOST 1048576: true; the input reads as it did. -/
def fnExactSameUpToShiftsUptoRow : OpenClaim := { program := "ytlgoepajebnilaa", sum := "cc25202111d8824a0ae55b0d6608fea90d669e29d75cbd75e5a9b05053ea65c8", func := "loop.example/g01228/laws.FnExactSameUpToShifts", spec := "fnExactSameUpToShifts", unfollowed := true, recurses := true, apart := false, narrowed := true }
def FnExactSameUpToShiftsUptoSaid : Prop := fnExactSameUpToShiftsUptoRow.holds Try.pinned (OpenSpec.upto fnExactSameUpToShiftsSpec)

/-- 'laws.FnExactBraidWord', WHERE WHAT IT READS IS OF BULK AT MOST 1048576: true; the input reads as it did. -/
def fnExactBraidWordUptoRow : OpenClaim := { program := "ytlgoepajebnilaa", sum := "cc25202111d8824a0ae55b0d6608fea90d669e29d75cbd75e5a9b05053ea65c8", func := "loop.example/g01228/laws.FnExactBraidWord", spec := "fnExactBraidWord", unfollowed := true, recurses := true, apart := false, narrowed := true }
def FnExactBraidWordUptoSaid : Prop := fnExactBraidWordUptoRow.holds Try.pinned (OpenSpec.upto fnExactBraidWordSpec)

/-- 'laws.FnExactMosaicOf', WHERE WHAT IT READS IS OF BULK AT MOST 1048576: true; the input reads as it did. -/
def fnExactMosaicOfUptoRow : OpenClaim := { program := "ytlgoepajebnilaa", sum := "cc25202111d8824a0ae55b0d6608fea90d669e29d75cbd75e5a9b05053ea65c8", func := "loop.example/g01228/laws.FnExactMosaicOf", spec := "fnExactMosaicOf", unfollowed := true, recurses := true, apart := false, narrowed := true }
def FnExactMosaicOfUptoSaid : Prop := fnExactMosaicOfUptoRow.holds Try.pinned (OpenSpec.upto fnExactMosaicOfSpec)

/-- 'laws.FnExactCanonicalGrid', WHERE WHAT IT READS IS OF BULK AT MOST 1048576: true; the input reads as it did. -/
def fnExactCanonicalGridUptoRow : OpenClaim := { program := "ytlgoepajebnilaa", sum := "cc25202111d8824a0ae55b0d6608fea90d669e29d75cbd75e5a9b05053ea65c8", func := "loop.example/g01228/laws.FnExactCanonicalGrid", spec := "fnExactCanonicalGrid", unfollowed := true, recurses := true, apart := false, narrowed := true }
def FnExactCanonicalGridUptoSaid : Prop := fnExactCanonicalGridUptoRow.holds Try.pinned (OpenSpec.upto fnExactCanonicalGridSpec)

/-- 'laws.FnExactBraidEnds', WHERE WHAT IT READS IS OF BULK AT MOST 1048576: true; the input reads as it did. -/
def fnExactBraidEndsUptoRow : OpenClaim := { program := "ytlgoepajebnilaa", sum := "cc25202111d8824a0ae55b0d6608fea90d669e29d75cbd75e5a9b05053ea65c8", func := "loop.example/g01228/laws.FnExactBraidEnds", spec := "fnExactBraidEnds", unfollowed := true, recurses := true, apart := false, narrowed := true }
def FnExactBraidEndsUptoSaid : Prop := fnExactBraidEndsUptoRow.holds Try.pinned (OpenSpec.upto fnExactBraidEndsSpec)

/-- 'laws.FnPromiseOfAll', WHERE WHAT IT READS IS OF BULK AT MOST 1048576: true; the input reads as it did. -/
def fnPromiseOfAllUptoRow : OpenClaim := { program := "ytlgoepajebnilaa", sum := "cc25202111d8824a0ae55b0d6608fea90d669e29d75cbd75e5a9b05053ea65c8", func := "loop.example/g01228/laws.FnPromiseOfAll", spec := "fnPromiseOfAll", unfollowed := true, recurses := true, apart := false, narrowed := true }
def FnPromiseOfAllUptoSaid : Prop := fnPromiseOfAllUptoRow.holds Try.pinned (OpenSpec.upto fnPromiseOfAllSpec)

end Rows
end Go.Proofs.Ytlgoepajebnilaa
