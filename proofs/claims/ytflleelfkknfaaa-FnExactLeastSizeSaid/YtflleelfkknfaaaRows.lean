/-
  No cell of these rows narrows 'for every input' (looked for: loops, veiled, ifaces, maps, wideKeys, modest, calm, conditions, laid).
  DERIVED. THE GIVEN ROWS OF THIS SEAT. 5 by the template 'for every input the law returns true; each argument reads behind the call as it read before'; 0 by the template 'total and deterministic' (their statements: YtflleelfkknfaaaTotals.lean).
  GIVEN WITH THE SEED: the statements are not yours to turn. If you find one false, say at which input.
  Laid BY PROGRAM, IN A SANDBOX (cutbox-rows.mjs): the forced cells as the released guide's own fill.sh prints them over the translation 4b951df7b498acfb… (all of the seat's roots in one cut). By AI agents, Wed Nov 11 2026. No macro, syntax, notation, axiom, sorry.
-/
import Derived.Test.YtflleelfkknfaaaChecked
import GoSem.Claim
import GoSem.ClaimJoined
import GoSem.ClaimMapViews
import Derived.JoinedTies
import Derived.KernelRfl
namespace Go.Proofs.Ytflleelfkknfaaa
/- THE CELL 'sum', in the pinned program and in every row, IS THE sha256 OF THE DUMP (.gsa) THAT YtflleelfkknfaaaProg.lean LOADS. Nothing in Lean hashes anything: it is a label: what it is worth is what the hold of that sum in a sandbox is worth. -/
noncomputable def Try.pinned : Pinned := { name := "ytflleelfkknfaaa", sum := "4b951df7b498acfb36c4dc98cfe867d00bf424aa4f8ba122cf7db18f4dd52449", checked := Try.checked }
namespace Rows
def none {H : Type} : Left H := { results := [], args := [] }

/-- 'laws.FnExactDistanceTo': WHATEVER THE INPUT: true; the input reads as it did. -/
def fnExactDistanceToSpec : ChangeSpec := { name := "fnExactDistanceTo", fn := fun _ => fun
  | [d1, d2] => { results := [.lit (.bool true)], args := [d1, d2] }
  | _ => none }
def fnExactDistanceToRow : OpenClaim := { program := "ytflleelfkknfaaa", sum := "4b951df7b498acfb36c4dc98cfe867d00bf424aa4f8ba122cf7db18f4dd52449", func := "loop.example/g01228/laws.FnExactDistanceTo", spec := "fnExactDistanceTo", unfollowed := true, recurses := true, plainKeys := false, apart := false }
def FnExactDistanceToSaid : Prop := fnExactDistanceToRow.holds Try.pinned (OpenSpec.ofChange fnExactDistanceToSpec)

/-- ITS FALSE NEIGHBOUR: 'it returns false'. Refute it at one input. -/
def fnExactDistanceToWrong : ChangeSpec := { name := "fnExactDistanceTo", fn := fun _ => fun
  | [d1, d2] => { results := [.lit (.bool false)], args := [d1, d2] }
  | _ => none }
def FnExactDistanceToWrongFalsely : Prop := fnExactDistanceToRow.holds Try.pinned (OpenSpec.ofChange fnExactDistanceToWrong)

/-- 'laws.FnExactNeighboursOf': WHATEVER THE INPUT: true; the input reads as it did. -/
def fnExactNeighboursOfSpec : ChangeSpec := { name := "fnExactNeighboursOf", fn := fun _ => fun
  | [d] => { results := [.lit (.bool true)], args := [d] }
  | _ => none }
def fnExactNeighboursOfRow : OpenClaim := { program := "ytflleelfkknfaaa", sum := "4b951df7b498acfb36c4dc98cfe867d00bf424aa4f8ba122cf7db18f4dd52449", func := "loop.example/g01228/laws.FnExactNeighboursOf", spec := "fnExactNeighboursOf", unfollowed := true, recurses := true, plainKeys := false, apart := false }
def FnExactNeighboursOfSaid : Prop := fnExactNeighboursOfRow.holds Try.pinned (OpenSpec.ofChange fnExactNeighboursOfSpec)

/-- ITS FALSE NEIGHBOUR: 'it returns false'. Refute it at one input. -/
def fnExactNeighboursOfWrong : ChangeSpec := { name := "fnExactNeighboursOf", fn := fun _ => fun
  | [d] => { results := [.lit (.bool false)], args := [d] }
  | _ => none }
def FnExactNeighboursOfWrongFalsely : Prop := fnExactNeighboursOfRow.holds Try.pinned (OpenSpec.ofChange fnExactNeighboursOfWrong)

/-- 'laws.FnExactReachedFrom': WHATEVER THE INPUT: true; the input reads as it did. -/
def fnExactReachedFromSpec : ChangeSpec := { name := "fnExactReachedFrom", fn := fun _ => fun
  | [d1, d2] => { results := [.lit (.bool true)], args := [d1, d2] }
  | _ => none }
def fnExactReachedFromRow : OpenClaim := { program := "ytflleelfkknfaaa", sum := "4b951df7b498acfb36c4dc98cfe867d00bf424aa4f8ba122cf7db18f4dd52449", func := "loop.example/g01228/laws.FnExactReachedFrom", spec := "fnExactReachedFrom", unfollowed := true, recurses := true, plainKeys := false, apart := false }
def FnExactReachedFromSaid : Prop := fnExactReachedFromRow.holds Try.pinned (OpenSpec.ofChange fnExactReachedFromSpec)

/-- ITS FALSE NEIGHBOUR: 'it returns false'. Refute it at one input. -/
def fnExactReachedFromWrong : ChangeSpec := { name := "fnExactReachedFrom", fn := fun _ => fun
  | [d1, d2] => { results := [.lit (.bool false)], args := [d1, d2] }
  | _ => none }
def FnExactReachedFromWrongFalsely : Prop := fnExactReachedFromRow.holds Try.pinned (OpenSpec.ofChange fnExactReachedFromWrong)

/-- 'laws.FnExactLeastSize': WHATEVER THE INPUT: true; the input reads as it did. -/
def fnExactLeastSizeSpec : ChangeSpec := { name := "fnExactLeastSize", fn := fun _ => fun
  | [d] => { results := [.lit (.bool true)], args := [d] }
  | _ => none }
def fnExactLeastSizeRow : OpenClaim := { program := "ytflleelfkknfaaa", sum := "4b951df7b498acfb36c4dc98cfe867d00bf424aa4f8ba122cf7db18f4dd52449", func := "loop.example/g01228/laws.FnExactLeastSize", spec := "fnExactLeastSize", unfollowed := true, recurses := true, plainKeys := false, apart := false }
def FnExactLeastSizeSaid : Prop := fnExactLeastSizeRow.holds Try.pinned (OpenSpec.ofChange fnExactLeastSizeSpec)

/-- ITS FALSE NEIGHBOUR: 'it returns false'. Refute it at one input. -/
def fnExactLeastSizeWrong : ChangeSpec := { name := "fnExactLeastSize", fn := fun _ => fun
  | [d] => { results := [.lit (.bool false)], args := [d] }
  | _ => none }
def FnExactLeastSizeWrongFalsely : Prop := fnExactLeastSizeRow.holds Try.pinned (OpenSpec.ofChange fnExactLeastSizeWrong)

/-- 'laws.FnExactSimplifyGrid': WHATEVER THE INPUT: true; the input reads as it did. -/
def fnExactSimplifyGridSpec : ChangeSpec := { name := "fnExactSimplifyGrid", fn := fun _ => fun
  | [d] => { results := [.lit (.bool true)], args := [d] }
  | _ => none }
def fnExactSimplifyGridRow : OpenClaim := { program := "ytflleelfkknfaaa", sum := "4b951df7b498acfb36c4dc98cfe867d00bf424aa4f8ba122cf7db18f4dd52449", func := "loop.example/g01228/laws.FnExactSimplifyGrid", spec := "fnExactSimplifyGrid", unfollowed := true, recurses := true, plainKeys := false, apart := false }
def FnExactSimplifyGridSaid : Prop := fnExactSimplifyGridRow.holds Try.pinned (OpenSpec.ofChange fnExactSimplifyGridSpec)

/-- ITS FALSE NEIGHBOUR: 'it returns false'. Refute it at one input. -/
def fnExactSimplifyGridWrong : ChangeSpec := { name := "fnExactSimplifyGrid", fn := fun _ => fun
  | [d] => { results := [.lit (.bool false)], args := [d] }
  | _ => none }
def FnExactSimplifyGridWrongFalsely : Prop := fnExactSimplifyGridRow.holds Try.pinned (OpenSpec.ofChange fnExactSimplifyGridWrong)

/- THE SECOND FORM. 'bulk': how many values and letters a reading holds, each counted each time it is reached (what is shared counts as often as it is met; a slice's spare places count too). A statement '..UptoSaid' is the law's where the arguments, and the package variables that the reading takes, are together of bulk at most 1048576: NARROWER than '..Said'. Prove '..Said' where nothing that the law and all that it calls make is longer than what came in: it says more and counts as full. Else prove '..UptoSaid'. A law counts once. -/
mutual
def uptoBulk {H : Type} : DataW H → Nat
  | .lit (.string bytes) => bytes.length + 1
  | .lit _ => 1
  | .nil => 1
  | .ptr d => uptoBulk d + 1
  | .slice elems spare => uptoBulkAll elems + uptoBulkAll spare + 1
  | .agg parts => uptoBulkAll parts + 1
  | .iface _ d => uptoBulk d + 1
  | .map entries => uptoBulkEntries entries + 1
  | .held _ => 1
def uptoBulkAll {H : Type} : List (DataW H) → Nat
  | [] => 0
  | d :: r => uptoBulk d + uptoBulkAll r
def uptoBulkEntries {H : Type} : List (Lit × DataW H) → Nat
  | [] => 0
  | x :: r => uptoBulkEntry x + uptoBulkEntries r
def uptoBulkEntry {H : Type} : Lit × DataW H → Nat
  | (.string bytes, d) => bytes.length + uptoBulk d + 1
  | (_, d) => uptoBulk d + 1
 end
def uptoSmall : (H : Type) → List (DataW H) → Bool := fun _ ds => decide (uptoBulkAll ds ≤ 1048576)
def OpenSpec.upto (s : _root_.Go.ChangeSpec) : _root_.Go.OpenSpec := { _root_.Go.OpenSpec.ofChange s with cond := some uptoSmall }

/-- 'laws.FnExactDistanceTo', WHERE WHAT IT READS IS OF BULK AT MOST 1048576: true; the input reads as it did. -/
def fnExactDistanceToUptoRow : OpenClaim := { program := "ytflleelfkknfaaa", sum := "4b951df7b498acfb36c4dc98cfe867d00bf424aa4f8ba122cf7db18f4dd52449", func := "loop.example/g01228/laws.FnExactDistanceTo", spec := "fnExactDistanceTo", unfollowed := true, recurses := true, plainKeys := false, apart := false, narrowed := true }
def FnExactDistanceToUptoSaid : Prop := fnExactDistanceToUptoRow.holds Try.pinned (OpenSpec.upto fnExactDistanceToSpec)

/-- 'laws.FnExactNeighboursOf', WHERE WHAT IT READS IS OF BULK AT MOST 1048576: true; the input reads as it did. -/
def fnExactNeighboursOfUptoRow : OpenClaim := { program := "ytflleelfkknfaaa", sum := "4b951df7b498acfb36c4dc98cfe867d00bf424aa4f8ba122cf7db18f4dd52449", func := "loop.example/g01228/laws.FnExactNeighboursOf", spec := "fnExactNeighboursOf", unfollowed := true, recurses := true, plainKeys := false, apart := false, narrowed := true }
def FnExactNeighboursOfUptoSaid : Prop := fnExactNeighboursOfUptoRow.holds Try.pinned (OpenSpec.upto fnExactNeighboursOfSpec)

/-- 'laws.FnExactReachedFrom', WHERE WHAT IT READS IS OF BULK AT MOST 1048576: true; the input reads as it did. -/
def fnExactReachedFromUptoRow : OpenClaim := { program := "ytflleelfkknfaaa", sum := "4b951df7b498acfb36c4dc98cfe867d00bf424aa4f8ba122cf7db18f4dd52449", func := "loop.example/g01228/laws.FnExactReachedFrom", spec := "fnExactReachedFrom", unfollowed := true, recurses := true, plainKeys := false, apart := false, narrowed := true }
def FnExactReachedFromUptoSaid : Prop := fnExactReachedFromUptoRow.holds Try.pinned (OpenSpec.upto fnExactReachedFromSpec)

/-- 'laws.FnExactLeastSize', WHERE WHAT IT READS IS OF BULK AT MOST 1048576: true; the input reads as it did. -/
def fnExactLeastSizeUptoRow : OpenClaim := { program := "ytflleelfkknfaaa", sum := "4b951df7b498acfb36c4dc98cfe867d00bf424aa4f8ba122cf7db18f4dd52449", func := "loop.example/g01228/laws.FnExactLeastSize", spec := "fnExactLeastSize", unfollowed := true, recurses := true, plainKeys := false, apart := false, narrowed := true }
def FnExactLeastSizeUptoSaid : Prop := fnExactLeastSizeUptoRow.holds Try.pinned (OpenSpec.upto fnExactLeastSizeSpec)

/-- 'laws.FnExactSimplifyGrid', WHERE WHAT IT READS IS OF BULK AT MOST 1048576: true; the input reads as it did. -/
def fnExactSimplifyGridUptoRow : OpenClaim := { program := "ytflleelfkknfaaa", sum := "4b951df7b498acfb36c4dc98cfe867d00bf424aa4f8ba122cf7db18f4dd52449", func := "loop.example/g01228/laws.FnExactSimplifyGrid", spec := "fnExactSimplifyGrid", unfollowed := true, recurses := true, plainKeys := false, apart := false, narrowed := true }
def FnExactSimplifyGridUptoSaid : Prop := fnExactSimplifyGridUptoRow.holds Try.pinned (OpenSpec.upto fnExactSimplifyGridSpec)

end Rows
end Go.Proofs.Ytflleelfkknfaaa
