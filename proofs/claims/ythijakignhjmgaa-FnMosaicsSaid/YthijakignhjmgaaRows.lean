/-
  No cell of these rows narrows 'for every input' (looked for: loops, veiled, ifaces, maps, wideKeys, modest, calm, conditions, laid).
  DERIVED. THE GIVEN ROWS OF THIS SEAT. 9 by the template 'for every input the law returns true; each argument reads behind the call as it read before'; 0 by the template 'total and deterministic' (their statements: YthijakignhjmgaaTotals.lean).
  GIVEN WITH THE SEED: the statements are not yours to turn. If you find one false, say at which input.
  Laid BY PROGRAM, IN A SANDBOX (cutbox-rows.mjs): the forced cells as the released guide's own fill.sh prints them over the translation 599dde96ae3ef529… (all of the seat's roots in one cut). By AI agents, Wed Nov 11 2026. No macro, syntax, notation, axiom, sorry.
-/
import Derived.Test.YthijakignhjmgaaChecked
import GoSem.Claim
import GoSem.ClaimJoined
import GoSem.ClaimMapViews
import Derived.JoinedTies
import Derived.KernelRfl
namespace Go.Proofs.Ythijakignhjmgaa
/- THE CELL 'sum', in the pinned program and in every row, IS THE sha256 OF THE DUMP (.gsa) THAT YthijakignhjmgaaProg.lean LOADS. Nothing in Lean hashes anything: it is a label: what it is worth is what the hold of that sum in a sandbox is worth. -/
noncomputable def Try.pinned : Pinned := { name := "ythijakignhjmgaa", sum := "599dde96ae3ef529a96ba07ffec5691e7caf1b32fdcc4dc413189b6a0e3fd64a", checked := Try.checked }
namespace Rows
def none {H : Type} : Left H := { results := [], args := [] }

/-- 'laws.FnExactGridOfMosaic': WHATEVER THE INPUT: true; the input reads as it did. -/
def fnExactGridOfMosaicSpec : ChangeSpec := { name := "fnExactGridOfMosaic", fn := fun _ => fun
  | [d] => { results := [.lit (.bool true)], args := [d] }
  | _ => none }
def fnExactGridOfMosaicRow : OpenClaim := { program := "ythijakignhjmgaa", sum := "599dde96ae3ef529a96ba07ffec5691e7caf1b32fdcc4dc413189b6a0e3fd64a", func := "loop.example/g01228/laws.FnExactGridOfMosaic", spec := "fnExactGridOfMosaic", unfollowed := true, recurses := true, plainKeys := false, apart := false }
def FnExactGridOfMosaicSaid : Prop := fnExactGridOfMosaicRow.holds Try.pinned (OpenSpec.ofChange fnExactGridOfMosaicSpec)

/-- ITS FALSE NEIGHBOUR: 'it returns false'. Refute it at one input. -/
def fnExactGridOfMosaicWrong : ChangeSpec := { name := "fnExactGridOfMosaic", fn := fun _ => fun
  | [d] => { results := [.lit (.bool false)], args := [d] }
  | _ => none }
def FnExactGridOfMosaicWrongFalsely : Prop := fnExactGridOfMosaicRow.holds Try.pinned (OpenSpec.ofChange fnExactGridOfMosaicWrong)

/-- 'laws.FnMosaics': WHATEVER THE INPUT: true; the input reads as it did. -/
def fnMosaicsSpec : ChangeSpec := { name := "fnMosaics", fn := fun _ => fun
  | [d] => { results := [.lit (.bool true)], args := [d] }
  | _ => none }
def fnMosaicsRow : OpenClaim := { program := "ythijakignhjmgaa", sum := "599dde96ae3ef529a96ba07ffec5691e7caf1b32fdcc4dc413189b6a0e3fd64a", func := "loop.example/g01228/laws.FnMosaics", spec := "fnMosaics", unfollowed := true, recurses := true, plainKeys := false, apart := false }
def FnMosaicsSaid : Prop := fnMosaicsRow.holds Try.pinned (OpenSpec.ofChange fnMosaicsSpec)

/-- ITS FALSE NEIGHBOUR: 'it returns false'. Refute it at one input. -/
def fnMosaicsWrong : ChangeSpec := { name := "fnMosaics", fn := fun _ => fun
  | [d] => { results := [.lit (.bool false)], args := [d] }
  | _ => none }
def FnMosaicsWrongFalsely : Prop := fnMosaicsRow.holds Try.pinned (OpenSpec.ofChange fnMosaicsWrong)

/-- 'laws.FnExactAllGrids': WHATEVER THE INPUT: true; the input reads as it did. -/
def fnExactAllGridsSpec : ChangeSpec := { name := "fnExactAllGrids", fn := fun _ => fun
  | [d] => { results := [.lit (.bool true)], args := [d] }
  | _ => none }
def fnExactAllGridsRow : OpenClaim := { program := "ythijakignhjmgaa", sum := "599dde96ae3ef529a96ba07ffec5691e7caf1b32fdcc4dc413189b6a0e3fd64a", func := "loop.example/g01228/laws.FnExactAllGrids", spec := "fnExactAllGrids", unfollowed := true, recurses := true, plainKeys := false, apart := false }
def FnExactAllGridsSaid : Prop := fnExactAllGridsRow.holds Try.pinned (OpenSpec.ofChange fnExactAllGridsSpec)

/-- ITS FALSE NEIGHBOUR: 'it returns false'. Refute it at one input. -/
def fnExactAllGridsWrong : ChangeSpec := { name := "fnExactAllGrids", fn := fun _ => fun
  | [d] => { results := [.lit (.bool false)], args := [d] }
  | _ => none }
def FnExactAllGridsWrongFalsely : Prop := fnExactAllGridsRow.holds Try.pinned (OpenSpec.ofChange fnExactAllGridsWrong)

/-- 'laws.FnExactAddSums': WHATEVER THE INPUT: true; the input reads as it did. -/
def fnExactAddSumsSpec : ChangeSpec := { name := "fnExactAddSums", fn := fun _ => fun
  | [d1, d2, d3] => { results := [.lit (.bool true)], args := [d1, d2, d3] }
  | _ => none }
def fnExactAddSumsRow : OpenClaim := { program := "ythijakignhjmgaa", sum := "599dde96ae3ef529a96ba07ffec5691e7caf1b32fdcc4dc413189b6a0e3fd64a", func := "loop.example/g01228/laws.FnExactAddSums", spec := "fnExactAddSums", unfollowed := true, recurses := true, plainKeys := false, apart := false }
def FnExactAddSumsSaid : Prop := fnExactAddSumsRow.holds Try.pinned (OpenSpec.ofChange fnExactAddSumsSpec)

/-- ITS FALSE NEIGHBOUR: 'it returns false'. Refute it at one input. -/
def fnExactAddSumsWrong : ChangeSpec := { name := "fnExactAddSums", fn := fun _ => fun
  | [d1, d2, d3] => { results := [.lit (.bool false)], args := [d1, d2, d3] }
  | _ => none }
def FnExactAddSumsWrongFalsely : Prop := fnExactAddSumsRow.holds Try.pinned (OpenSpec.ofChange fnExactAddSumsWrong)

/-- 'laws.FnExactGradeSums': WHATEVER THE INPUT: true; the input reads as it did. -/
def fnExactGradeSumsSpec : ChangeSpec := { name := "fnExactGradeSums", fn := fun _ => fun
  | [d] => { results := [.lit (.bool true)], args := [d] }
  | _ => none }
def fnExactGradeSumsRow : OpenClaim := { program := "ythijakignhjmgaa", sum := "599dde96ae3ef529a96ba07ffec5691e7caf1b32fdcc4dc413189b6a0e3fd64a", func := "loop.example/g01228/laws.FnExactGradeSums", spec := "fnExactGradeSums", unfollowed := true, recurses := true, plainKeys := false, apart := false }
def FnExactGradeSumsSaid : Prop := fnExactGradeSumsRow.holds Try.pinned (OpenSpec.ofChange fnExactGradeSumsSpec)

/-- ITS FALSE NEIGHBOUR: 'it returns false'. Refute it at one input. -/
def fnExactGradeSumsWrong : ChangeSpec := { name := "fnExactGradeSums", fn := fun _ => fun
  | [d] => { results := [.lit (.bool false)], args := [d] }
  | _ => none }
def FnExactGradeSumsWrongFalsely : Prop := fnExactGradeSumsRow.holds Try.pinned (OpenSpec.ofChange fnExactGradeSumsWrong)

/-- 'laws.FnExactCountKnotsAmong': WHATEVER THE INPUT: true; the input reads as it did. -/
def fnExactCountKnotsAmongSpec : ChangeSpec := { name := "fnExactCountKnotsAmong", fn := fun _ => fun
  | [d] => { results := [.lit (.bool true)], args := [d] }
  | _ => none }
def fnExactCountKnotsAmongRow : OpenClaim := { program := "ythijakignhjmgaa", sum := "599dde96ae3ef529a96ba07ffec5691e7caf1b32fdcc4dc413189b6a0e3fd64a", func := "loop.example/g01228/laws.FnExactCountKnotsAmong", spec := "fnExactCountKnotsAmong", unfollowed := true, recurses := true, plainKeys := false, apart := false }
def FnExactCountKnotsAmongSaid : Prop := fnExactCountKnotsAmongRow.holds Try.pinned (OpenSpec.ofChange fnExactCountKnotsAmongSpec)

/-- ITS FALSE NEIGHBOUR: 'it returns false'. Refute it at one input. -/
def fnExactCountKnotsAmongWrong : ChangeSpec := { name := "fnExactCountKnotsAmong", fn := fun _ => fun
  | [d] => { results := [.lit (.bool false)], args := [d] }
  | _ => none }
def FnExactCountKnotsAmongWrongFalsely : Prop := fnExactCountKnotsAmongRow.holds Try.pinned (OpenSpec.ofChange fnExactCountKnotsAmongWrong)

/-- 'laws.FnExactCountByGrades': WHATEVER THE INPUT: true; the input reads as it did. -/
def fnExactCountByGradesSpec : ChangeSpec := { name := "fnExactCountByGrades", fn := fun _ => fun
  | [d] => { results := [.lit (.bool true)], args := [d] }
  | _ => none }
def fnExactCountByGradesRow : OpenClaim := { program := "ythijakignhjmgaa", sum := "599dde96ae3ef529a96ba07ffec5691e7caf1b32fdcc4dc413189b6a0e3fd64a", func := "loop.example/g01228/laws.FnExactCountByGrades", spec := "fnExactCountByGrades", unfollowed := true, recurses := true, plainKeys := false, apart := false }
def FnExactCountByGradesSaid : Prop := fnExactCountByGradesRow.holds Try.pinned (OpenSpec.ofChange fnExactCountByGradesSpec)

/-- ITS FALSE NEIGHBOUR: 'it returns false'. Refute it at one input. -/
def fnExactCountByGradesWrong : ChangeSpec := { name := "fnExactCountByGrades", fn := fun _ => fun
  | [d] => { results := [.lit (.bool false)], args := [d] }
  | _ => none }
def FnExactCountByGradesWrongFalsely : Prop := fnExactCountByGradesRow.holds Try.pinned (OpenSpec.ofChange fnExactCountByGradesWrong)

/-- 'laws.FnExactBoundaryOf': WHATEVER THE INPUT: true; the input reads as it did. -/
def fnExactBoundaryOfSpec : ChangeSpec := { name := "fnExactBoundaryOf", fn := fun _ => fun
  | [d1, d2] => { results := [.lit (.bool true)], args := [d1, d2] }
  | _ => none }
def fnExactBoundaryOfRow : OpenClaim := { program := "ythijakignhjmgaa", sum := "599dde96ae3ef529a96ba07ffec5691e7caf1b32fdcc4dc413189b6a0e3fd64a", func := "loop.example/g01228/laws.FnExactBoundaryOf", spec := "fnExactBoundaryOf", unfollowed := true, recurses := true, plainKeys := false, apart := false }
def FnExactBoundaryOfSaid : Prop := fnExactBoundaryOfRow.holds Try.pinned (OpenSpec.ofChange fnExactBoundaryOfSpec)

/-- ITS FALSE NEIGHBOUR: 'it returns false'. Refute it at one input. -/
def fnExactBoundaryOfWrong : ChangeSpec := { name := "fnExactBoundaryOf", fn := fun _ => fun
  | [d1, d2] => { results := [.lit (.bool false)], args := [d1, d2] }
  | _ => none }
def FnExactBoundaryOfWrongFalsely : Prop := fnExactBoundaryOfRow.holds Try.pinned (OpenSpec.ofChange fnExactBoundaryOfWrong)

/-- 'laws.FnExactGradeMatrix': WHATEVER THE INPUT: true; the input reads as it did. -/
def fnExactGradeMatrixSpec : ChangeSpec := { name := "fnExactGradeMatrix", fn := fun _ => fun
  | [d1, d2, d3] => { results := [.lit (.bool true)], args := [d1, d2, d3] }
  | _ => none }
def fnExactGradeMatrixRow : OpenClaim := { program := "ythijakignhjmgaa", sum := "599dde96ae3ef529a96ba07ffec5691e7caf1b32fdcc4dc413189b6a0e3fd64a", func := "loop.example/g01228/laws.FnExactGradeMatrix", spec := "fnExactGradeMatrix", unfollowed := true, recurses := true, plainKeys := false, apart := false }
def FnExactGradeMatrixSaid : Prop := fnExactGradeMatrixRow.holds Try.pinned (OpenSpec.ofChange fnExactGradeMatrixSpec)

/-- ITS FALSE NEIGHBOUR: 'it returns false'. Refute it at one input. -/
def fnExactGradeMatrixWrong : ChangeSpec := { name := "fnExactGradeMatrix", fn := fun _ => fun
  | [d1, d2, d3] => { results := [.lit (.bool false)], args := [d1, d2, d3] }
  | _ => none }
def FnExactGradeMatrixWrongFalsely : Prop := fnExactGradeMatrixRow.holds Try.pinned (OpenSpec.ofChange fnExactGradeMatrixWrong)

/- THE SECOND FORM. 'bulk': how many values and letters a reading holds, each counted each time it is reached (what is shared counts as often as it is met; a slice's spare places count too). A statement '..UptoSaid' is the law's where the arguments, and the package variables that the reading takes, are together of bulk at most 1048576: NARROWER than '..Said'. Prove '..Said' where nothing that the law and all that it calls make is longer than what came in: it says more and counts as full. Else prove '..UptoSaid'. A law counts once. -/
mutual
def uptoBulk {H : Type} : DataW H → Nat
  | .lit (.string bytes) => bytes.length + 1
  | .lit _ => 1
  | .nil => 1
  | .ptr d => uptoBulk d + 1
  | .slice elems spare => uptoBulkAll elems + uptoBulkAll spare + 1
  | .agg parts => uptoBulkAll parts + 1
  | .iface _ d => uptoBulk d + 1
  | .map entries => uptoBulkEntries entries + 1
  | .held _ => 1
def uptoBulkAll {H : Type} : List (DataW H) → Nat
  | [] => 0
  | d :: r => uptoBulk d + uptoBulkAll r
def uptoBulkEntries {H : Type} : List (Lit × DataW H) → Nat
  | [] => 0
  | x :: r => uptoBulkEntry x + uptoBulkEntries r
def uptoBulkEntry {H : Type} : Lit × DataW H → Nat
  | (.string bytes, d) => bytes.length + uptoBulk d + 1
  | (_, d) => uptoBulk d + 1
 end
def uptoSmall : (H : Type) → List (DataW H) → Bool := fun _ ds => decide (uptoBulkAll ds ≤ 1048576)
def OpenSpec.upto (s : _root_.Go.ChangeSpec) : _root_.Go.OpenSpec := { _root_.Go.OpenSpec.ofChange s with cond := some uptoSmall }

/-- 'laws.FnExactGridOfMosaic', WHERE WHAT IT READS IS OF BULK AT MOST 1048576: true; the input reads as it did. -/
def fnExactGridOfMosaicUptoRow : OpenClaim := { program := "ythijakignhjmgaa", sum := "599dde96ae3ef529a96ba07ffec5691e7caf1b32fdcc4dc413189b6a0e3fd64a", func := "loop.example/g01228/laws.FnExactGridOfMosaic", spec := "fnExactGridOfMosaic", unfollowed := true, recurses := true, plainKeys := false, apart := false, narrowed := true }
def FnExactGridOfMosaicUptoSaid : Prop := fnExactGridOfMosaicUptoRow.holds Try.pinned (OpenSpec.upto fnExactGridOfMosaicSpec)

/-- 'laws.FnMosaics', WHERE WHAT IT READS IS OF BULK AT MOST 1048576: true; the input reads as it did. -/
def fnMosaicsUptoRow : OpenClaim := { program := "ythijakignhjmgaa", sum := "599dde96ae3ef529a96ba07ffec5691e7caf1b32fdcc4dc413189b6a0e3fd64a", func := "loop.example/g01228/laws.FnMosaics", spec := "fnMosaics", unfollowed := true, recurses := true, plainKeys := false, apart := false, narrowed := true }
def FnMosaicsUptoSaid : Prop := fnMosaicsUptoRow.holds Try.pinned (OpenSpec.upto fnMosaicsSpec)

/-- 'laws.FnExactAllGrids', WHERE WHAT IT READS IS OF BULK AT MOST 1048576: true; the input reads as it did. -/
def fnExactAllGridsUptoRow : OpenClaim := { program := "ythijakignhjmgaa", sum := "599dde96ae3ef529a96ba07ffec5691e7caf1b32fdcc4dc413189b6a0e3fd64a", func := "loop.example/g01228/laws.FnExactAllGrids", spec := "fnExactAllGrids", unfollowed := true, recurses := true, plainKeys := false, apart := false, narrowed := true }
def FnExactAllGridsUptoSaid : Prop := fnExactAllGridsUptoRow.holds Try.pinned (OpenSpec.upto fnExactAllGridsSpec)

/-- 'laws.FnExactAddSums', WHERE WHAT IT READS IS OF BULK AT MOST 1048576: true; the input reads as it did. -/
def fnExactAddSumsUptoRow : OpenClaim := { program := "ythijakignhjmgaa", sum := "599dde96ae3ef529a96ba07ffec5691e7caf1b32fdcc4dc413189b6a0e3fd64a", func := "loop.example/g01228/laws.FnExactAddSums", spec := "fnExactAddSums", unfollowed := true, recurses := true, plainKeys := false, apart := false, narrowed := true }
def FnExactAddSumsUptoSaid : Prop := fnExactAddSumsUptoRow.holds Try.pinned (OpenSpec.upto fnExactAddSumsSpec)

/-- 'laws.FnExactGradeSums', WHERE WHAT IT READS IS OF BULK AT MOST 1048576: true; the input reads as it did. -/
def fnExactGradeSumsUptoRow : OpenClaim := { program := "ythijakignhjmgaa", sum := "599dde96ae3ef529a96ba07ffec5691e7caf1b32fdcc4dc413189b6a0e3fd64a", func := "loop.example/g01228/laws.FnExactGradeSums", spec := "fnExactGradeSums", unfollowed := true, recurses := true, plainKeys := false, apart := false, narrowed := true }
def FnExactGradeSumsUptoSaid : Prop := fnExactGradeSumsUptoRow.holds Try.pinned (OpenSpec.upto fnExactGradeSumsSpec)

/-- 'laws.FnExactCountKnotsAmong', WHERE WHAT IT READS IS OF BULK AT MOST 1048576: true; the input reads as it did. -/
def fnExactCountKnotsAmongUptoRow : OpenClaim := { program := "ythijakignhjmgaa", sum := "599dde96ae3ef529a96ba07ffec5691e7caf1b32fdcc4dc413189b6a0e3fd64a", func := "loop.example/g01228/laws.FnExactCountKnotsAmong", spec := "fnExactCountKnotsAmong", unfollowed := true, recurses := true, plainKeys := false, apart := false, narrowed := true }
def FnExactCountKnotsAmongUptoSaid : Prop := fnExactCountKnotsAmongUptoRow.holds Try.pinned (OpenSpec.upto fnExactCountKnotsAmongSpec)

/-- 'laws.FnExactCountByGrades', WHERE WHAT IT READS IS OF BULK AT MOST 1048576: true; the input reads as it did. -/
def fnExactCountByGradesUptoRow : OpenClaim := { program := "ythijakignhjmgaa", sum := "599dde96ae3ef529a96ba07ffec5691e7caf1b32fdcc4dc413189b6a0e3fd64a", func := "loop.example/g01228/laws.FnExactCountByGrades", spec := "fnExactCountByGrades", unfollowed := true, recurses := true, plainKeys := false, apart := false, narrowed := true }
def FnExactCountByGradesUptoSaid : Prop := fnExactCountByGradesUptoRow.holds Try.pinned (OpenSpec.upto fnExactCountByGradesSpec)

/-- 'laws.FnExactBoundaryOf', WHERE WHAT IT READS IS OF BULK AT MOST 1048576: true; the input reads as it did. -/
def fnExactBoundaryOfUptoRow : OpenClaim := { program := "ythijakignhjmgaa", sum := "599dde96ae3ef529a96ba07ffec5691e7caf1b32fdcc4dc413189b6a0e3fd64a", func := "loop.example/g01228/laws.FnExactBoundaryOf", spec := "fnExactBoundaryOf", unfollowed := true, recurses := true, plainKeys := false, apart := false, narrowed := true }
def FnExactBoundaryOfUptoSaid : Prop := fnExactBoundaryOfUptoRow.holds Try.pinned (OpenSpec.upto fnExactBoundaryOfSpec)

/-- 'laws.FnExactGradeMatrix', WHERE WHAT IT READS IS OF BULK AT MOST 1048576: true; the input reads as it did. -/
def fnExactGradeMatrixUptoRow : OpenClaim := { program := "ythijakignhjmgaa", sum := "599dde96ae3ef529a96ba07ffec5691e7caf1b32fdcc4dc413189b6a0e3fd64a", func := "loop.example/g01228/laws.FnExactGradeMatrix", spec := "fnExactGradeMatrix", unfollowed := true, recurses := true, plainKeys := false, apart := false, narrowed := true }
def FnExactGradeMatrixUptoSaid : Prop := fnExactGradeMatrixUptoRow.holds Try.pinned (OpenSpec.upto fnExactGradeMatrixSpec)

end Rows
end Go.Proofs.Ythijakignhjmgaa
