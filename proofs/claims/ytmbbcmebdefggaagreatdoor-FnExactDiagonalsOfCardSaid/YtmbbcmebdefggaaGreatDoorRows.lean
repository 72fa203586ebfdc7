/-
  NARROWER THAN 'FOR EVERY INPUT', by the rows' own cells (each row's printed sentence says how): FnExactBlockedTable: laid · FnBoundaries: laid · FnExactKnotGenus: laid · FnExactIsUnknot: laid · FnExactIsFibred: laid · FnExactDividedTable: laid · FnExactEulerPolynomial: laid · FnExactDiagonalsOf: laid.
  DERIVED. THE GIVEN ROWS OF THIS SEAT. 8 by the template 'for every input the law returns true; each argument reads behind the call as it read before'; 0 by the template 'total and deterministic' (their statements: YtmbbcmebdefggaaGreatDoorTotals.lean).
  GIVEN WITH THE SEED: the statements are not yours to turn. If you find one false, say at which input.
  Laid BY PROGRAM, IN A SANDBOX (cutbox-rows.mjs): the forced cells as the released guide's own fill.sh prints them over the translation 0b542a732f0fc9a1… (all of the seat's roots in one cut). By AI agents, Wed Nov 11 2026. No macro, syntax, notation, axiom, sorry.
-/
import Derived.Test.YtmbbcmebdefggaaGreatDoorChecked
import GoSem.Claim
import GoSem.ClaimJoined
import GoSem.ClaimMapViews
import Derived.JoinedTies
import Derived.KernelRfl
namespace Go.Proofs.YtmbbcmebdefggaaGreatDoor
/- THE CELL 'sum', in the pinned program and in every row, IS THE sha256 OF THE DUMP (.gsa) THAT YtmbbcmebdefggaaGreatDoorProg.lean LOADS. Nothing in Lean hashes anything: it is a label: what it is worth is what the hold of that sum in a sandbox is worth. -/
noncomputable def Tryz.pinned : Pinned := { name := "ytmbbcmebdefggaagreatdoor", sum := "0b542a732f0fc9a11124c3e37a4221643edee708c25c3d2e88e7749aab980c58", checked := Tryz.checked }
namespace Rows
def none {H : Type} : Left H := { results := [], args := [] }

/- WHAT THE LISTED PACKAGE-LEVEL VARIABLES READ AS WHEN THE CALL BEGINS. Each datum BY PROGRAM (the guide's laid-datum.mjs) off the statement by which the dump's own 'gosem.cut.vars' lays the variable. In a bare row this is a premise. The card (YtmbbcmebdefggaaGreatDoorCards.lean) ties it to the program's text. -/
def laid_math_bits_deBruijn64tab {H : Type} : DataW H := .agg [.lit (.int .u8 0), .lit (.int .u8 1), .lit (.int .u8 56), .lit (.int .u8 2), .lit (.int .u8 57), .lit (.int .u8 49), .lit (.int .u8 28), .lit (.int .u8 3), .lit (.int .u8 61), .lit (.int .u8 58), .lit (.int .u8 42), .lit (.int .u8 50), .lit (.int .u8 38), .lit (.int .u8 29), .lit (.int .u8 17), .lit (.int .u8 4), .lit (.int .u8 62), .lit (.int .u8 47), .lit (.int .u8 59), .lit (.int .u8 36), .lit (.int .u8 45), .lit (.int .u8 43), .lit (.int .u8 51), .lit (.int .u8 22), .lit (.int .u8 53), .lit (.int .u8 39), .lit (.int .u8 33), .lit (.int .u8 30), .lit (.int .u8 24), .lit (.int .u8 18), .lit (.int .u8 12), .lit (.int .u8 5), .lit (.int .u8 63), .lit (.int .u8 55), .lit (.int .u8 48), .lit (.int .u8 27), .lit (.int .u8 60), .lit (.int .u8 41), .lit (.int .u8 37), .lit (.int .u8 16), .lit (.int .u8 46), .lit (.int .u8 35), .lit (.int .u8 44), .lit (.int .u8 21), .lit (.int .u8 52), .lit (.int .u8 32), .lit (.int .u8 23), .lit (.int .u8 11), .lit (.int .u8 54), .lit (.int .u8 26), .lit (.int .u8 40), .lit (.int .u8 15), .lit (.int .u8 34), .lit (.int .u8 20), .lit (.int .u8 31), .lit (.int .u8 10), .lit (.int .u8 25), .lit (.int .u8 14), .lit (.int .u8 19), .lit (.int .u8 9), .lit (.int .u8 13), .lit (.int .u8 8), .lit (.int .u8 7), .lit (.int .u8 6)]

/-- 'laws.FnExactBlockedTable': WHATEVER THE INPUT: true; the input reads as it did. -/
def fnExactBlockedTableSpec : ChangeSpec := { name := "fnExactBlockedTable", fn := fun _ => fun
  | [d] => { results := [.lit (.bool true)], args := [d] }
  | _ => none }
def fnExactBlockedTableRow : OpenClaim := { program := "ytmbbcmebdefggaagreatdoor", sum := "0b542a732f0fc9a11124c3e37a4221643edee708c25c3d2e88e7749aab980c58", func := "loop.example/g01228/laws.FnExactBlockedTable", spec := "fnExactBlockedTable", unfollowed := true, recurses := true, named := ["math/bits.deBruijn64tab"], plainKeys := false, apart := false, laid := [("math/bits.deBruijn64tab", laid_math_bits_deBruijn64tab)] }
def FnExactBlockedTableSaid : Prop := fnExactBlockedTableRow.holds Tryz.pinned (OpenSpec.ofChange fnExactBlockedTableSpec)

/-- ITS FALSE NEIGHBOUR: 'it returns false'. Refute it at one input. -/
def fnExactBlockedTableWrong : ChangeSpec := { name := "fnExactBlockedTable", fn := fun _ => fun
  | [d] => { results := [.lit (.bool false)], args := [d] }
  | _ => none }
def FnExactBlockedTableWrongFalsely : Prop := fnExactBlockedTableRow.holds Tryz.pinned (OpenSpec.ofChange fnExactBlockedTableWrong)

/-- 'laws.FnBoundaries': WHATEVER THE INPUT: true; the input reads as it did. -/
def fnBoundariesSpec : ChangeSpec := { name := "fnBoundaries", fn := fun _ => fun
  | [d] => { results := [.lit (.bool true)], args := [d] }
  | _ => none }
def fnBoundariesRow : OpenClaim := { program := "ytmbbcmebdefggaagreatdoor", sum := "0b542a732f0fc9a11124c3e37a4221643edee708c25c3d2e88e7749aab980c58", func := "loop.example/g01228/laws.FnBoundaries", spec := "fnBoundaries", unfollowed := true, recurses := true, named := ["math/bits.deBruijn64tab"], plainKeys := false, apart := false, laid := [("math/bits.deBruijn64tab", laid_math_bits_deBruijn64tab)] }
def FnBoundariesSaid : Prop := fnBoundariesRow.holds Tryz.pinned (OpenSpec.ofChange fnBoundariesSpec)

/-- ITS FALSE NEIGHBOUR: 'it returns false'. Refute it at one input. -/
def fnBoundariesWrong : ChangeSpec := { name := "fnBoundaries", fn := fun _ => fun
  | [d] => { results := [.lit (.bool false)], args := [d] }
  | _ => none }
def FnBoundariesWrongFalsely : Prop := fnBoundariesRow.holds Tryz.pinned (OpenSpec.ofChange fnBoundariesWrong)

/-- 'laws.FnExactKnotGenus': WHATEVER THE INPUT: true; the input reads as it did. -/
def fnExactKnotGenusSpec : ChangeSpec := { name := "fnExactKnotGenus", fn := fun _ => fun
  | [d] => { results := [.lit (.bool true)], args := [d] }
  | _ => none }
def fnExactKnotGenusRow : OpenClaim := { program := "ytmbbcmebdefggaagreatdoor", sum := "0b542a732f0fc9a11124c3e37a4221643edee708c25c3d2e88e7749aab980c58", func := "loop.example/g01228/laws.FnExactKnotGenus", spec := "fnExactKnotGenus", unfollowed := true, recurses := true, named := ["math/bits.deBruijn64tab"], plainKeys := false, apart := false, laid := [("math/bits.deBruijn64tab", laid_math_bits_deBruijn64tab)] }
def FnExactKnotGenusSaid : Prop := fnExactKnotGenusRow.holds Tryz.pinned (OpenSpec.ofChange fnExactKnotGenusSpec)

/-- ITS FALSE NEIGHBOUR: 'it returns false'. Refute it at one input. -/
def fnExactKnotGenusWrong : ChangeSpec := { name := "fnExactKnotGenus", fn := fun _ => fun
  | [d] => { results := [.lit (.bool false)], args := [d] }
  | _ => none }
def FnExactKnotGenusWrongFalsely : Prop := fnExactKnotGenusRow.holds Tryz.pinned (OpenSpec.ofChange fnExactKnotGenusWrong)

/-- 'laws.FnExactIsUnknot': WHATEVER THE INPUT: true; the input reads as it did. -/
def fnExactIsUnknotSpec : ChangeSpec := { name := "fnExactIsUnknot", fn := fun _ => fun
  | [d] => { results := [.lit (.bool true)], args := [d] }
  | _ => none }
def fnExactIsUnknotRow : OpenClaim := { program := "ytmbbcmebdefggaagreatdoor", sum := "0b542a732f0fc9a11124c3e37a4221643edee708c25c3d2e88e7749aab980c58", func := "loop.example/g01228/laws.FnExactIsUnknot", spec := "fnExactIsUnknot", unfollowed := true, recurses := true, named := ["math/bits.deBruijn64tab"], plainKeys := false, apart := false, laid := [("math/bits.deBruijn64tab", laid_math_bits_deBruijn64tab)] }
def FnExactIsUnknotSaid : Prop := fnExactIsUnknotRow.holds Tryz.pinned (OpenSpec.ofChange fnExactIsUnknotSpec)

/-- ITS FALSE NEIGHBOUR: 'it returns false'. Refute it at one input. -/
def fnExactIsUnknotWrong : ChangeSpec := { name := "fnExactIsUnknot", fn := fun _ => fun
  | [d] => { results := [.lit (.bool false)], args := [d] }
  | _ => none }
def FnExactIsUnknotWrongFalsely : Prop := fnExactIsUnknotRow.holds Tryz.pinned (OpenSpec.ofChange fnExactIsUnknotWrong)

/-- 'laws.FnExactIsFibred': WHATEVER THE INPUT: true; the input reads as it did. -/
def fnExactIsFibredSpec : ChangeSpec := { name := "fnExactIsFibred", fn := fun _ => fun
  | [d] => { results := [.lit (.bool true)], args := [d] }
  | _ => none }
def fnExactIsFibredRow : OpenClaim := { program := "ytmbbcmebdefggaagreatdoor", sum := "0b542a732f0fc9a11124c3e37a4221643edee708c25c3d2e88e7749aab980c58", func := "loop.example/g01228/laws.FnExactIsFibred", spec := "fnExactIsFibred", unfollowed := true, recurses := true, named := ["math/bits.deBruijn64tab"], plainKeys := false, apart := false, laid := [("math/bits.deBruijn64tab", laid_math_bits_deBruijn64tab)] }
def FnExactIsFibredSaid : Prop := fnExactIsFibredRow.holds Tryz.pinned (OpenSpec.ofChange fnExactIsFibredSpec)

/-- ITS FALSE NEIGHBOUR: 'it returns false'. Refute it at one input. -/
def fnExactIsFibredWrong : ChangeSpec := { name := "fnExactIsFibred", fn := fun _ => fun
  | [d] => { results := [.lit (.bool false)], args := [d] }
  | _ => none }
def FnExactIsFibredWrongFalsely : Prop := fnExactIsFibredRow.holds Tryz.pinned (OpenSpec.ofChange fnExactIsFibredWrong)

/-- 'laws.FnExactDividedTable': WHATEVER THE INPUT: true; the input reads as it did. -/
def fnExactDividedTableSpec : ChangeSpec := { name := "fnExactDividedTable", fn := fun _ => fun
  | [d] => { results := [.lit (.bool true)], args := [d] }
  | _ => none }
def fnExactDividedTableRow : OpenClaim := { program := "ytmbbcmebdefggaagreatdoor", sum := "0b542a732f0fc9a11124c3e37a4221643edee708c25c3d2e88e7749aab980c58", func := "loop.example/g01228/laws.FnExactDividedTable", spec := "fnExactDividedTable", unfollowed := true, recurses := true, named := ["math/bits.deBruijn64tab"], plainKeys := false, apart := false, laid := [("math/bits.deBruijn64tab", laid_math_bits_deBruijn64tab)] }
def FnExactDividedTableSaid : Prop := fnExactDividedTableRow.holds Tryz.pinned (OpenSpec.ofChange fnExactDividedTableSpec)

/-- ITS FALSE NEIGHBOUR: 'it returns false'. Refute it at one input. -/
def fnExactDividedTableWrong : ChangeSpec := { name := "fnExactDividedTable", fn := fun _ => fun
  | [d] => { results := [.lit (.bool false)], args := [d] }
  | _ => none }
def FnExactDividedTableWrongFalsely : Prop := fnExactDividedTableRow.holds Tryz.pinned (OpenSpec.ofChange fnExactDividedTableWrong)

/-- 'laws.FnExactEulerPolynomial': WHATEVER THE INPUT: true; the input reads as it did. -/
def fnExactEulerPolynomialSpec : ChangeSpec := { name := "fnExactEulerPolynomial", fn := fun _ => fun
  | [d] => { results := [.lit (.bool true)], args := [d] }
  | _ => none }
def fnExactEulerPolynomialRow : OpenClaim := { program := "ytmbbcmebdefggaagreatdoor", sum := "0b542a732f0fc9a11124c3e37a4221643edee708c25c3d2e88e7749aab980c58", func := "loop.example/g01228/laws.FnExactEulerPolynomial", spec := "fnExactEulerPolynomial", unfollowed := true, recurses := true, named := ["math/bits.deBruijn64tab"], plainKeys := false, apart := false, laid := [("math/bits.deBruijn64tab", laid_math_bits_deBruijn64tab)] }
def FnExactEulerPolynomialSaid : Prop := fnExactEulerPolynomialRow.holds Tryz.pinned (OpenSpec.ofChange fnExactEulerPolynomialSpec)

/-- ITS FALSE NEIGHBOUR: 'it returns false'. Refute it at one input. -/
def fnExactEulerPolynomialWrong : ChangeSpec := { name := "fnExactEulerPolynomial", fn := fun _ => fun
  | [d] => { results := [.lit (.bool false)], args := [d] }
  | _ => none }
def FnExactEulerPolynomialWrongFalsely : Prop := fnExactEulerPolynomialRow.holds Tryz.pinned (OpenSpec.ofChange fnExactEulerPolynomialWrong)

/-- 'laws.FnExactDiagonalsOf': WHATEVER THE INPUT: true; the input reads as it did. -/
def fnExactDiagonalsOfSpec : ChangeSpec := { name := "fnExactDiagonalsOf", fn := fun _ => fun
  | [d] => { results := [.lit (.bool true)], args := [d] }
  | _ => none }
def fnExactDiagonalsOfRow : OpenClaim := { program := "ytmbbcmebdefggaagreatdoor", sum := "0b542a732f0fc9a11124c3e37a4221643edee708c25c3d2e88e7749aab980c58", func := "loop.example/g01228/laws.FnExactDiagonalsOf", spec := "fnExactDiagonalsOf", unfollowed := true, recurses := true, named := ["math/bits.deBruijn64tab"], plainKeys := false, apart := false, laid := [("math/bits.deBruijn64tab", laid_math_bits_deBruijn64tab)] }
def FnExactDiagonalsOfSaid : Prop := fnExactDiagonalsOfRow.holds Tryz.pinned (OpenSpec.ofChange fnExactDiagonalsOfSpec)

/-- ITS FALSE NEIGHBOUR: 'it returns false'. Refute it at one input. -/
def fnExactDiagonalsOfWrong : ChangeSpec := { name := "fnExactDiagonalsOf", fn := fun _ => fun
  | [d] => { results := [.lit (.bool false)], args := [d] }
  | _ => none }
def FnExactDiagonalsOfWrongFalsely : Prop := fnExactDiagonalsOfRow.holds Tryz.pinned (OpenSpec.ofChange fnExactDiagonalsOfWrong)

/- THE SECOND FORM. 'bulk': how many values and letters a reading holds, each counted each time it is reached (what is shared counts as often as it is met; a slice's spare places count too). A statement '..UptoSaid' is the law's where the arguments, and the package variables that the reading takes, are together of bulk at most 1048576: NARROWER than '..Said'. Prove '..Said' where nothing that the law and all that it calls make is longer than what came in: it says more and counts as full. Else prove '..UptoSaid'. A law counts once. -/
mutual
def uptoBulk {H : Type} : DataW H → Nat
  | .lit (.string bytes) => bytes.length + 1
  | .lit _ => 1
  | .nil => 1
  | .ptr d => uptoBulk d + 1
  | .slice elems spare => uptoBulkAll elems + uptoBulkAll spare + 1
  | .agg parts => uptoBulkAll parts + 1
  | .iface _ d => uptoBulk d + 1
  | .map entries => uptoBulkEntries entries + 1
  | .held _ => 1
def uptoBulkAll {H : Type} : List (DataW H) → Nat
  | [] => 0
  | d :: r => uptoBulk d + uptoBulkAll r
def uptoBulkEntries {H : Type} : List (Lit × DataW H) → Nat
  | [] => 0
  | x :: r => uptoBulkEntry x + uptoBulkEntries r
def uptoBulkEntry {H : Type} : Lit × DataW H → Nat
  | (.string bytes, d) => bytes.length + uptoBulk d + 1
  | (_, d) => uptoBulk d + 1
 end
def uptoSmall : (H : Type) → List (DataW H) → Bool := fun _ ds => decide (uptoBulkAll ds ≤ 1048576)
def OpenSpec.upto (s : _root_.Go.ChangeSpec) : _root_.Go.OpenSpec := { _root_.Go.OpenSpec.ofChange s with cond := some uptoSmall }

/-- 'laws.FnExactBlockedTable', WHERE WHAT IT READS IS OF BULK AT MOST 1048576: true; the input reads as it did. -/
def fnExactBlockedTableUptoRow : OpenClaim := { program := "ytmbbcmebdefggaagreatdoor", sum := "0b542a732f0fc9a11124c3e37a4221643edee708c25c3d2e88e7749aab980c58", func := "loop.example/g01228/laws.FnExactBlockedTable", spec := "fnExactBlockedTable", unfollowed := true, recurses := true, named := ["math/bits.deBruijn64tab"], plainKeys := false, apart := false, laid := [("math/bits.deBruijn64tab", laid_math_bits_deBruijn64tab)], narrowed := true }
def FnExactBlockedTableUptoSaid : Prop := fnExactBlockedTableUptoRow.holds Tryz.pinned (OpenSpec.upto fnExactBlockedTableSpec)

/-- 'laws.FnBoundaries', WHERE WHAT IT READS IS OF BULK AT MOST 1048576: true; the input reads as it did. -/
def fnBoundariesUptoRow : OpenClaim := { program := "ytmbbcmebdefggaagreatdoor", sum := "0b542a732f0fc9a11124c3e37a4221643edee708c25c3d2e88e7749aab980c58", func := "loop.example/g01228/laws.FnBoundaries", spec := "fnBoundaries", unfollowed := true, recurses := true, named := ["math/bits.deBruijn64tab"], plainKeys := false, apart := false, laid := [("math/bits.deBruijn64tab", laid_math_bits_deBruijn64tab)], narrowed := true }
def FnBoundariesUptoSaid : Prop := fnBoundariesUptoRow.holds Tryz.pinned (OpenSpec.upto fnBoundariesSpec)

/-- 'laws.FnExactKnotGenus', WHERE WHAT IT READS IS OF BULK AT MOST 1048576: true; the input reads as it did. -/
def fnExactKnotGenusUptoRow : OpenClaim := { program := "ytmbbcmebdefggaagreatdoor", sum := "0b542a732f0fc9a11124c3e37a4221643edee708c25c3d2e88e7749aab980c58", func := "loop.example/g01228/laws.FnExactKnotGenus", spec := "fnExactKnotGenus", unfollowed := true, recurses := true, named := ["math/bits.deBruijn64tab"], plainKeys := false, apart := false, laid := [("math/bits.deBruijn64tab", laid_math_bits_deBruijn64tab)], narrowed := true }
def FnExactKnotGenusUptoSaid : Prop := fnExactKnotGenusUptoRow.holds Tryz.pinned (OpenSpec.upto fnExactKnotGenusSpec)

/-- 'laws.FnExactIsUnknot', WHERE WHAT IT READS IS OF BULK AT MOST 1048576: true; the input reads as it did. -/
def fnExactIsUnknotUptoRow : OpenClaim := { program := "ytmbbcmebdefggaagreatdoor", sum := "0b542a732f0fc9a11124c3e37a4221643edee708c25c3d2e88e7749aab980c58", func := "loop.example/g01228/laws.FnExactIsUnknot", spec := "fnExactIsUnknot", unfollowed := true, recurses := true, named := ["math/bits.deBruijn64tab"], plainKeys := false, apart := false, laid := [("math/bits.deBruijn64tab", laid_math_bits_deBruijn64tab)], narrowed := true }
def FnExactIsUnknotUptoSaid : Prop := fnExactIsUnknotUptoRow.holds Tryz.pinned (OpenSpec.upto fnExactIsUnknotSpec)

/-- 'laws.FnExactIsFibred', WHERE WHAT IT READS IS OF BULK AT MOST 1048576: true; the input reads as it did. -/
def fnExactIsFibredUptoRow : OpenClaim := { program := "ytmbbcmebdefggaagreatdoor", sum := "0b542a732f0fc9a11124c3e37a4221643edee708c25c3d2e88e7749aab980c58", func := "loop.example/g01228/laws.FnExactIsFibred", spec := "fnExactIsFibred", unfollowed := true, recurses := true, named := ["math/bits.deBruijn64tab"], plainKeys := false, apart := false, laid := [("math/bits.deBruijn64tab", laid_math_bits_deBruijn64tab)], narrowed := true }
def FnExactIsFibredUptoSaid : Prop := fnExactIsFibredUptoRow.holds Tryz.pinned (OpenSpec.upto fnExactIsFibredSpec)

/-- 'laws.FnExactDividedTable', WHERE WHAT IT READS IS OF BULK AT MOST 1048576: true; the input reads as it did. -/
def fnExactDividedTableUptoRow : OpenClaim := { program := "ytmbbcmebdefggaagreatdoor", sum := "0b542a732f0fc9a11124c3e37a4221643edee708c25c3d2e88e7749aab980c58", func := "loop.example/g01228/laws.FnExactDividedTable", spec := "fnExactDividedTable", unfollowed := true, recurses := true, named := ["math/bits.deBruijn64tab"], plainKeys := false, apart := false, laid := [("math/bits.deBruijn64tab", laid_math_bits_deBruijn64tab)], narrowed := true }
def FnExactDividedTableUptoSaid : Prop := fnExactDividedTableUptoRow.holds Tryz.pinned (OpenSpec.upto fnExactDividedTableSpec)

/-- 'laws.FnExactEulerPolynomial', WHERE WHAT IT READS IS OF BULK AT MOST 1048576: true; the input reads as it did. -/
def fnExactEulerPolynomialUptoRow : OpenClaim := { program := "ytmbbcmebdefggaagreatdoor", sum := "0b542a732f0fc9a11124c3e37a4221643edee708c25c3d2e88e7749aab980c58", func := "loop.example/g01228/laws.FnExactEulerPolynomial", spec := "fnExactEulerPolynomial", unfollowed := true, recurses := true, named := ["math/bits.deBruijn64tab"], plainKeys := false, apart := false, laid := [("math/bits.deBruijn64tab", laid_math_bits_deBruijn64tab)], narrowed := true }
def FnExactEulerPolynomialUptoSaid : Prop := fnExactEulerPolynomialUptoRow.holds Tryz.pinned (OpenSpec.upto fnExactEulerPolynomialSpec)

/-- 'laws.FnExactDiagonalsOf', WHERE WHAT IT READS IS OF BULK AT MOST 1048576: true; the input reads as it did. -/
def fnExactDiagonalsOfUptoRow : OpenClaim := { program := "ytmbbcmebdefggaagreatdoor", sum := "0b542a732f0fc9a11124c3e37a4221643edee708c25c3d2e88e7749aab980c58", func := "loop.example/g01228/laws.FnExactDiagonalsOf", spec := "fnExactDiagonalsOf", unfollowed := true, recurses := true, named := ["math/bits.deBruijn64tab"], plainKeys := false, apart := false, laid := [("math/bits.deBruijn64tab", laid_math_bits_deBruijn64tab)], narrowed := true }
def FnExactDiagonalsOfUptoSaid : Prop := fnExactDiagonalsOfUptoRow.holds Tryz.pinned (OpenSpec.upto fnExactDiagonalsOfSpec)

end Rows
end Go.Proofs.YtmbbcmebdefggaaGreatDoor
