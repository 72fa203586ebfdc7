/-
  No cell of these rows narrows 'for every input' (looked for: loops, veiled, ifaces, maps, wideKeys, modest, calm, conditions, laid).
  DERIVED. THE GIVEN ROWS OF THIS SEAT. 5 by the template 'for every input the law returns true; each argument reads behind the call as it read before'; 0 by the template 'total and deterministic' (their statements: YtgjmeipmejifgaaTotals.lean).
  GIVEN WITH THE SEED: the statements are not yours to turn. If you find one false, say at which input.
  Laid BY PROGRAM, IN A SANDBOX (cutbox-rows.mjs): the forced cells as the released guide's own fill.sh prints them over the translation 2d6983de88bbf3fb… (all of the seat's roots in one cut). By AI agents, Wed Nov 11 2026. No macro, syntax, notation, axiom, sorry.
-/
import Derived.Test.YtgjmeipmejifgaaChecked
import GoSem.Claim
import GoSem.ClaimJoined
import GoSem.ClaimMapViews
import Derived.JoinedTies
import Derived.KernelRfl
namespace Go.Proofs.Ytgjmeipmejifgaa
/- THE CELL 'sum', in the pinned program and in every row, IS THE sha256 OF THE DUMP (.gsa) THAT YtgjmeipmejifgaaProg.lean LOADS. Nothing in Lean hashes anything: it is a label: what it is worth is what the hold of that sum in a sandbox is worth. -/
noncomputable def Try.pinned : Pinned := { name := "ytgjmeipmejifgaa", sum := "2d6983de88bbf3fb10d83850997a51f3173834609d05e80eb1ab69dca518dd24", checked := Try.checked }
namespace Rows
def none {H : Type} : Left H := { results := [], args := [] }

/-- 'laws.FnExactGridOfMosaic': WHATEVER THE INPUT: true; the input reads as it did. -/
def fnExactGridOfMosaicSpec : ChangeSpec := { name := "fnExactGridOfMosaic", fn := fun _ => fun
  | [d] => { results := [.lit (.bool true)], args := [d] }
  | _ => none }
def fnExactGridOfMosaicRow : OpenClaim := { program := "ytgjmeipmejifgaa", sum := "2d6983de88bbf3fb10d83850997a51f3173834609d05e80eb1ab69dca518dd24", func := "loop.example/g01228/laws.FnExactGridOfMosaic", spec := "fnExactGridOfMosaic", unfollowed := true, recurses := true, apart := false }
def FnExactGridOfMosaicSaid : Prop := fnExactGridOfMosaicRow.holds Try.pinned (OpenSpec.ofChange fnExactGridOfMosaicSpec)

/-- ITS FALSE NEIGHBOUR: 'it returns false'. Refute it at one input. -/
def fnExactGridOfMosaicWrong : ChangeSpec := { name := "fnExactGridOfMosaic", fn := fun _ => fun
  | [d] => { results := [.lit (.bool false)], args := [d] }
  | _ => none }
def FnExactGridOfMosaicWrongFalsely : Prop := fnExactGridOfMosaicRow.holds Try.pinned (OpenSpec.ofChange fnExactGridOfMosaicWrong)

/-- 'laws.FnBraids': WHATEVER THE INPUT: true; the input reads as it did. -/
def fnBraidsSpec : ChangeSpec := { name := "fnBraids", fn := fun _ => fun
  | [d] => { results := [.lit (.bool true)], args := [d] }
  | _ => none }
def fnBraidsRow : OpenClaim := { program := "ytgjmeipmejifgaa", sum := "2d6983de88bbf3fb10d83850997a51f3173834609d05e80eb1ab69dca518dd24", func := "loop.example/g01228/laws.FnBraids", spec := "fnBraids", unfollowed := true, recurses := true, apart := false }
def FnBraidsSaid : Prop := fnBraidsRow.holds Try.pinned (OpenSpec.ofChange fnBraidsSpec)

/-- ITS FALSE NEIGHBOUR: 'it returns false'. Refute it at one input. -/
def fnBraidsWrong : ChangeSpec := { name := "fnBraids", fn := fun _ => fun
  | [d] => { results := [.lit (.bool false)], args := [d] }
  | _ => none }
def FnBraidsWrongFalsely : Prop := fnBraidsRow.holds Try.pinned (OpenSpec.ofChange fnBraidsWrong)

/-- 'laws.FnMosaics': WHATEVER THE INPUT: true; the input reads as it did. -/
def fnMosaicsSpec : ChangeSpec := { name := "fnMosaics", fn := fun _ => fun
  | [d] => { results := [.lit (.bool true)], args := [d] }
  | _ => none }
def fnMosaicsRow : OpenClaim := { program := "ytgjmeipmejifgaa", sum := "2d6983de88bbf3fb10d83850997a51f3173834609d05e80eb1ab69dca518dd24", func := "loop.example/g01228/laws.FnMosaics", spec := "fnMosaics", unfollowed := true, recurses := true, apart := false }
def FnMosaicsSaid : Prop := fnMosaicsRow.holds Try.pinned (OpenSpec.ofChange fnMosaicsSpec)

/-- ITS FALSE NEIGHBOUR: 'it returns false'. Refute it at one input. -/
def fnMosaicsWrong : ChangeSpec := { name := "fnMosaics", fn := fun _ => fun
  | [d] => { results := [.lit (.bool false)], args := [d] }
  | _ => none }
def FnMosaicsWrongFalsely : Prop := fnMosaicsRow.holds Try.pinned (OpenSpec.ofChange fnMosaicsWrong)

/-- 'laws.FnExactAllGrids': WHATEVER THE INPUT: true; the input reads as it did. -/
def fnExactAllGridsSpec : ChangeSpec := { name := "fnExactAllGrids", fn := fun _ => fun
  | [d] => { results := [.lit (.bool true)], args := [d] }
  | _ => none }
def fnExactAllGridsRow : OpenClaim := { program := "ytgjmeipmejifgaa", sum := "2d6983de88bbf3fb10d83850997a51f3173834609d05e80eb1ab69dca518dd24", func := "loop.example/g01228/laws.FnExactAllGrids", spec := "fnExactAllGrids", unfollowed := true, recurses := true, apart := false }
def FnExactAllGridsSaid : Prop := fnExactAllGridsRow.holds Try.pinned (OpenSpec.ofChange fnExactAllGridsSpec)

/-- ITS FALSE NEIGHBOUR: 'it returns false'. Refute it at one input. -/
def fnExactAllGridsWrong : ChangeSpec := { name := "fnExactAllGrids", fn := fun _ => fun
  | [d] => { results := [.lit (.bool false)], args := [d] }
  | _ => none }
def FnExactAllGridsWrongFalsely : Prop := fnExactAllGridsRow.holds Try.pinned (OpenSpec.ofChange fnExactAllGridsWrong)

/-- 'laws.FnExactCountKnotsAmong': WHATEVER THE INPUT: true; the input reads as it did. -/
def fnExactCountKnotsAmongSpec : ChangeSpec := { name := "fnExactCountKnotsAmong", fn := fun _ => fun
  | [d] => { results := [.lit (.bool true)], args := [d] }
  | _ => none }
def fnExactCountKnotsAmongRow : OpenClaim := { program := "ytgjmeipmejifgaa", sum := "2d6983de88bbf3fb10d83850997a51f3173834609d05e80eb1ab69dca518dd24", func := "loop.example/g01228/laws.FnExactCountKnotsAmong", spec := "fnExactCountKnotsAmong", unfollowed := true, recurses := true, apart := false }
def FnExactCountKnotsAmongSaid : Prop := fnExactCountKnotsAmongRow.holds Try.pinned (OpenSpec.ofChange fnExactCountKnotsAmongSpec)

/-- ITS FALSE NEIGHBOUR: 'it returns false'. Refute it at one input. -/
def fnExactCountKnotsAmongWrong : ChangeSpec := { name := "fnExactCountKnotsAmong", fn := fun _ => fun
  | [d] => { results := [.lit (.bool false)], args := [d] }
  | _ => none }
def FnExactCountKnotsAmongWrongFalsely : Prop := fnExactCountKnotsAmongRow.holds Try.pinned (OpenSpec.ofChange fnExactCountKnotsAmongWrong)

/- THE SECOND FORM. 'bulk': how many values and letters a reading holds, each counted each time it is reached (what is shared counts as often as it is met; a slice's spare places count too). A statement '..UptoSaid' is the law's where the arguments, and the package variables that the reading takes, are together of bulk at most 1048576: NARROWER than '..Said'. Prove '..Said' where nothing that the law and all that it calls make is longer than what came in: it says more and counts as full. Else prove '..UptoSaid'. A law counts once. -/
mutual
def uptoBulk {H : Type} : DataW H → Nat
  | .lit (.string bytes) => bytes.length + 1
  | .lit _ => 1
  | .nil => 1
  | .ptr d => uptoBulk d + 1
  | .slice elems spare => uptoBulkAll elems + uptoBulkAll spare + 1
  | .agg parts => uptoBulkAll parts + 1
  | .iface _ d => uptoBulk d + 1
  | .map entries => uptoBulkEntries entries + 1
  | .held _ => 1
def uptoBulkAll {H : Type} : List (DataW H) → Nat
  | [] => 0
  | d :: r => uptoBulk d + uptoBulkAll r
def uptoBulkEntries {H : Type} : List (Lit × DataW H) → Nat
  | [] => 0
  | x :: r => uptoBulkEntry x + uptoBulkEntries r
def uptoBulkEntry {H : Type} : Lit × DataW H → Nat
  | (.string bytes, d) => bytes.length + uptoBulk d + 1
  | (_, d) => uptoBulk d + 1
 end
def uptoSmall : (H : Type) → List (DataW H) → Bool := fun _ ds => decide (uptoBulkAll ds ≤ 1048576)
def OpenSpec.upto (s : _root_.Go.ChangeSpec) : _root_.Go.OpenSpec := { _root_.Go.OpenSpec.ofChange s with cond := some uptoSmall }

/-- 'laws.FnExactGridOfMosaic', WHERE WHAT IT READS IS OF BULK AT MOST 1048576: true; the input reads as it did. -/
def fnExactGridOfMosaicUptoRow : OpenClaim := { program := "ytgjmeipmejifgaa", sum := "2d6983de88bbf3fb10d83850997a51f3173834609d05e80eb1ab69dca518dd24", func := "loop.example/g01228/laws.FnExactGridOfMosaic", spec := "fnExactGridOfMosaic", unfollowed := true, recurses := true, apart := false, narrowed := true }
def FnExactGridOfMosaicUptoSaid : Prop := fnExactGridOfMosaicUptoRow.holds Try.pinned (OpenSpec.upto fnExactGridOfMosaicSpec)

/-- 'laws.FnBraids', WHERE WHAT IT READS IS OF BULK AT MOST 1048576: true; the input reads as it did. -/
def fnBraidsUptoRow : OpenClaim := { program := "ytgjmeipmejifgaa", sum := "2d6983de88bbf3fb10d83850997a51f3173834609d05e80eb1ab69dca518dd24", func := "loop.example/g01228/laws.FnBraids", spec := "fnBraids", unfollowed := true, recurses := true, apart := false, narrowed := true }
def FnBraidsUptoSaid : Prop := fnBraidsUptoRow.holds Try.pinned (OpenSpec.upto fnBraidsSpec)

/-- 'laws.FnMosaics', WHERE WHAT IT READS IS OF BULK AT MOST 1048576: true; the input reads as it did. -/
def fnMosaicsUptoRow : OpenClaim := { program := "ytgjmeipmejifgaa", sum := "2d6983de88bbf3fb10d83850997a51f3173834609d05e80eb1ab69dca518dd24", func := "loop.example/g01228/laws.FnMosaics", spec := "fnMosaics", unfollowed := true, recurses := true, apart := false, narrowed := true }
def FnMosaicsUptoSaid : Prop := fnMosaicsUptoRow.holds Try.pinned (OpenSpec.upto fnMosaicsSpec)

/-- 'laws.FnExactAllGrids', WHERE WHAT IT READS IS OF BULK AT MOST 1048576: true; the input reads as it did. -/
def fnExactAllGridsUptoRow : OpenClaim := { program := "ytgjmeipmejifgaa", sum := "2d6983de88bbf3fb10d83850997a51f3173834609d05e80eb1ab69dca518dd24", func := "loop.example/g01228/laws.FnExactAllGrids", spec := "fnExactAllGrids", unfollowed := true, recurses := true, apart := false, narrowed := true }
def FnExactAllGridsUptoSaid : Prop := fnExactAllGridsUptoRow.holds Try.pinned (OpenSpec.upto fnExactAllGridsSpec)

/-- 'laws.FnExactCountKnotsAmong', WHERE WHAT IT READS IS OF BULK AT MOST 1048576: true; the input reads as it did. -/
def fnExactCountKnotsAmongUptoRow : OpenClaim := { program := "ytgjmeipmejifgaa", sum := "2d6983de88bbf3fb10d83850997a51f3173834609d05e80eb1ab69dca518dd24", func := "loop.example/g01228/laws.FnExactCountKnotsAmong", spec := "fnExactCountKnotsAmong", unfollowed := true, recurses := true, apart := false, narrowed := true }
def FnExactCountKnotsAmongUptoSaid : Prop := fnExactCountKnotsAmongUptoRow.holds Try.pinned (OpenSpec.upto fnExactCountKnotsAmongSpec)

end Rows
end Go.Proofs.Ytgjmeipmejifgaa
