/-
  No cell of these rows narrows 'for every input' (looked for: loops, veiled, ifaces, maps, wideKeys, modest, calm, conditions, laid).
  DERIVED. THE GIVEN ROWS OF THIS SEAT. 12 by the template 'for every input the law returns true; each argument reads behind the call as it read before'; 0 by the template 'total and deterministic' (their statements: YtjniaobboclniabTotals.lean).
  GIVEN WITH THE SEED: the statements are not yours to turn. If you find one false, say at which input.
  Laid BY PROGRAM, IN A SANDBOX (cutbox-rows.mjs): the forced cells as the released guide's own fill.sh prints them over the translation 331b934483ffbc9b… (all of the seat's roots in one cut). By AI agents, Wed Nov 11 2026. No macro, syntax, notation, axiom, sorry.
-/
import Derived.Test.YtjniaobboclniabChecked
import GoSem.Claim
import GoSem.ClaimJoined
import GoSem.ClaimMapViews
import Derived.JoinedTies
import Derived.KernelRfl
namespace Go.Proofs.Ytjniaobboclniab
/- THE CELL 'sum', in the pinned program and in every row, IS THE sha256 OF THE DUMP (.gsa) THAT YtjniaobboclniabProg.lean LOADS. Nothing in Lean hashes anything: it is a label: what it is worth is what the hold of that sum in a sandbox is worth. -/
noncomputable def Try.pinned : Pinned := { name := "ytjniaobboclniab", sum := "331b934483ffbc9b31972f6a35ca1ba3eaca4a598884dccdf9dc249fbfe52e4b", checked := Try.checked }
namespace Rows
def none {H : Type} : Left H := { results := [], args := [] }

/-- 'laws.FnExactMulBlocks': WHATEVER THE INPUT: true; the input reads as it did. -/
def fnExactMulBlocksSpec : ChangeSpec := { name := "fnExactMulBlocks", fn := fun _ => fun
  | [d1, d2, d3] => { results := [.lit (.bool true)], args := [d1, d2, d3] }
  | _ => none }
def fnExactMulBlocksRow : OpenClaim := { program := "ytjniaobboclniab", sum := "331b934483ffbc9b31972f6a35ca1ba3eaca4a598884dccdf9dc249fbfe52e4b", func := "loop.example/g01327/laws.FnExactMulBlocks", spec := "fnExactMulBlocks", inPlace := ["math.Float64bits", "math.Float64frombits"], unfollowed := true, recurses := true, apart := false }
def FnExactMulBlocksSaid : Prop := fnExactMulBlocksRow.holds Try.pinned (OpenSpec.ofChange fnExactMulBlocksSpec)

/-- ITS FALSE NEIGHBOUR: 'it returns false'. Refute it at one input. -/
def fnExactMulBlocksWrong : ChangeSpec := { name := "fnExactMulBlocks", fn := fun _ => fun
  | [d1, d2, d3] => { results := [.lit (.bool false)], args := [d1, d2, d3] }
  | _ => none }
def FnExactMulBlocksWrongFalsely : Prop := fnExactMulBlocksRow.holds Try.pinned (OpenSpec.ofChange fnExactMulBlocksWrong)

/-- 'laws.FnExactThirdsSolve': WHATEVER THE INPUT: true; the input reads as it did. -/
def fnExactThirdsSolveSpec : ChangeSpec := { name := "fnExactThirdsSolve", fn := fun _ => fun
  | [d1, d2] => { results := [.lit (.bool true)], args := [d1, d2] }
  | _ => none }
def fnExactThirdsSolveRow : OpenClaim := { program := "ytjniaobboclniab", sum := "331b934483ffbc9b31972f6a35ca1ba3eaca4a598884dccdf9dc249fbfe52e4b", func := "loop.example/g01327/laws.FnExactThirdsSolve", spec := "fnExactThirdsSolve", inPlace := ["math.Float64bits", "math.Float64frombits"], unfollowed := true, recurses := true, apart := false }
def FnExactThirdsSolveSaid : Prop := fnExactThirdsSolveRow.holds Try.pinned (OpenSpec.ofChange fnExactThirdsSolveSpec)

/-- ITS FALSE NEIGHBOUR: 'it returns false'. Refute it at one input. -/
def fnExactThirdsSolveWrong : ChangeSpec := { name := "fnExactThirdsSolve", fn := fun _ => fun
  | [d1, d2] => { results := [.lit (.bool false)], args := [d1, d2] }
  | _ => none }
def FnExactThirdsSolveWrongFalsely : Prop := fnExactThirdsSolveRow.holds Try.pinned (OpenSpec.ofChange fnExactThirdsSolveWrong)

/-- 'laws.FnShort': WHATEVER THE INPUT: true; the input reads as it did. -/
def fnShortSpec : ChangeSpec := { name := "fnShort", fn := fun _ => fun
  | [d1, d2] => { results := [.lit (.bool true)], args := [d1, d2] }
  | _ => none }
def fnShortRow : OpenClaim := { program := "ytjniaobboclniab", sum := "331b934483ffbc9b31972f6a35ca1ba3eaca4a598884dccdf9dc249fbfe52e4b", func := "loop.example/g01327/laws.FnShort", spec := "fnShort", inPlace := ["math.archFloor", "math.Float64bits", "math.Float64frombits", "math.archTrunc"], unfollowed := true, recurses := true, apart := false }
def FnShortSaid : Prop := fnShortRow.holds Try.pinned (OpenSpec.ofChange fnShortSpec)

/-- ITS FALSE NEIGHBOUR: 'it returns false'. Refute it at one input. -/
def fnShortWrong : ChangeSpec := { name := "fnShort", fn := fun _ => fun
  | [d1, d2] => { results := [.lit (.bool false)], args := [d1, d2] }
  | _ => none }
def FnShortWrongFalsely : Prop := fnShortRow.holds Try.pinned (OpenSpec.ofChange fnShortWrong)

/-- 'laws.FnExactAdjointOf': WHATEVER THE INPUT: true; the input reads as it did. -/
def fnExactAdjointOfSpec : ChangeSpec := { name := "fnExactAdjointOf", fn := fun _ => fun
  | [d] => { results := [.lit (.bool true)], args := [d] }
  | _ => none }
def fnExactAdjointOfRow : OpenClaim := { program := "ytjniaobboclniab", sum := "331b934483ffbc9b31972f6a35ca1ba3eaca4a598884dccdf9dc249fbfe52e4b", func := "loop.example/g01327/laws.FnExactAdjointOf", spec := "fnExactAdjointOf", unfollowed := true, recurses := true, apart := false }
def FnExactAdjointOfSaid : Prop := fnExactAdjointOfRow.holds Try.pinned (OpenSpec.ofChange fnExactAdjointOfSpec)

/-- ITS FALSE NEIGHBOUR: 'it returns false'. Refute it at one input. -/
def fnExactAdjointOfWrong : ChangeSpec := { name := "fnExactAdjointOf", fn := fun _ => fun
  | [d] => { results := [.lit (.bool false)], args := [d] }
  | _ => none }
def FnExactAdjointOfWrongFalsely : Prop := fnExactAdjointOfRow.holds Try.pinned (OpenSpec.ofChange fnExactAdjointOfWrong)

/-- 'laws.FnExactNormalOf': WHATEVER THE INPUT: true; the input reads as it did. -/
def fnExactNormalOfSpec : ChangeSpec := { name := "fnExactNormalOf", fn := fun _ => fun
  | [d] => { results := [.lit (.bool true)], args := [d] }
  | _ => none }
def fnExactNormalOfRow : OpenClaim := { program := "ytjniaobboclniab", sum := "331b934483ffbc9b31972f6a35ca1ba3eaca4a598884dccdf9dc249fbfe52e4b", func := "loop.example/g01327/laws.FnExactNormalOf", spec := "fnExactNormalOf", unfollowed := true, recurses := true, apart := false }
def FnExactNormalOfSaid : Prop := fnExactNormalOfRow.holds Try.pinned (OpenSpec.ofChange fnExactNormalOfSpec)

/-- ITS FALSE NEIGHBOUR: 'it returns false'. Refute it at one input. -/
def fnExactNormalOfWrong : ChangeSpec := { name := "fnExactNormalOf", fn := fun _ => fun
  | [d] => { results := [.lit (.bool false)], args := [d] }
  | _ => none }
def FnExactNormalOfWrongFalsely : Prop := fnExactNormalOfRow.holds Try.pinned (OpenSpec.ofChange fnExactNormalOfWrong)

/-- 'laws.FnExactTurnOf': WHATEVER THE INPUT: true; the input reads as it did. -/
def fnExactTurnOfSpec : ChangeSpec := { name := "fnExactTurnOf", fn := fun _ => fun
  | [d1, d2, d3] => { results := [.lit (.bool true)], args := [d1, d2, d3] }
  | _ => none }
def fnExactTurnOfRow : OpenClaim := { program := "ytjniaobboclniab", sum := "331b934483ffbc9b31972f6a35ca1ba3eaca4a598884dccdf9dc249fbfe52e4b", func := "loop.example/g01327/laws.FnExactTurnOf", spec := "fnExactTurnOf", inPlace := ["math.sqrt", "math.Float64bits", "math.Float64frombits"], unfollowed := true, recurses := true, apart := false }
def FnExactTurnOfSaid : Prop := fnExactTurnOfRow.holds Try.pinned (OpenSpec.ofChange fnExactTurnOfSpec)

/-- ITS FALSE NEIGHBOUR: 'it returns false'. Refute it at one input. -/
def fnExactTurnOfWrong : ChangeSpec := { name := "fnExactTurnOf", fn := fun _ => fun
  | [d1, d2, d3] => { results := [.lit (.bool false)], args := [d1, d2, d3] }
  | _ => none }
def FnExactTurnOfWrongFalsely : Prop := fnExactTurnOfRow.holds Try.pinned (OpenSpec.ofChange fnExactTurnOfWrong)

/-- 'laws.FnExactStoreSheets': WHATEVER THE INPUT: true; the input reads as it did. -/
def fnExactStoreSheetsSpec : ChangeSpec := { name := "fnExactStoreSheets", fn := fun _ => fun
  | [d] => { results := [.lit (.bool true)], args := [d] }
  | _ => none }
def fnExactStoreSheetsRow : OpenClaim := { program := "ytjniaobboclniab", sum := "331b934483ffbc9b31972f6a35ca1ba3eaca4a598884dccdf9dc249fbfe52e4b", func := "loop.example/g01327/laws.FnExactStoreSheets", spec := "fnExactStoreSheets", inPlace := ["math.Float32bits", "math.Float64bits", "math.Float64frombits"], unfollowed := true, recurses := true, apart := false }
def FnExactStoreSheetsSaid : Prop := fnExactStoreSheetsRow.holds Try.pinned (OpenSpec.ofChange fnExactStoreSheetsSpec)

/-- ITS FALSE NEIGHBOUR: 'it returns false'. Refute it at one input. -/
def fnExactStoreSheetsWrong : ChangeSpec := { name := "fnExactStoreSheets", fn := fun _ => fun
  | [d] => { results := [.lit (.bool false)], args := [d] }
  | _ => none }
def FnExactStoreSheetsWrongFalsely : Prop := fnExactStoreSheetsRow.holds Try.pinned (OpenSpec.ofChange fnExactStoreSheetsWrong)

/-- 'laws.FnExactWholeOf': WHATEVER THE INPUT: true; the input reads as it did. -/
def fnExactWholeOfSpec : ChangeSpec := { name := "fnExactWholeOf", fn := fun _ => fun
  | [d1, d2] => { results := [.lit (.bool true)], args := [d1, d2] }
  | _ => none }
def fnExactWholeOfRow : OpenClaim := { program := "ytjniaobboclniab", sum := "331b934483ffbc9b31972f6a35ca1ba3eaca4a598884dccdf9dc249fbfe52e4b", func := "loop.example/g01327/laws.FnExactWholeOf", spec := "fnExactWholeOf", inPlace := ["math.archFloor", "math.Float64bits", "math.Float64frombits", "math.archTrunc"], unfollowed := true, recurses := true, apart := false }
def FnExactWholeOfSaid : Prop := fnExactWholeOfRow.holds Try.pinned (OpenSpec.ofChange fnExactWholeOfSpec)

/-- ITS FALSE NEIGHBOUR: 'it returns false'. Refute it at one input. -/
def fnExactWholeOfWrong : ChangeSpec := { name := "fnExactWholeOf", fn := fun _ => fun
  | [d1, d2] => { results := [.lit (.bool false)], args := [d1, d2] }
  | _ => none }
def FnExactWholeOfWrongFalsely : Prop := fnExactWholeOfRow.holds Try.pinned (OpenSpec.ofChange fnExactWholeOfWrong)

/-- 'laws.FnExactSolveOver': WHATEVER THE INPUT: true; the input reads as it did. -/
def fnExactSolveOverSpec : ChangeSpec := { name := "fnExactSolveOver", fn := fun _ => fun
  | [d1, d2, d3] => { results := [.lit (.bool true)], args := [d1, d2, d3] }
  | _ => none }
def fnExactSolveOverRow : OpenClaim := { program := "ytjniaobboclniab", sum := "331b934483ffbc9b31972f6a35ca1ba3eaca4a598884dccdf9dc249fbfe52e4b", func := "loop.example/g01327/laws.FnExactSolveOver", spec := "fnExactSolveOver", unfollowed := true, recurses := true, apart := false }
def FnExactSolveOverSaid : Prop := fnExactSolveOverRow.holds Try.pinned (OpenSpec.ofChange fnExactSolveOverSpec)

/-- ITS FALSE NEIGHBOUR: 'it returns false'. Refute it at one input. -/
def fnExactSolveOverWrong : ChangeSpec := { name := "fnExactSolveOver", fn := fun _ => fun
  | [d1, d2, d3] => { results := [.lit (.bool false)], args := [d1, d2, d3] }
  | _ => none }
def FnExactSolveOverWrongFalsely : Prop := fnExactSolveOverRow.holds Try.pinned (OpenSpec.ofChange fnExactSolveOverWrong)

/-- 'laws.FnExactRootOfSquare': WHATEVER THE INPUT: true; the input reads as it did. -/
def fnExactRootOfSquareSpec : ChangeSpec := { name := "fnExactRootOfSquare", fn := fun _ => fun
  | [d] => { results := [.lit (.bool true)], args := [d] }
  | _ => none }
def fnExactRootOfSquareRow : OpenClaim := { program := "ytjniaobboclniab", sum := "331b934483ffbc9b31972f6a35ca1ba3eaca4a598884dccdf9dc249fbfe52e4b", func := "loop.example/g01327/laws.FnExactRootOfSquare", spec := "fnExactRootOfSquare", inPlace := ["math.sqrt", "math.Float64bits", "math.Float64frombits"], unfollowed := true, recurses := true, apart := false }
def FnExactRootOfSquareSaid : Prop := fnExactRootOfSquareRow.holds Try.pinned (OpenSpec.ofChange fnExactRootOfSquareSpec)

/-- ITS FALSE NEIGHBOUR: 'it returns false'. Refute it at one input. -/
def fnExactRootOfSquareWrong : ChangeSpec := { name := "fnExactRootOfSquare", fn := fun _ => fun
  | [d] => { results := [.lit (.bool false)], args := [d] }
  | _ => none }
def FnExactRootOfSquareWrongFalsely : Prop := fnExactRootOfSquareRow.holds Try.pinned (OpenSpec.ofChange fnExactRootOfSquareWrong)

/-- 'laws.FnExactLoadSheet': WHATEVER THE INPUT: true; the input reads as it did. -/
def fnExactLoadSheetSpec : ChangeSpec := { name := "fnExactLoadSheet", fn := fun _ => fun
  | [d] => { results := [.lit (.bool true)], args := [d] }
  | _ => none }
def fnExactLoadSheetRow : OpenClaim := { program := "ytjniaobboclniab", sum := "331b934483ffbc9b31972f6a35ca1ba3eaca4a598884dccdf9dc249fbfe52e4b", func := "loop.example/g01327/laws.FnExactLoadSheet", spec := "fnExactLoadSheet", inPlace := ["math.Float32frombits", "math.Float32bits", "math.Float64bits", "math.Float64frombits"], unfollowed := true, recurses := true, apart := false }
def FnExactLoadSheetSaid : Prop := fnExactLoadSheetRow.holds Try.pinned (OpenSpec.ofChange fnExactLoadSheetSpec)

/-- ITS FALSE NEIGHBOUR: 'it returns false'. Refute it at one input. -/
def fnExactLoadSheetWrong : ChangeSpec := { name := "fnExactLoadSheet", fn := fun _ => fun
  | [d] => { results := [.lit (.bool false)], args := [d] }
  | _ => none }
def FnExactLoadSheetWrongFalsely : Prop := fnExactLoadSheetRow.holds Try.pinned (OpenSpec.ofChange fnExactLoadSheetWrong)

/-- 'laws.FnExactSparseTimes': WHATEVER THE INPUT: true; the input reads as it did. -/
def fnExactSparseTimesSpec : ChangeSpec := { name := "fnExactSparseTimes", fn := fun _ => fun
  | [d1, d2] => { results := [.lit (.bool true)], args := [d1, d2] }
  | _ => none }
def fnExactSparseTimesRow : OpenClaim := { program := "ytjniaobboclniab", sum := "331b934483ffbc9b31972f6a35ca1ba3eaca4a598884dccdf9dc249fbfe52e4b", func := "loop.example/g01327/laws.FnExactSparseTimes", spec := "fnExactSparseTimes", inPlace := ["math.Float64bits", "math.Float64frombits"], unfollowed := true, recurses := true, apart := false }
def FnExactSparseTimesSaid : Prop := fnExactSparseTimesRow.holds Try.pinned (OpenSpec.ofChange fnExactSparseTimesSpec)

/-- ITS FALSE NEIGHBOUR: 'it returns false'. Refute it at one input. -/
def fnExactSparseTimesWrong : ChangeSpec := { name := "fnExactSparseTimes", fn := fun _ => fun
  | [d1, d2] => { results := [.lit (.bool false)], args := [d1, d2] }
  | _ => none }
def FnExactSparseTimesWrongFalsely : Prop := fnExactSparseTimesRow.holds Try.pinned (OpenSpec.ofChange fnExactSparseTimesWrong)

/- THE SECOND FORM. 'bulk': how many values and letters a reading holds, each counted each time it is reached (what is shared counts as often as it is met; a slice's spare places count too). A statement '..UptoSaid' is the law's where the arguments, and the package variables that the reading takes, are together of bulk at most 1048576: NARROWER than '..Said'. Prove '..Said' where nothing that the law and all that it calls make is longer than what came in: it says more and counts as full. Else prove '..UptoSaid'. A law counts once. -/
mutual
def uptoBulk {H : Type} : DataW H → Nat
  | .lit (.string bytes) => bytes.length + 1
  | .lit _ => 1
  | .nil => 1
  | .ptr d => uptoBulk d + 1
  | .slice elems spare => uptoBulkAll elems + uptoBulkAll spare + 1
  | .agg parts => uptoBulkAll parts + 1
  | .iface _ d => uptoBulk d + 1
  | .map entries => uptoBulkEntries entries + 1
  | .held _ => 1
def uptoBulkAll {H : Type} : List (DataW H) → Nat
  | [] => 0
  | d :: r => uptoBulk d + uptoBulkAll r
def uptoBulkEntries {H : Type} : List (Lit × DataW H) → Nat
  | [] => 0
  | x :: r => uptoBulkEntry x + uptoBulkEntries r
def uptoBulkEntry {H : Type} : Lit × DataW H → Nat
  | (.string bytes, d) => bytes.length + uptoBulk d + 1
  | (_, d) => uptoBulk d + 1
 end
def uptoSmall : (H : Type) → List (DataW H) → Bool := fun _ ds => decide (uptoBulkAll ds ≤ 1048576)
def OpenSpec.upto (s : _root_.Go.ChangeSpec) : _root_.Go.OpenSpec := { _root_.Go.OpenSpec.ofChange s with cond := some uptoSmall }

/-- 'laws.FnExactMulBlocks', WHERE WHAT IT READS IS OF BULK AT MOST 1048576: true; the input reads as it did. -/
def fnExactMulBlocksUptoRow : OpenClaim := { program := "ytjniaobboclniab", sum := "331b934483ffbc9b31972f6a35ca1ba3eaca4a598884dccdf9dc249fbfe52e4b", func := "loop.example/g01327/laws.FnExactMulBlocks", spec := "fnExactMulBlocks", inPlace := ["math.Float64bits", "math.Float64frombits"], unfollowed := true, recurses := true, apart := false, narrowed := true }
def FnExactMulBlocksUptoSaid : Prop := fnExactMulBlocksUptoRow.holds Try.pinned (OpenSpec.upto fnExactMulBlocksSpec)

/-- 'laws.FnExactThirdsSolve', WHERE WHAT IT READS IS OF BULK AT MOST 1048576: true; the input reads as it did. -/
def fnExactThirdsSolveUptoRow : OpenClaim := { program := "ytjniaobboclniab", sum := "331b934483ffbc9b31972f6a35ca1ba3eaca4a598884dccdf9dc249fbfe52e4b", func := "loop.example/g01327/laws.FnExactThirdsSolve", spec := "fnExactThirdsSolve", inPlace := ["math.Float64bits", "math.Float64frombits"], unfollowed := true, recurses := true, apart := false, narrowed := true }
def FnExactThirdsSolveUptoSaid : Prop := fnExactThirdsSolveUptoRow.holds Try.pinned (OpenSpec.upto fnExactThirdsSolveSpec)

/-- 'laws.FnShort', WHERE WHAT IT READS IS OF BULK AT MOST 1048576: true; the input reads as it did. -/
def fnShortUptoRow : OpenClaim := { program := "ytjniaobboclniab", sum := "331b934483ffbc9b31972f6a35ca1ba3eaca4a598884dccdf9dc249fbfe52e4b", func := "loop.example/g01327/laws.FnShort", spec := "fnShort", inPlace := ["math.archFloor", "math.Float64bits", "math.Float64frombits", "math.archTrunc"], unfollowed := true, recurses := true, apart := false, narrowed := true }
def FnShortUptoSaid : Prop := fnShortUptoRow.holds Try.pinned (OpenSpec.upto fnShortSpec)

/-- 'laws.FnExactAdjointOf', WHERE WHAT IT READS IS OF BULK AT MOST 1048576: true; the input reads as it did. -/
def fnExactAdjointOfUptoRow : OpenClaim := { program := "ytjniaobboclniab", sum := "331b934483ffbc9b31972f6a35ca1ba3eaca4a598884dccdf9dc249fbfe52e4b", func := "loop.example/g01327/laws.FnExactAdjointOf", spec := "fnExactAdjointOf", unfollowed := true, recurses := true, apart := false, narrowed := true }
def FnExactAdjointOfUptoSaid : Prop := fnExactAdjointOfUptoRow.holds Try.pinned (OpenSpec.upto fnExactAdjointOfSpec)

/-- 'laws.FnExactNormalOf', WHERE WHAT IT READS IS OF BULK AT MOST 1048576: true; the input reads as it did. -/
def fnExactNormalOfUptoRow : OpenClaim := { program := "ytjniaobboclniab", sum := "331b934483ffbc9b31972f6a35ca1ba3eaca4a598884dccdf9dc249fbfe52e4b", func := "loop.example/g01327/laws.FnExactNormalOf", spec := "fnExactNormalOf", unfollowed := true, recurses := true, apart := false, narrowed := true }
def FnExactNormalOfUptoSaid : Prop := fnExactNormalOfUptoRow.holds Try.pinned (OpenSpec.upto fnExactNormalOfSpec)

/-- 'laws.FnExactTurnOf', WHERE WHAT IT READS IS OF BULK AT MOST 1048576: true; the input reads as it did. -/
def fnExactTurnOfUptoRow : OpenClaim := { program := "ytjniaobboclniab", sum := "331b934483ffbc9b31972f6a35ca1ba3eaca4a598884dccdf9dc249fbfe52e4b", func := "loop.example/g01327/laws.FnExactTurnOf", spec := "fnExactTurnOf", inPlace := ["math.sqrt", "math.Float64bits", "math.Float64frombits"], unfollowed := true, recurses := true, apart := false, narrowed := true }
def FnExactTurnOfUptoSaid : Prop := fnExactTurnOfUptoRow.holds Try.pinned (OpenSpec.upto fnExactTurnOfSpec)

/-- 'laws.FnExactStoreSheets', WHERE WHAT IT READS IS OF BULK AT MOST 1048576: true; the input reads as it did. -/
def fnExactStoreSheetsUptoRow : OpenClaim := { program := "ytjniaobboclniab", sum := "331b934483ffbc9b31972f6a35ca1ba3eaca4a598884dccdf9dc249fbfe52e4b", func := "loop.example/g01327/laws.FnExactStoreSheets", spec := "fnExactStoreSheets", inPlace := ["math.Float32bits", "math.Float64bits", "math.Float64frombits"], unfollowed := true, recurses := true, apart := false, narrowed := true }
def FnExactStoreSheetsUptoSaid : Prop := fnExactStoreSheetsUptoRow.holds Try.pinned (OpenSpec.upto fnExactStoreSheetsSpec)

/-- 'laws.FnExactWholeOf', WHERE WHAT IT READS IS OF BULK AT MOST 1048576: true; the input reads as it did. -/
def fnExactWholeOfUptoRow : OpenClaim := { program := "ytjniaobboclniab", sum := "331b934483ffbc9b31972f6a35ca1ba3eaca4a598884dccdf9dc249fbfe52e4b", func := "loop.example/g01327/laws.FnExactWholeOf", spec := "fnExactWholeOf", inPlace := ["math.archFloor", "math.Float64bits", "math.Float64frombits", "math.archTrunc"], unfollowed := true, recurses := true, apart := false, narrowed := true }
def FnExactWholeOfUptoSaid : Prop := fnExactWholeOfUptoRow.holds Try.pinned (OpenSpec.upto fnExactWholeOfSpec)

/-- 'laws.FnExactSolveOver', WHERE WHAT IT READS IS OF BULK AT MOST 1048576: true; the input reads as it did. -/
def fnExactSolveOverUptoRow : OpenClaim := { program := "ytjniaobboclniab", sum := "331b934483ffbc9b31972f6a35ca1ba3eaca4a598884dccdf9dc249fbfe52e4b", func := "loop.example/g01327/laws.FnExactSolveOver", spec := "fnExactSolveOver", unfollowed := true, recurses := true, apart := false, narrowed := true }
def FnExactSolveOverUptoSaid : Prop := fnExactSolveOverUptoRow.holds Try.pinned (OpenSpec.upto fnExactSolveOverSpec)

/-- 'laws.FnExactRootOfSquare', WHERE WHAT IT READS IS OF BULK AT MOST 1048576: true; the input reads as it did. -/
def fnExactRootOfSquareUptoRow : OpenClaim := { program := "ytjniaobboclniab", sum := "331b934483ffbc9b31972f6a35ca1ba3eaca4a598884dccdf9dc249fbfe52e4b", func := "loop.example/g01327/laws.FnExactRootOfSquare", spec := "fnExactRootOfSquare", inPlace := ["math.sqrt", "math.Float64bits", "math.Float64frombits"], unfollowed := true, recurses := true, apart := false, narrowed := true }
def FnExactRootOfSquareUptoSaid : Prop := fnExactRootOfSquareUptoRow.holds Try.pinned (OpenSpec.upto fnExactRootOfSquareSpec)

/-- 'laws.FnExactLoadSheet', WHERE WHAT IT READS IS OF BULK AT MOST 1048576: true; the input reads as it did. -/
def fnExactLoadSheetUptoRow : OpenClaim := { program := "ytjniaobboclniab", sum := "331b934483ffbc9b31972f6a35ca1ba3eaca4a598884dccdf9dc249fbfe52e4b", func := "loop.example/g01327/laws.FnExactLoadSheet", spec := "fnExactLoadSheet", inPlace := ["math.Float32frombits", "math.Float32bits", "math.Float64bits", "math.Float64frombits"], unfollowed := true, recurses := true, apart := false, narrowed := true }
def FnExactLoadSheetUptoSaid : Prop := fnExactLoadSheetUptoRow.holds Try.pinned (OpenSpec.upto fnExactLoadSheetSpec)

/-- 'laws.FnExactSparseTimes', WHERE WHAT IT READS IS OF BULK AT MOST 1048576: true; the input reads as it did. -/
def fnExactSparseTimesUptoRow : OpenClaim := { program := "ytjniaobboclniab", sum := "331b934483ffbc9b31972f6a35ca1ba3eaca4a598884dccdf9dc249fbfe52e4b", func := "loop.example/g01327/laws.FnExactSparseTimes", spec := "fnExactSparseTimes", inPlace := ["math.Float64bits", "math.Float64frombits"], unfollowed := true, recurses := true, apart := false, narrowed := true }
def FnExactSparseTimesUptoSaid : Prop := fnExactSparseTimesUptoRow.holds Try.pinned (OpenSpec.upto fnExactSparseTimesSpec)

end Rows
end Go.Proofs.Ytjniaobboclniab
