/-
  No cell of these rows narrows 'for every input' (looked for: loops, veiled, ifaces, maps, wideKeys, modest, calm, conditions, laid).
  DERIVED. THE GIVEN ROWS OF THIS SEAT. 12 by the template 'for every input the law returns true; each argument reads behind the call as it read before'; 0 by the template 'total and deterministic' (their statements: YtooakheodgndaaaTotals.lean).
  GIVEN WITH THE SEED: the statements are not yours to turn. If you find one false, say at which input.
  Laid BY PROGRAM, IN A SANDBOX (cutbox-rows.mjs): the forced cells as the released guide's own fill.sh prints them over the translation 3ffbeec522bf6bc3… (all of the seat's roots in one cut). By AI agents, Wed Nov 11 2026. No macro, syntax, notation, axiom, sorry.
-/
import Derived.Test.YtooakheodgndaaaChecked
import GoSem.Claim
import GoSem.ClaimJoined
import GoSem.ClaimMapViews
import Derived.JoinedTies
import Derived.KernelRfl
namespace Go.Proofs.Ytooakheodgndaaa
/- THE CELL 'sum', in the pinned program and in every row, IS THE sha256 OF THE DUMP (.gsa) THAT YtooakheodgndaaaProg.lean LOADS. Nothing in Lean hashes anything: it is a label: what it is worth is what the hold of that sum in a sandbox is worth. -/
noncomputable def Try.pinned : Pinned := { name := "ytooakheodgndaaa", sum := "3ffbeec522bf6bc38ffac238c980dbc5a4d9c5b5a249903d129fbb73d0e70076", checked := Try.checked }
namespace Rows
def none {H : Type} : Left H := { results := [], args := [] }

/-- 'laws.FnExactMiddleFactor': WHATEVER THE INPUT: true; the input reads as it did. -/
def fnExactMiddleFactorSpec : ChangeSpec := { name := "fnExactMiddleFactor", fn := fun _ => fun
  | [d] => { results := [.lit (.bool true)], args := [d] }
  | _ => none }
def fnExactMiddleFactorRow : OpenClaim := { program := "ytooakheodgndaaa", sum := "3ffbeec522bf6bc38ffac238c980dbc5a4d9c5b5a249903d129fbb73d0e70076", func := "loop.example/g01327/laws.FnExactMiddleFactor", spec := "fnExactMiddleFactor", inPlace := ["math.Float64bits", "math.Float64frombits"], unfollowed := true, recurses := true, apart := false }
def FnExactMiddleFactorSaid : Prop := fnExactMiddleFactorRow.holds Try.pinned (OpenSpec.ofChange fnExactMiddleFactorSpec)

/-- ITS FALSE NEIGHBOUR: 'it returns false'. Refute it at one input. -/
def fnExactMiddleFactorWrong : ChangeSpec := { name := "fnExactMiddleFactor", fn := fun _ => fun
  | [d] => { results := [.lit (.bool false)], args := [d] }
  | _ => none }
def FnExactMiddleFactorWrongFalsely : Prop := fnExactMiddleFactorRow.holds Try.pinned (OpenSpec.ofChange fnExactMiddleFactorWrong)

/-- 'laws.FnExactMulShared': WHATEVER THE INPUT: true; the input reads as it did. -/
def fnExactMulSharedSpec : ChangeSpec := { name := "fnExactMulShared", fn := fun _ => fun
  | [d1, d2, d3] => { results := [.lit (.bool true)], args := [d1, d2, d3] }
  | _ => none }
def fnExactMulSharedRow : OpenClaim := { program := "ytooakheodgndaaa", sum := "3ffbeec522bf6bc38ffac238c980dbc5a4d9c5b5a249903d129fbb73d0e70076", func := "loop.example/g01327/laws.FnExactMulShared", spec := "fnExactMulShared", inPlace := ["math.Float64bits", "math.Float64frombits"], unfollowed := true, recurses := true, apart := false }
def FnExactMulSharedSaid : Prop := fnExactMulSharedRow.holds Try.pinned (OpenSpec.ofChange fnExactMulSharedSpec)

/-- ITS FALSE NEIGHBOUR: 'it returns false'. Refute it at one input. -/
def fnExactMulSharedWrong : ChangeSpec := { name := "fnExactMulShared", fn := fun _ => fun
  | [d1, d2, d3] => { results := [.lit (.bool false)], args := [d1, d2, d3] }
  | _ => none }
def FnExactMulSharedWrongFalsely : Prop := fnExactMulSharedRow.holds Try.pinned (OpenSpec.ofChange fnExactMulSharedWrong)

/-- 'laws.FnExactMulBlocks': WHATEVER THE INPUT: true; the input reads as it did. -/
def fnExactMulBlocksSpec : ChangeSpec := { name := "fnExactMulBlocks", fn := fun _ => fun
  | [d1, d2, d3] => { results := [.lit (.bool true)], args := [d1, d2, d3] }
  | _ => none }
def fnExactMulBlocksRow : OpenClaim := { program := "ytooakheodgndaaa", sum := "3ffbeec522bf6bc38ffac238c980dbc5a4d9c5b5a249903d129fbb73d0e70076", func := "loop.example/g01327/laws.FnExactMulBlocks", spec := "fnExactMulBlocks", inPlace := ["math.Float64bits", "math.Float64frombits"], unfollowed := true, recurses := true, apart := false }
def FnExactMulBlocksSaid : Prop := fnExactMulBlocksRow.holds Try.pinned (OpenSpec.ofChange fnExactMulBlocksSpec)

/-- ITS FALSE NEIGHBOUR: 'it returns false'. Refute it at one input. -/
def fnExactMulBlocksWrong : ChangeSpec := { name := "fnExactMulBlocks", fn := fun _ => fun
  | [d1, d2, d3] => { results := [.lit (.bool false)], args := [d1, d2, d3] }
  | _ => none }
def FnExactMulBlocksWrongFalsely : Prop := fnExactMulBlocksRow.holds Try.pinned (OpenSpec.ofChange fnExactMulBlocksWrong)

/-- 'laws.FnExactTurnOf': WHATEVER THE INPUT: true; the input reads as it did. -/
def fnExactTurnOfSpec : ChangeSpec := { name := "fnExactTurnOf", fn := fun _ => fun
  | [d1, d2, d3] => { results := [.lit (.bool true)], args := [d1, d2, d3] }
  | _ => none }
def fnExactTurnOfRow : OpenClaim := { program := "ytooakheodgndaaa", sum := "3ffbeec522bf6bc38ffac238c980dbc5a4d9c5b5a249903d129fbb73d0e70076", func := "loop.example/g01327/laws.FnExactTurnOf", spec := "fnExactTurnOf", inPlace := ["math.sqrt", "math.Float64bits", "math.Float64frombits"], unfollowed := true, recurses := true, apart := false }
def FnExactTurnOfSaid : Prop := fnExactTurnOfRow.holds Try.pinned (OpenSpec.ofChange fnExactTurnOfSpec)

/-- ITS FALSE NEIGHBOUR: 'it returns false'. Refute it at one input. -/
def fnExactTurnOfWrong : ChangeSpec := { name := "fnExactTurnOf", fn := fun _ => fun
  | [d1, d2, d3] => { results := [.lit (.bool false)], args := [d1, d2, d3] }
  | _ => none }
def FnExactTurnOfWrongFalsely : Prop := fnExactTurnOfRow.holds Try.pinned (OpenSpec.ofChange fnExactTurnOfWrong)

/-- 'laws.FnExactShiftSolve': WHATEVER THE INPUT: true; the input reads as it did. -/
def fnExactShiftSolveSpec : ChangeSpec := { name := "fnExactShiftSolve", fn := fun _ => fun
  | [d1, d2] => { results := [.lit (.bool true)], args := [d1, d2] }
  | _ => none }
def fnExactShiftSolveRow : OpenClaim := { program := "ytooakheodgndaaa", sum := "3ffbeec522bf6bc38ffac238c980dbc5a4d9c5b5a249903d129fbb73d0e70076", func := "loop.example/g01327/laws.FnExactShiftSolve", spec := "fnExactShiftSolve", inPlace := ["math.Float64bits", "math.Float64frombits"], unfollowed := true, recurses := true, apart := false }
def FnExactShiftSolveSaid : Prop := fnExactShiftSolveRow.holds Try.pinned (OpenSpec.ofChange fnExactShiftSolveSpec)

/-- ITS FALSE NEIGHBOUR: 'it returns false'. Refute it at one input. -/
def fnExactShiftSolveWrong : ChangeSpec := { name := "fnExactShiftSolve", fn := fun _ => fun
  | [d1, d2] => { results := [.lit (.bool false)], args := [d1, d2] }
  | _ => none }
def FnExactShiftSolveWrongFalsely : Prop := fnExactShiftSolveRow.holds Try.pinned (OpenSpec.ofChange fnExactShiftSolveWrong)

/-- 'laws.FnExactWholeOf': WHATEVER THE INPUT: true; the input reads as it did. -/
def fnExactWholeOfSpec : ChangeSpec := { name := "fnExactWholeOf", fn := fun _ => fun
  | [d1, d2] => { results := [.lit (.bool true)], args := [d1, d2] }
  | _ => none }
def fnExactWholeOfRow : OpenClaim := { program := "ytooakheodgndaaa", sum := "3ffbeec522bf6bc38ffac238c980dbc5a4d9c5b5a249903d129fbb73d0e70076", func := "loop.example/g01327/laws.FnExactWholeOf", spec := "fnExactWholeOf", inPlace := ["math.archFloor", "math.Float64bits", "math.Float64frombits", "math.archTrunc"], unfollowed := true, recurses := true, apart := false }
def FnExactWholeOfSaid : Prop := fnExactWholeOfRow.holds Try.pinned (OpenSpec.ofChange fnExactWholeOfSpec)

/-- ITS FALSE NEIGHBOUR: 'it returns false'. Refute it at one input. -/
def fnExactWholeOfWrong : ChangeSpec := { name := "fnExactWholeOf", fn := fun _ => fun
  | [d1, d2] => { results := [.lit (.bool false)], args := [d1, d2] }
  | _ => none }
def FnExactWholeOfWrongFalsely : Prop := fnExactWholeOfRow.holds Try.pinned (OpenSpec.ofChange fnExactWholeOfWrong)

/-- 'laws.FnExactPowerMatrix': WHATEVER THE INPUT: true; the input reads as it did. -/
def fnExactPowerMatrixSpec : ChangeSpec := { name := "fnExactPowerMatrix", fn := fun _ => fun
  | [d1, d2] => { results := [.lit (.bool true)], args := [d1, d2] }
  | _ => none }
def fnExactPowerMatrixRow : OpenClaim := { program := "ytooakheodgndaaa", sum := "3ffbeec522bf6bc38ffac238c980dbc5a4d9c5b5a249903d129fbb73d0e70076", func := "loop.example/g01327/laws.FnExactPowerMatrix", spec := "fnExactPowerMatrix", inPlace := ["math.Float64bits", "math.Float64frombits"], unfollowed := true, recurses := true, apart := false }
def FnExactPowerMatrixSaid : Prop := fnExactPowerMatrixRow.holds Try.pinned (OpenSpec.ofChange fnExactPowerMatrixSpec)

/-- ITS FALSE NEIGHBOUR: 'it returns false'. Refute it at one input. -/
def fnExactPowerMatrixWrong : ChangeSpec := { name := "fnExactPowerMatrix", fn := fun _ => fun
  | [d1, d2] => { results := [.lit (.bool false)], args := [d1, d2] }
  | _ => none }
def FnExactPowerMatrixWrongFalsely : Prop := fnExactPowerMatrixRow.holds Try.pinned (OpenSpec.ofChange fnExactPowerMatrixWrong)

/-- 'laws.FnExactThirdsRing': WHATEVER THE INPUT: true; the input reads as it did. -/
def fnExactThirdsRingSpec : ChangeSpec := { name := "fnExactThirdsRing", fn := fun _ => fun
  | [d1, d2, d3, d4] => { results := [.lit (.bool true)], args := [d1, d2, d3, d4] }
  | _ => none }
def fnExactThirdsRingRow : OpenClaim := { program := "ytooakheodgndaaa", sum := "3ffbeec522bf6bc38ffac238c980dbc5a4d9c5b5a249903d129fbb73d0e70076", func := "loop.example/g01327/laws.FnExactThirdsRing", spec := "fnExactThirdsRing", inPlace := ["math.Float64bits", "math.Float64frombits"], unfollowed := true, recurses := true, apart := false }
def FnExactThirdsRingSaid : Prop := fnExactThirdsRingRow.holds Try.pinned (OpenSpec.ofChange fnExactThirdsRingSpec)

/-- ITS FALSE NEIGHBOUR: 'it returns false'. Refute it at one input. -/
def fnExactThirdsRingWrong : ChangeSpec := { name := "fnExactThirdsRing", fn := fun _ => fun
  | [d1, d2, d3, d4] => { results := [.lit (.bool false)], args := [d1, d2, d3, d4] }
  | _ => none }
def FnExactThirdsRingWrongFalsely : Prop := fnExactThirdsRingRow.holds Try.pinned (OpenSpec.ofChange fnExactThirdsRingWrong)

/-- 'laws.FnExactAddRow': WHATEVER THE INPUT: true; the input reads as it did. -/
def fnExactAddRowSpec : ChangeSpec := { name := "fnExactAddRow", fn := fun _ => fun
  | [d1, d2] => { results := [.lit (.bool true)], args := [d1, d2] }
  | _ => none }
def fnExactAddRowRow : OpenClaim := { program := "ytooakheodgndaaa", sum := "3ffbeec522bf6bc38ffac238c980dbc5a4d9c5b5a249903d129fbb73d0e70076", func := "loop.example/g01327/laws.FnExactAddRow", spec := "fnExactAddRow", inPlace := ["math.sqrt", "math.Float64bits", "math.Float64frombits"], unfollowed := true, recurses := true, apart := false }
def FnExactAddRowSaid : Prop := fnExactAddRowRow.holds Try.pinned (OpenSpec.ofChange fnExactAddRowSpec)

/-- ITS FALSE NEIGHBOUR: 'it returns false'. Refute it at one input. -/
def fnExactAddRowWrong : ChangeSpec := { name := "fnExactAddRow", fn := fun _ => fun
  | [d1, d2] => { results := [.lit (.bool false)], args := [d1, d2] }
  | _ => none }
def FnExactAddRowWrongFalsely : Prop := fnExactAddRowRow.holds Try.pinned (OpenSpec.ofChange fnExactAddRowWrong)

/-- 'laws.FnExactMirrorFactor': WHATEVER THE INPUT: true; the input reads as it did. -/
def fnExactMirrorFactorSpec : ChangeSpec := { name := "fnExactMirrorFactor", fn := fun _ => fun
  | [d] => { results := [.lit (.bool true)], args := [d] }
  | _ => none }
def fnExactMirrorFactorRow : OpenClaim := { program := "ytooakheodgndaaa", sum := "3ffbeec522bf6bc38ffac238c980dbc5a4d9c5b5a249903d129fbb73d0e70076", func := "loop.example/g01327/laws.FnExactMirrorFactor", spec := "fnExactMirrorFactor", inPlace := ["math.sqrt", "math.Float64bits", "math.Float64frombits"], unfollowed := true, recurses := true, apart := false }
def FnExactMirrorFactorSaid : Prop := fnExactMirrorFactorRow.holds Try.pinned (OpenSpec.ofChange fnExactMirrorFactorSpec)

/-- ITS FALSE NEIGHBOUR: 'it returns false'. Refute it at one input. -/
def fnExactMirrorFactorWrong : ChangeSpec := { name := "fnExactMirrorFactor", fn := fun _ => fun
  | [d] => { results := [.lit (.bool false)], args := [d] }
  | _ => none }
def FnExactMirrorFactorWrongFalsely : Prop := fnExactMirrorFactorRow.holds Try.pinned (OpenSpec.ofChange fnExactMirrorFactorWrong)

/-- 'laws.FnExactPolarPart': WHATEVER THE INPUT: true; the input reads as it did. -/
def fnExactPolarPartSpec : ChangeSpec := { name := "fnExactPolarPart", fn := fun _ => fun
  | [d1, d2] => { results := [.lit (.bool true)], args := [d1, d2] }
  | _ => none }
def fnExactPolarPartRow : OpenClaim := { program := "ytooakheodgndaaa", sum := "3ffbeec522bf6bc38ffac238c980dbc5a4d9c5b5a249903d129fbb73d0e70076", func := "loop.example/g01327/laws.FnExactPolarPart", spec := "fnExactPolarPart", inPlace := ["math.sqrt", "math.Float64bits", "math.Float64frombits"], unfollowed := true, recurses := true, apart := false }
def FnExactPolarPartSaid : Prop := fnExactPolarPartRow.holds Try.pinned (OpenSpec.ofChange fnExactPolarPartSpec)

/-- ITS FALSE NEIGHBOUR: 'it returns false'. Refute it at one input. -/
def fnExactPolarPartWrong : ChangeSpec := { name := "fnExactPolarPart", fn := fun _ => fun
  | [d1, d2] => { results := [.lit (.bool false)], args := [d1, d2] }
  | _ => none }
def FnExactPolarPartWrongFalsely : Prop := fnExactPolarPartRow.holds Try.pinned (OpenSpec.ofChange fnExactPolarPartWrong)

/-- 'laws.FnExactLeastSquares': WHATEVER THE INPUT: true; the input reads as it did. -/
def fnExactLeastSquaresSpec : ChangeSpec := { name := "fnExactLeastSquares", fn := fun _ => fun
  | [d1, d2] => { results := [.lit (.bool true)], args := [d1, d2] }
  | _ => none }
def fnExactLeastSquaresRow : OpenClaim := { program := "ytooakheodgndaaa", sum := "3ffbeec522bf6bc38ffac238c980dbc5a4d9c5b5a249903d129fbb73d0e70076", func := "loop.example/g01327/laws.FnExactLeastSquares", spec := "fnExactLeastSquares", inPlace := ["math.sqrt", "math.Float64bits", "math.Float64frombits"], unfollowed := true, recurses := true, apart := false }
def FnExactLeastSquaresSaid : Prop := fnExactLeastSquaresRow.holds Try.pinned (OpenSpec.ofChange fnExactLeastSquaresSpec)

/-- ITS FALSE NEIGHBOUR: 'it returns false'. Refute it at one input. -/
def fnExactLeastSquaresWrong : ChangeSpec := { name := "fnExactLeastSquares", fn := fun _ => fun
  | [d1, d2] => { results := [.lit (.bool false)], args := [d1, d2] }
  | _ => none }
def FnExactLeastSquaresWrongFalsely : Prop := fnExactLeastSquaresRow.holds Try.pinned (OpenSpec.ofChange fnExactLeastSquaresWrong)

/- THE SECOND FORM. 'bulk': how many values and letters a reading holds, each counted each time it is reached (what is shared counts as often as it is met; a slice's spare places count too). A statement '..UptoSaid' is the law's where the arguments, and the package variables that the reading takes, are together of bulk at most 1048576: NARROWER than '..Said'. Prove '..Said' where nothing that the law and all that it calls make is longer than what came in: it says more and counts as full. Else prove '..UptoSaid'. A law counts once. -/
mutual
def uptoBulk {H : Type} : DataW H → Nat
  | .lit (.string bytes) => bytes.length + 1
  | .lit _ => 1
  | .nil => 1
  | .ptr d => uptoBulk d + 1
  | .slice elems spare => uptoBulkAll elems + uptoBulkAll spare + 1
  | .agg parts => uptoBulkAll parts + 1
  | .iface _ d => uptoBulk d + 1
  | .map entries => uptoBulkEntries entries + 1
  | .held _ => 1
def uptoBulkAll {H : Type} : List (DataW H) → Nat
  | [] => 0
  | d :: r => uptoBulk d + uptoBulkAll r
def uptoBulkEntries {H : Type} : List (Lit × DataW H) → Nat
  | [] => 0
  | x :: r => uptoBulkEntry x + uptoBulkEntries r
def uptoBulkEntry {H : Type} : Lit × DataW H → Nat
  | (.string bytes, d) => bytes.length + uptoBulk d + 1
  | (_, d) => uptoBulk d + 1
 end
def uptoSmall : (H : Type) → List (DataW H) → Bool := fun _ ds => decide (uptoBulkAll ds ≤ 1048576)
def OpenSpec.upto (s : _root_.Go.ChangeSpec) : _root_.Go.OpenSpec := { _root_.Go.OpenSpec.ofChange s with cond := some uptoSmall }

/-- 'laws.FnExactMiddleFactor', WHERE WHAT IT READS IS OF BULK AT MOST 1048576: true; the input reads as it did. -/
def fnExactMiddleFactorUptoRow : OpenClaim := { program := "ytooakheodgndaaa", sum := "3ffbeec522bf6bc38ffac238c980dbc5a4d9c5b5a249903d129fbb73d0e70076", func := "loop.example/g01327/laws.FnExactMiddleFactor", spec := "fnExactMiddleFactor", inPlace := ["math.Float64bits", "math.Float64frombits"], unfollowed := true, recurses := true, apart := false, narrowed := true }
def FnExactMiddleFactorUptoSaid : Prop := fnExactMiddleFactorUptoRow.holds Try.pinned (OpenSpec.upto fnExactMiddleFactorSpec)

/-- 'laws.FnExactMulShared', WHERE WHAT IT READS IS OF BULK AT MOST 1048576: true; the input reads as it did. -/
def fnExactMulSharedUptoRow : OpenClaim := { program := "ytooakheodgndaaa", sum := "3ffbeec522bf6bc38ffac238c980dbc5a4d9c5b5a249903d129fbb73d0e70076", func := "loop.example/g01327/laws.FnExactMulShared", spec := "fnExactMulShared", inPlace := ["math.Float64bits", "math.Float64frombits"], unfollowed := true, recurses := true, apart := false, narrowed := true }
def FnExactMulSharedUptoSaid : Prop := fnExactMulSharedUptoRow.holds Try.pinned (OpenSpec.upto fnExactMulSharedSpec)

/-- 'laws.FnExactMulBlocks', WHERE WHAT IT READS IS OF BULK AT MOST 1048576: true; the input reads as it did. -/
def fnExactMulBlocksUptoRow : OpenClaim := { program := "ytooakheodgndaaa", sum := "3ffbeec522bf6bc38ffac238c980dbc5a4d9c5b5a249903d129fbb73d0e70076", func := "loop.example/g01327/laws.FnExactMulBlocks", spec := "fnExactMulBlocks", inPlace := ["math.Float64bits", "math.Float64frombits"], unfollowed := true, recurses := true, apart := false, narrowed := true }
def FnExactMulBlocksUptoSaid : Prop := fnExactMulBlocksUptoRow.holds Try.pinned (OpenSpec.upto fnExactMulBlocksSpec)

/-- 'laws.FnExactTurnOf', WHERE WHAT IT READS IS OF BULK AT MOST 1048576: true; the input reads as it did. -/
def fnExactTurnOfUptoRow : OpenClaim := { program := "ytooakheodgndaaa", sum := "3ffbeec522bf6bc38ffac238c980dbc5a4d9c5b5a249903d129fbb73d0e70076", func := "loop.example/g01327/laws.FnExactTurnOf", spec := "fnExactTurnOf", inPlace := ["math.sqrt", "math.Float64bits", "math.Float64frombits"], unfollowed := true, recurses := true, apart := false, narrowed := true }
def FnExactTurnOfUptoSaid : Prop := fnExactTurnOfUptoRow.holds Try.pinned (OpenSpec.upto fnExactTurnOfSpec)

/-- 'laws.FnExactShiftSolve', WHERE WHAT IT READS IS OF BULK AT MOST 1048576: true; the input reads as it did. -/
def fnExactShiftSolveUptoRow : OpenClaim := { program := "ytooakheodgndaaa", sum := "3ffbeec522bf6bc38ffac238c980dbc5a4d9c5b5a249903d129fbb73d0e70076", func := "loop.example/g01327/laws.FnExactShiftSolve", spec := "fnExactShiftSolve", inPlace := ["math.Float64bits", "math.Float64frombits"], unfollowed := true, recurses := true, apart := false, narrowed := true }
def FnExactShiftSolveUptoSaid : Prop := fnExactShiftSolveUptoRow.holds Try.pinned (OpenSpec.upto fnExactShiftSolveSpec)

/-- 'laws.FnExactWholeOf', WHERE WHAT IT READS IS OF BULK AT MOST 1048576: true; the input reads as it did. -/
def fnExactWholeOfUptoRow : OpenClaim := { program := "ytooakheodgndaaa", sum := "3ffbeec522bf6bc38ffac238c980dbc5a4d9c5b5a249903d129fbb73d0e70076", func := "loop.example/g01327/laws.FnExactWholeOf", spec := "fnExactWholeOf", inPlace := ["math.archFloor", "math.Float64bits", "math.Float64frombits", "math.archTrunc"], unfollowed := true, recurses := true, apart := false, narrowed := true }
def FnExactWholeOfUptoSaid : Prop := fnExactWholeOfUptoRow.holds Try.pinned (OpenSpec.upto fnExactWholeOfSpec)

/-- 'laws.FnExactPowerMatrix', WHERE WHAT IT READS IS OF BULK AT MOST 1048576: true; the input reads as it did. -/
def fnExactPowerMatrixUptoRow : OpenClaim := { program := "ytooakheodgndaaa", sum := "3ffbeec522bf6bc38ffac238c980dbc5a4d9c5b5a249903d129fbb73d0e70076", func := "loop.example/g01327/laws.FnExactPowerMatrix", spec := "fnExactPowerMatrix", inPlace := ["math.Float64bits", "math.Float64frombits"], unfollowed := true, recurses := true, apart := false, narrowed := true }
def FnExactPowerMatrixUptoSaid : Prop := fnExactPowerMatrixUptoRow.holds Try.pinned (OpenSpec.upto fnExactPowerMatrixSpec)

/-- 'laws.FnExactThirdsRing', WHERE WHAT IT READS IS OF BULK AT MOST 1048576: true; the input reads as it did. -/
def fnExactThirdsRingUptoRow : OpenClaim := { program := "ytooakheodgndaaa", sum := "3ffbeec522bf6bc38ffac238c980dbc5a4d9c5b5a249903d129fbb73d0e70076", func := "loop.example/g01327/laws.FnExactThirdsRing", spec := "fnExactThirdsRing", inPlace := ["math.Float64bits", "math.Float64frombits"], unfollowed := true, recurses := true, apart := false, narrowed := true }
def FnExactThirdsRingUptoSaid : Prop := fnExactThirdsRingUptoRow.holds Try.pinned (OpenSpec.upto fnExactThirdsRingSpec)

/-- 'laws.FnExactAddRow', WHERE WHAT IT READS IS OF BULK AT MOST 1048576: true; the input reads as it did. -/
def fnExactAddRowUptoRow : OpenClaim := { program := "ytooakheodgndaaa", sum := "3ffbeec522bf6bc38ffac238c980dbc5a4d9c5b5a249903d129fbb73d0e70076", func := "loop.example/g01327/laws.FnExactAddRow", spec := "fnExactAddRow", inPlace := ["math.sqrt", "math.Float64bits", "math.Float64frombits"], unfollowed := true, recurses := true, apart := false, narrowed := true }
def FnExactAddRowUptoSaid : Prop := fnExactAddRowUptoRow.holds Try.pinned (OpenSpec.upto fnExactAddRowSpec)

/-- 'laws.FnExactMirrorFactor', WHERE WHAT IT READS IS OF BULK AT MOST 1048576: true; the input reads as it did. -/
def fnExactMirrorFactorUptoRow : OpenClaim := { program := "ytooakheodgndaaa", sum := "3ffbeec522bf6bc38ffac238c980dbc5a4d9c5b5a249903d129fbb73d0e70076", func := "loop.example/g01327/laws.FnExactMirrorFactor", spec := "fnExactMirrorFactor", inPlace := ["math.sqrt", "math.Float64bits", "math.Float64frombits"], unfollowed := true, recurses := true, apart := false, narrowed := true }
def FnExactMirrorFactorUptoSaid : Prop := fnExactMirrorFactorUptoRow.holds Try.pinned (OpenSpec.upto fnExactMirrorFactorSpec)

/-- 'laws.FnExactPolarPart', WHERE WHAT IT READS IS OF BULK AT MOST 1048576: true; the input reads as it did. -/
def fnExactPolarPartUptoRow : OpenClaim := { program := "ytooakheodgndaaa", sum := "3ffbeec522bf6bc38ffac238c980dbc5a4d9c5b5a249903d129fbb73d0e70076", func := "loop.example/g01327/laws.FnExactPolarPart", spec := "fnExactPolarPart", inPlace := ["math.sqrt", "math.Float64bits", "math.Float64frombits"], unfollowed := true, recurses := true, apart := false, narrowed := true }
def FnExactPolarPartUptoSaid : Prop := fnExactPolarPartUptoRow.holds Try.pinned (OpenSpec.upto fnExactPolarPartSpec)

/-- 'laws.FnExactLeastSquares', WHERE WHAT IT READS IS OF BULK AT MOST 1048576: true; the input reads as it did. -/
def fnExactLeastSquaresUptoRow : OpenClaim := { program := "ytooakheodgndaaa", sum := "3ffbeec522bf6bc38ffac238c980dbc5a4d9c5b5a249903d129fbb73d0e70076", func := "loop.example/g01327/laws.FnExactLeastSquares", spec := "fnExactLeastSquares", inPlace := ["math.sqrt", "math.Float64bits", "math.Float64frombits"], unfollowed := true, recurses := true, apart := false, narrowed := true }
def FnExactLeastSquaresUptoSaid : Prop := fnExactLeastSquaresUptoRow.holds Try.pinned (OpenSpec.upto fnExactLeastSquaresSpec)

end Rows
end Go.Proofs.Ytooakheodgndaaa
