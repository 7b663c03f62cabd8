/-
  No cell of these rows narrows 'for every input' (looked for: loops, veiled, ifaces, maps, wideKeys, modest, calm, conditions, laid).
  DERIVED. THE GIVEN ROWS OF THIS SEAT. 12 by the template 'for every input the law returns true; each argument reads behind the call as it read before'; 0 by the template 'total and deterministic' (their statements: YtjadfgeemfdbmaaTotals.lean).
  GIVEN WITH THE SEED: the statements are not yours to turn. If you find one false, say at which input.
  Laid BY PROGRAM, IN A SANDBOX (cutbox-rows.mjs): the forced cells as the released guide's own fill.sh prints them over the translation a515e264a58f05d2… (all of the seat's roots in one cut). By AI agents, Wed Nov 11 2026. No macro, syntax, notation, axiom, sorry.
-/
import Derived.Test.YtjadfgeemfdbmaaChecked
import GoSem.Claim
import GoSem.ClaimJoined
import GoSem.ClaimMapViews
import Derived.JoinedTies
import Derived.KernelRfl
namespace Go.Proofs.Ytjadfgeemfdbmaa
/- THE CELL 'sum', in the pinned program and in every row, IS THE sha256 OF THE DUMP (.gsa) THAT YtjadfgeemfdbmaaProg.lean LOADS. Nothing in Lean hashes anything: it is a label: what it is worth is what the hold of that sum in a sandbox is worth. -/
noncomputable def Try.pinned : Pinned := { name := "ytjadfgeemfdbmaa", sum := "a515e264a58f05d2c1089cbf83d23ed0ba7a685268241aa510662399abc42ef9", checked := Try.checked }
namespace Rows
def none {H : Type} : Left H := { results := [], args := [] }

/-- 'laws.FnExactSparseTimes': WHATEVER THE INPUT: true; the input reads as it did. -/
def fnExactSparseTimesSpec : ChangeSpec := { name := "fnExactSparseTimes", fn := fun _ => fun
  | [d1, d2] => { results := [.lit (.bool true)], args := [d1, d2] }
  | _ => none }
def fnExactSparseTimesRow : OpenClaim := { program := "ytjadfgeemfdbmaa", sum := "a515e264a58f05d2c1089cbf83d23ed0ba7a685268241aa510662399abc42ef9", func := "loop.example/g01327/laws.FnExactSparseTimes", spec := "fnExactSparseTimes", inPlace := ["math.Float64bits", "math.Float64frombits"], unfollowed := true, recurses := true, apart := false }
def FnExactSparseTimesSaid : Prop := fnExactSparseTimesRow.holds Try.pinned (OpenSpec.ofChange fnExactSparseTimesSpec)

/-- ITS FALSE NEIGHBOUR: 'it returns false'. Refute it at one input. -/
def fnExactSparseTimesWrong : ChangeSpec := { name := "fnExactSparseTimes", fn := fun _ => fun
  | [d1, d2] => { results := [.lit (.bool false)], args := [d1, d2] }
  | _ => none }
def FnExactSparseTimesWrongFalsely : Prop := fnExactSparseTimesRow.holds Try.pinned (OpenSpec.ofChange fnExactSparseTimesWrong)

/-- 'laws.FnExactSparseShared': WHATEVER THE INPUT: true; the input reads as it did. -/
def fnExactSparseSharedSpec : ChangeSpec := { name := "fnExactSparseShared", fn := fun _ => fun
  | [d1, d2, d3] => { results := [.lit (.bool true)], args := [d1, d2, d3] }
  | _ => none }
def fnExactSparseSharedRow : OpenClaim := { program := "ytjadfgeemfdbmaa", sum := "a515e264a58f05d2c1089cbf83d23ed0ba7a685268241aa510662399abc42ef9", func := "loop.example/g01327/laws.FnExactSparseShared", spec := "fnExactSparseShared", inPlace := ["math.Float64bits", "math.Float64frombits"], unfollowed := true, recurses := true, apart := false }
def FnExactSparseSharedSaid : Prop := fnExactSparseSharedRow.holds Try.pinned (OpenSpec.ofChange fnExactSparseSharedSpec)

/-- ITS FALSE NEIGHBOUR: 'it returns false'. Refute it at one input. -/
def fnExactSparseSharedWrong : ChangeSpec := { name := "fnExactSparseShared", fn := fun _ => fun
  | [d1, d2, d3] => { results := [.lit (.bool false)], args := [d1, d2, d3] }
  | _ => none }
def FnExactSparseSharedWrongFalsely : Prop := fnExactSparseSharedRow.holds Try.pinned (OpenSpec.ofChange fnExactSparseSharedWrong)

/-- 'laws.FnExactSparseRootSolve': WHATEVER THE INPUT: true; the input reads as it did. -/
def fnExactSparseRootSolveSpec : ChangeSpec := { name := "fnExactSparseRootSolve", fn := fun _ => fun
  | [d1, d2] => { results := [.lit (.bool true)], args := [d1, d2] }
  | _ => none }
def fnExactSparseRootSolveRow : OpenClaim := { program := "ytjadfgeemfdbmaa", sum := "a515e264a58f05d2c1089cbf83d23ed0ba7a685268241aa510662399abc42ef9", func := "loop.example/g01327/laws.FnExactSparseRootSolve", spec := "fnExactSparseRootSolve", inPlace := ["math.Float64bits", "math.Float64frombits"], unfollowed := true, recurses := true, apart := false }
def FnExactSparseRootSolveSaid : Prop := fnExactSparseRootSolveRow.holds Try.pinned (OpenSpec.ofChange fnExactSparseRootSolveSpec)

/-- ITS FALSE NEIGHBOUR: 'it returns false'. Refute it at one input. -/
def fnExactSparseRootSolveWrong : ChangeSpec := { name := "fnExactSparseRootSolve", fn := fun _ => fun
  | [d1, d2] => { results := [.lit (.bool false)], args := [d1, d2] }
  | _ => none }
def FnExactSparseRootSolveWrongFalsely : Prop := fnExactSparseRootSolveRow.holds Try.pinned (OpenSpec.ofChange fnExactSparseRootSolveWrong)

/-- 'laws.FnExactExpMatrix': WHATEVER THE INPUT: true; the input reads as it did. -/
def fnExactExpMatrixSpec : ChangeSpec := { name := "fnExactExpMatrix", fn := fun _ => fun
  | [d1, d2] => { results := [.lit (.bool true)], args := [d1, d2] }
  | _ => none }
def fnExactExpMatrixRow : OpenClaim := { program := "ytjadfgeemfdbmaa", sum := "a515e264a58f05d2c1089cbf83d23ed0ba7a685268241aa510662399abc42ef9", func := "loop.example/g01327/laws.FnExactExpMatrix", spec := "fnExactExpMatrix", inPlace := ["math.Float64bits", "math.Float64frombits"], unfollowed := true, recurses := true, apart := false }
def FnExactExpMatrixSaid : Prop := fnExactExpMatrixRow.holds Try.pinned (OpenSpec.ofChange fnExactExpMatrixSpec)

/-- ITS FALSE NEIGHBOUR: 'it returns false'. Refute it at one input. -/
def fnExactExpMatrixWrong : ChangeSpec := { name := "fnExactExpMatrix", fn := fun _ => fun
  | [d1, d2] => { results := [.lit (.bool false)], args := [d1, d2] }
  | _ => none }
def FnExactExpMatrixWrongFalsely : Prop := fnExactExpMatrixRow.holds Try.pinned (OpenSpec.ofChange fnExactExpMatrixWrong)

/-- 'laws.FnExactWholeOf': WHATEVER THE INPUT: true; the input reads as it did. -/
def fnExactWholeOfSpec : ChangeSpec := { name := "fnExactWholeOf", fn := fun _ => fun
  | [d1, d2] => { results := [.lit (.bool true)], args := [d1, d2] }
  | _ => none }
def fnExactWholeOfRow : OpenClaim := { program := "ytjadfgeemfdbmaa", sum := "a515e264a58f05d2c1089cbf83d23ed0ba7a685268241aa510662399abc42ef9", func := "loop.example/g01327/laws.FnExactWholeOf", spec := "fnExactWholeOf", inPlace := ["math.archFloor", "math.Float64bits", "math.Float64frombits", "math.archTrunc"], unfollowed := true, recurses := true, apart := false }
def FnExactWholeOfSaid : Prop := fnExactWholeOfRow.holds Try.pinned (OpenSpec.ofChange fnExactWholeOfSpec)

/-- ITS FALSE NEIGHBOUR: 'it returns false'. Refute it at one input. -/
def fnExactWholeOfWrong : ChangeSpec := { name := "fnExactWholeOf", fn := fun _ => fun
  | [d1, d2] => { results := [.lit (.bool false)], args := [d1, d2] }
  | _ => none }
def FnExactWholeOfWrongFalsely : Prop := fnExactWholeOfRow.holds Try.pinned (OpenSpec.ofChange fnExactWholeOfWrong)

/-- 'laws.FnExactOrderRows': WHATEVER THE INPUT: true; the input reads as it did. -/
def fnExactOrderRowsSpec : ChangeSpec := { name := "fnExactOrderRows", fn := fun _ => fun
  | [d1, d2] => { results := [.lit (.bool true)], args := [d1, d2] }
  | _ => none }
def fnExactOrderRowsRow : OpenClaim := { program := "ytjadfgeemfdbmaa", sum := "a515e264a58f05d2c1089cbf83d23ed0ba7a685268241aa510662399abc42ef9", func := "loop.example/g01327/laws.FnExactOrderRows", spec := "fnExactOrderRows", inPlace := ["math.Float64bits", "math.Float64frombits"], unfollowed := true, recurses := true, apart := false }
def FnExactOrderRowsSaid : Prop := fnExactOrderRowsRow.holds Try.pinned (OpenSpec.ofChange fnExactOrderRowsSpec)

/-- ITS FALSE NEIGHBOUR: 'it returns false'. Refute it at one input. -/
def fnExactOrderRowsWrong : ChangeSpec := { name := "fnExactOrderRows", fn := fun _ => fun
  | [d1, d2] => { results := [.lit (.bool false)], args := [d1, d2] }
  | _ => none }
def FnExactOrderRowsWrongFalsely : Prop := fnExactOrderRowsRow.holds Try.pinned (OpenSpec.ofChange fnExactOrderRowsWrong)

/-- 'laws.FnExactValidFactor': WHATEVER THE INPUT: true; the input reads as it did. -/
def fnExactValidFactorSpec : ChangeSpec := { name := "fnExactValidFactor", fn := fun _ => fun
  | [d] => { results := [.lit (.bool true)], args := [d] }
  | _ => none }
def fnExactValidFactorRow : OpenClaim := { program := "ytjadfgeemfdbmaa", sum := "a515e264a58f05d2c1089cbf83d23ed0ba7a685268241aa510662399abc42ef9", func := "loop.example/g01327/laws.FnExactValidFactor", spec := "fnExactValidFactor", inPlace := ["math.Float64bits", "math.Float64frombits"], unfollowed := true, recurses := true, apart := false }
def FnExactValidFactorSaid : Prop := fnExactValidFactorRow.holds Try.pinned (OpenSpec.ofChange fnExactValidFactorSpec)

/-- ITS FALSE NEIGHBOUR: 'it returns false'. Refute it at one input. -/
def fnExactValidFactorWrong : ChangeSpec := { name := "fnExactValidFactor", fn := fun _ => fun
  | [d] => { results := [.lit (.bool false)], args := [d] }
  | _ => none }
def FnExactValidFactorWrongFalsely : Prop := fnExactValidFactorRow.holds Try.pinned (OpenSpec.ofChange fnExactValidFactorWrong)

/-- 'laws.FnExactFactorDet': WHATEVER THE INPUT: true; the input reads as it did. -/
def fnExactFactorDetSpec : ChangeSpec := { name := "fnExactFactorDet", fn := fun _ => fun
  | [d] => { results := [.lit (.bool true)], args := [d] }
  | _ => none }
def fnExactFactorDetRow : OpenClaim := { program := "ytjadfgeemfdbmaa", sum := "a515e264a58f05d2c1089cbf83d23ed0ba7a685268241aa510662399abc42ef9", func := "loop.example/g01327/laws.FnExactFactorDet", spec := "fnExactFactorDet", inPlace := ["math.Float64bits", "math.Float64frombits"], unfollowed := true, recurses := true, apart := false }
def FnExactFactorDetSaid : Prop := fnExactFactorDetRow.holds Try.pinned (OpenSpec.ofChange fnExactFactorDetSpec)

/-- ITS FALSE NEIGHBOUR: 'it returns false'. Refute it at one input. -/
def fnExactFactorDetWrong : ChangeSpec := { name := "fnExactFactorDet", fn := fun _ => fun
  | [d] => { results := [.lit (.bool false)], args := [d] }
  | _ => none }
def FnExactFactorDetWrongFalsely : Prop := fnExactFactorDetRow.holds Try.pinned (OpenSpec.ofChange fnExactFactorDetWrong)

/-- 'laws.FnExactUpperOf': WHATEVER THE INPUT: true; the input reads as it did. -/
def fnExactUpperOfSpec : ChangeSpec := { name := "fnExactUpperOf", fn := fun _ => fun
  | [d] => { results := [.lit (.bool true)], args := [d] }
  | _ => none }
def fnExactUpperOfRow : OpenClaim := { program := "ytjadfgeemfdbmaa", sum := "a515e264a58f05d2c1089cbf83d23ed0ba7a685268241aa510662399abc42ef9", func := "loop.example/g01327/laws.FnExactUpperOf", spec := "fnExactUpperOf", inPlace := ["math.Float64bits", "math.Float64frombits"], unfollowed := true, recurses := true, apart := false }
def FnExactUpperOfSaid : Prop := fnExactUpperOfRow.holds Try.pinned (OpenSpec.ofChange fnExactUpperOfSpec)

/-- ITS FALSE NEIGHBOUR: 'it returns false'. Refute it at one input. -/
def fnExactUpperOfWrong : ChangeSpec := { name := "fnExactUpperOf", fn := fun _ => fun
  | [d] => { results := [.lit (.bool false)], args := [d] }
  | _ => none }
def FnExactUpperOfWrongFalsely : Prop := fnExactUpperOfRow.holds Try.pinned (OpenSpec.ofChange fnExactUpperOfWrong)

/-- 'laws.FnExactFactorGrowth': WHATEVER THE INPUT: true; the input reads as it did. -/
def fnExactFactorGrowthSpec : ChangeSpec := { name := "fnExactFactorGrowth", fn := fun _ => fun
  | [d1, d2] => { results := [.lit (.bool true)], args := [d1, d2] }
  | _ => none }
def fnExactFactorGrowthRow : OpenClaim := { program := "ytjadfgeemfdbmaa", sum := "a515e264a58f05d2c1089cbf83d23ed0ba7a685268241aa510662399abc42ef9", func := "loop.example/g01327/laws.FnExactFactorGrowth", spec := "fnExactFactorGrowth", inPlace := ["math.Float64bits", "math.Float64frombits"], unfollowed := true, recurses := true, apart := false }
def FnExactFactorGrowthSaid : Prop := fnExactFactorGrowthRow.holds Try.pinned (OpenSpec.ofChange fnExactFactorGrowthSpec)

/-- ITS FALSE NEIGHBOUR: 'it returns false'. Refute it at one input. -/
def fnExactFactorGrowthWrong : ChangeSpec := { name := "fnExactFactorGrowth", fn := fun _ => fun
  | [d1, d2] => { results := [.lit (.bool false)], args := [d1, d2] }
  | _ => none }
def FnExactFactorGrowthWrongFalsely : Prop := fnExactFactorGrowthRow.holds Try.pinned (OpenSpec.ofChange fnExactFactorGrowthWrong)

/-- 'laws.FnExactLowerOf': WHATEVER THE INPUT: true; the input reads as it did. -/
def fnExactLowerOfSpec : ChangeSpec := { name := "fnExactLowerOf", fn := fun _ => fun
  | [d] => { results := [.lit (.bool true)], args := [d] }
  | _ => none }
def fnExactLowerOfRow : OpenClaim := { program := "ytjadfgeemfdbmaa", sum := "a515e264a58f05d2c1089cbf83d23ed0ba7a685268241aa510662399abc42ef9", func := "loop.example/g01327/laws.FnExactLowerOf", spec := "fnExactLowerOf", inPlace := ["math.Float64bits", "math.Float64frombits"], unfollowed := true, recurses := true, apart := false }
def FnExactLowerOfSaid : Prop := fnExactLowerOfRow.holds Try.pinned (OpenSpec.ofChange fnExactLowerOfSpec)

/-- ITS FALSE NEIGHBOUR: 'it returns false'. Refute it at one input. -/
def fnExactLowerOfWrong : ChangeSpec := { name := "fnExactLowerOf", fn := fun _ => fun
  | [d] => { results := [.lit (.bool false)], args := [d] }
  | _ => none }
def FnExactLowerOfWrongFalsely : Prop := fnExactLowerOfRow.holds Try.pinned (OpenSpec.ofChange fnExactLowerOfWrong)

/-- 'laws.FnExactFactorInverse': WHATEVER THE INPUT: true; the input reads as it did. -/
def fnExactFactorInverseSpec : ChangeSpec := { name := "fnExactFactorInverse", fn := fun _ => fun
  | [d] => { results := [.lit (.bool true)], args := [d] }
  | _ => none }
def fnExactFactorInverseRow : OpenClaim := { program := "ytjadfgeemfdbmaa", sum := "a515e264a58f05d2c1089cbf83d23ed0ba7a685268241aa510662399abc42ef9", func := "loop.example/g01327/laws.FnExactFactorInverse", spec := "fnExactFactorInverse", inPlace := ["math.Float64bits", "math.Float64frombits"], unfollowed := true, recurses := true, apart := false }
def FnExactFactorInverseSaid : Prop := fnExactFactorInverseRow.holds Try.pinned (OpenSpec.ofChange fnExactFactorInverseSpec)

/-- ITS FALSE NEIGHBOUR: 'it returns false'. Refute it at one input. -/
def fnExactFactorInverseWrong : ChangeSpec := { name := "fnExactFactorInverse", fn := fun _ => fun
  | [d] => { results := [.lit (.bool false)], args := [d] }
  | _ => none }
def FnExactFactorInverseWrongFalsely : Prop := fnExactFactorInverseRow.holds Try.pinned (OpenSpec.ofChange fnExactFactorInverseWrong)

/- THE SECOND FORM. 'bulk': how many values and letters a reading holds, each counted each time it is reached (what is shared counts as often as it is met; a slice's spare places count too). A statement '..UptoSaid' is the law's where the arguments, and the package variables that the reading takes, are together of bulk at most 1048576: NARROWER than '..Said'. Prove '..Said' where nothing that the law and all that it calls make is longer than what came in: it says more and counts as full. Else prove '..UptoSaid'. A law counts once. -/
mutual
def uptoBulk {H : Type} : DataW H → Nat
  | .lit (.string bytes) => bytes.length + 1
  | .lit _ => 1
  | .nil => 1
  | .ptr d => uptoBulk d + 1
  | .slice elems spare => uptoBulkAll elems + uptoBulkAll spare + 1
  | .agg parts => uptoBulkAll parts + 1
  | .iface _ d => uptoBulk d + 1
  | .map entries => uptoBulkEntries entries + 1
  | .held _ => 1
def uptoBulkAll {H : Type} : List (DataW H) → Nat
  | [] => 0
  | d :: r => uptoBulk d + uptoBulkAll r
def uptoBulkEntries {H : Type} : List (Lit × DataW H) → Nat
  | [] => 0
  | x :: r => uptoBulkEntry x + uptoBulkEntries r
def uptoBulkEntry {H : Type} : Lit × DataW H → Nat
  | (.string bytes, d) => bytes.length + uptoBulk d + 1
  | (_, d) => uptoBulk d + 1
 end
def uptoSmall : (H : Type) → List (DataW H) → Bool := fun _ ds => decide (uptoBulkAll ds ≤ 1048576)
def OpenSpec.upto (s : _root_.Go.ChangeSpec) : _root_.Go.OpenSpec := { _root_.Go.OpenSpec.ofChange s with cond := some uptoSmall }

/-- 'laws.FnExactSparseTimes', WHERE WHAT IT READS IS OF BULK AT MOST 1048576: true; the input reads as it did. -/
def fnExactSparseTimesUptoRow : OpenClaim := { program := "ytjadfgeemfdbmaa", sum := "a515e264a58f05d2c1089cbf83d23ed0ba7a685268241aa510662399abc42ef9", func := "loop.example/g01327/laws.FnExactSparseTimes", spec := "fnExactSparseTimes", inPlace := ["math.Float64bits", "math.Float64frombits"], unfollowed := true, recurses := true, apart := false, narrowed := true }
def FnExactSparseTimesUptoSaid : Prop := fnExactSparseTimesUptoRow.holds Try.pinned (OpenSpec.upto fnExactSparseTimesSpec)

/-- 'laws.FnExactSparseShared', WHERE WHAT IT READS IS OF BULK AT MOST 1048576: true; the input reads as it did. -/
def fnExactSparseSharedUptoRow : OpenClaim := { program := "ytjadfgeemfdbmaa", sum := "a515e264a58f05d2c1089cbf83d23ed0ba7a685268241aa510662399abc42ef9", func := "loop.example/g01327/laws.FnExactSparseShared", spec := "fnExactSparseShared", inPlace := ["math.Float64bits", "math.Float64frombits"], unfollowed := true, recurses := true, apart := false, narrowed := true }
def FnExactSparseSharedUptoSaid : Prop := fnExactSparseSharedUptoRow.holds Try.pinned (OpenSpec.upto fnExactSparseSharedSpec)

/-- 'laws.FnExactSparseRootSolve', WHERE WHAT IT READS IS OF BULK AT MOST 1048576: true; the input reads as it did. -/
def fnExactSparseRootSolveUptoRow : OpenClaim := { program := "ytjadfgeemfdbmaa", sum := "a515e264a58f05d2c1089cbf83d23ed0ba7a685268241aa510662399abc42ef9", func := "loop.example/g01327/laws.FnExactSparseRootSolve", spec := "fnExactSparseRootSolve", inPlace := ["math.Float64bits", "math.Float64frombits"], unfollowed := true, recurses := true, apart := false, narrowed := true }
def FnExactSparseRootSolveUptoSaid : Prop := fnExactSparseRootSolveUptoRow.holds Try.pinned (OpenSpec.upto fnExactSparseRootSolveSpec)

/-- 'laws.FnExactExpMatrix', WHERE WHAT IT READS IS OF BULK AT MOST 1048576: true; the input reads as it did. -/
def fnExactExpMatrixUptoRow : OpenClaim := { program := "ytjadfgeemfdbmaa", sum := "a515e264a58f05d2c1089cbf83d23ed0ba7a685268241aa510662399abc42ef9", func := "loop.example/g01327/laws.FnExactExpMatrix", spec := "fnExactExpMatrix", inPlace := ["math.Float64bits", "math.Float64frombits"], unfollowed := true, recurses := true, apart := false, narrowed := true }
def FnExactExpMatrixUptoSaid : Prop := fnExactExpMatrixUptoRow.holds Try.pinned (OpenSpec.upto fnExactExpMatrixSpec)

/-- 'laws.FnExactWholeOf', WHERE WHAT IT READS IS OF BULK AT MOST 1048576: true; the input reads as it did. -/
def fnExactWholeOfUptoRow : OpenClaim := { program := "ytjadfgeemfdbmaa", sum := "a515e264a58f05d2c1089cbf83d23ed0ba7a685268241aa510662399abc42ef9", func := "loop.example/g01327/laws.FnExactWholeOf", spec := "fnExactWholeOf", inPlace := ["math.archFloor", "math.Float64bits", "math.Float64frombits", "math.archTrunc"], unfollowed := true, recurses := true, apart := false, narrowed := true }
def FnExactWholeOfUptoSaid : Prop := fnExactWholeOfUptoRow.holds Try.pinned (OpenSpec.upto fnExactWholeOfSpec)

/-- 'laws.FnExactOrderRows', WHERE WHAT IT READS IS OF BULK AT MOST 1048576: true; the input reads as it did. -/
def fnExactOrderRowsUptoRow : OpenClaim := { program := "ytjadfgeemfdbmaa", sum := "a515e264a58f05d2c1089cbf83d23ed0ba7a685268241aa510662399abc42ef9", func := "loop.example/g01327/laws.FnExactOrderRows", spec := "fnExactOrderRows", inPlace := ["math.Float64bits", "math.Float64frombits"], unfollowed := true, recurses := true, apart := false, narrowed := true }
def FnExactOrderRowsUptoSaid : Prop := fnExactOrderRowsUptoRow.holds Try.pinned (OpenSpec.upto fnExactOrderRowsSpec)

/-- 'laws.FnExactValidFactor', WHERE WHAT IT READS IS OF BULK AT MOST 1048576: true; the input reads as it did. -/
def fnExactValidFactorUptoRow : OpenClaim := { program := "ytjadfgeemfdbmaa", sum := "a515e264a58f05d2c1089cbf83d23ed0ba7a685268241aa510662399abc42ef9", func := "loop.example/g01327/laws.FnExactValidFactor", spec := "fnExactValidFactor", inPlace := ["math.Float64bits", "math.Float64frombits"], unfollowed := true, recurses := true, apart := false, narrowed := true }
def FnExactValidFactorUptoSaid : Prop := fnExactValidFactorUptoRow.holds Try.pinned (OpenSpec.upto fnExactValidFactorSpec)

/-- 'laws.FnExactFactorDet', WHERE WHAT IT READS IS OF BULK AT MOST 1048576: true; the input reads as it did. -/
def fnExactFactorDetUptoRow : OpenClaim := { program := "ytjadfgeemfdbmaa", sum := "a515e264a58f05d2c1089cbf83d23ed0ba7a685268241aa510662399abc42ef9", func := "loop.example/g01327/laws.FnExactFactorDet", spec := "fnExactFactorDet", inPlace := ["math.Float64bits", "math.Float64frombits"], unfollowed := true, recurses := true, apart := false, narrowed := true }
def FnExactFactorDetUptoSaid : Prop := fnExactFactorDetUptoRow.holds Try.pinned (OpenSpec.upto fnExactFactorDetSpec)

/-- 'laws.FnExactUpperOf', WHERE WHAT IT READS IS OF BULK AT MOST 1048576: true; the input reads as it did. -/
def fnExactUpperOfUptoRow : OpenClaim := { program := "ytjadfgeemfdbmaa", sum := "a515e264a58f05d2c1089cbf83d23ed0ba7a685268241aa510662399abc42ef9", func := "loop.example/g01327/laws.FnExactUpperOf", spec := "fnExactUpperOf", inPlace := ["math.Float64bits", "math.Float64frombits"], unfollowed := true, recurses := true, apart := false, narrowed := true }
def FnExactUpperOfUptoSaid : Prop := fnExactUpperOfUptoRow.holds Try.pinned (OpenSpec.upto fnExactUpperOfSpec)

/-- 'laws.FnExactFactorGrowth', WHERE WHAT IT READS IS OF BULK AT MOST 1048576: true; the input reads as it did. -/
def fnExactFactorGrowthUptoRow : OpenClaim := { program := "ytjadfgeemfdbmaa", sum := "a515e264a58f05d2c1089cbf83d23ed0ba7a685268241aa510662399abc42ef9", func := "loop.example/g01327/laws.FnExactFactorGrowth", spec := "fnExactFactorGrowth", inPlace := ["math.Float64bits", "math.Float64frombits"], unfollowed := true, recurses := true, apart := false, narrowed := true }
def FnExactFactorGrowthUptoSaid : Prop := fnExactFactorGrowthUptoRow.holds Try.pinned (OpenSpec.upto fnExactFactorGrowthSpec)

/-- 'laws.FnExactLowerOf', WHERE WHAT IT READS IS OF BULK AT MOST 1048576: true; the input reads as it did. -/
def fnExactLowerOfUptoRow : OpenClaim := { program := "ytjadfgeemfdbmaa", sum := "a515e264a58f05d2c1089cbf83d23ed0ba7a685268241aa510662399abc42ef9", func := "loop.example/g01327/laws.FnExactLowerOf", spec := "fnExactLowerOf", inPlace := ["math.Float64bits", "math.Float64frombits"], unfollowed := true, recurses := true, apart := false, narrowed := true }
def FnExactLowerOfUptoSaid : Prop := fnExactLowerOfUptoRow.holds Try.pinned (OpenSpec.upto fnExactLowerOfSpec)

/-- 'laws.FnExactFactorInverse', WHERE WHAT IT READS IS OF BULK AT MOST 1048576: true; the input reads as it did. -/
def fnExactFactorInverseUptoRow : OpenClaim := { program := "ytjadfgeemfdbmaa", sum := "a515e264a58f05d2c1089cbf83d23ed0ba7a685268241aa510662399abc42ef9", func := "loop.example/g01327/laws.FnExactFactorInverse", spec := "fnExactFactorInverse", inPlace := ["math.Float64bits", "math.Float64frombits"], unfollowed := true, recurses := true, apart := false, narrowed := true }
def FnExactFactorInverseUptoSaid : Prop := fnExactFactorInverseUptoRow.holds Try.pinned (OpenSpec.upto fnExactFactorInverseSpec)

end Rows
end Go.Proofs.Ytjadfgeemfdbmaa
