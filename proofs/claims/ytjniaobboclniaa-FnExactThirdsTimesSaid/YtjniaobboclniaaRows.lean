/-
  No cell of these rows narrows 'for every input' (looked for: loops, veiled, ifaces, maps, wideKeys, modest, calm, conditions, laid).
  DERIVED. THE GIVEN ROWS OF THIS SEAT. 12 by the template 'for every input the law returns true; each argument reads behind the call as it read before'; 0 by the template 'total and deterministic' (their statements: YtjniaobboclniaaTotals.lean).
  GIVEN WITH THE SEED: the statements are not yours to turn. If you find one false, say at which input.
  Laid BY PROGRAM, IN A SANDBOX (cutbox-rows.mjs): the forced cells as the released guide's own fill.sh prints them over the translation 62dac1eedb12ab71… (all of the seat's roots in one cut). By AI agents, Wed Nov 11 2026. No macro, syntax, notation, axiom, sorry.
-/
import Derived.Test.YtjniaobboclniaaChecked
import GoSem.Claim
import GoSem.ClaimJoined
import GoSem.ClaimMapViews
import Derived.JoinedTies
import Derived.KernelRfl
namespace Go.Proofs.Ytjniaobboclniaa
/- THE CELL 'sum', in the pinned program and in every row, IS THE sha256 OF THE DUMP (.gsa) THAT YtjniaobboclniaaProg.lean LOADS. Nothing in Lean hashes anything: it is a label: what it is worth is what the hold of that sum in a sandbox is worth. -/
noncomputable def Try.pinned : Pinned := { name := "ytjniaobboclniaa", sum := "62dac1eedb12ab71f77bbb9f304343c33ecf7ddee9662bf5836c166541594324", checked := Try.checked }
namespace Rows
def none {H : Type} : Left H := { results := [], args := [] }

/-- 'laws.FnPrimes': WHATEVER THE INPUT: true; the input reads as it did. -/
def fnPrimesSpec : ChangeSpec := { name := "fnPrimes", fn := fun _ => fun
  | [d1, d2] => { results := [.lit (.bool true)], args := [d1, d2] }
  | _ => none }
def fnPrimesRow : OpenClaim := { program := "ytjniaobboclniaa", sum := "62dac1eedb12ab71f77bbb9f304343c33ecf7ddee9662bf5836c166541594324", func := "loop.example/g01327/laws.FnPrimes", spec := "fnPrimes", unfollowed := true, recurses := true, apart := false }
def FnPrimesSaid : Prop := fnPrimesRow.holds Try.pinned (OpenSpec.ofChange fnPrimesSpec)

/-- ITS FALSE NEIGHBOUR: 'it returns false'. Refute it at one input. -/
def fnPrimesWrong : ChangeSpec := { name := "fnPrimes", fn := fun _ => fun
  | [d1, d2] => { results := [.lit (.bool false)], args := [d1, d2] }
  | _ => none }
def FnPrimesWrongFalsely : Prop := fnPrimesRow.holds Try.pinned (OpenSpec.ofChange fnPrimesWrong)

/-- 'laws.FnExactSameSheets': WHATEVER THE INPUT: true; the input reads as it did. -/
def fnExactSameSheetsSpec : ChangeSpec := { name := "fnExactSameSheets", fn := fun _ => fun
  | [d1, d2] => { results := [.lit (.bool true)], args := [d1, d2] }
  | _ => none }
def fnExactSameSheetsRow : OpenClaim := { program := "ytjniaobboclniaa", sum := "62dac1eedb12ab71f77bbb9f304343c33ecf7ddee9662bf5836c166541594324", func := "loop.example/g01327/laws.FnExactSameSheets", spec := "fnExactSameSheets", inPlace := ["math.Float32bits", "math.Float64bits"], unfollowed := true, recurses := true, apart := false }
def FnExactSameSheetsSaid : Prop := fnExactSameSheetsRow.holds Try.pinned (OpenSpec.ofChange fnExactSameSheetsSpec)

/-- ITS FALSE NEIGHBOUR: 'it returns false'. Refute it at one input. -/
def fnExactSameSheetsWrong : ChangeSpec := { name := "fnExactSameSheets", fn := fun _ => fun
  | [d1, d2] => { results := [.lit (.bool false)], args := [d1, d2] }
  | _ => none }
def FnExactSameSheetsWrongFalsely : Prop := fnExactSameSheetsRow.holds Try.pinned (OpenSpec.ofChange fnExactSameSheetsWrong)

/-- 'laws.FnExactShiftMatrix': WHATEVER THE INPUT: true; the input reads as it did. -/
def fnExactShiftMatrixSpec : ChangeSpec := { name := "fnExactShiftMatrix", fn := fun _ => fun
  | [d] => { results := [.lit (.bool true)], args := [d] }
  | _ => none }
def fnExactShiftMatrixRow : OpenClaim := { program := "ytjniaobboclniaa", sum := "62dac1eedb12ab71f77bbb9f304343c33ecf7ddee9662bf5836c166541594324", func := "loop.example/g01327/laws.FnExactShiftMatrix", spec := "fnExactShiftMatrix", inPlace := ["math.Float64bits", "math.Float64frombits"], unfollowed := true, recurses := true, apart := false }
def FnExactShiftMatrixSaid : Prop := fnExactShiftMatrixRow.holds Try.pinned (OpenSpec.ofChange fnExactShiftMatrixSpec)

/-- ITS FALSE NEIGHBOUR: 'it returns false'. Refute it at one input. -/
def fnExactShiftMatrixWrong : ChangeSpec := { name := "fnExactShiftMatrix", fn := fun _ => fun
  | [d] => { results := [.lit (.bool false)], args := [d] }
  | _ => none }
def FnExactShiftMatrixWrongFalsely : Prop := fnExactShiftMatrixRow.holds Try.pinned (OpenSpec.ofChange fnExactShiftMatrixWrong)

/-- 'laws.FnExactShiftSolve': WHATEVER THE INPUT: true; the input reads as it did. -/
def fnExactShiftSolveSpec : ChangeSpec := { name := "fnExactShiftSolve", fn := fun _ => fun
  | [d1, d2] => { results := [.lit (.bool true)], args := [d1, d2] }
  | _ => none }
def fnExactShiftSolveRow : OpenClaim := { program := "ytjniaobboclniaa", sum := "62dac1eedb12ab71f77bbb9f304343c33ecf7ddee9662bf5836c166541594324", func := "loop.example/g01327/laws.FnExactShiftSolve", spec := "fnExactShiftSolve", inPlace := ["math.Float64bits", "math.Float64frombits"], unfollowed := true, recurses := true, apart := false }
def FnExactShiftSolveSaid : Prop := fnExactShiftSolveRow.holds Try.pinned (OpenSpec.ofChange fnExactShiftSolveSpec)

/-- ITS FALSE NEIGHBOUR: 'it returns false'. Refute it at one input. -/
def fnExactShiftSolveWrong : ChangeSpec := { name := "fnExactShiftSolve", fn := fun _ => fun
  | [d1, d2] => { results := [.lit (.bool false)], args := [d1, d2] }
  | _ => none }
def FnExactShiftSolveWrongFalsely : Prop := fnExactShiftSolveRow.holds Try.pinned (OpenSpec.ofChange fnExactShiftSolveWrong)

/-- 'laws.FnExactShiftTimes': WHATEVER THE INPUT: true; the input reads as it did. -/
def fnExactShiftTimesSpec : ChangeSpec := { name := "fnExactShiftTimes", fn := fun _ => fun
  | [d1, d2] => { results := [.lit (.bool true)], args := [d1, d2] }
  | _ => none }
def fnExactShiftTimesRow : OpenClaim := { program := "ytjniaobboclniaa", sum := "62dac1eedb12ab71f77bbb9f304343c33ecf7ddee9662bf5836c166541594324", func := "loop.example/g01327/laws.FnExactShiftTimes", spec := "fnExactShiftTimes", inPlace := ["math.Float64bits", "math.Float64frombits"], unfollowed := true, recurses := true, apart := false }
def FnExactShiftTimesSaid : Prop := fnExactShiftTimesRow.holds Try.pinned (OpenSpec.ofChange fnExactShiftTimesSpec)

/-- ITS FALSE NEIGHBOUR: 'it returns false'. Refute it at one input. -/
def fnExactShiftTimesWrong : ChangeSpec := { name := "fnExactShiftTimes", fn := fun _ => fun
  | [d1, d2] => { results := [.lit (.bool false)], args := [d1, d2] }
  | _ => none }
def FnExactShiftTimesWrongFalsely : Prop := fnExactShiftTimesRow.holds Try.pinned (OpenSpec.ofChange fnExactShiftTimesWrong)

/-- 'laws.FnExactThirdsTimes': WHATEVER THE INPUT: true; the input reads as it did. -/
def fnExactThirdsTimesSpec : ChangeSpec := { name := "fnExactThirdsTimes", fn := fun _ => fun
  | [d1, d2] => { results := [.lit (.bool true)], args := [d1, d2] }
  | _ => none }
def fnExactThirdsTimesRow : OpenClaim := { program := "ytjniaobboclniaa", sum := "62dac1eedb12ab71f77bbb9f304343c33ecf7ddee9662bf5836c166541594324", func := "loop.example/g01327/laws.FnExactThirdsTimes", spec := "fnExactThirdsTimes", inPlace := ["math.Float64bits", "math.Float64frombits"], unfollowed := true, recurses := true, apart := false }
def FnExactThirdsTimesSaid : Prop := fnExactThirdsTimesRow.holds Try.pinned (OpenSpec.ofChange fnExactThirdsTimesSpec)

/-- ITS FALSE NEIGHBOUR: 'it returns false'. Refute it at one input. -/
def fnExactThirdsTimesWrong : ChangeSpec := { name := "fnExactThirdsTimes", fn := fun _ => fun
  | [d1, d2] => { results := [.lit (.bool false)], args := [d1, d2] }
  | _ => none }
def FnExactThirdsTimesWrongFalsely : Prop := fnExactThirdsTimesRow.holds Try.pinned (OpenSpec.ofChange fnExactThirdsTimesWrong)

/-- 'laws.FnExactStoreSheet': WHATEVER THE INPUT: true; the input reads as it did. -/
def fnExactStoreSheetSpec : ChangeSpec := { name := "fnExactStoreSheet", fn := fun _ => fun
  | [d] => { results := [.lit (.bool true)], args := [d] }
  | _ => none }
def fnExactStoreSheetRow : OpenClaim := { program := "ytjniaobboclniaa", sum := "62dac1eedb12ab71f77bbb9f304343c33ecf7ddee9662bf5836c166541594324", func := "loop.example/g01327/laws.FnExactStoreSheet", spec := "fnExactStoreSheet", inPlace := ["math.Float32bits", "math.Float64bits", "math.Float64frombits"], unfollowed := true, recurses := true, apart := false }
def FnExactStoreSheetSaid : Prop := fnExactStoreSheetRow.holds Try.pinned (OpenSpec.ofChange fnExactStoreSheetSpec)

/-- ITS FALSE NEIGHBOUR: 'it returns false'. Refute it at one input. -/
def fnExactStoreSheetWrong : ChangeSpec := { name := "fnExactStoreSheet", fn := fun _ => fun
  | [d] => { results := [.lit (.bool false)], args := [d] }
  | _ => none }
def FnExactStoreSheetWrongFalsely : Prop := fnExactStoreSheetRow.holds Try.pinned (OpenSpec.ofChange fnExactStoreSheetWrong)

/-- 'laws.FnSheets': WHATEVER THE INPUT: true; the input reads as it did. -/
def fnSheetsSpec : ChangeSpec := { name := "fnSheets", fn := fun _ => fun
  | [d1, d2] => { results := [.lit (.bool true)], args := [d1, d2] }
  | _ => none }
def fnSheetsRow : OpenClaim := { program := "ytjniaobboclniaa", sum := "62dac1eedb12ab71f77bbb9f304343c33ecf7ddee9662bf5836c166541594324", func := "loop.example/g01327/laws.FnSheets", spec := "fnSheets", inPlace := ["math.Float64bits", "math.Float64frombits", "math.Float32bits", "math.Float32frombits"], unfollowed := true, recurses := true, apart := false }
def FnSheetsSaid : Prop := fnSheetsRow.holds Try.pinned (OpenSpec.ofChange fnSheetsSpec)

/-- ITS FALSE NEIGHBOUR: 'it returns false'. Refute it at one input. -/
def fnSheetsWrong : ChangeSpec := { name := "fnSheets", fn := fun _ => fun
  | [d1, d2] => { results := [.lit (.bool false)], args := [d1, d2] }
  | _ => none }
def FnSheetsWrongFalsely : Prop := fnSheetsRow.holds Try.pinned (OpenSpec.ofChange fnSheetsWrong)

/-- 'laws.FnExactDetOver': WHATEVER THE INPUT: true; the input reads as it did. -/
def fnExactDetOverSpec : ChangeSpec := { name := "fnExactDetOver", fn := fun _ => fun
  | [d1, d2] => { results := [.lit (.bool true)], args := [d1, d2] }
  | _ => none }
def fnExactDetOverRow : OpenClaim := { program := "ytjniaobboclniaa", sum := "62dac1eedb12ab71f77bbb9f304343c33ecf7ddee9662bf5836c166541594324", func := "loop.example/g01327/laws.FnExactDetOver", spec := "fnExactDetOver", unfollowed := true, recurses := true, apart := false }
def FnExactDetOverSaid : Prop := fnExactDetOverRow.holds Try.pinned (OpenSpec.ofChange fnExactDetOverSpec)

/-- ITS FALSE NEIGHBOUR: 'it returns false'. Refute it at one input. -/
def fnExactDetOverWrong : ChangeSpec := { name := "fnExactDetOver", fn := fun _ => fun
  | [d1, d2] => { results := [.lit (.bool false)], args := [d1, d2] }
  | _ => none }
def FnExactDetOverWrongFalsely : Prop := fnExactDetOverRow.holds Try.pinned (OpenSpec.ofChange fnExactDetOverWrong)

/-- 'laws.FnExactRankOver': WHATEVER THE INPUT: true; the input reads as it did. -/
def fnExactRankOverSpec : ChangeSpec := { name := "fnExactRankOver", fn := fun _ => fun
  | [d1, d2] => { results := [.lit (.bool true)], args := [d1, d2] }
  | _ => none }
def fnExactRankOverRow : OpenClaim := { program := "ytjniaobboclniaa", sum := "62dac1eedb12ab71f77bbb9f304343c33ecf7ddee9662bf5836c166541594324", func := "loop.example/g01327/laws.FnExactRankOver", spec := "fnExactRankOver", unfollowed := true, recurses := true, apart := false }
def FnExactRankOverSaid : Prop := fnExactRankOverRow.holds Try.pinned (OpenSpec.ofChange fnExactRankOverSpec)

/-- ITS FALSE NEIGHBOUR: 'it returns false'. Refute it at one input. -/
def fnExactRankOverWrong : ChangeSpec := { name := "fnExactRankOver", fn := fun _ => fun
  | [d1, d2] => { results := [.lit (.bool false)], args := [d1, d2] }
  | _ => none }
def FnExactRankOverWrongFalsely : Prop := fnExactRankOverRow.holds Try.pinned (OpenSpec.ofChange fnExactRankOverWrong)

/-- 'laws.FnExactMiddleFactor': WHATEVER THE INPUT: true; the input reads as it did. -/
def fnExactMiddleFactorSpec : ChangeSpec := { name := "fnExactMiddleFactor", fn := fun _ => fun
  | [d] => { results := [.lit (.bool true)], args := [d] }
  | _ => none }
def fnExactMiddleFactorRow : OpenClaim := { program := "ytjniaobboclniaa", sum := "62dac1eedb12ab71f77bbb9f304343c33ecf7ddee9662bf5836c166541594324", func := "loop.example/g01327/laws.FnExactMiddleFactor", spec := "fnExactMiddleFactor", inPlace := ["math.Float64bits", "math.Float64frombits"], unfollowed := true, recurses := true, apart := false }
def FnExactMiddleFactorSaid : Prop := fnExactMiddleFactorRow.holds Try.pinned (OpenSpec.ofChange fnExactMiddleFactorSpec)

/-- ITS FALSE NEIGHBOUR: 'it returns false'. Refute it at one input. -/
def fnExactMiddleFactorWrong : ChangeSpec := { name := "fnExactMiddleFactor", fn := fun _ => fun
  | [d] => { results := [.lit (.bool false)], args := [d] }
  | _ => none }
def FnExactMiddleFactorWrongFalsely : Prop := fnExactMiddleFactorRow.holds Try.pinned (OpenSpec.ofChange fnExactMiddleFactorWrong)

/-- 'laws.FnExactMulShared': WHATEVER THE INPUT: true; the input reads as it did. -/
def fnExactMulSharedSpec : ChangeSpec := { name := "fnExactMulShared", fn := fun _ => fun
  | [d1, d2, d3] => { results := [.lit (.bool true)], args := [d1, d2, d3] }
  | _ => none }
def fnExactMulSharedRow : OpenClaim := { program := "ytjniaobboclniaa", sum := "62dac1eedb12ab71f77bbb9f304343c33ecf7ddee9662bf5836c166541594324", func := "loop.example/g01327/laws.FnExactMulShared", spec := "fnExactMulShared", inPlace := ["math.Float64bits", "math.Float64frombits"], unfollowed := true, recurses := true, apart := false }
def FnExactMulSharedSaid : Prop := fnExactMulSharedRow.holds Try.pinned (OpenSpec.ofChange fnExactMulSharedSpec)

/-- ITS FALSE NEIGHBOUR: 'it returns false'. Refute it at one input. -/
def fnExactMulSharedWrong : ChangeSpec := { name := "fnExactMulShared", fn := fun _ => fun
  | [d1, d2, d3] => { results := [.lit (.bool false)], args := [d1, d2, d3] }
  | _ => none }
def FnExactMulSharedWrongFalsely : Prop := fnExactMulSharedRow.holds Try.pinned (OpenSpec.ofChange fnExactMulSharedWrong)

/- THE SECOND FORM. 'bulk': how many values and letters a reading holds, each counted each time it is reached (what is shared counts as often as it is met; a slice's spare places count too). A statement '..UptoSaid' is the law's where the arguments, and the package variables that the reading takes, are together of bulk at most 1048576: NARROWER than '..Said'. Prove '..Said' where nothing that the law and all that it calls make is longer than what came in: it says more and counts as full. Else prove '..UptoSaid'. A law counts once. -/
mutual
def uptoBulk {H : Type} : DataW H → Nat
  | .lit (.string bytes) => bytes.length + 1
  | .lit _ => 1
  | .nil => 1
  | .ptr d => uptoBulk d + 1
  | .slice elems spare => uptoBulkAll elems + uptoBulkAll spare + 1
  | .agg parts => uptoBulkAll parts + 1
  | .iface _ d => uptoBulk d + 1
  | .map entries => uptoBulkEntries entries + 1
  | .held _ => 1
def uptoBulkAll {H : Type} : List (DataW H) → Nat
  | [] => 0
  | d :: r => uptoBulk d + uptoBulkAll r
def uptoBulkEntries {H : Type} : List (Lit × DataW H) → Nat
  | [] => 0
  | x :: r => uptoBulkEntry x + uptoBulkEntries r
def uptoBulkEntry {H : Type} : Lit × DataW H → Nat
  | (.string bytes, d) => bytes.length + uptoBulk d + 1
  | (_, d) => uptoBulk d + 1
 end
def uptoSmall : (H : Type) → List (DataW H) → Bool := fun _ ds => decide (uptoBulkAll ds ≤ 1048576)
def OpenSpec.upto (s : _root_.Go.ChangeSpec) : _root_.Go.OpenSpec := { _root_.Go.OpenSpec.ofChange s with cond := some uptoSmall }

/-- 'laws.FnPrimes', WHERE WHAT IT READS IS OF BULK AT MOST 1048576: true; the input reads as it did. -/
def fnPrimesUptoRow : OpenClaim := { program := "ytjniaobboclniaa", sum := "62dac1eedb12ab71f77bbb9f304343c33ecf7ddee9662bf5836c166541594324", func := "loop.example/g01327/laws.FnPrimes", spec := "fnPrimes", unfollowed := true, recurses := true, apart := false, narrowed := true }
def FnPrimesUptoSaid : Prop := fnPrimesUptoRow.holds Try.pinned (OpenSpec.upto fnPrimesSpec)

/-- 'laws.FnExactSameSheets', WHERE WHAT IT READS IS OF BULK AT MOST 1048576: true; the input reads as it did. -/
def fnExactSameSheetsUptoRow : OpenClaim := { program := "ytjniaobboclniaa", sum := "62dac1eedb12ab71f77bbb9f304343c33ecf7ddee9662bf5836c166541594324", func := "loop.example/g01327/laws.FnExactSameSheets", spec := "fnExactSameSheets", inPlace := ["math.Float32bits", "math.Float64bits"], unfollowed := true, recurses := true, apart := false, narrowed := true }
def FnExactSameSheetsUptoSaid : Prop := fnExactSameSheetsUptoRow.holds Try.pinned (OpenSpec.upto fnExactSameSheetsSpec)

/-- 'laws.FnExactShiftMatrix', WHERE WHAT IT READS IS OF BULK AT MOST 1048576: true; the input reads as it did. -/
def fnExactShiftMatrixUptoRow : OpenClaim := { program := "ytjniaobboclniaa", sum := "62dac1eedb12ab71f77bbb9f304343c33ecf7ddee9662bf5836c166541594324", func := "loop.example/g01327/laws.FnExactShiftMatrix", spec := "fnExactShiftMatrix", inPlace := ["math.Float64bits", "math.Float64frombits"], unfollowed := true, recurses := true, apart := false, narrowed := true }
def FnExactShiftMatrixUptoSaid : Prop := fnExactShiftMatrixUptoRow.holds Try.pinned (OpenSpec.upto fnExactShiftMatrixSpec)

/-- 'laws.FnExactShiftSolve', WHERE WHAT IT READS IS OF BULK AT MOST 1048576: true; the input reads as it did. -/
def fnExactShiftSolveUptoRow : OpenClaim := { program := "ytjniaobboclniaa", sum := "62dac1eedb12ab71f77bbb9f304343c33ecf7ddee9662bf5836c166541594324", func := "loop.example/g01327/laws.FnExactShiftSolve", spec := "fnExactShiftSolve", inPlace := ["math.Float64bits", "math.Float64frombits"], unfollowed := true, recurses := true, apart := false, narrowed := true }
def FnExactShiftSolveUptoSaid : Prop := fnExactShiftSolveUptoRow.holds Try.pinned (OpenSpec.upto fnExactShiftSolveSpec)

/-- 'laws.FnExactShiftTimes', WHERE WHAT IT READS IS OF BULK AT MOST 1048576: true; the input reads as it did. -/
def fnExactShiftTimesUptoRow : OpenClaim := { program := "ytjniaobboclniaa", sum := "62dac1eedb12ab71f77bbb9f304343c33ecf7ddee9662bf5836c166541594324", func := "loop.example/g01327/laws.FnExactShiftTimes", spec := "fnExactShiftTimes", inPlace := ["math.Float64bits", "math.Float64frombits"], unfollowed := true, recurses := true, apart := false, narrowed := true }
def FnExactShiftTimesUptoSaid : Prop := fnExactShiftTimesUptoRow.holds Try.pinned (OpenSpec.upto fnExactShiftTimesSpec)

/-- 'laws.FnExactThirdsTimes', WHERE WHAT IT READS IS OF BULK AT MOST 1048576: true; the input reads as it did. -/
def fnExactThirdsTimesUptoRow : OpenClaim := { program := "ytjniaobboclniaa", sum := "62dac1eedb12ab71f77bbb9f304343c33ecf7ddee9662bf5836c166541594324", func := "loop.example/g01327/laws.FnExactThirdsTimes", spec := "fnExactThirdsTimes", inPlace := ["math.Float64bits", "math.Float64frombits"], unfollowed := true, recurses := true, apart := false, narrowed := true }
def FnExactThirdsTimesUptoSaid : Prop := fnExactThirdsTimesUptoRow.holds Try.pinned (OpenSpec.upto fnExactThirdsTimesSpec)

/-- 'laws.FnExactStoreSheet', WHERE WHAT IT READS IS OF BULK AT MOST 1048576: true; the input reads as it did. -/
def fnExactStoreSheetUptoRow : OpenClaim := { program := "ytjniaobboclniaa", sum := "62dac1eedb12ab71f77bbb9f304343c33ecf7ddee9662bf5836c166541594324", func := "loop.example/g01327/laws.FnExactStoreSheet", spec := "fnExactStoreSheet", inPlace := ["math.Float32bits", "math.Float64bits", "math.Float64frombits"], unfollowed := true, recurses := true, apart := false, narrowed := true }
def FnExactStoreSheetUptoSaid : Prop := fnExactStoreSheetUptoRow.holds Try.pinned (OpenSpec.upto fnExactStoreSheetSpec)

/-- 'laws.FnSheets', WHERE WHAT IT READS IS OF BULK AT MOST 1048576: true; the input reads as it did. -/
def fnSheetsUptoRow : OpenClaim := { program := "ytjniaobboclniaa", sum := "62dac1eedb12ab71f77bbb9f304343c33ecf7ddee9662bf5836c166541594324", func := "loop.example/g01327/laws.FnSheets", spec := "fnSheets", inPlace := ["math.Float64bits", "math.Float64frombits", "math.Float32bits", "math.Float32frombits"], unfollowed := true, recurses := true, apart := false, narrowed := true }
def FnSheetsUptoSaid : Prop := fnSheetsUptoRow.holds Try.pinned (OpenSpec.upto fnSheetsSpec)

/-- 'laws.FnExactDetOver', WHERE WHAT IT READS IS OF BULK AT MOST 1048576: true; the input reads as it did. -/
def fnExactDetOverUptoRow : OpenClaim := { program := "ytjniaobboclniaa", sum := "62dac1eedb12ab71f77bbb9f304343c33ecf7ddee9662bf5836c166541594324", func := "loop.example/g01327/laws.FnExactDetOver", spec := "fnExactDetOver", unfollowed := true, recurses := true, apart := false, narrowed := true }
def FnExactDetOverUptoSaid : Prop := fnExactDetOverUptoRow.holds Try.pinned (OpenSpec.upto fnExactDetOverSpec)

/-- 'laws.FnExactRankOver', WHERE WHAT IT READS IS OF BULK AT MOST 1048576: true; the input reads as it did. -/
def fnExactRankOverUptoRow : OpenClaim := { program := "ytjniaobboclniaa", sum := "62dac1eedb12ab71f77bbb9f304343c33ecf7ddee9662bf5836c166541594324", func := "loop.example/g01327/laws.FnExactRankOver", spec := "fnExactRankOver", unfollowed := true, recurses := true, apart := false, narrowed := true }
def FnExactRankOverUptoSaid : Prop := fnExactRankOverUptoRow.holds Try.pinned (OpenSpec.upto fnExactRankOverSpec)

/-- 'laws.FnExactMiddleFactor', WHERE WHAT IT READS IS OF BULK AT MOST 1048576: true; the input reads as it did. -/
def fnExactMiddleFactorUptoRow : OpenClaim := { program := "ytjniaobboclniaa", sum := "62dac1eedb12ab71f77bbb9f304343c33ecf7ddee9662bf5836c166541594324", func := "loop.example/g01327/laws.FnExactMiddleFactor", spec := "fnExactMiddleFactor", inPlace := ["math.Float64bits", "math.Float64frombits"], unfollowed := true, recurses := true, apart := false, narrowed := true }
def FnExactMiddleFactorUptoSaid : Prop := fnExactMiddleFactorUptoRow.holds Try.pinned (OpenSpec.upto fnExactMiddleFactorSpec)

/-- 'laws.FnExactMulShared', WHERE WHAT IT READS IS OF BULK AT MOST 1048576: true; the input reads as it did. -/
def fnExactMulSharedUptoRow : OpenClaim := { program := "ytjniaobboclniaa", sum := "62dac1eedb12ab71f77bbb9f304343c33ecf7ddee9662bf5836c166541594324", func := "loop.example/g01327/laws.FnExactMulShared", spec := "fnExactMulShared", inPlace := ["math.Float64bits", "math.Float64frombits"], unfollowed := true, recurses := true, apart := false, narrowed := true }
def FnExactMulSharedUptoSaid : Prop := fnExactMulSharedUptoRow.holds Try.pinned (OpenSpec.upto fnExactMulSharedSpec)

end Rows
end Go.Proofs.Ytjniaobboclniaa
