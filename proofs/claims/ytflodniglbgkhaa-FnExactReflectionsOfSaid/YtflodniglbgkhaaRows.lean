/-
  No cell of these rows narrows 'for every input' (looked for: loops, veiled, ifaces, maps, wideKeys, modest, calm, conditions, laid).
  DERIVED. THE GIVEN ROWS OF THIS SEAT. 6 by the template 'for every input the law returns true; each argument reads behind the call as it read before'; 0 by the template 'total and deterministic' (their statements: YtflodniglbgkhaaTotals.lean).
  GIVEN WITH THE SEED: the statements are not yours to turn. If you find one false, say at which input.
  Laid BY PROGRAM, IN A SANDBOX (cutbox-rows.mjs): the forced cells as the released guide's own fill.sh prints them over the translation 8f5690ddd0c81748… (all of the seat's roots in one cut). By AI agents, Wed Nov 11 2026. No macro, syntax, notation, axiom, sorry.
-/
import Derived.Test.YtflodniglbgkhaaChecked
import GoSem.Claim
import GoSem.ClaimJoined
import GoSem.ClaimMapViews
import Derived.JoinedTies
import Derived.KernelRfl
namespace Go.Proofs.Ytflodniglbgkhaa
/- THE CELL 'sum', in the pinned program and in every row, IS THE sha256 OF THE DUMP (.gsa) THAT YtflodniglbgkhaaProg.lean LOADS. Nothing in Lean hashes anything: it is a label: what it is worth is what the hold of that sum in a sandbox is worth. -/
noncomputable def Try.pinned : Pinned := { name := "ytflodniglbgkhaa", sum := "8f5690ddd0c81748262f1f0a1b68ed625fc88e8a0437f3e8b744345b74433fce", checked := Try.checked }
namespace Rows
def none {H : Type} : Left H := { results := [], args := [] }

/-- 'laws.FnExactReflectionsOf': WHATEVER THE INPUT: true; the input reads as it did. -/
def fnExactReflectionsOfSpec : ChangeSpec := { name := "fnExactReflectionsOf", fn := fun _ => fun
  | [d] => { results := [.lit (.bool true)], args := [d] }
  | _ => none }
def fnExactReflectionsOfRow : OpenClaim := { program := "ytflodniglbgkhaa", sum := "8f5690ddd0c81748262f1f0a1b68ed625fc88e8a0437f3e8b744345b74433fce", func := "loop.example/g01327/laws.FnExactReflectionsOf", spec := "fnExactReflectionsOf", inPlace := ["math.Float64bits", "math.Float64frombits"], unfollowed := true, recurses := true, apart := false }
def FnExactReflectionsOfSaid : Prop := fnExactReflectionsOfRow.holds Try.pinned (OpenSpec.ofChange fnExactReflectionsOfSpec)

/-- ITS FALSE NEIGHBOUR: 'it returns false'. Refute it at one input. -/
def fnExactReflectionsOfWrong : ChangeSpec := { name := "fnExactReflectionsOf", fn := fun _ => fun
  | [d] => { results := [.lit (.bool false)], args := [d] }
  | _ => none }
def FnExactReflectionsOfWrongFalsely : Prop := fnExactReflectionsOfRow.holds Try.pinned (OpenSpec.ofChange fnExactReflectionsOfWrong)

/-- 'laws.FnExactRootOfSquare': WHATEVER THE INPUT: true; the input reads as it did. -/
def fnExactRootOfSquareSpec : ChangeSpec := { name := "fnExactRootOfSquare", fn := fun _ => fun
  | [d] => { results := [.lit (.bool true)], args := [d] }
  | _ => none }
def fnExactRootOfSquareRow : OpenClaim := { program := "ytflodniglbgkhaa", sum := "8f5690ddd0c81748262f1f0a1b68ed625fc88e8a0437f3e8b744345b74433fce", func := "loop.example/g01327/laws.FnExactRootOfSquare", spec := "fnExactRootOfSquare", inPlace := ["math.sqrt", "math.Float64bits", "math.Float64frombits"], unfollowed := true, recurses := true, apart := false }
def FnExactRootOfSquareSaid : Prop := fnExactRootOfSquareRow.holds Try.pinned (OpenSpec.ofChange fnExactRootOfSquareSpec)

/-- ITS FALSE NEIGHBOUR: 'it returns false'. Refute it at one input. -/
def fnExactRootOfSquareWrong : ChangeSpec := { name := "fnExactRootOfSquare", fn := fun _ => fun
  | [d] => { results := [.lit (.bool false)], args := [d] }
  | _ => none }
def FnExactRootOfSquareWrongFalsely : Prop := fnExactRootOfSquareRow.holds Try.pinned (OpenSpec.ofChange fnExactRootOfSquareWrong)

/-- 'laws.FnExactEchelonOf': WHATEVER THE INPUT: true; the input reads as it did. -/
def fnExactEchelonOfSpec : ChangeSpec := { name := "fnExactEchelonOf", fn := fun _ => fun
  | [d] => { results := [.lit (.bool true)], args := [d] }
  | _ => none }
def fnExactEchelonOfRow : OpenClaim := { program := "ytflodniglbgkhaa", sum := "8f5690ddd0c81748262f1f0a1b68ed625fc88e8a0437f3e8b744345b74433fce", func := "loop.example/g01327/laws.FnExactEchelonOf", spec := "fnExactEchelonOf", unfollowed := true, recurses := true, apart := false }
def FnExactEchelonOfSaid : Prop := fnExactEchelonOfRow.holds Try.pinned (OpenSpec.ofChange fnExactEchelonOfSpec)

/-- ITS FALSE NEIGHBOUR: 'it returns false'. Refute it at one input. -/
def fnExactEchelonOfWrong : ChangeSpec := { name := "fnExactEchelonOf", fn := fun _ => fun
  | [d] => { results := [.lit (.bool false)], args := [d] }
  | _ => none }
def FnExactEchelonOfWrongFalsely : Prop := fnExactEchelonOfRow.holds Try.pinned (OpenSpec.ofChange fnExactEchelonOfWrong)

/-- 'laws.FnExactPowerRounds': WHATEVER THE INPUT: true; the input reads as it did. -/
def fnExactPowerRoundsSpec : ChangeSpec := { name := "fnExactPowerRounds", fn := fun _ => fun
  | [d1, d2, d3] => { results := [.lit (.bool true)], args := [d1, d2, d3] }
  | _ => none }
def fnExactPowerRoundsRow : OpenClaim := { program := "ytflodniglbgkhaa", sum := "8f5690ddd0c81748262f1f0a1b68ed625fc88e8a0437f3e8b744345b74433fce", func := "loop.example/g01327/laws.FnExactPowerRounds", spec := "fnExactPowerRounds", inPlace := ["math.sqrt", "math.Float64bits", "math.Float64frombits"], unfollowed := true, recurses := true, apart := false }
def FnExactPowerRoundsSaid : Prop := fnExactPowerRoundsRow.holds Try.pinned (OpenSpec.ofChange fnExactPowerRoundsSpec)

/-- ITS FALSE NEIGHBOUR: 'it returns false'. Refute it at one input. -/
def fnExactPowerRoundsWrong : ChangeSpec := { name := "fnExactPowerRounds", fn := fun _ => fun
  | [d1, d2, d3] => { results := [.lit (.bool false)], args := [d1, d2, d3] }
  | _ => none }
def FnExactPowerRoundsWrongFalsely : Prop := fnExactPowerRoundsRow.holds Try.pinned (OpenSpec.ofChange fnExactPowerRoundsWrong)

/-- 'laws.FnExactExpMatrix': WHATEVER THE INPUT: true; the input reads as it did. -/
def fnExactExpMatrixSpec : ChangeSpec := { name := "fnExactExpMatrix", fn := fun _ => fun
  | [d1, d2] => { results := [.lit (.bool true)], args := [d1, d2] }
  | _ => none }
def fnExactExpMatrixRow : OpenClaim := { program := "ytflodniglbgkhaa", sum := "8f5690ddd0c81748262f1f0a1b68ed625fc88e8a0437f3e8b744345b74433fce", func := "loop.example/g01327/laws.FnExactExpMatrix", spec := "fnExactExpMatrix", inPlace := ["math.Float64bits", "math.Float64frombits"], unfollowed := true, recurses := true, apart := false }
def FnExactExpMatrixSaid : Prop := fnExactExpMatrixRow.holds Try.pinned (OpenSpec.ofChange fnExactExpMatrixSpec)

/-- ITS FALSE NEIGHBOUR: 'it returns false'. Refute it at one input. -/
def fnExactExpMatrixWrong : ChangeSpec := { name := "fnExactExpMatrix", fn := fun _ => fun
  | [d1, d2] => { results := [.lit (.bool false)], args := [d1, d2] }
  | _ => none }
def FnExactExpMatrixWrongFalsely : Prop := fnExactExpMatrixRow.holds Try.pinned (OpenSpec.ofChange fnExactExpMatrixWrong)

/-- 'laws.FnExactWeighedSquares': WHATEVER THE INPUT: true; the input reads as it did. -/
def fnExactWeighedSquaresSpec : ChangeSpec := { name := "fnExactWeighedSquares", fn := fun _ => fun
  | [d1, d2, d3] => { results := [.lit (.bool true)], args := [d1, d2, d3] }
  | _ => none }
def fnExactWeighedSquaresRow : OpenClaim := { program := "ytflodniglbgkhaa", sum := "8f5690ddd0c81748262f1f0a1b68ed625fc88e8a0437f3e8b744345b74433fce", func := "loop.example/g01327/laws.FnExactWeighedSquares", spec := "fnExactWeighedSquares", inPlace := ["math.sqrt", "math.Float64bits", "math.Float64frombits"], unfollowed := true, recurses := true, apart := false }
def FnExactWeighedSquaresSaid : Prop := fnExactWeighedSquaresRow.holds Try.pinned (OpenSpec.ofChange fnExactWeighedSquaresSpec)

/-- ITS FALSE NEIGHBOUR: 'it returns false'. Refute it at one input. -/
def fnExactWeighedSquaresWrong : ChangeSpec := { name := "fnExactWeighedSquares", fn := fun _ => fun
  | [d1, d2, d3] => { results := [.lit (.bool false)], args := [d1, d2, d3] }
  | _ => none }
def FnExactWeighedSquaresWrongFalsely : Prop := fnExactWeighedSquaresRow.holds Try.pinned (OpenSpec.ofChange fnExactWeighedSquaresWrong)

/- THE SECOND FORM. 'bulk': how many values and letters a reading holds, each counted each time it is reached (what is shared counts as often as it is met; a slice's spare places count too). A statement '..UptoSaid' is the law's where the arguments, and the package variables that the reading takes, are together of bulk at most 1048576: NARROWER than '..Said'. Prove '..Said' where nothing that the law and all that it calls make is longer than what came in: it says more and counts as full. Else prove '..UptoSaid'. A law counts once. -/
mutual
def uptoBulk {H : Type} : DataW H → Nat
  | .lit (.string bytes) => bytes.length + 1
  | .lit _ => 1
  | .nil => 1
  | .ptr d => uptoBulk d + 1
  | .slice elems spare => uptoBulkAll elems + uptoBulkAll spare + 1
  | .agg parts => uptoBulkAll parts + 1
  | .iface _ d => uptoBulk d + 1
  | .map entries => uptoBulkEntries entries + 1
  | .held _ => 1
def uptoBulkAll {H : Type} : List (DataW H) → Nat
  | [] => 0
  | d :: r => uptoBulk d + uptoBulkAll r
def uptoBulkEntries {H : Type} : List (Lit × DataW H) → Nat
  | [] => 0
  | x :: r => uptoBulkEntry x + uptoBulkEntries r
def uptoBulkEntry {H : Type} : Lit × DataW H → Nat
  | (.string bytes, d) => bytes.length + uptoBulk d + 1
  | (_, d) => uptoBulk d + 1
 end
def uptoSmall : (H : Type) → List (DataW H) → Bool := fun _ ds => decide (uptoBulkAll ds ≤ 1048576)
def OpenSpec.upto (s : _root_.Go.ChangeSpec) : _root_.Go.OpenSpec := { _root_.Go.OpenSpec.ofChange s with cond := some uptoSmall }

/-- 'laws.FnExactReflectionsOf', WHERE WHAT IT READS IS OF BULK AT MOST 1048576: true; the input reads as it did. -/
def fnExactReflectionsOfUptoRow : OpenClaim := { program := "ytflodniglbgkhaa", sum := "8f5690ddd0c81748262f1f0a1b68ed625fc88e8a0437f3e8b744345b74433fce", func := "loop.example/g01327/laws.FnExactReflectionsOf", spec := "fnExactReflectionsOf", inPlace := ["math.Float64bits", "math.Float64frombits"], unfollowed := true, recurses := true, apart := false, narrowed := true }
def FnExactReflectionsOfUptoSaid : Prop := fnExactReflectionsOfUptoRow.holds Try.pinned (OpenSpec.upto fnExactReflectionsOfSpec)

/-- 'laws.FnExactRootOfSquare', WHERE WHAT IT READS IS OF BULK AT MOST 1048576: true; the input reads as it did. -/
def fnExactRootOfSquareUptoRow : OpenClaim := { program := "ytflodniglbgkhaa", sum := "8f5690ddd0c81748262f1f0a1b68ed625fc88e8a0437f3e8b744345b74433fce", func := "loop.example/g01327/laws.FnExactRootOfSquare", spec := "fnExactRootOfSquare", inPlace := ["math.sqrt", "math.Float64bits", "math.Float64frombits"], unfollowed := true, recurses := true, apart := false, narrowed := true }
def FnExactRootOfSquareUptoSaid : Prop := fnExactRootOfSquareUptoRow.holds Try.pinned (OpenSpec.upto fnExactRootOfSquareSpec)

/-- 'laws.FnExactEchelonOf', WHERE WHAT IT READS IS OF BULK AT MOST 1048576: true; the input reads as it did. -/
def fnExactEchelonOfUptoRow : OpenClaim := { program := "ytflodniglbgkhaa", sum := "8f5690ddd0c81748262f1f0a1b68ed625fc88e8a0437f3e8b744345b74433fce", func := "loop.example/g01327/laws.FnExactEchelonOf", spec := "fnExactEchelonOf", unfollowed := true, recurses := true, apart := false, narrowed := true }
def FnExactEchelonOfUptoSaid : Prop := fnExactEchelonOfUptoRow.holds Try.pinned (OpenSpec.upto fnExactEchelonOfSpec)

/-- 'laws.FnExactPowerRounds', WHERE WHAT IT READS IS OF BULK AT MOST 1048576: true; the input reads as it did. -/
def fnExactPowerRoundsUptoRow : OpenClaim := { program := "ytflodniglbgkhaa", sum := "8f5690ddd0c81748262f1f0a1b68ed625fc88e8a0437f3e8b744345b74433fce", func := "loop.example/g01327/laws.FnExactPowerRounds", spec := "fnExactPowerRounds", inPlace := ["math.sqrt", "math.Float64bits", "math.Float64frombits"], unfollowed := true, recurses := true, apart := false, narrowed := true }
def FnExactPowerRoundsUptoSaid : Prop := fnExactPowerRoundsUptoRow.holds Try.pinned (OpenSpec.upto fnExactPowerRoundsSpec)

/-- 'laws.FnExactExpMatrix', WHERE WHAT IT READS IS OF BULK AT MOST 1048576: true; the input reads as it did. -/
def fnExactExpMatrixUptoRow : OpenClaim := { program := "ytflodniglbgkhaa", sum := "8f5690ddd0c81748262f1f0a1b68ed625fc88e8a0437f3e8b744345b74433fce", func := "loop.example/g01327/laws.FnExactExpMatrix", spec := "fnExactExpMatrix", inPlace := ["math.Float64bits", "math.Float64frombits"], unfollowed := true, recurses := true, apart := false, narrowed := true }
def FnExactExpMatrixUptoSaid : Prop := fnExactExpMatrixUptoRow.holds Try.pinned (OpenSpec.upto fnExactExpMatrixSpec)

/-- 'laws.FnExactWeighedSquares', WHERE WHAT IT READS IS OF BULK AT MOST 1048576: true; the input reads as it did. -/
def fnExactWeighedSquaresUptoRow : OpenClaim := { program := "ytflodniglbgkhaa", sum := "8f5690ddd0c81748262f1f0a1b68ed625fc88e8a0437f3e8b744345b74433fce", func := "loop.example/g01327/laws.FnExactWeighedSquares", spec := "fnExactWeighedSquares", inPlace := ["math.sqrt", "math.Float64bits", "math.Float64frombits"], unfollowed := true, recurses := true, apart := false, narrowed := true }
def FnExactWeighedSquaresUptoSaid : Prop := fnExactWeighedSquaresUptoRow.holds Try.pinned (OpenSpec.upto fnExactWeighedSquaresSpec)

end Rows
end Go.Proofs.Ytflodniglbgkhaa
