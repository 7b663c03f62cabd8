/-
  No cell of these rows narrows 'for every input' (looked for: loops, veiled, ifaces, maps, wideKeys, modest, calm, conditions, laid).
  DERIVED. THE GIVEN ROWS OF THIS SEAT. 6 by the template 'for every input the law returns true; each argument reads behind the call as it read before'; 0 by the template 'total and deterministic' (their statements: YtbhmllcnfdndhaaTotals.lean).
  GIVEN WITH THE SEED: the statements are not yours to turn. If you find one false, say at which input.
  Laid BY PROGRAM, IN A SANDBOX (cutbox-rows.mjs): the forced cells as the released guide's own fill.sh prints them over the translation 5eab57b5d00b52cb… (all of the seat's roots in one cut). By AI agents, Wed Nov 11 2026. No macro, syntax, notation, axiom, sorry.
-/
import Derived.Test.YtbhmllcnfdndhaaChecked
import GoSem.Claim
import GoSem.ClaimJoined
import GoSem.ClaimMapViews
import Derived.JoinedTies
import Derived.KernelRfl
namespace Go.Proofs.Ytbhmllcnfdndhaa
/- THE CELL 'sum', in the pinned program and in every row, IS THE sha256 OF THE DUMP (.gsa) THAT YtbhmllcnfdndhaaProg.lean LOADS. Nothing in Lean hashes anything: it is a label: what it is worth is what the hold of that sum in a sandbox is worth. -/
noncomputable def Try.pinned : Pinned := { name := "ytbhmllcnfdndhaa", sum := "5eab57b5d00b52cb5a96b4973a8e7b31809195e3e73a352e4cb799654481354f", checked := Try.checked }
namespace Rows
def none {H : Type} : Left H := { results := [], args := [] }

/-- 'laws.FnExactNewtonAt': WHATEVER THE INPUT: true; the input reads as it did. -/
def fnExactNewtonAtSpec : ChangeSpec := { name := "fnExactNewtonAt", fn := fun _ => fun
  | [d1, d2, d3] => { results := [.lit (.bool true)], args := [d1, d2, d3] }
  | _ => none }
def fnExactNewtonAtRow : OpenClaim := { program := "ytbhmllcnfdndhaa", sum := "5eab57b5d00b52cb5a96b4973a8e7b31809195e3e73a352e4cb799654481354f", func := "loop.example/g01327/laws.FnExactNewtonAt", spec := "fnExactNewtonAt", inPlace := ["math.Float64bits", "math.Float64frombits"], unfollowed := true, recurses := true, apart := false }
def FnExactNewtonAtSaid : Prop := fnExactNewtonAtRow.holds Try.pinned (OpenSpec.ofChange fnExactNewtonAtSpec)

/-- ITS FALSE NEIGHBOUR: 'it returns false'. Refute it at one input. -/
def fnExactNewtonAtWrong : ChangeSpec := { name := "fnExactNewtonAt", fn := fun _ => fun
  | [d1, d2, d3] => { results := [.lit (.bool false)], args := [d1, d2, d3] }
  | _ => none }
def FnExactNewtonAtWrongFalsely : Prop := fnExactNewtonAtRow.holds Try.pinned (OpenSpec.ofChange fnExactNewtonAtWrong)

/-- 'laws.FnExactValidThirds': WHATEVER THE INPUT: true; the input reads as it did. -/
def fnExactValidThirdsSpec : ChangeSpec := { name := "fnExactValidThirds", fn := fun _ => fun
  | [d] => { results := [.lit (.bool true)], args := [d] }
  | _ => none }
def fnExactValidThirdsRow : OpenClaim := { program := "ytbhmllcnfdndhaa", sum := "5eab57b5d00b52cb5a96b4973a8e7b31809195e3e73a352e4cb799654481354f", func := "loop.example/g01327/laws.FnExactValidThirds", spec := "fnExactValidThirds", inPlace := ["math.Float64bits", "math.Float64frombits"], unfollowed := true, recurses := true, apart := false }
def FnExactValidThirdsSaid : Prop := fnExactValidThirdsRow.holds Try.pinned (OpenSpec.ofChange fnExactValidThirdsSpec)

/-- ITS FALSE NEIGHBOUR: 'it returns false'. Refute it at one input. -/
def fnExactValidThirdsWrong : ChangeSpec := { name := "fnExactValidThirds", fn := fun _ => fun
  | [d] => { results := [.lit (.bool false)], args := [d] }
  | _ => none }
def FnExactValidThirdsWrongFalsely : Prop := fnExactValidThirdsRow.holds Try.pinned (OpenSpec.ofChange fnExactValidThirdsWrong)

/-- 'laws.FnExactDividedOf': WHATEVER THE INPUT: true; the input reads as it did. -/
def fnExactDividedOfSpec : ChangeSpec := { name := "fnExactDividedOf", fn := fun _ => fun
  | [d1, d2] => { results := [.lit (.bool true)], args := [d1, d2] }
  | _ => none }
def fnExactDividedOfRow : OpenClaim := { program := "ytbhmllcnfdndhaa", sum := "5eab57b5d00b52cb5a96b4973a8e7b31809195e3e73a352e4cb799654481354f", func := "loop.example/g01327/laws.FnExactDividedOf", spec := "fnExactDividedOf", inPlace := ["math.Float64bits", "math.Float64frombits"], unfollowed := true, recurses := true, apart := false }
def FnExactDividedOfSaid : Prop := fnExactDividedOfRow.holds Try.pinned (OpenSpec.ofChange fnExactDividedOfSpec)

/-- ITS FALSE NEIGHBOUR: 'it returns false'. Refute it at one input. -/
def fnExactDividedOfWrong : ChangeSpec := { name := "fnExactDividedOf", fn := fun _ => fun
  | [d1, d2] => { results := [.lit (.bool false)], args := [d1, d2] }
  | _ => none }
def FnExactDividedOfWrongFalsely : Prop := fnExactDividedOfRow.holds Try.pinned (OpenSpec.ofChange fnExactDividedOfWrong)

/-- 'laws.FnExactValidSheet': WHATEVER THE INPUT: true; the input reads as it did. -/
def fnExactValidSheetSpec : ChangeSpec := { name := "fnExactValidSheet", fn := fun _ => fun
  | [d] => { results := [.lit (.bool true)], args := [d] }
  | _ => none }
def fnExactValidSheetRow : OpenClaim := { program := "ytbhmllcnfdndhaa", sum := "5eab57b5d00b52cb5a96b4973a8e7b31809195e3e73a352e4cb799654481354f", func := "loop.example/g01327/laws.FnExactValidSheet", spec := "fnExactValidSheet", inPlace := ["math.Float64bits", "math.Float64frombits"], unfollowed := true, recurses := true, apart := false }
def FnExactValidSheetSaid : Prop := fnExactValidSheetRow.holds Try.pinned (OpenSpec.ofChange fnExactValidSheetSpec)

/-- ITS FALSE NEIGHBOUR: 'it returns false'. Refute it at one input. -/
def fnExactValidSheetWrong : ChangeSpec := { name := "fnExactValidSheet", fn := fun _ => fun
  | [d] => { results := [.lit (.bool false)], args := [d] }
  | _ => none }
def FnExactValidSheetWrongFalsely : Prop := fnExactValidSheetRow.holds Try.pinned (OpenSpec.ofChange fnExactValidSheetWrong)

/-- 'laws.FnExactRingMatrix': WHATEVER THE INPUT: true; the input reads as it did. -/
def fnExactRingMatrixSpec : ChangeSpec := { name := "fnExactRingMatrix", fn := fun _ => fun
  | [d] => { results := [.lit (.bool true)], args := [d] }
  | _ => none }
def fnExactRingMatrixRow : OpenClaim := { program := "ytbhmllcnfdndhaa", sum := "5eab57b5d00b52cb5a96b4973a8e7b31809195e3e73a352e4cb799654481354f", func := "loop.example/g01327/laws.FnExactRingMatrix", spec := "fnExactRingMatrix", inPlace := ["math.Float64bits", "math.Float64frombits"], unfollowed := true, recurses := true, apart := false }
def FnExactRingMatrixSaid : Prop := fnExactRingMatrixRow.holds Try.pinned (OpenSpec.ofChange fnExactRingMatrixSpec)

/-- ITS FALSE NEIGHBOUR: 'it returns false'. Refute it at one input. -/
def fnExactRingMatrixWrong : ChangeSpec := { name := "fnExactRingMatrix", fn := fun _ => fun
  | [d] => { results := [.lit (.bool false)], args := [d] }
  | _ => none }
def FnExactRingMatrixWrongFalsely : Prop := fnExactRingMatrixRow.holds Try.pinned (OpenSpec.ofChange fnExactRingMatrixWrong)

/-- 'laws.FnExactReflectionsOf': WHATEVER THE INPUT: true; the input reads as it did. -/
def fnExactReflectionsOfSpec : ChangeSpec := { name := "fnExactReflectionsOf", fn := fun _ => fun
  | [d] => { results := [.lit (.bool true)], args := [d] }
  | _ => none }
def fnExactReflectionsOfRow : OpenClaim := { program := "ytbhmllcnfdndhaa", sum := "5eab57b5d00b52cb5a96b4973a8e7b31809195e3e73a352e4cb799654481354f", func := "loop.example/g01327/laws.FnExactReflectionsOf", spec := "fnExactReflectionsOf", inPlace := ["math.Float64bits", "math.Float64frombits"], unfollowed := true, recurses := true, apart := false }
def FnExactReflectionsOfSaid : Prop := fnExactReflectionsOfRow.holds Try.pinned (OpenSpec.ofChange fnExactReflectionsOfSpec)

/-- ITS FALSE NEIGHBOUR: 'it returns false'. Refute it at one input. -/
def fnExactReflectionsOfWrong : ChangeSpec := { name := "fnExactReflectionsOf", fn := fun _ => fun
  | [d] => { results := [.lit (.bool false)], args := [d] }
  | _ => none }
def FnExactReflectionsOfWrongFalsely : Prop := fnExactReflectionsOfRow.holds Try.pinned (OpenSpec.ofChange fnExactReflectionsOfWrong)

/- THE SECOND FORM. 'bulk': how many values and letters a reading holds, each counted each time it is reached (what is shared counts as often as it is met; a slice's spare places count too). A statement '..UptoSaid' is the law's where the arguments, and the package variables that the reading takes, are together of bulk at most 1048576: NARROWER than '..Said'. Prove '..Said' where nothing that the law and all that it calls make is longer than what came in: it says more and counts as full. Else prove '..UptoSaid'. A law counts once. -/
mutual
def uptoBulk {H : Type} : DataW H → Nat
  | .lit (.string bytes) => bytes.length + 1
  | .lit _ => 1
  | .nil => 1
  | .ptr d => uptoBulk d + 1
  | .slice elems spare => uptoBulkAll elems + uptoBulkAll spare + 1
  | .agg parts => uptoBulkAll parts + 1
  | .iface _ d => uptoBulk d + 1
  | .map entries => uptoBulkEntries entries + 1
  | .held _ => 1
def uptoBulkAll {H : Type} : List (DataW H) → Nat
  | [] => 0
  | d :: r => uptoBulk d + uptoBulkAll r
def uptoBulkEntries {H : Type} : List (Lit × DataW H) → Nat
  | [] => 0
  | x :: r => uptoBulkEntry x + uptoBulkEntries r
def uptoBulkEntry {H : Type} : Lit × DataW H → Nat
  | (.string bytes, d) => bytes.length + uptoBulk d + 1
  | (_, d) => uptoBulk d + 1
 end
def uptoSmall : (H : Type) → List (DataW H) → Bool := fun _ ds => decide (uptoBulkAll ds ≤ 1048576)
def OpenSpec.upto (s : _root_.Go.ChangeSpec) : _root_.Go.OpenSpec := { _root_.Go.OpenSpec.ofChange s with cond := some uptoSmall }

/-- 'laws.FnExactNewtonAt', WHERE WHAT IT READS IS OF BULK AT MOST 1048576: true; the input reads as it did. -/
def fnExactNewtonAtUptoRow : OpenClaim := { program := "ytbhmllcnfdndhaa", sum := "5eab57b5d00b52cb5a96b4973a8e7b31809195e3e73a352e4cb799654481354f", func := "loop.example/g01327/laws.FnExactNewtonAt", spec := "fnExactNewtonAt", inPlace := ["math.Float64bits", "math.Float64frombits"], unfollowed := true, recurses := true, apart := false, narrowed := true }
def FnExactNewtonAtUptoSaid : Prop := fnExactNewtonAtUptoRow.holds Try.pinned (OpenSpec.upto fnExactNewtonAtSpec)

/-- 'laws.FnExactValidThirds', WHERE WHAT IT READS IS OF BULK AT MOST 1048576: true; the input reads as it did. -/
def fnExactValidThirdsUptoRow : OpenClaim := { program := "ytbhmllcnfdndhaa", sum := "5eab57b5d00b52cb5a96b4973a8e7b31809195e3e73a352e4cb799654481354f", func := "loop.example/g01327/laws.FnExactValidThirds", spec := "fnExactValidThirds", inPlace := ["math.Float64bits", "math.Float64frombits"], unfollowed := true, recurses := true, apart := false, narrowed := true }
def FnExactValidThirdsUptoSaid : Prop := fnExactValidThirdsUptoRow.holds Try.pinned (OpenSpec.upto fnExactValidThirdsSpec)

/-- 'laws.FnExactDividedOf', WHERE WHAT IT READS IS OF BULK AT MOST 1048576: true; the input reads as it did. -/
def fnExactDividedOfUptoRow : OpenClaim := { program := "ytbhmllcnfdndhaa", sum := "5eab57b5d00b52cb5a96b4973a8e7b31809195e3e73a352e4cb799654481354f", func := "loop.example/g01327/laws.FnExactDividedOf", spec := "fnExactDividedOf", inPlace := ["math.Float64bits", "math.Float64frombits"], unfollowed := true, recurses := true, apart := false, narrowed := true }
def FnExactDividedOfUptoSaid : Prop := fnExactDividedOfUptoRow.holds Try.pinned (OpenSpec.upto fnExactDividedOfSpec)

/-- 'laws.FnExactValidSheet', WHERE WHAT IT READS IS OF BULK AT MOST 1048576: true; the input reads as it did. -/
def fnExactValidSheetUptoRow : OpenClaim := { program := "ytbhmllcnfdndhaa", sum := "5eab57b5d00b52cb5a96b4973a8e7b31809195e3e73a352e4cb799654481354f", func := "loop.example/g01327/laws.FnExactValidSheet", spec := "fnExactValidSheet", inPlace := ["math.Float64bits", "math.Float64frombits"], unfollowed := true, recurses := true, apart := false, narrowed := true }
def FnExactValidSheetUptoSaid : Prop := fnExactValidSheetUptoRow.holds Try.pinned (OpenSpec.upto fnExactValidSheetSpec)

/-- 'laws.FnExactRingMatrix', WHERE WHAT IT READS IS OF BULK AT MOST 1048576: true; the input reads as it did. -/
def fnExactRingMatrixUptoRow : OpenClaim := { program := "ytbhmllcnfdndhaa", sum := "5eab57b5d00b52cb5a96b4973a8e7b31809195e3e73a352e4cb799654481354f", func := "loop.example/g01327/laws.FnExactRingMatrix", spec := "fnExactRingMatrix", inPlace := ["math.Float64bits", "math.Float64frombits"], unfollowed := true, recurses := true, apart := false, narrowed := true }
def FnExactRingMatrixUptoSaid : Prop := fnExactRingMatrixUptoRow.holds Try.pinned (OpenSpec.upto fnExactRingMatrixSpec)

/-- 'laws.FnExactReflectionsOf', WHERE WHAT IT READS IS OF BULK AT MOST 1048576: true; the input reads as it did. -/
def fnExactReflectionsOfUptoRow : OpenClaim := { program := "ytbhmllcnfdndhaa", sum := "5eab57b5d00b52cb5a96b4973a8e7b31809195e3e73a352e4cb799654481354f", func := "loop.example/g01327/laws.FnExactReflectionsOf", spec := "fnExactReflectionsOf", inPlace := ["math.Float64bits", "math.Float64frombits"], unfollowed := true, recurses := true, apart := false, narrowed := true }
def FnExactReflectionsOfUptoSaid : Prop := fnExactReflectionsOfUptoRow.holds Try.pinned (OpenSpec.upto fnExactReflectionsOfSpec)

end Rows
end Go.Proofs.Ytbhmllcnfdndhaa
